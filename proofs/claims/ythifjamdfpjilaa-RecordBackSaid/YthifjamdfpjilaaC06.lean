/-
  Contracts and laws that the claim's theorem leans on, joined out of the texts Ta7 SyShape SyMore Tc0D Tc0 Ta8D (own work of this seat): Contracts: what is the same; The shapes of handed values, unfolded; what is known of their cells; Loops that look at each one of many; more glue; Contracts: what is the same, as the document's answer has it; Contracts: what is the same, as the document's answer has it; Contracts: which messages may be.
-/
import Derived.Test.YthifjamdfpjilaaC04
import Derived.Test.YthifjamdfpjilaaC05
set_option linter.unusedVariables false
set_option linter.unusedSimpArgs false
namespace Go.Proofs.Ythifjamdfpjilaa
open Go Sy Go.Proofs
theorem bdSq_p1 (n : Nat) (n' : Nat) (a : Nat → SReq) (b : Nat → SReq) (m : Nat) :
  along Try.prog (bdSq n n' a b m) [true] = (some (.bool false, [], [(!decide ((↑n : Int) = (↑n' : Int))) = true]) : Option (V × Heap × List Prop)) := by kernel_rfl
theorem bdSq_p01 (n : Nat) (n' : Nat) (a : Nat → SReq) (b : Nat → SReq) (m : Nat) :
  along Try.prog (bdSq n n' a b m) [false, true] = (some (.bool true, [], [(!decide ((↑n : Int) = (↑n' : Int))) = false, RLoop Try.prog none 0 (cB (cB (cR (cL (cR (cR (bodyOf (Bd.f (bdSq n n' a b m))))))))) (n + 1) (St.mk [.ros 19 n (fun i => SReq.c (a i)) false, .ros 19 n' (fun i => SReq.c (b i)) false, .any, .any, .any, .any, .any, .any, .any, .any, .any, .any, .int .i64 ↑n, .int .i64 0, .any, .any, .any, .any, .any, .any, .any, .any, .any, .any, .any, .any] [] 0 []) (.exit 0) (St.mk [.ros 19 n (fun i => SReq.c (a i)) false, .ros 19 n' (fun i => SReq.c (b i)) false, .any, .any, .any, .any, .any, .any, .any, .any, .any, .any, .int .i64 ↑n, .int .i64 ↑n, .any, .any, .any, .any, .any, .any, .any, .any, .any, .any, .any, .any] [] 0 []), q n, ∀ (k : Nat), k < n → SReq.c (a k) = SReq.c (a k), false = true → false = true, q (n'), ∀ (k : Nat), k < n' → SReq.c (b k) = SReq.c (b k), false = true → false = true, q (↑n : Int), q1]) : Option (V × Heap × List Prop)) := by kernel_rfl
theorem bdSq_p00 (n : Nat) (n' : Nat) (a : Nat → SReq) (b : Nat → SReq) (m : Nat) :
  along Try.prog (bdSq n n' a b m) [false, false] = (some (.bool false, [], [(!decide ((↑n : Int) = (↑n' : Int))) = false, RLoop Try.prog none 0 (cB (cB (cR (cL (cR (cR (bodyOf (Bd.f (bdSq n n' a b m))))))))) (m + 1) (St.mk [.ros 19 n (fun i => SReq.c (a i)) false, .ros 19 n' (fun i => SReq.c (b i)) false, .any, .any, .any, .any, .any, .any, .any, .any, .any, .any, .int .i64 ↑n, .int .i64 0, .any, .any, .any, .any, .any, .any, .any, .any, .any, .any, .any, .any] [] 0 []) .ret (St.mk [.any, .any, .any, .any, .bool false, .any, .any, .any, .any, .any, .any, .any, .any, .any, .any, .any, .any, .any, .any, .any, .any, .any, .any, .any, .any, .any] [] 0 []), q n, ∀ (k : Nat), k < n → SReq.c (a k) = SReq.c (a k), false = true → false = true, q (n'), ∀ (k : Nat), k < n' → SReq.c (b k) = SReq.c (b k), false = true → false = true, q (↑n : Int), q1]) : Option (V × Heap × List Prop)) := by kernel_rfl

theorem pcSq_p11 (n : Nat) (n' : Nat) (a : Nat → SReq) (b : Nat → SReq) (k : Nat) :
  alongPc Try.prog (pcSq n n' a b k) [true, true] = (some (.ret, St.mk [.any, .any, .any, .any, .bool false, .any, .any, .any, .any, .any, .any, .any, .any, .any, .any, .any, .any, .any, .any, .any, .any, .any, .any, .any, .any, .any] [] 0 [], [decide ((↑k : Int) < (↑n : Int)) = true, (0 : Int) ≤ (↑k : Int) ∧ (↑k : Int) < (↑n : Int), (0 : Int) ≤ (↑k : Int) ∧ (↑k : Int) < (↑n' : Int), (!(decide (SReq.client (a (Int.toNat (↑k : Int))) = SReq.client (b (Int.toNat (↑k : Int)))) && (decide (SReq.num (a (Int.toNat (↑k : Int))) = SReq.num (b (Int.toNat (↑k : Int)))) && (decide (SReq.data (a (Int.toNat (↑k : Int))) = SReq.data (b (Int.toNat (↑k : Int)))) && (decide (SReq.tag (a (Int.toNat (↑k : Int))) = SReq.tag (b (Int.toNat (↑k : Int)))) && true))))) = true, q false]) : Option (Exit × St × List Prop)) := by kernel_rfl
theorem pcSq_p10 (n : Nat) (n' : Nat) (a : Nat → SReq) (b : Nat → SReq) (k : Nat) :
  alongPc Try.prog (pcSq n n' a b k) [true, false] = (some (.normal, St.mk [.ros 19 n (fun i => SReq.c (a i)) false, .ros 19 n' (fun i => SReq.c (b i)) false, .any, .any, .any, .any, .any, .any, .any, .any, .any, .any, .int .i64 ↑n, .int .i64 (↑(k + 1) : Int), .any, .any, .any, .any, .any, .any, .any, .any, .any, .any, .any, .any] [] 0 [], [decide ((↑k : Int) < (↑n : Int)) = true, (0 : Int) ≤ (↑k : Int) ∧ (↑k : Int) < (↑n : Int), (0 : Int) ≤ (↑k : Int) ∧ (↑k : Int) < (↑n' : Int), (!(decide (SReq.client (a (Int.toNat (↑k : Int))) = SReq.client (b (Int.toNat (↑k : Int)))) && (decide (SReq.num (a (Int.toNat (↑k : Int))) = SReq.num (b (Int.toNat (↑k : Int)))) && (decide (SReq.data (a (Int.toNat (↑k : Int))) = SReq.data (b (Int.toNat (↑k : Int)))) && (decide (SReq.tag (a (Int.toNat (↑k : Int))) = SReq.tag (b (Int.toNat (↑k : Int)))) && true))))) = false, InR IntKind.i64 ((↑k : Int) + (1 : Int)), q n, ∀ (k : Nat), k < n → SReq.c (a k) = SReq.c (a k), false = true → false = true, q (n'), ∀ (k : Nat), k < n' → SReq.c (b k) = SReq.c (b k), false = true → false = true, q (↑n : Int), (↑k : Int) + (1 : Int) = (↑(k + (1 : Nat)) : Int)]) : Option (Exit × St × List Prop)) := by kernel_rfl
theorem pcSq_p0 (n : Nat) (n' : Nat) (a : Nat → SReq) (b : Nat → SReq) (k : Nat) :
  alongPc Try.prog (pcSq n n' a b k) [false] = (some (.exit 0, St.mk [.ros 19 n (fun i => SReq.c (a i)) false, .ros 19 n' (fun i => SReq.c (b i)) false, .any, .any, .any, .any, .any, .any, .any, .any, .any, .any, .int .i64 ↑n, .int .i64 ↑n, .any, .any, .any, .any, .any, .any, .any, .any, .any, .any, .any, .any] [] 0 [], [decide ((↑k : Int) < (↑n : Int)) = false, q n, ∀ (k : Nat), k < n → SReq.c (a k) = SReq.c (a k), false = true → false = true, q (n'), ∀ (k : Nat), k < n' → SReq.c (b k) = SReq.c (b k), false = true → false = true, q (↑n : Int), (↑k : Int) = (↑n : Int)]) : Option (Exit × St × List Prop)) := by kernel_rfl

theorem bdEqS_p (a : SSign) (b : SSign) :
  along Try.prog (bdEqS a b) [] = (some (.bool (decide (SSign.node a = SSign.node b) && (decide (SSign.tag a = SSign.tag b) && true)), [], []) : Option (V × Heap × List Prop)) := by kernel_rfl

theorem bdEqE_p (a : SEnv) (b : SEnv) :
  along Try.prog (bdEqE a b) [] = (some (.bool (decide (SEnv.src a = SEnv.src b) && (decide (SEnv.body a = SEnv.body b) && (decide (SEnv.tag a = SEnv.tag b) && true))), [], []) : Option (V × Heap × List Prop)) := by kernel_rfl

theorem bdBS_p1 (a : SBatch) (b : SBatch) :
  along Try.prog (bdBS a b) [true] = (some (.bool (sameL (SBatch.n a) (SBatch.n b) fun i => reqEq (SBatch.req a i) (SBatch.req b i)), [], [(SBatch.noop a == SBatch.noop b) = true, T Try.prog 138 [.ros 19 (SBatch.n a) (fun i => SReq.c (SBatch.req a i)) false, .ros 19 (SBatch.n b) (fun i => SReq.c (SBatch.req b i)) false] [] (.bool (sameL (SBatch.n a) (SBatch.n b) fun i => reqEq (SBatch.req a i) (SBatch.req b i))) []]) : Option (V × Heap × List Prop)) := by kernel_rfl
theorem bdBS_p0 (a : SBatch) (b : SBatch) :
  along Try.prog (bdBS a b) [false] = (some (.bool false, [], [(SBatch.noop a == SBatch.noop b) = false]) : Option (V × Heap × List Prop)) := by kernel_rfl

theorem bdCS_p1 (a : SCert) (b : SCert) :
  along Try.prog (bdCS a b) [true] = (some (.bool (sameL (SCert.n a) (SCert.n b) fun i => signEq (SCert.sig a i) (SCert.sig b i)), [], [(decide (SVote.kind (SCert.vote a) = SVote.kind (SCert.vote b)) && (decide (SVote.epoch (SCert.vote a) = SVote.epoch (SCert.vote b)) && (decide (SVote.view (SCert.vote a) = SVote.view (SCert.vote b)) && (decide (SVote.slot (SCert.vote a) = SVote.slot (SCert.vote b)) && (decide (SVote.digest (SCert.vote a) = SVote.digest (SCert.vote b)) && true))))) = true, T Try.prog 114 [.ros 17 (SCert.n a) (fun i => SSign.c (SCert.sig a i)) false, .ros 17 (SCert.n b) (fun i => SSign.c (SCert.sig b i)) false, .fn (.func 115) [] []] [] (.bool (sameL (SCert.n a) (SCert.n b) fun i => signEq (SCert.sig a i) (SCert.sig b i))) []]) : Option (V × Heap × List Prop)) := by kernel_rfl
theorem bdCS_p0 (a : SCert) (b : SCert) :
  along Try.prog (bdCS a b) [false] = (some (.bool false, [], [(decide (SVote.kind (SCert.vote a) = SVote.kind (SCert.vote b)) && (decide (SVote.epoch (SCert.vote a) = SVote.epoch (SCert.vote b)) && (decide (SVote.view (SCert.vote a) = SVote.view (SCert.vote b)) && (decide (SVote.slot (SCert.vote a) = SVote.slot (SCert.vote b)) && (decide (SVote.digest (SCert.vote a) = SVote.digest (SCert.vote b)) && true))))) = false]) : Option (V × Heap × List Prop)) := by kernel_rfl

theorem bdHS_p1 (a : SHeld) (b : SHeld) :
  along Try.prog (bdHS a b) [true] = (some (.bool (sameCertS (SHeld.cert a) (SHeld.cert b)), [], [T Try.prog 109 [.agg (SBatch.c (SHeld.batch a)), .agg (SBatch.c (SHeld.batch b))] [] (.bool (sameBatchS (SHeld.batch a) (SHeld.batch b))) [], sameBatchS (SHeld.batch a) (SHeld.batch b) = true, T Try.prog 113 [.agg [.int .i64 (SVote.kind (SCert.vote (SHeld.cert a))), .int .i64 (SVote.epoch (SCert.vote (SHeld.cert a))), .int .i64 (SVote.view (SCert.vote (SHeld.cert a))), .int .i64 (SVote.slot (SCert.vote (SHeld.cert a))), .seg .u8 32 (SVote.digest (SCert.vote (SHeld.cert a))), sg (SCert.n (SHeld.cert a)) (SCert.sig (SHeld.cert a))], .agg [.int .i64 (SVote.kind (SCert.vote (SHeld.cert b))), .int .i64 (SVote.epoch (SCert.vote (SHeld.cert b))), .int .i64 (SVote.view (SCert.vote (SHeld.cert b))), .int .i64 (SVote.slot (SCert.vote (SHeld.cert b))), .seg .u8 32 (SVote.digest (SCert.vote (SHeld.cert b))), sg (SCert.n (SHeld.cert b)) (SCert.sig (SHeld.cert b))]] [] (.bool (sameCertS (SHeld.cert a) (SHeld.cert b))) []]) : Option (V × Heap × List Prop)) := by kernel_rfl
theorem bdHS_p0 (a : SHeld) (b : SHeld) :
  along Try.prog (bdHS a b) [false] = (some (.bool false, [], [T Try.prog 109 [.agg (SBatch.c (SHeld.batch a)), .agg (SBatch.c (SHeld.batch b))] [] (.bool (sameBatchS (SHeld.batch a) (SHeld.batch b))) [], sameBatchS (SHeld.batch a) (SHeld.batch b) = false]) : Option (V × Heap × List Prop)) := by kernel_rfl

theorem bdGS_p111 (a : SMsg) (b : SMsg) :
  along Try.prog (bdGS a b) [true, true, true] = (some (.bool (sameL (SMsg.nheld a) (SMsg.nheld b) fun i => sameHeldS (SMsg.held a i) (SMsg.held b i)), [], [decide (SMsg.cepoch a = SMsg.cepoch b) = true, decide (SMsg.cleader a = SMsg.cleader b) = true, decide (SMsg.cview a = SMsg.cview b) = true, T Try.prog 139 [.ros 39 (SMsg.nheld a) (fun i => SHeld.c (SMsg.held a i)) false, .ros 39 (SMsg.nheld b) (fun i => SHeld.c (SMsg.held b i)) false, .fn (.func 140) [] []] [] (.bool (sameL (SMsg.nheld a) (SMsg.nheld b) fun i => sameHeldS (SMsg.held a i) (SMsg.held b i))) []]) : Option (V × Heap × List Prop)) := by kernel_rfl
theorem bdGS_p110 (a : SMsg) (b : SMsg) :
  along Try.prog (bdGS a b) [true, true, false] = (some (.bool false, [], [decide (SMsg.cepoch a = SMsg.cepoch b) = true, decide (SMsg.cleader a = SMsg.cleader b) = true, decide (SMsg.cview a = SMsg.cview b) = false]) : Option (V × Heap × List Prop)) := by kernel_rfl
theorem bdGS_p100 (a : SMsg) (b : SMsg) :
  along Try.prog (bdGS a b) [true, false, false] = (some (.bool false, [], [decide (SMsg.cepoch a = SMsg.cepoch b) = true, decide (SMsg.cleader a = SMsg.cleader b) = false, q false]) : Option (V × Heap × List Prop)) := by kernel_rfl
theorem bdGS_p000 (a : SMsg) (b : SMsg) :
  along Try.prog (bdGS a b) [false, false, false] = (some (.bool false, [], [decide (SMsg.cepoch a = SMsg.cepoch b) = false, q false, q false]) : Option (V × Heap × List Prop)) := by kernel_rfl

theorem bdMM_p111111111111 (a : SMsg) (b : SMsg) :
  along Try.prog (bdMM a b) [true, true, true, true, true, true, true, true, true, true, true, true] = (some (.bool (sameL (SMsg.n a) (SMsg.n b) fun i => signEq (SMsg.sig a i) (SMsg.sig b i)), [], [decide (SMsg.kind a = SMsg.kind b) = true, decide (SMsg.epoch a = SMsg.epoch b) = true, decide (SMsg.leader a = SMsg.leader b) = true, decide (SMsg.view a = SMsg.view b) = true, decide (SMsg.slot a = SMsg.slot b) = true, T Try.prog 109 [.agg (SBatch.c (SMsg.batch a)), .agg (SBatch.c (SMsg.batch b))] [] (.bool (sameBatchS (SMsg.batch a) (SMsg.batch b))) [], sameBatchS (SMsg.batch a) (SMsg.batch b) = true, (decide (SVote.kind (SMsg.vote a) = SVote.kind (SMsg.vote b)) && (decide (SVote.epoch (SMsg.vote a) = SVote.epoch (SMsg.vote b)) && (decide (SVote.view (SMsg.vote a) = SVote.view (SMsg.vote b)) && (decide (SVote.slot (SMsg.vote a) = SVote.slot (SMsg.vote b)) && (decide (SVote.digest (SMsg.vote a) = SVote.digest (SMsg.vote b)) && true))))) = true, T Try.prog 110 [.agg [.int .i64 (SMsg.cepoch a), .int .i64 (SMsg.cleader a), .int .i64 (SMsg.cview a), hl (SMsg.nheld a) (SMsg.held a)], .agg [.int .i64 (SMsg.cepoch b), .int .i64 (SMsg.cleader b), .int .i64 (SMsg.cview b), hl (SMsg.nheld b) (SMsg.held b)]] [] (.bool (sameChangeS a b)) [], sameChangeS a b = true, T Try.prog 111 [.ros 18 (SMsg.nnews a) (fun i => SEnv.c (SMsg.news a i)) false, .ros 18 (SMsg.nnews b) (fun i => SEnv.c (SMsg.news b i)) false, .fn (.func 112) [] []] [] (.bool (sameL (SMsg.nnews a) (SMsg.nnews b) fun i => envEq (SMsg.news a i) (SMsg.news b i))) [], (sameL (SMsg.nnews a) (SMsg.nnews b) fun i => envEq (SMsg.news a i) (SMsg.news b i)) = true, decide (SMsg.digest a = SMsg.digest b) = true, T Try.prog 113 [.agg [.int .i64 (SVote.kind (SCert.vote (SMsg.cert a))), .int .i64 (SVote.epoch (SCert.vote (SMsg.cert a))), .int .i64 (SVote.view (SCert.vote (SMsg.cert a))), .int .i64 (SVote.slot (SCert.vote (SMsg.cert a))), .seg .u8 32 (SVote.digest (SCert.vote (SMsg.cert a))), sg (SCert.n (SMsg.cert a)) (SCert.sig (SMsg.cert a))], .agg [.int .i64 (SVote.kind (SCert.vote (SMsg.cert b))), .int .i64 (SVote.epoch (SCert.vote (SMsg.cert b))), .int .i64 (SVote.view (SCert.vote (SMsg.cert b))), .int .i64 (SVote.slot (SCert.vote (SMsg.cert b))), .seg .u8 32 (SVote.digest (SCert.vote (SMsg.cert b))), sg (SCert.n (SMsg.cert b)) (SCert.sig (SMsg.cert b))]] [] (.bool (sameCertS (SMsg.cert a) (SMsg.cert b))) [], sameCertS (SMsg.cert a) (SMsg.cert b) = true, decide (SMsg.state a = SMsg.state b) = true, T Try.prog 114 [.ros 17 (SMsg.n a) (fun i => SSign.c (SMsg.sig a i)) false, .ros 17 (SMsg.n b) (fun i => SSign.c (SMsg.sig b i)) false, .fn (.func 115) [] []] [] (.bool (sameL (SMsg.n a) (SMsg.n b) fun i => signEq (SMsg.sig a i) (SMsg.sig b i))) []]) : Option (V × Heap × List Prop)) := by kernel_rfl
theorem bdMM_p111111111110 (a : SMsg) (b : SMsg) :
  along Try.prog (bdMM a b) [true, true, true, true, true, true, true, true, true, true, true, false] = (some (.bool false, [], [decide (SMsg.kind a = SMsg.kind b) = true, decide (SMsg.epoch a = SMsg.epoch b) = true, decide (SMsg.leader a = SMsg.leader b) = true, decide (SMsg.view a = SMsg.view b) = true, decide (SMsg.slot a = SMsg.slot b) = true, T Try.prog 109 [.agg (SBatch.c (SMsg.batch a)), .agg (SBatch.c (SMsg.batch b))] [] (.bool (sameBatchS (SMsg.batch a) (SMsg.batch b))) [], sameBatchS (SMsg.batch a) (SMsg.batch b) = true, (decide (SVote.kind (SMsg.vote a) = SVote.kind (SMsg.vote b)) && (decide (SVote.epoch (SMsg.vote a) = SVote.epoch (SMsg.vote b)) && (decide (SVote.view (SMsg.vote a) = SVote.view (SMsg.vote b)) && (decide (SVote.slot (SMsg.vote a) = SVote.slot (SMsg.vote b)) && (decide (SVote.digest (SMsg.vote a) = SVote.digest (SMsg.vote b)) && true))))) = true, T Try.prog 110 [.agg [.int .i64 (SMsg.cepoch a), .int .i64 (SMsg.cleader a), .int .i64 (SMsg.cview a), hl (SMsg.nheld a) (SMsg.held a)], .agg [.int .i64 (SMsg.cepoch b), .int .i64 (SMsg.cleader b), .int .i64 (SMsg.cview b), hl (SMsg.nheld b) (SMsg.held b)]] [] (.bool (sameChangeS a b)) [], sameChangeS a b = true, T Try.prog 111 [.ros 18 (SMsg.nnews a) (fun i => SEnv.c (SMsg.news a i)) false, .ros 18 (SMsg.nnews b) (fun i => SEnv.c (SMsg.news b i)) false, .fn (.func 112) [] []] [] (.bool (sameL (SMsg.nnews a) (SMsg.nnews b) fun i => envEq (SMsg.news a i) (SMsg.news b i))) [], (sameL (SMsg.nnews a) (SMsg.nnews b) fun i => envEq (SMsg.news a i) (SMsg.news b i)) = true, decide (SMsg.digest a = SMsg.digest b) = true, T Try.prog 113 [.agg [.int .i64 (SVote.kind (SCert.vote (SMsg.cert a))), .int .i64 (SVote.epoch (SCert.vote (SMsg.cert a))), .int .i64 (SVote.view (SCert.vote (SMsg.cert a))), .int .i64 (SVote.slot (SCert.vote (SMsg.cert a))), .seg .u8 32 (SVote.digest (SCert.vote (SMsg.cert a))), sg (SCert.n (SMsg.cert a)) (SCert.sig (SMsg.cert a))], .agg [.int .i64 (SVote.kind (SCert.vote (SMsg.cert b))), .int .i64 (SVote.epoch (SCert.vote (SMsg.cert b))), .int .i64 (SVote.view (SCert.vote (SMsg.cert b))), .int .i64 (SVote.slot (SCert.vote (SMsg.cert b))), .seg .u8 32 (SVote.digest (SCert.vote (SMsg.cert b))), sg (SCert.n (SMsg.cert b)) (SCert.sig (SMsg.cert b))]] [] (.bool (sameCertS (SMsg.cert a) (SMsg.cert b))) [], sameCertS (SMsg.cert a) (SMsg.cert b) = true, decide (SMsg.state a = SMsg.state b) = false]) : Option (V × Heap × List Prop)) := by kernel_rfl
theorem bdMM_p111111111100 (a : SMsg) (b : SMsg) :
  along Try.prog (bdMM a b) [true, true, true, true, true, true, true, true, true, true, false, false] = (some (.bool false, [], [decide (SMsg.kind a = SMsg.kind b) = true, decide (SMsg.epoch a = SMsg.epoch b) = true, decide (SMsg.leader a = SMsg.leader b) = true, decide (SMsg.view a = SMsg.view b) = true, decide (SMsg.slot a = SMsg.slot b) = true, T Try.prog 109 [.agg (SBatch.c (SMsg.batch a)), .agg (SBatch.c (SMsg.batch b))] [] (.bool (sameBatchS (SMsg.batch a) (SMsg.batch b))) [], sameBatchS (SMsg.batch a) (SMsg.batch b) = true, (decide (SVote.kind (SMsg.vote a) = SVote.kind (SMsg.vote b)) && (decide (SVote.epoch (SMsg.vote a) = SVote.epoch (SMsg.vote b)) && (decide (SVote.view (SMsg.vote a) = SVote.view (SMsg.vote b)) && (decide (SVote.slot (SMsg.vote a) = SVote.slot (SMsg.vote b)) && (decide (SVote.digest (SMsg.vote a) = SVote.digest (SMsg.vote b)) && true))))) = true, T Try.prog 110 [.agg [.int .i64 (SMsg.cepoch a), .int .i64 (SMsg.cleader a), .int .i64 (SMsg.cview a), hl (SMsg.nheld a) (SMsg.held a)], .agg [.int .i64 (SMsg.cepoch b), .int .i64 (SMsg.cleader b), .int .i64 (SMsg.cview b), hl (SMsg.nheld b) (SMsg.held b)]] [] (.bool (sameChangeS a b)) [], sameChangeS a b = true, T Try.prog 111 [.ros 18 (SMsg.nnews a) (fun i => SEnv.c (SMsg.news a i)) false, .ros 18 (SMsg.nnews b) (fun i => SEnv.c (SMsg.news b i)) false, .fn (.func 112) [] []] [] (.bool (sameL (SMsg.nnews a) (SMsg.nnews b) fun i => envEq (SMsg.news a i) (SMsg.news b i))) [], (sameL (SMsg.nnews a) (SMsg.nnews b) fun i => envEq (SMsg.news a i) (SMsg.news b i)) = true, decide (SMsg.digest a = SMsg.digest b) = true, T Try.prog 113 [.agg [.int .i64 (SVote.kind (SCert.vote (SMsg.cert a))), .int .i64 (SVote.epoch (SCert.vote (SMsg.cert a))), .int .i64 (SVote.view (SCert.vote (SMsg.cert a))), .int .i64 (SVote.slot (SCert.vote (SMsg.cert a))), .seg .u8 32 (SVote.digest (SCert.vote (SMsg.cert a))), sg (SCert.n (SMsg.cert a)) (SCert.sig (SMsg.cert a))], .agg [.int .i64 (SVote.kind (SCert.vote (SMsg.cert b))), .int .i64 (SVote.epoch (SCert.vote (SMsg.cert b))), .int .i64 (SVote.view (SCert.vote (SMsg.cert b))), .int .i64 (SVote.slot (SCert.vote (SMsg.cert b))), .seg .u8 32 (SVote.digest (SCert.vote (SMsg.cert b))), sg (SCert.n (SMsg.cert b)) (SCert.sig (SMsg.cert b))]] [] (.bool (sameCertS (SMsg.cert a) (SMsg.cert b))) [], sameCertS (SMsg.cert a) (SMsg.cert b) = false, q false]) : Option (V × Heap × List Prop)) := by kernel_rfl
theorem bdMM_p111111111000 (a : SMsg) (b : SMsg) :
  along Try.prog (bdMM a b) [true, true, true, true, true, true, true, true, true, false, false, false] = (some (.bool false, [], [decide (SMsg.kind a = SMsg.kind b) = true, decide (SMsg.epoch a = SMsg.epoch b) = true, decide (SMsg.leader a = SMsg.leader b) = true, decide (SMsg.view a = SMsg.view b) = true, decide (SMsg.slot a = SMsg.slot b) = true, T Try.prog 109 [.agg (SBatch.c (SMsg.batch a)), .agg (SBatch.c (SMsg.batch b))] [] (.bool (sameBatchS (SMsg.batch a) (SMsg.batch b))) [], sameBatchS (SMsg.batch a) (SMsg.batch b) = true, (decide (SVote.kind (SMsg.vote a) = SVote.kind (SMsg.vote b)) && (decide (SVote.epoch (SMsg.vote a) = SVote.epoch (SMsg.vote b)) && (decide (SVote.view (SMsg.vote a) = SVote.view (SMsg.vote b)) && (decide (SVote.slot (SMsg.vote a) = SVote.slot (SMsg.vote b)) && (decide (SVote.digest (SMsg.vote a) = SVote.digest (SMsg.vote b)) && true))))) = true, T Try.prog 110 [.agg [.int .i64 (SMsg.cepoch a), .int .i64 (SMsg.cleader a), .int .i64 (SMsg.cview a), hl (SMsg.nheld a) (SMsg.held a)], .agg [.int .i64 (SMsg.cepoch b), .int .i64 (SMsg.cleader b), .int .i64 (SMsg.cview b), hl (SMsg.nheld b) (SMsg.held b)]] [] (.bool (sameChangeS a b)) [], sameChangeS a b = true, T Try.prog 111 [.ros 18 (SMsg.nnews a) (fun i => SEnv.c (SMsg.news a i)) false, .ros 18 (SMsg.nnews b) (fun i => SEnv.c (SMsg.news b i)) false, .fn (.func 112) [] []] [] (.bool (sameL (SMsg.nnews a) (SMsg.nnews b) fun i => envEq (SMsg.news a i) (SMsg.news b i))) [], (sameL (SMsg.nnews a) (SMsg.nnews b) fun i => envEq (SMsg.news a i) (SMsg.news b i)) = true, decide (SMsg.digest a = SMsg.digest b) = false, q false, q false]) : Option (V × Heap × List Prop)) := by kernel_rfl
theorem bdMM_p111111110000 (a : SMsg) (b : SMsg) :
  along Try.prog (bdMM a b) [true, true, true, true, true, true, true, true, false, false, false, false] = (some (.bool false, [], [decide (SMsg.kind a = SMsg.kind b) = true, decide (SMsg.epoch a = SMsg.epoch b) = true, decide (SMsg.leader a = SMsg.leader b) = true, decide (SMsg.view a = SMsg.view b) = true, decide (SMsg.slot a = SMsg.slot b) = true, T Try.prog 109 [.agg (SBatch.c (SMsg.batch a)), .agg (SBatch.c (SMsg.batch b))] [] (.bool (sameBatchS (SMsg.batch a) (SMsg.batch b))) [], sameBatchS (SMsg.batch a) (SMsg.batch b) = true, (decide (SVote.kind (SMsg.vote a) = SVote.kind (SMsg.vote b)) && (decide (SVote.epoch (SMsg.vote a) = SVote.epoch (SMsg.vote b)) && (decide (SVote.view (SMsg.vote a) = SVote.view (SMsg.vote b)) && (decide (SVote.slot (SMsg.vote a) = SVote.slot (SMsg.vote b)) && (decide (SVote.digest (SMsg.vote a) = SVote.digest (SMsg.vote b)) && true))))) = true, T Try.prog 110 [.agg [.int .i64 (SMsg.cepoch a), .int .i64 (SMsg.cleader a), .int .i64 (SMsg.cview a), hl (SMsg.nheld a) (SMsg.held a)], .agg [.int .i64 (SMsg.cepoch b), .int .i64 (SMsg.cleader b), .int .i64 (SMsg.cview b), hl (SMsg.nheld b) (SMsg.held b)]] [] (.bool (sameChangeS a b)) [], sameChangeS a b = true, T Try.prog 111 [.ros 18 (SMsg.nnews a) (fun i => SEnv.c (SMsg.news a i)) false, .ros 18 (SMsg.nnews b) (fun i => SEnv.c (SMsg.news b i)) false, .fn (.func 112) [] []] [] (.bool (sameL (SMsg.nnews a) (SMsg.nnews b) fun i => envEq (SMsg.news a i) (SMsg.news b i))) [], (sameL (SMsg.nnews a) (SMsg.nnews b) fun i => envEq (SMsg.news a i) (SMsg.news b i)) = false, q false, q false, q false]) : Option (V × Heap × List Prop)) := by kernel_rfl
theorem bdMM_p111111100000 (a : SMsg) (b : SMsg) :
  along Try.prog (bdMM a b) [true, true, true, true, true, true, true, false, false, false, false, false] = (some (.bool false, [], [decide (SMsg.kind a = SMsg.kind b) = true, decide (SMsg.epoch a = SMsg.epoch b) = true, decide (SMsg.leader a = SMsg.leader b) = true, decide (SMsg.view a = SMsg.view b) = true, decide (SMsg.slot a = SMsg.slot b) = true, T Try.prog 109 [.agg (SBatch.c (SMsg.batch a)), .agg (SBatch.c (SMsg.batch b))] [] (.bool (sameBatchS (SMsg.batch a) (SMsg.batch b))) [], sameBatchS (SMsg.batch a) (SMsg.batch b) = true, (decide (SVote.kind (SMsg.vote a) = SVote.kind (SMsg.vote b)) && (decide (SVote.epoch (SMsg.vote a) = SVote.epoch (SMsg.vote b)) && (decide (SVote.view (SMsg.vote a) = SVote.view (SMsg.vote b)) && (decide (SVote.slot (SMsg.vote a) = SVote.slot (SMsg.vote b)) && (decide (SVote.digest (SMsg.vote a) = SVote.digest (SMsg.vote b)) && true))))) = true, T Try.prog 110 [.agg [.int .i64 (SMsg.cepoch a), .int .i64 (SMsg.cleader a), .int .i64 (SMsg.cview a), hl (SMsg.nheld a) (SMsg.held a)], .agg [.int .i64 (SMsg.cepoch b), .int .i64 (SMsg.cleader b), .int .i64 (SMsg.cview b), hl (SMsg.nheld b) (SMsg.held b)]] [] (.bool (sameChangeS a b)) [], sameChangeS a b = false, q false, q false, q false, q false]) : Option (V × Heap × List Prop)) := by kernel_rfl
theorem bdMM_p111111000000 (a : SMsg) (b : SMsg) :
  along Try.prog (bdMM a b) [true, true, true, true, true, true, false, false, false, false, false, false] = (some (.bool false, [], [decide (SMsg.kind a = SMsg.kind b) = true, decide (SMsg.epoch a = SMsg.epoch b) = true, decide (SMsg.leader a = SMsg.leader b) = true, decide (SMsg.view a = SMsg.view b) = true, decide (SMsg.slot a = SMsg.slot b) = true, T Try.prog 109 [.agg (SBatch.c (SMsg.batch a)), .agg (SBatch.c (SMsg.batch b))] [] (.bool (sameBatchS (SMsg.batch a) (SMsg.batch b))) [], sameBatchS (SMsg.batch a) (SMsg.batch b) = true, (decide (SVote.kind (SMsg.vote a) = SVote.kind (SMsg.vote b)) && (decide (SVote.epoch (SMsg.vote a) = SVote.epoch (SMsg.vote b)) && (decide (SVote.view (SMsg.vote a) = SVote.view (SMsg.vote b)) && (decide (SVote.slot (SMsg.vote a) = SVote.slot (SMsg.vote b)) && (decide (SVote.digest (SMsg.vote a) = SVote.digest (SMsg.vote b)) && true))))) = false, q false, q false, q false, q false, q false]) : Option (V × Heap × List Prop)) := by kernel_rfl
theorem bdMM_p111110000000 (a : SMsg) (b : SMsg) :
  along Try.prog (bdMM a b) [true, true, true, true, true, false, false, false, false, false, false, false] = (some (.bool false, [], [decide (SMsg.kind a = SMsg.kind b) = true, decide (SMsg.epoch a = SMsg.epoch b) = true, decide (SMsg.leader a = SMsg.leader b) = true, decide (SMsg.view a = SMsg.view b) = true, decide (SMsg.slot a = SMsg.slot b) = true, T Try.prog 109 [.agg (SBatch.c (SMsg.batch a)), .agg (SBatch.c (SMsg.batch b))] [] (.bool (sameBatchS (SMsg.batch a) (SMsg.batch b))) [], sameBatchS (SMsg.batch a) (SMsg.batch b) = false, q false, q false, q false, q false, q false, q false]) : Option (V × Heap × List Prop)) := by kernel_rfl
theorem bdMM_p111100000000 (a : SMsg) (b : SMsg) :
  along Try.prog (bdMM a b) [true, true, true, true, false, false, false, false, false, false, false, false] = (some (.bool false, [], [decide (SMsg.kind a = SMsg.kind b) = true, decide (SMsg.epoch a = SMsg.epoch b) = true, decide (SMsg.leader a = SMsg.leader b) = true, decide (SMsg.view a = SMsg.view b) = true, decide (SMsg.slot a = SMsg.slot b) = false, q false, q false, q false, q false, q false, q false, q false]) : Option (V × Heap × List Prop)) := by kernel_rfl
theorem bdMM_p111000000000 (a : SMsg) (b : SMsg) :
  along Try.prog (bdMM a b) [true, true, true, false, false, false, false, false, false, false, false, false] = (some (.bool false, [], [decide (SMsg.kind a = SMsg.kind b) = true, decide (SMsg.epoch a = SMsg.epoch b) = true, decide (SMsg.leader a = SMsg.leader b) = true, decide (SMsg.view a = SMsg.view b) = false, q false, q false, q false, q false, q false, q false, q false, q false]) : Option (V × Heap × List Prop)) := by kernel_rfl
theorem bdMM_p110000000000 (a : SMsg) (b : SMsg) :
  along Try.prog (bdMM a b) [true, true, false, false, false, false, false, false, false, false, false, false] = (some (.bool false, [], [decide (SMsg.kind a = SMsg.kind b) = true, decide (SMsg.epoch a = SMsg.epoch b) = true, decide (SMsg.leader a = SMsg.leader b) = false, q false, q false, q false, q false, q false, q false, q false, q false, q false]) : Option (V × Heap × List Prop)) := by kernel_rfl
theorem bdMM_p100000000000 (a : SMsg) (b : SMsg) :
  along Try.prog (bdMM a b) [true, false, false, false, false, false, false, false, false, false, false, false] = (some (.bool false, [], [decide (SMsg.kind a = SMsg.kind b) = true, decide (SMsg.epoch a = SMsg.epoch b) = false, q false, q false, q false, q false, q false, q false, q false, q false, q false, q false]) : Option (V × Heap × List Prop)) := by kernel_rfl
theorem bdMM_p000000000000 (a : SMsg) (b : SMsg) :
  along Try.prog (bdMM a b) [false, false, false, false, false, false, false, false, false, false, false, false] = (some (.bool false, [], [decide (SMsg.kind a = SMsg.kind b) = false, q false, q false, q false, q false, q false, q false, q false, q false, q false, q false, q false]) : Option (V × Heap × List Prop)) := by kernel_rfl

theorem bdSmS_p1 (n : Nat) (n' : Nat) (a : Nat → SSign) (b : Nat → SSign) (m : Nat) :
  along Try.prog (bdSmS n n' a b m) [true] = (some (.bool false, [], [(!decide ((↑n : Int) = (↑n' : Int))) = true]) : Option (V × Heap × List Prop)) := by kernel_rfl
theorem bdSmS_p01 (n : Nat) (n' : Nat) (a : Nat → SSign) (b : Nat → SSign) (m : Nat) :
  along Try.prog (bdSmS n n' a b m) [false, true] = (some (.bool true, [], [(!decide ((↑n : Int) = (↑n' : Int))) = false, RLoop Try.prog none 0 (cB (cB (cR (cL (cR (cR (bodyOf (Bd.f (bdSmS n n' a b m))))))))) (n + 1) (St.mk [.ros 17 n (fun i => SSign.c (a i)) false, .ros 17 n' (fun i => SSign.c (b i)) false, .fn (.func 115) [] [], .any, .any, .any, .any, .any, .any, .any, .any, .any, .any, .any, .int .i64 ↑n, .int .i64 0, .any, .any, .any, .any, .any, .any, .any, .any, .any, .any, .any, .any, .any, .any] [] 0 []) (.exit 0) (St.mk [.ros 17 n (fun i => SSign.c (a i)) false, .ros 17 n' (fun i => SSign.c (b i)) false, .fn (.func 115) [] [], .any, .any, .any, .any, .any, .any, .any, .any, .any, .any, .any, .int .i64 ↑n, .int .i64 ↑n, .any, .any, .any, .any, .any, .any, .any, .any, .any, .any, .any, .any, .any, .any] [] 0 []), q n, ∀ (k : Nat), k < n → SSign.c (a k) = SSign.c (a k), false = true → false = true, q (n'), ∀ (k : Nat), k < n' → SSign.c (b k) = SSign.c (b k), false = true → false = true, q (↑n : Int), q1]) : Option (V × Heap × List Prop)) := by kernel_rfl
theorem bdSmS_p00 (n : Nat) (n' : Nat) (a : Nat → SSign) (b : Nat → SSign) (m : Nat) :
  along Try.prog (bdSmS n n' a b m) [false, false] = (some (.bool false, [], [(!decide ((↑n : Int) = (↑n' : Int))) = false, RLoop Try.prog none 0 (cB (cB (cR (cL (cR (cR (bodyOf (Bd.f (bdSmS n n' a b m))))))))) (m + 1) (St.mk [.ros 17 n (fun i => SSign.c (a i)) false, .ros 17 n' (fun i => SSign.c (b i)) false, .fn (.func 115) [] [], .any, .any, .any, .any, .any, .any, .any, .any, .any, .any, .any, .int .i64 ↑n, .int .i64 0, .any, .any, .any, .any, .any, .any, .any, .any, .any, .any, .any, .any, .any, .any] [] 0 []) .ret (St.mk [.any, .any, .any, .any, .any, .any, .bool false, .any, .any, .any, .any, .any, .any, .any, .any, .any, .any, .any, .any, .any, .any, .any, .any, .any, .any, .any, .any, .any, .any, .any] [] 0 []), q n, ∀ (k : Nat), k < n → SSign.c (a k) = SSign.c (a k), false = true → false = true, q (n'), ∀ (k : Nat), k < n' → SSign.c (b k) = SSign.c (b k), false = true → false = true, q (↑n : Int), q1]) : Option (V × Heap × List Prop)) := by kernel_rfl

theorem pcSmS_p11 (n : Nat) (n' : Nat) (a : Nat → SSign) (b : Nat → SSign) (k : Nat) :
  alongPc Try.prog (pcSmS n n' a b k) [true, true] = (some (.ret, St.mk [.any, .any, .any, .any, .any, .any, .bool false, .any, .any, .any, .any, .any, .any, .any, .any, .any, .any, .any, .any, .any, .any, .any, .any, .any, .any, .any, .any, .any, .any, .any] [] 0 [], [decide ((↑k : Int) < (↑n : Int)) = true, (0 : Int) ≤ (↑k : Int) ∧ (↑k : Int) < (↑n : Int), (0 : Int) ≤ (↑k : Int) ∧ (↑k : Int) < (↑n' : Int), T Try.prog 115 [.agg [.int .i64 (SSign.node (a (Int.toNat (↑k : Int)))), .seg .u8 16 (SSign.tag (a (Int.toNat (↑k : Int))))], .agg [.int .i64 (SSign.node (b (Int.toNat (↑k : Int)))), .seg .u8 16 (SSign.tag (b (Int.toNat (↑k : Int))))]] [] (.bool (signEq (a k) (b k))) [], (!signEq (a k) (b k)) = true, q false]) : Option (Exit × St × List Prop)) := by kernel_rfl
theorem pcSmS_p10 (n : Nat) (n' : Nat) (a : Nat → SSign) (b : Nat → SSign) (k : Nat) :
  alongPc Try.prog (pcSmS n n' a b k) [true, false] = (some (.normal, St.mk [.ros 17 n (fun i => SSign.c (a i)) false, .ros 17 n' (fun i => SSign.c (b i)) false, .fn (.func 115) [] [], .any, .any, .any, .any, .any, .any, .any, .any, .any, .any, .any, .int .i64 ↑n, .int .i64 (↑(k + 1) : Int), .any, .any, .any, .any, .any, .any, .any, .any, .any, .any, .any, .any, .any, .any] [] 0 [], [decide ((↑k : Int) < (↑n : Int)) = true, (0 : Int) ≤ (↑k : Int) ∧ (↑k : Int) < (↑n : Int), (0 : Int) ≤ (↑k : Int) ∧ (↑k : Int) < (↑n' : Int), T Try.prog 115 [.agg [.int .i64 (SSign.node (a (Int.toNat (↑k : Int)))), .seg .u8 16 (SSign.tag (a (Int.toNat (↑k : Int))))], .agg [.int .i64 (SSign.node (b (Int.toNat (↑k : Int)))), .seg .u8 16 (SSign.tag (b (Int.toNat (↑k : Int))))]] [] (.bool (signEq (a k) (b k))) [], (!signEq (a k) (b k)) = false, InR IntKind.i64 ((↑k : Int) + (1 : Int)), q n, ∀ (k : Nat), k < n → SSign.c (a k) = SSign.c (a k), false = true → false = true, q (n'), ∀ (k : Nat), k < n' → SSign.c (b k) = SSign.c (b k), false = true → false = true, q (↑n : Int), (↑k : Int) + (1 : Int) = (↑(k + (1 : Nat)) : Int)]) : Option (Exit × St × List Prop)) := by kernel_rfl
theorem pcSmS_p0 (n : Nat) (n' : Nat) (a : Nat → SSign) (b : Nat → SSign) (k : Nat) :
  alongPc Try.prog (pcSmS n n' a b k) [false] = (some (.exit 0, St.mk [.ros 17 n (fun i => SSign.c (a i)) false, .ros 17 n' (fun i => SSign.c (b i)) false, .fn (.func 115) [] [], .any, .any, .any, .any, .any, .any, .any, .any, .any, .any, .any, .int .i64 ↑n, .int .i64 ↑n, .any, .any, .any, .any, .any, .any, .any, .any, .any, .any, .any, .any, .any, .any] [] 0 [], [decide ((↑k : Int) < (↑n : Int)) = false, q n, ∀ (k : Nat), k < n → SSign.c (a k) = SSign.c (a k), false = true → false = true, q (n'), ∀ (k : Nat), k < n' → SSign.c (b k) = SSign.c (b k), false = true → false = true, q (↑n : Int), (↑k : Int) = (↑n : Int)]) : Option (Exit × St × List Prop)) := by kernel_rfl

theorem bdSmE_p1 (n : Nat) (n' : Nat) (a : Nat → SEnv) (b : Nat → SEnv) (m : Nat) :
  along Try.prog (bdSmE n n' a b m) [true] = (some (.bool false, [], [(!decide ((↑n : Int) = (↑n' : Int))) = true]) : Option (V × Heap × List Prop)) := by kernel_rfl
theorem bdSmE_p01 (n : Nat) (n' : Nat) (a : Nat → SEnv) (b : Nat → SEnv) (m : Nat) :
  along Try.prog (bdSmE n n' a b m) [false, true] = (some (.bool true, [], [(!decide ((↑n : Int) = (↑n' : Int))) = false, RLoop Try.prog none 0 (cB (cB (cR (cL (cR (cR (bodyOf (Bd.f (bdSmE n n' a b m))))))))) (n + 1) (St.mk [.ros 18 n (fun i => SEnv.c (a i)) false, .ros 18 n' (fun i => SEnv.c (b i)) false, .fn (.func 112) [] [], .any, .any, .any, .any, .any, .any, .any, .any, .any, .any, .any, .int .i64 ↑n, .int .i64 0, .any, .any, .any, .any, .any, .any, .any, .any, .any, .any, .any, .any, .any, .any] [] 0 []) (.exit 0) (St.mk [.ros 18 n (fun i => SEnv.c (a i)) false, .ros 18 n' (fun i => SEnv.c (b i)) false, .fn (.func 112) [] [], .any, .any, .any, .any, .any, .any, .any, .any, .any, .any, .any, .int .i64 ↑n, .int .i64 ↑n, .any, .any, .any, .any, .any, .any, .any, .any, .any, .any, .any, .any, .any, .any] [] 0 []), q n, ∀ (k : Nat), k < n → SEnv.c (a k) = SEnv.c (a k), false = true → false = true, q (n'), ∀ (k : Nat), k < n' → SEnv.c (b k) = SEnv.c (b k), false = true → false = true, q (↑n : Int), q1]) : Option (V × Heap × List Prop)) := by kernel_rfl
theorem bdSmE_p00 (n : Nat) (n' : Nat) (a : Nat → SEnv) (b : Nat → SEnv) (m : Nat) :
  along Try.prog (bdSmE n n' a b m) [false, false] = (some (.bool false, [], [(!decide ((↑n : Int) = (↑n' : Int))) = false, RLoop Try.prog none 0 (cB (cB (cR (cL (cR (cR (bodyOf (Bd.f (bdSmE n n' a b m))))))))) (m + 1) (St.mk [.ros 18 n (fun i => SEnv.c (a i)) false, .ros 18 n' (fun i => SEnv.c (b i)) false, .fn (.func 112) [] [], .any, .any, .any, .any, .any, .any, .any, .any, .any, .any, .any, .int .i64 ↑n, .int .i64 0, .any, .any, .any, .any, .any, .any, .any, .any, .any, .any, .any, .any, .any, .any] [] 0 []) .ret (St.mk [.any, .any, .any, .any, .any, .any, .bool false, .any, .any, .any, .any, .any, .any, .any, .any, .any, .any, .any, .any, .any, .any, .any, .any, .any, .any, .any, .any, .any, .any, .any] [] 0 []), q n, ∀ (k : Nat), k < n → SEnv.c (a k) = SEnv.c (a k), false = true → false = true, q (n'), ∀ (k : Nat), k < n' → SEnv.c (b k) = SEnv.c (b k), false = true → false = true, q (↑n : Int), q1]) : Option (V × Heap × List Prop)) := by kernel_rfl

theorem pcSmE_p11 (n : Nat) (n' : Nat) (a : Nat → SEnv) (b : Nat → SEnv) (k : Nat) :
  alongPc Try.prog (pcSmE n n' a b k) [true, true] = (some (.ret, St.mk [.any, .any, .any, .any, .any, .any, .bool false, .any, .any, .any, .any, .any, .any, .any, .any, .any, .any, .any, .any, .any, .any, .any, .any, .any, .any, .any, .any, .any, .any, .any] [] 0 [], [decide ((↑k : Int) < (↑n : Int)) = true, (0 : Int) ≤ (↑k : Int) ∧ (↑k : Int) < (↑n : Int), (0 : Int) ≤ (↑k : Int) ∧ (↑k : Int) < (↑n' : Int), T Try.prog 112 [.agg [.int .i64 (SEnv.src (a (Int.toNat (↑k : Int)))), .str (SEnv.body (a (Int.toNat (↑k : Int)))), .seg .u8 16 (SEnv.tag (a (Int.toNat (↑k : Int))))], .agg [.int .i64 (SEnv.src (b (Int.toNat (↑k : Int)))), .str (SEnv.body (b (Int.toNat (↑k : Int)))), .seg .u8 16 (SEnv.tag (b (Int.toNat (↑k : Int))))]] [] (.bool (envEq (a k) (b k))) [], (!envEq (a k) (b k)) = true, q false]) : Option (Exit × St × List Prop)) := by kernel_rfl
theorem pcSmE_p10 (n : Nat) (n' : Nat) (a : Nat → SEnv) (b : Nat → SEnv) (k : Nat) :
  alongPc Try.prog (pcSmE n n' a b k) [true, false] = (some (.normal, St.mk [.ros 18 n (fun i => SEnv.c (a i)) false, .ros 18 n' (fun i => SEnv.c (b i)) false, .fn (.func 112) [] [], .any, .any, .any, .any, .any, .any, .any, .any, .any, .any, .any, .int .i64 ↑n, .int .i64 (↑(k + 1) : Int), .any, .any, .any, .any, .any, .any, .any, .any, .any, .any, .any, .any, .any, .any] [] 0 [], [decide ((↑k : Int) < (↑n : Int)) = true, (0 : Int) ≤ (↑k : Int) ∧ (↑k : Int) < (↑n : Int), (0 : Int) ≤ (↑k : Int) ∧ (↑k : Int) < (↑n' : Int), T Try.prog 112 [.agg [.int .i64 (SEnv.src (a (Int.toNat (↑k : Int)))), .str (SEnv.body (a (Int.toNat (↑k : Int)))), .seg .u8 16 (SEnv.tag (a (Int.toNat (↑k : Int))))], .agg [.int .i64 (SEnv.src (b (Int.toNat (↑k : Int)))), .str (SEnv.body (b (Int.toNat (↑k : Int)))), .seg .u8 16 (SEnv.tag (b (Int.toNat (↑k : Int))))]] [] (.bool (envEq (a k) (b k))) [], (!envEq (a k) (b k)) = false, InR IntKind.i64 ((↑k : Int) + (1 : Int)), q n, ∀ (k : Nat), k < n → SEnv.c (a k) = SEnv.c (a k), false = true → false = true, q (n'), ∀ (k : Nat), k < n' → SEnv.c (b k) = SEnv.c (b k), false = true → false = true, q (↑n : Int), (↑k : Int) + (1 : Int) = (↑(k + (1 : Nat)) : Int)]) : Option (Exit × St × List Prop)) := by kernel_rfl
theorem pcSmE_p0 (n : Nat) (n' : Nat) (a : Nat → SEnv) (b : Nat → SEnv) (k : Nat) :
  alongPc Try.prog (pcSmE n n' a b k) [false] = (some (.exit 0, St.mk [.ros 18 n (fun i => SEnv.c (a i)) false, .ros 18 n' (fun i => SEnv.c (b i)) false, .fn (.func 112) [] [], .any, .any, .any, .any, .any, .any, .any, .any, .any, .any, .any, .int .i64 ↑n, .int .i64 ↑n, .any, .any, .any, .any, .any, .any, .any, .any, .any, .any, .any, .any, .any, .any] [] 0 [], [decide ((↑k : Int) < (↑n : Int)) = false, q n, ∀ (k : Nat), k < n → SEnv.c (a k) = SEnv.c (a k), false = true → false = true, q (n'), ∀ (k : Nat), k < n' → SEnv.c (b k) = SEnv.c (b k), false = true → false = true, q (↑n : Int), (↑k : Int) = (↑n : Int)]) : Option (Exit × St × List Prop)) := by kernel_rfl

theorem bdSmH_p1 (n : Nat) (n' : Nat) (a : Nat → SHeld) (b : Nat → SHeld) (m : Nat) :
  along Try.prog (bdSmH n n' a b m) [true] = (some (.bool false, [], [(!decide ((↑n : Int) = (↑n' : Int))) = true]) : Option (V × Heap × List Prop)) := by kernel_rfl
theorem bdSmH_p01 (n : Nat) (n' : Nat) (a : Nat → SHeld) (b : Nat → SHeld) (m : Nat) :
  along Try.prog (bdSmH n n' a b m) [false, true] = (some (.bool true, [], [(!decide ((↑n : Int) = (↑n' : Int))) = false, RLoop Try.prog none 0 (cB (cB (cR (cL (cR (cR (bodyOf (Bd.f (bdSmH n n' a b m))))))))) (n + 1) (St.mk [.ros 39 n (fun i => SHeld.c (a i)) false, .ros 39 n' (fun i => SHeld.c (b i)) false, .fn (.func 140) [] [], .any, .any, .any, .any, .any, .any, .any, .any, .any, .any, .any, .int .i64 ↑n, .int .i64 0, .any, .any, .any, .any, .any, .any, .any, .any, .any, .any, .any, .any, .any, .any] [] 0 []) (.exit 0) (St.mk [.ros 39 n (fun i => SHeld.c (a i)) false, .ros 39 n' (fun i => SHeld.c (b i)) false, .fn (.func 140) [] [], .any, .any, .any, .any, .any, .any, .any, .any, .any, .any, .any, .int .i64 ↑n, .int .i64 ↑n, .any, .any, .any, .any, .any, .any, .any, .any, .any, .any, .any, .any, .any, .any] [] 0 []), q n, ∀ (k : Nat), k < n → SHeld.c (a k) = SHeld.c (a k), false = true → false = true, q (n'), ∀ (k : Nat), k < n' → SHeld.c (b k) = SHeld.c (b k), false = true → false = true, q (↑n : Int), q1]) : Option (V × Heap × List Prop)) := by kernel_rfl
theorem bdSmH_p00 (n : Nat) (n' : Nat) (a : Nat → SHeld) (b : Nat → SHeld) (m : Nat) :
  along Try.prog (bdSmH n n' a b m) [false, false] = (some (.bool false, [], [(!decide ((↑n : Int) = (↑n' : Int))) = false, RLoop Try.prog none 0 (cB (cB (cR (cL (cR (cR (bodyOf (Bd.f (bdSmH n n' a b m))))))))) (m + 1) (St.mk [.ros 39 n (fun i => SHeld.c (a i)) false, .ros 39 n' (fun i => SHeld.c (b i)) false, .fn (.func 140) [] [], .any, .any, .any, .any, .any, .any, .any, .any, .any, .any, .any, .int .i64 ↑n, .int .i64 0, .any, .any, .any, .any, .any, .any, .any, .any, .any, .any, .any, .any, .any, .any] [] 0 []) .ret (St.mk [.any, .any, .any, .any, .any, .any, .bool false, .any, .any, .any, .any, .any, .any, .any, .any, .any, .any, .any, .any, .any, .any, .any, .any, .any, .any, .any, .any, .any, .any, .any] [] 0 []), q n, ∀ (k : Nat), k < n → SHeld.c (a k) = SHeld.c (a k), false = true → false = true, q (n'), ∀ (k : Nat), k < n' → SHeld.c (b k) = SHeld.c (b k), false = true → false = true, q (↑n : Int), q1]) : Option (V × Heap × List Prop)) := by kernel_rfl

theorem pcSmH_p11 (n : Nat) (n' : Nat) (a : Nat → SHeld) (b : Nat → SHeld) (k : Nat) :
  alongPc Try.prog (pcSmH n n' a b k) [true, true] = (some (.ret, St.mk [.any, .any, .any, .any, .any, .any, .bool false, .any, .any, .any, .any, .any, .any, .any, .any, .any, .any, .any, .any, .any, .any, .any, .any, .any, .any, .any, .any, .any, .any, .any] [] 0 [], [decide ((↑k : Int) < (↑n : Int)) = true, (0 : Int) ≤ (↑k : Int) ∧ (↑k : Int) < (↑n : Int), (0 : Int) ≤ (↑k : Int) ∧ (↑k : Int) < (↑n' : Int), T Try.prog 140 [.agg [.bool (SBatch.noop (SHeld.batch (a (Int.toNat (↑k : Int))))), rq (SBatch.n (SHeld.batch (a (Int.toNat (↑k : Int))))) (SBatch.req (SHeld.batch (a (Int.toNat (↑k : Int))))), .int .i64 (SVote.kind (SCert.vote (SHeld.cert (a (Int.toNat (↑k : Int)))))), .int .i64 (SVote.epoch (SCert.vote (SHeld.cert (a (Int.toNat (↑k : Int)))))), .int .i64 (SVote.view (SCert.vote (SHeld.cert (a (Int.toNat (↑k : Int)))))), .int .i64 (SVote.slot (SCert.vote (SHeld.cert (a (Int.toNat (↑k : Int)))))), .seg .u8 32 (SVote.digest (SCert.vote (SHeld.cert (a (Int.toNat (↑k : Int)))))), sg (SCert.n (SHeld.cert (a (Int.toNat (↑k : Int))))) (SCert.sig (SHeld.cert (a (Int.toNat (↑k : Int)))))], .agg [.bool (SBatch.noop (SHeld.batch (b (Int.toNat (↑k : Int))))), rq (SBatch.n (SHeld.batch (b (Int.toNat (↑k : Int))))) (SBatch.req (SHeld.batch (b (Int.toNat (↑k : Int))))), .int .i64 (SVote.kind (SCert.vote (SHeld.cert (b (Int.toNat (↑k : Int)))))), .int .i64 (SVote.epoch (SCert.vote (SHeld.cert (b (Int.toNat (↑k : Int)))))), .int .i64 (SVote.view (SCert.vote (SHeld.cert (b (Int.toNat (↑k : Int)))))), .int .i64 (SVote.slot (SCert.vote (SHeld.cert (b (Int.toNat (↑k : Int)))))), .seg .u8 32 (SVote.digest (SCert.vote (SHeld.cert (b (Int.toNat (↑k : Int)))))), sg (SCert.n (SHeld.cert (b (Int.toNat (↑k : Int))))) (SCert.sig (SHeld.cert (b (Int.toNat (↑k : Int)))))]] [] (.bool (sameHeldS (a k) (b k))) [], (!sameHeldS (a k) (b k)) = true, q false]) : Option (Exit × St × List Prop)) := by kernel_rfl
theorem pcSmH_p10 (n : Nat) (n' : Nat) (a : Nat → SHeld) (b : Nat → SHeld) (k : Nat) :
  alongPc Try.prog (pcSmH n n' a b k) [true, false] = (some (.normal, St.mk [.ros 39 n (fun i => SHeld.c (a i)) false, .ros 39 n' (fun i => SHeld.c (b i)) false, .fn (.func 140) [] [], .any, .any, .any, .any, .any, .any, .any, .any, .any, .any, .any, .int .i64 ↑n, .int .i64 (↑(k + 1) : Int), .any, .any, .any, .any, .any, .any, .any, .any, .any, .any, .any, .any, .any, .any] [] 0 [], [decide ((↑k : Int) < (↑n : Int)) = true, (0 : Int) ≤ (↑k : Int) ∧ (↑k : Int) < (↑n : Int), (0 : Int) ≤ (↑k : Int) ∧ (↑k : Int) < (↑n' : Int), T Try.prog 140 [.agg [.bool (SBatch.noop (SHeld.batch (a (Int.toNat (↑k : Int))))), rq (SBatch.n (SHeld.batch (a (Int.toNat (↑k : Int))))) (SBatch.req (SHeld.batch (a (Int.toNat (↑k : Int))))), .int .i64 (SVote.kind (SCert.vote (SHeld.cert (a (Int.toNat (↑k : Int)))))), .int .i64 (SVote.epoch (SCert.vote (SHeld.cert (a (Int.toNat (↑k : Int)))))), .int .i64 (SVote.view (SCert.vote (SHeld.cert (a (Int.toNat (↑k : Int)))))), .int .i64 (SVote.slot (SCert.vote (SHeld.cert (a (Int.toNat (↑k : Int)))))), .seg .u8 32 (SVote.digest (SCert.vote (SHeld.cert (a (Int.toNat (↑k : Int)))))), sg (SCert.n (SHeld.cert (a (Int.toNat (↑k : Int))))) (SCert.sig (SHeld.cert (a (Int.toNat (↑k : Int)))))], .agg [.bool (SBatch.noop (SHeld.batch (b (Int.toNat (↑k : Int))))), rq (SBatch.n (SHeld.batch (b (Int.toNat (↑k : Int))))) (SBatch.req (SHeld.batch (b (Int.toNat (↑k : Int))))), .int .i64 (SVote.kind (SCert.vote (SHeld.cert (b (Int.toNat (↑k : Int)))))), .int .i64 (SVote.epoch (SCert.vote (SHeld.cert (b (Int.toNat (↑k : Int)))))), .int .i64 (SVote.view (SCert.vote (SHeld.cert (b (Int.toNat (↑k : Int)))))), .int .i64 (SVote.slot (SCert.vote (SHeld.cert (b (Int.toNat (↑k : Int)))))), .seg .u8 32 (SVote.digest (SCert.vote (SHeld.cert (b (Int.toNat (↑k : Int)))))), sg (SCert.n (SHeld.cert (b (Int.toNat (↑k : Int))))) (SCert.sig (SHeld.cert (b (Int.toNat (↑k : Int)))))]] [] (.bool (sameHeldS (a k) (b k))) [], (!sameHeldS (a k) (b k)) = false, InR IntKind.i64 ((↑k : Int) + (1 : Int)), q n, ∀ (k : Nat), k < n → SHeld.c (a k) = SHeld.c (a k), false = true → false = true, q (n'), ∀ (k : Nat), k < n' → SHeld.c (b k) = SHeld.c (b k), false = true → false = true, q (↑n : Int), (↑k : Int) + (1 : Int) = (↑(k + (1 : Nat)) : Int)]) : Option (Exit × St × List Prop)) := by kernel_rfl
theorem pcSmH_p0 (n : Nat) (n' : Nat) (a : Nat → SHeld) (b : Nat → SHeld) (k : Nat) :
  alongPc Try.prog (pcSmH n n' a b k) [false] = (some (.exit 0, St.mk [.ros 39 n (fun i => SHeld.c (a i)) false, .ros 39 n' (fun i => SHeld.c (b i)) false, .fn (.func 140) [] [], .any, .any, .any, .any, .any, .any, .any, .any, .any, .any, .any, .int .i64 ↑n, .int .i64 ↑n, .any, .any, .any, .any, .any, .any, .any, .any, .any, .any, .any, .any, .any, .any] [] 0 [], [decide ((↑k : Int) < (↑n : Int)) = false, q n, ∀ (k : Nat), k < n → SHeld.c (a k) = SHeld.c (a k), false = true → false = true, q (n'), ∀ (k : Nat), k < n' → SHeld.c (b k) = SHeld.c (b k), false = true → false = true, q (↑n : Int), (↑k : Int) = (↑n : Int)]) : Option (Exit × St × List Prop)) := by kernel_rfl

theorem reqEq_neg {a b : SReq} (h : reqEq a b = true) : a.client = b.client ∧ a.num = b.num ∧ a.data = b.data ∧ a.tag = b.tag := by
 simpa [reqEq] using h
theorem reqEq_neg' {a b : SReq} (h : ¬ reqEq a b = true) : (!(decide (a.client = b.client) && (decide (a.num = b.num) && (decide (a.data = b.data) && (decide (a.tag = b.tag) && true))))) = true := by
 rw [Bool.not_eq_true']; exact Bool.eq_false_iff.mpr h
theorem T_sq {n n' : Nat} (a b : Nat → SReq) (hn : n ≤ 1000000) : T Try.prog 138 [rq n a, rq n' b] [] (.bool (sameL n n' (fun i => reqEq (a i) (b i)))) [] := by
 by_cases hnn : n = n'
 ·subst hnn
  have step : ∀ k, k < n → reqEq (a k) (b k) = true → R Try.prog none 0 (cB (cB (cR (cL (cR (cR (bodyOf Try.f138))))))) (sqI (rq n a) (rq n b) n k) .normal (sqI (rq n a) (rq n b) n (k + 1)) := fun k hk hp => by
   refine R_alongPc NG MO _ (pcSq_p10 n n a b k) ?_ (Nat.zero_le _)
   simp only [All, Int.toNat_natCast]
   and_intros
   all_goals first
    | (simp [hk, reqEq_neg hp, IntKind.min, IntKind.max, IntKind.signed, IntKind.bits] <;> omega)
  obtain ⟨m, h1, h2, h3⟩ := stop_at (fun k => reqEq (a k) (b k) = true) n
  by_cases hmn : m = n
  ·subst hmn
   refine T.bool (T_al (bdSq_p01 m m a b m) Try.func138 ⟨by simp, RLoop.inv (sqI (rq m a) (rq m b) m) m (fun k hk => step k hk (h2 k hk)) (R_alongPc NG MO _ (pcSq_p0 m m a b m) (by simp [All]) (Nat.zero_le _)) (by simp), ?_⟩) (by simp [sameL]; exact h2)
   simp [All]
  ·have hm' : m < n := by omega
   have h3 := h3.resolve_left hmn
   have bad : R Try.prog none 0 (cB (cB (cR (cL (cR (cR (bodyOf Try.f138))))))) (sqI (rq n a) (rq n b) n m) .ret (smF 4 26) := by
    refine R_alongPc NG MO _ (pcSq_p11 n n a b m) ?_ (Nat.zero_le _)
    simp only [All, Int.toNat_natCast]
    and_intros
    all_goals first
     | exact reqEq_neg' h3
     | (simp [hm'] <;> omega)
   refine T.bool (T_al (bdSq_p00 n n a b m) Try.func138 ⟨by simp, RLoop.inv (sqI (rq n a) (rq n b) n) m (fun k hk => step k (by omega) (h2 k hk)) bad (by simp), ?_⟩) (by
    have : ¬ ∀ i, i < n → reqEq (a i) (b i) = true := fun h => h3 (h m hm')
    simp only [sameL, this, decide_false, Bool.and_false])
   simp [All]
 ·exact T.bool (T_al (bdSq_p1 n n' a b 0) Try.func138 ⟨by simp <;> omega, trivial⟩) (by simp [sameL, hnn])
theorem T_eqS (a b : SSign) : T Try.prog 115 [.agg a.c, .agg b.c] [] (.bool (signEq a b)) [] :=
 T_along NG MO _ (bdEqS_p a b) Try.func115 (by kernel_rfl) trivial (pinH_ok (by kernel_rfl)) (by kernel_rfl)
theorem T_eqE (a b : SEnv) : T Try.prog 112 [.agg a.c, .agg b.c] [] (.bool (envEq a b)) [] :=
 T_along NG MO _ (bdEqE_p a b) Try.func112 (by kernel_rfl) trivial (pinH_ok (by kernel_rfl)) (by kernel_rfl)
theorem T_smS {n n' : Nat} (a b : Nat → SSign) (hn : n ≤ 1000000) : T Try.prog 114 [sg n a, sg n' b, .fn (.func 115) [] []] [] (.bool (sameL n n' (fun i => signEq (a i) (b i)))) [] := by
 by_cases hnn : n = n'
 ·subst hnn
  have step : ∀ k, k < n → signEq (a k) (b k) = true → R Try.prog none 0 (cB (cB (cR (cL (cR (cR (bodyOf Try.f114))))))) (smI (sg n a) (sg n b) n 115 k) .normal (smI (sg n a) (sg n b) n 115 (k + 1)) := fun k hk hp => by
   refine R_alongPc NG MO _ (pcSmS_p10 n n a b k) ?_ (Nat.zero_le _)
   simp only [All, Int.toNat_natCast]
   and_intros
   all_goals first
    | exact T_eqS (a k) (b k)
    | (simp [hk, hp, IntKind.min, IntKind.max, IntKind.signed, IntKind.bits] <;> omega)
  obtain ⟨m, h1, h2, h3⟩ := stop_at (fun k => signEq (a k) (b k) = true) n
  by_cases hmn : m = n
  ·subst hmn
   refine T.bool (T_al (bdSmS_p01 m m a b m) Try.func114 ⟨by simp, RLoop.inv (smI (sg m a) (sg m b) m 115) m (fun k hk => step k hk (h2 k hk)) (R_alongPc NG MO _ (pcSmS_p0 m m a b m) (by simp [All]) (Nat.zero_le _)) (by simp), ?_⟩) (by simp [sameL]; exact h2)
   simp [All]
  ·have hm' : m < n := by omega
   have h3 := h3.resolve_left hmn
   have bad : R Try.prog none 0 (cB (cB (cR (cL (cR (cR (bodyOf Try.f114))))))) (smI (sg n a) (sg n b) n 115 m) .ret (smF 6 30) := by
    refine R_alongPc NG MO _ (pcSmS_p11 n n a b m) ?_ (Nat.zero_le _)
    simp only [All, Int.toNat_natCast]
    and_intros
    all_goals first
     | exact T_eqS (a m) (b m)
     | (simp [hm', h3] <;> omega)
   refine T.bool (T_al (bdSmS_p00 n n a b m) Try.func114 ⟨by simp, RLoop.inv (smI (sg n a) (sg n b) n 115) m (fun k hk => step k (by omega) (h2 k hk)) bad (by simp), ?_⟩) (by
    have : ¬ ∀ i, i < n → signEq (a i) (b i) = true := fun h => h3 (h m hm')
    simp only [sameL, this, decide_false, Bool.and_false])
   simp [All]
 ·exact T.bool (T_al (bdSmS_p1 n n' a b 0) Try.func114 ⟨by simp <;> omega, trivial⟩) (by simp [sameL, hnn])
theorem T_smE {n n' : Nat} (a b : Nat → SEnv) (hn : n ≤ 1000000) : T Try.prog 111 [nw n a, nw n' b, .fn (.func 112) [] []] [] (.bool (sameL n n' (fun i => envEq (a i) (b i)))) [] := by
 by_cases hnn : n = n'
 ·subst hnn
  have step : ∀ k, k < n → envEq (a k) (b k) = true → R Try.prog none 0 (cB (cB (cR (cL (cR (cR (bodyOf Try.f111))))))) (smI (nw n a) (nw n b) n 112 k) .normal (smI (nw n a) (nw n b) n 112 (k + 1)) := fun k hk hp => by
   refine R_alongPc NG MO _ (pcSmE_p10 n n a b k) ?_ (Nat.zero_le _)
   simp only [All, Int.toNat_natCast]
   and_intros
   all_goals first
    | exact T_eqE (a k) (b k)
    | (simp [hk, hp, IntKind.min, IntKind.max, IntKind.signed, IntKind.bits] <;> omega)
  obtain ⟨m, h1, h2, h3⟩ := stop_at (fun k => envEq (a k) (b k) = true) n
  by_cases hmn : m = n
  ·subst hmn
   refine T.bool (T_al (bdSmE_p01 m m a b m) Try.func111 ⟨by simp, RLoop.inv (smI (nw m a) (nw m b) m 112) m (fun k hk => step k hk (h2 k hk)) (R_alongPc NG MO _ (pcSmE_p0 m m a b m) (by simp [All]) (Nat.zero_le _)) (by simp), ?_⟩) (by simp [sameL]; exact h2)
   simp [All]
  ·have hm' : m < n := by omega
   have h3 := h3.resolve_left hmn
   have bad : R Try.prog none 0 (cB (cB (cR (cL (cR (cR (bodyOf Try.f111))))))) (smI (nw n a) (nw n b) n 112 m) .ret (smF 6 30) := by
    refine R_alongPc NG MO _ (pcSmE_p11 n n a b m) ?_ (Nat.zero_le _)
    simp only [All, Int.toNat_natCast]
    and_intros
    all_goals first
     | exact T_eqE (a m) (b m)
     | (simp [hm', h3] <;> omega)
   refine T.bool (T_al (bdSmE_p00 n n a b m) Try.func111 ⟨by simp, RLoop.inv (smI (nw n a) (nw n b) n 112) m (fun k hk => step k (by omega) (h2 k hk)) bad (by simp), ?_⟩) (by
    have : ¬ ∀ i, i < n → envEq (a i) (b i) = true := fun h => h3 (h m hm')
    simp only [sameL, this, decide_false, Bool.and_false])
   simp [All]
 ·exact T.bool (T_al (bdSmE_p1 n n' a b 0) Try.func111 ⟨by simp <;> omega, trivial⟩) (by simp [sameL, hnn])
theorem T_bS (a b : SBatch) (hn : a.n ≤ 1000000) : T Try.prog 109 [.agg a.c, .agg b.c] [] (.bool (sameBatchS a b)) [] := by
 by_cases h1 : (a.noop == b.noop) = true
 ·
  refine T.bool (T_al (bdBS_p1 a b) Try.func109 ?_) (by simp [sameBatchS, h1] <;> omega)
  simp only [All]
  and_intros
  all_goals first
   | exact T_sq a.req b.req hn
   | (simp [h1]; done)
   | exact h1
   | exact Bool.eq_false_iff.mpr h1
 ·
  refine T.bool (T_al (bdBS_p0 a b) Try.func109 ?_) (by simp [sameBatchS, h1] <;> omega)
  simp only [All]
  and_intros
  all_goals first
   | exact T_sq a.req b.req hn
   | (simp [h1]; done)
   | exact h1
   | exact Bool.eq_false_iff.mpr h1
theorem T_cS (a b : SCert) (hn : a.n ≤ 1000000) : T Try.prog 113 [.agg a.c, .agg b.c] [] (.bool (sameCertS a b)) [] := by
 by_cases h1 : voteEq a.vote b.vote = true
 ·
  refine T.bool (T_al (bdCS_p1 a b) Try.func113 ?_) (by simp [sameCertS, h1] <;> omega)
  simp only [All]
  and_intros
  all_goals first
   | exact T_smS a.sig b.sig hn
   | (simp [h1]; done)
   | exact h1
   | exact Bool.eq_false_iff.mpr h1
 ·
  refine T.bool (T_al (bdCS_p0 a b) Try.func113 ?_) (by simp [sameCertS, h1] <;> omega)
  simp only [All]
  and_intros
  all_goals first
   | exact T_smS a.sig b.sig hn
   | (simp [h1]; done)
   | exact h1
   | exact Bool.eq_false_iff.mpr h1
theorem T_hS (a b : SHeld) (h1n : a.batch.n ≤ 1000000) (h2n : a.cert.n ≤ 1000000) : T Try.prog 140 [.agg a.c, .agg b.c] [] (.bool (sameHeldS a b)) [] := by
 by_cases h1 : sameBatchS a.batch b.batch = true
 ·
  refine T.bool (T_al (bdHS_p1 a b) Try.func140 ?_) (by simp [sameHeldS, h1] <;> omega)
  simp only [All]
  and_intros
  all_goals first
   | exact T_bS a.batch b.batch h1n
   | exact T_cS a.cert b.cert h2n
   | (simp [h1]; done)
   | exact h1
   | exact Bool.eq_false_iff.mpr h1
 ·
  refine T.bool (T_al (bdHS_p0 a b) Try.func140 ?_) (by simp [sameHeldS, h1] <;> omega)
  simp only [All]
  and_intros
  all_goals first
   | exact T_bS a.batch b.batch h1n
   | exact T_cS a.cert b.cert h2n
   | (simp [h1]; done)
   | exact h1
   | exact Bool.eq_false_iff.mpr h1
theorem T_smH {n n' : Nat} (a b : Nat → SHeld) (hn : n ≤ 1000000) (hb : ∀ k, k < n → (a k).batch.n ≤ 1000000 ∧ (a k).cert.n ≤ 1000000) : T Try.prog 139 [hl n a, hl n' b, .fn (.func 140) [] []] [] (.bool (sameL n n' (fun i => sameHeldS (a i) (b i)))) [] := by
 by_cases hnn : n = n'
 ·subst hnn
  have step : ∀ k, k < n → sameHeldS (a k) (b k) = true → R Try.prog none 0 (cB (cB (cR (cL (cR (cR (bodyOf Try.f139))))))) (smI (hl n a) (hl n b) n 140 k) .normal (smI (hl n a) (hl n b) n 140 (k + 1)) := fun k hk hp => by
   refine R_alongPc NG MO _ (pcSmH_p10 n n a b k) ?_ (Nat.zero_le _)
   simp only [All, Int.toNat_natCast]
   and_intros
   all_goals first
    | exact T_hS (a k) (b k) (hb k hk).1 (hb k hk).2
    | (simp [hk, hp, IntKind.min, IntKind.max, IntKind.signed, IntKind.bits] <;> omega)
  obtain ⟨m, h1, h2, h3⟩ := stop_at (fun k => sameHeldS (a k) (b k) = true) n
  by_cases hmn : m = n
  ·subst hmn
   refine T.bool (T_al (bdSmH_p01 m m a b m) Try.func139 ⟨by simp, RLoop.inv (smI (hl m a) (hl m b) m 140) m (fun k hk => step k hk (h2 k hk)) (R_alongPc NG MO _ (pcSmH_p0 m m a b m) (by simp [All]) (Nat.zero_le _)) (by simp), ?_⟩) (by simp [sameL]; exact h2)
   simp [All]
  ·have hm' : m < n := by omega
   have h3 := h3.resolve_left hmn
   have bad : R Try.prog none 0 (cB (cB (cR (cL (cR (cR (bodyOf Try.f139))))))) (smI (hl n a) (hl n b) n 140 m) .ret (smF 6 30) := by
    refine R_alongPc NG MO _ (pcSmH_p11 n n a b m) ?_ (Nat.zero_le _)
    simp only [All, Int.toNat_natCast]
    and_intros
    all_goals first
     | exact T_hS (a m) (b m) (hb m hm').1 (hb m hm').2
     | (simp [hm', h3] <;> omega)
   refine T.bool (T_al (bdSmH_p00 n n a b m) Try.func139 ⟨by simp, RLoop.inv (smI (hl n a) (hl n b) n 140) m (fun k hk => step k (by omega) (h2 k hk)) bad (by simp), ?_⟩) (by
    have : ¬ ∀ i, i < n → sameHeldS (a i) (b i) = true := fun h => h3 (h m hm')
    simp only [sameL, this, decide_false, Bool.and_false])
   simp [All]
 ·exact T.bool (T_al (bdSmH_p1 n n' a b 0) Try.func139 ⟨by simp <;> omega, trivial⟩) (by simp [sameL, hnn])
theorem T_gS (a b : SMsg) (hn : a.nheld ≤ 1000000) (hb : ∀ k, k < a.nheld → (a.held k).batch.n ≤ 1000000 ∧ (a.held k).cert.n ≤ 1000000) : T Try.prog 110 [.agg (chC a), .agg (chC b)] [] (.bool (sameChangeS a b)) [] := by
 by_cases h1 : a.cepoch = b.cepoch
 ·
  by_cases h2 : a.cleader = b.cleader
  ·
   by_cases h3 : a.cview = b.cview
   ·
    refine T.bool (T_al (bdGS_p111 a b) Try.func110 ?_) (by simp [sameChangeS, h1, h2, h3] <;> omega)
    simp only [All]
    and_intros
    all_goals first
     | exact T_smH a.held b.held hn hb
     | (simp [h1, h2, h3]; done)
     | exact h1
     | exact Bool.eq_false_iff.mpr h1
     | exact h2
     | exact Bool.eq_false_iff.mpr h2
     | exact h3
     | exact Bool.eq_false_iff.mpr h3
   ·
    refine T.bool (T_al (bdGS_p110 a b) Try.func110 ?_) (by simp [sameChangeS, h1, h2, h3] <;> omega)
    simp only [All]
    and_intros
    all_goals first
     | exact T_smH a.held b.held hn hb
     | (simp [h1, h2, h3]; done)
     | exact h1
     | exact Bool.eq_false_iff.mpr h1
     | exact h2
     | exact Bool.eq_false_iff.mpr h2
     | exact h3
     | exact Bool.eq_false_iff.mpr h3
  ·
   refine T.bool (T_al (bdGS_p100 a b) Try.func110 ?_) (by simp [sameChangeS, h1, h2] <;> omega)
   simp only [All]
   and_intros
   all_goals first
    | exact T_smH a.held b.held hn hb
    | (simp [h1, h2]; done)
    | exact h1
    | exact Bool.eq_false_iff.mpr h1
    | exact h2
    | exact Bool.eq_false_iff.mpr h2
 ·
  refine T.bool (T_al (bdGS_p000 a b) Try.func110 ?_) (by simp [sameChangeS, h1] <;> omega)
  simp only [All]
  and_intros
  all_goals first
   | exact T_smH a.held b.held hn hb
   | (simp [h1]; done)
   | exact h1
   | exact Bool.eq_false_iff.mpr h1
structure FitM (a : SMsg) : Prop where
 batch : a.batch.n ≤ 1000000
 nheld : a.nheld ≤ 1000000
 held : ∀ k, k < a.nheld → (a.held k).batch.n ≤ 1000000 ∧ (a.held k).cert.n ≤ 1000000
 nnews : a.nnews ≤ 1000000
 cert : a.cert.n ≤ 1000000
 n : a.n ≤ 1000000
theorem T_mS (a b : SMsg) (h : FitM a) : T Try.prog 71 [.agg a.c, .agg b.c] [] (.bool (sameMsgS a b)) [] := by
 by_cases h1 : a.kind = b.kind
 ·
  by_cases h2 : a.epoch = b.epoch
  ·
   by_cases h3 : a.leader = b.leader
   ·
    by_cases h4 : a.view = b.view
    ·
     by_cases h5 : a.slot = b.slot
     ·
      by_cases h6 : sameBatchS a.batch b.batch = true
      ·
       by_cases h7 : voteEq a.vote b.vote = true
       ·
        by_cases h8 : sameChangeS a b = true
        ·
         by_cases h9 : sameL a.nnews b.nnews (fun i => envEq (a.news i) (b.news i)) = true
         ·
          by_cases h10 : a.digest = b.digest
          ·
           by_cases h11 : sameCertS a.cert b.cert = true
           ·
            by_cases h12 : a.state = b.state
            ·
             refine T.bool (T_al (bdMM_p111111111111 a b) Try.func71 ?_) (by simp [sameMsgS, h1, h2, h3, h4, h5, h6, h7, h8, h9, h10, h11, h12] <;> omega)
             simp only [All]
             and_intros
             all_goals first
              | exact T_bS a.batch b.batch h.batch
              | exact T_gS a b h.nheld h.held
              | exact T_smE a.news b.news h.nnews
              | exact T_cS a.cert b.cert h.cert
              | exact T_smS a.sig b.sig h.n
              | (simp [h1, h2, h3, h4, h5, h6, h7, h8, h9, h10, h11, h12]; done)
              | exact h1
              | exact Bool.eq_false_iff.mpr h1
              | exact h2
              | exact Bool.eq_false_iff.mpr h2
              | exact h3
              | exact Bool.eq_false_iff.mpr h3
              | exact h4
              | exact Bool.eq_false_iff.mpr h4
              | exact h5
              | exact Bool.eq_false_iff.mpr h5
              | exact h6
              | exact Bool.eq_false_iff.mpr h6
              | exact h7
              | exact Bool.eq_false_iff.mpr h7
              | exact h8
              | exact Bool.eq_false_iff.mpr h8
              | exact h9
              | exact Bool.eq_false_iff.mpr h9
              | exact h10
              | exact Bool.eq_false_iff.mpr h10
              | exact h11
              | exact Bool.eq_false_iff.mpr h11
              | exact h12
              | exact Bool.eq_false_iff.mpr h12
            ·
             refine T.bool (T_al (bdMM_p111111111110 a b) Try.func71 ?_) (by simp [sameMsgS, h1, h2, h3, h4, h5, h6, h7, h8, h9, h10, h11, h12] <;> omega)
             simp only [All]
             and_intros
             all_goals first
              | exact T_bS a.batch b.batch h.batch
              | exact T_gS a b h.nheld h.held
              | exact T_smE a.news b.news h.nnews
              | exact T_cS a.cert b.cert h.cert
              | exact T_smS a.sig b.sig h.n
              | (simp [h1, h2, h3, h4, h5, h6, h7, h8, h9, h10, h11, h12]; done)
              | exact h1
              | exact Bool.eq_false_iff.mpr h1
              | exact h2
              | exact Bool.eq_false_iff.mpr h2
              | exact h3
              | exact Bool.eq_false_iff.mpr h3
              | exact h4
              | exact Bool.eq_false_iff.mpr h4
              | exact h5
              | exact Bool.eq_false_iff.mpr h5
              | exact h6
              | exact Bool.eq_false_iff.mpr h6
              | exact h7
              | exact Bool.eq_false_iff.mpr h7
              | exact h8
              | exact Bool.eq_false_iff.mpr h8
              | exact h9
              | exact Bool.eq_false_iff.mpr h9
              | exact h10
              | exact Bool.eq_false_iff.mpr h10
              | exact h11
              | exact Bool.eq_false_iff.mpr h11
              | exact h12
              | exact Bool.eq_false_iff.mpr h12
           ·
            refine T.bool (T_al (bdMM_p111111111100 a b) Try.func71 ?_) (by simp [sameMsgS, h1, h2, h3, h4, h5, h6, h7, h8, h9, h10, h11] <;> omega)
            simp only [All]
            and_intros
            all_goals first
             | exact T_bS a.batch b.batch h.batch
             | exact T_gS a b h.nheld h.held
             | exact T_smE a.news b.news h.nnews
             | exact T_cS a.cert b.cert h.cert
             | exact T_smS a.sig b.sig h.n
             | (simp [h1, h2, h3, h4, h5, h6, h7, h8, h9, h10, h11]; done)
             | exact h1
             | exact Bool.eq_false_iff.mpr h1
             | exact h2
             | exact Bool.eq_false_iff.mpr h2
             | exact h3
             | exact Bool.eq_false_iff.mpr h3
             | exact h4
             | exact Bool.eq_false_iff.mpr h4
             | exact h5
             | exact Bool.eq_false_iff.mpr h5
             | exact h6
             | exact Bool.eq_false_iff.mpr h6
             | exact h7
             | exact Bool.eq_false_iff.mpr h7
             | exact h8
             | exact Bool.eq_false_iff.mpr h8
             | exact h9
             | exact Bool.eq_false_iff.mpr h9
             | exact h10
             | exact Bool.eq_false_iff.mpr h10
             | exact h11
             | exact Bool.eq_false_iff.mpr h11
          ·
           refine T.bool (T_al (bdMM_p111111111000 a b) Try.func71 ?_) (by simp [sameMsgS, h1, h2, h3, h4, h5, h6, h7, h8, h9, h10] <;> omega)
           simp only [All]
           and_intros
           all_goals first
            | exact T_bS a.batch b.batch h.batch
            | exact T_gS a b h.nheld h.held
            | exact T_smE a.news b.news h.nnews
            | exact T_cS a.cert b.cert h.cert
            | exact T_smS a.sig b.sig h.n
            | (simp [h1, h2, h3, h4, h5, h6, h7, h8, h9, h10]; done)
            | exact h1
            | exact Bool.eq_false_iff.mpr h1
            | exact h2
            | exact Bool.eq_false_iff.mpr h2
            | exact h3
            | exact Bool.eq_false_iff.mpr h3
            | exact h4
            | exact Bool.eq_false_iff.mpr h4
            | exact h5
            | exact Bool.eq_false_iff.mpr h5
            | exact h6
            | exact Bool.eq_false_iff.mpr h6
            | exact h7
            | exact Bool.eq_false_iff.mpr h7
            | exact h8
            | exact Bool.eq_false_iff.mpr h8
            | exact h9
            | exact Bool.eq_false_iff.mpr h9
            | exact h10
            | exact Bool.eq_false_iff.mpr h10
         ·
          refine T.bool (T_al (bdMM_p111111110000 a b) Try.func71 ?_) (by simp [sameMsgS, h1, h2, h3, h4, h5, h6, h7, h8, h9] <;> omega)
          simp only [All]
          and_intros
          all_goals first
           | exact T_bS a.batch b.batch h.batch
           | exact T_gS a b h.nheld h.held
           | exact T_smE a.news b.news h.nnews
           | exact T_cS a.cert b.cert h.cert
           | exact T_smS a.sig b.sig h.n
           | (simp [h1, h2, h3, h4, h5, h6, h7, h8, h9]; done)
           | exact h1
           | exact Bool.eq_false_iff.mpr h1
           | exact h2
           | exact Bool.eq_false_iff.mpr h2
           | exact h3
           | exact Bool.eq_false_iff.mpr h3
           | exact h4
           | exact Bool.eq_false_iff.mpr h4
           | exact h5
           | exact Bool.eq_false_iff.mpr h5
           | exact h6
           | exact Bool.eq_false_iff.mpr h6
           | exact h7
           | exact Bool.eq_false_iff.mpr h7
           | exact h8
           | exact Bool.eq_false_iff.mpr h8
           | exact h9
           | exact Bool.eq_false_iff.mpr h9
        ·
         refine T.bool (T_al (bdMM_p111111100000 a b) Try.func71 ?_) (by simp [sameMsgS, h1, h2, h3, h4, h5, h6, h7, h8] <;> omega)
         simp only [All]
         and_intros
         all_goals first
          | exact T_bS a.batch b.batch h.batch
          | exact T_gS a b h.nheld h.held
          | exact T_smE a.news b.news h.nnews
          | exact T_cS a.cert b.cert h.cert
          | exact T_smS a.sig b.sig h.n
          | (simp [h1, h2, h3, h4, h5, h6, h7, h8]; done)
          | exact h1
          | exact Bool.eq_false_iff.mpr h1
          | exact h2
          | exact Bool.eq_false_iff.mpr h2
          | exact h3
          | exact Bool.eq_false_iff.mpr h3
          | exact h4
          | exact Bool.eq_false_iff.mpr h4
          | exact h5
          | exact Bool.eq_false_iff.mpr h5
          | exact h6
          | exact Bool.eq_false_iff.mpr h6
          | exact h7
          | exact Bool.eq_false_iff.mpr h7
          | exact h8
          | exact Bool.eq_false_iff.mpr h8
       ·
        refine T.bool (T_al (bdMM_p111111000000 a b) Try.func71 ?_) (by simp [sameMsgS, h1, h2, h3, h4, h5, h6, h7] <;> omega)
        simp only [All]
        and_intros
        all_goals first
         | exact T_bS a.batch b.batch h.batch
         | exact T_gS a b h.nheld h.held
         | exact T_smE a.news b.news h.nnews
         | exact T_cS a.cert b.cert h.cert
         | exact T_smS a.sig b.sig h.n
         | (simp [h1, h2, h3, h4, h5, h6, h7]; done)
         | exact h1
         | exact Bool.eq_false_iff.mpr h1
         | exact h2
         | exact Bool.eq_false_iff.mpr h2
         | exact h3
         | exact Bool.eq_false_iff.mpr h3
         | exact h4
         | exact Bool.eq_false_iff.mpr h4
         | exact h5
         | exact Bool.eq_false_iff.mpr h5
         | exact h6
         | exact Bool.eq_false_iff.mpr h6
         | exact h7
         | exact Bool.eq_false_iff.mpr h7
      ·
       refine T.bool (T_al (bdMM_p111110000000 a b) Try.func71 ?_) (by simp [sameMsgS, h1, h2, h3, h4, h5, h6] <;> omega)
       simp only [All]
       and_intros
       all_goals first
        | exact T_bS a.batch b.batch h.batch
        | exact T_gS a b h.nheld h.held
        | exact T_smE a.news b.news h.nnews
        | exact T_cS a.cert b.cert h.cert
        | exact T_smS a.sig b.sig h.n
        | (simp [h1, h2, h3, h4, h5, h6]; done)
        | exact h1
        | exact Bool.eq_false_iff.mpr h1
        | exact h2
        | exact Bool.eq_false_iff.mpr h2
        | exact h3
        | exact Bool.eq_false_iff.mpr h3
        | exact h4
        | exact Bool.eq_false_iff.mpr h4
        | exact h5
        | exact Bool.eq_false_iff.mpr h5
        | exact h6
        | exact Bool.eq_false_iff.mpr h6
     ·
      refine T.bool (T_al (bdMM_p111100000000 a b) Try.func71 ?_) (by simp [sameMsgS, h1, h2, h3, h4, h5] <;> omega)
      simp only [All]
      and_intros
      all_goals first
       | exact T_bS a.batch b.batch h.batch
       | exact T_gS a b h.nheld h.held
       | exact T_smE a.news b.news h.nnews
       | exact T_cS a.cert b.cert h.cert
       | exact T_smS a.sig b.sig h.n
       | (simp [h1, h2, h3, h4, h5]; done)
       | exact h1
       | exact Bool.eq_false_iff.mpr h1
       | exact h2
       | exact Bool.eq_false_iff.mpr h2
       | exact h3
       | exact Bool.eq_false_iff.mpr h3
       | exact h4
       | exact Bool.eq_false_iff.mpr h4
       | exact h5
       | exact Bool.eq_false_iff.mpr h5
    ·
     refine T.bool (T_al (bdMM_p111000000000 a b) Try.func71 ?_) (by simp [sameMsgS, h1, h2, h3, h4] <;> omega)
     simp only [All]
     and_intros
     all_goals first
      | exact T_bS a.batch b.batch h.batch
      | exact T_gS a b h.nheld h.held
      | exact T_smE a.news b.news h.nnews
      | exact T_cS a.cert b.cert h.cert
      | exact T_smS a.sig b.sig h.n
      | (simp [h1, h2, h3, h4]; done)
      | exact h1
      | exact Bool.eq_false_iff.mpr h1
      | exact h2
      | exact Bool.eq_false_iff.mpr h2
      | exact h3
      | exact Bool.eq_false_iff.mpr h3
      | exact h4
      | exact Bool.eq_false_iff.mpr h4
   ·
    refine T.bool (T_al (bdMM_p110000000000 a b) Try.func71 ?_) (by simp [sameMsgS, h1, h2, h3] <;> omega)
    simp only [All]
    and_intros
    all_goals first
     | exact T_bS a.batch b.batch h.batch
     | exact T_gS a b h.nheld h.held
     | exact T_smE a.news b.news h.nnews
     | exact T_cS a.cert b.cert h.cert
     | exact T_smS a.sig b.sig h.n
     | (simp [h1, h2, h3]; done)
     | exact h1
     | exact Bool.eq_false_iff.mpr h1
     | exact h2
     | exact Bool.eq_false_iff.mpr h2
     | exact h3
     | exact Bool.eq_false_iff.mpr h3
  ·
   refine T.bool (T_al (bdMM_p100000000000 a b) Try.func71 ?_) (by simp [sameMsgS, h1, h2] <;> omega)
   simp only [All]
   and_intros
   all_goals first
    | exact T_bS a.batch b.batch h.batch
    | exact T_gS a b h.nheld h.held
    | exact T_smE a.news b.news h.nnews
    | exact T_cS a.cert b.cert h.cert
    | exact T_smS a.sig b.sig h.n
    | (simp [h1, h2]; done)
    | exact h1
    | exact Bool.eq_false_iff.mpr h1
    | exact h2
    | exact Bool.eq_false_iff.mpr h2
 ·
  refine T.bool (T_al (bdMM_p000000000000 a b) Try.func71 ?_) (by simp [sameMsgS, h1] <;> omega)
  simp only [All]
  and_intros
  all_goals first
   | exact T_bS a.batch b.batch h.batch
   | exact T_gS a b h.nheld h.held
   | exact T_smE a.news b.news h.nnews
   | exact T_cS a.cert b.cert h.cert
   | exact T_smS a.sig b.sig h.n
   | (simp [h1]; done)
   | exact h1
   | exact Bool.eq_false_iff.mpr h1
end Go.Proofs.Ythifjamdfpjilaa
namespace Sy
open Go

variable {P : Program}
theorem sh_struct {d : Nat} {t : TypeId} {vs : List V} {fs : Array Field} (h : ShC P d t vs) (hu : P.underlying t = some (.struct fs)) : ∃ d', ShFs (ShC P d') fs.toList vs := by
 cases d with
 | zero => exact h.elim
 | succ d => rw [ShC, hu] at h; exact ⟨d, h⟩
theorem sh_slice {d : Nat} {t e : TypeId} {vs : List V} (h : ShC P d t vs) (hu : P.underlying t = some (.slice e)) : ∃ d' len f, vs = [.ros (P.cellsOf e) len f false] ∧ len ≤ maxLen ∧ ∀ i, i < len → ShC P d' e (f i) := by
 cases d with
 | zero => exact h.elim
 | succ d => rw [ShC, hu] at h; obtain ⟨len, f, h1, h2, h3⟩ := h; exact ⟨d, len, f, h1, h2, h3⟩
theorem sh_int {d : Nat} {t : TypeId} {vs : List V} {k : IntKind} (h : ShC P d t vs) (hu : P.underlying t = some (.int k)) : ∃ n, vs = [.int k n] ∧ InR k n := by
 cases d with
 | zero => exact h.elim
 | succ d => rw [ShC, hu] at h; exact h
theorem sh_bool {d : Nat} {t : TypeId} {vs : List V} (h : ShC P d t vs) (hu : P.underlying t = some .bool) : ∃ b, vs = [.bool b] := by
 cases d with
 | zero => exact h.elim
 | succ d => rw [ShC, hu] at h; exact h
theorem sh_str {d : Nat} {t : TypeId} {vs : List V} (h : ShC P d t vs) (hu : P.underlying t = some .string) : ∃ s : ByteArray, vs = [.str s] ∧ s.size ≤ maxLen := by
 cases d with
 | zero => exact h.elim
 | succ d => rw [ShC, hu] at h; exact h
theorem sh_arr {d : Nat} {t e : TypeId} {n : Nat} {k : IntKind} {vs : List V} (h : ShC P d t vs) (hu : P.underlying t = some (.array n e)) (he : P.underlying e = some (.int k)) : ∃ xs, vs = [.seg k n xs] ∧ xs.length = n ∧ ∀ x ∈ xs, InR k x := by
 cases d with
 | zero => exact h.elim
 | succ d =>
  rw [ShC, hu] at h
  obtain ⟨k', xs, h1, h2, h3, h4⟩ := h
  rw [he] at h1; cases h1
  exact ⟨xs, h2, h3, h4⟩

/-- What these cells are, those are too. -/
def CsLe (U : Imm) (a b : List V) : Prop := ∀ l, CsRel U Env.none a l → CsRel U Env.none b l
theorem CsLe.refl (U : Imm) (a : List V) : CsLe U a a := fun _ h => h
theorem CsLe.app {U : Imm} {a a' b b' : List V} (h1 : CsLe U a a') (h2 : CsLe U b b') : CsLe U (a ++ b) (a' ++ b') := fun l h => by
 obtain ⟨la, lb, rfl, h3, h4⟩ := CsRel_append.1 h
 exact CsRel_append.2 ⟨la, lb, rfl, h1 _ h3, h2 _ h4⟩
theorem VRel_ros {U : Imm} {ρ : Env} {es n : Nat} {f g : Nat → List V} {c : Bool} (h : ∀ i, i < n → CsLe U (f i) (g i)) {x : Value} (hx : VRel U ρ (.ros es n f c) x) : VRel U ρ (.ros es n g c) x := by
 rw [VRel] at hx ⊢
 obtain ⟨a, cp, h1, h2, h3, h4⟩ := hx
 refine ⟨a, cp, h1, h2, h3, fun i hi => ?_⟩
 obtain ⟨b, base, c0, g1, g2, l, g3, g4⟩ := h4 i hi
 exact ⟨b, base, c0, g1, g2, l, h i hi l g3, g4⟩
theorem CsLe.ros {U : Imm} {es n : Nat} {f g : Nat → List V} {c : Bool} (h : ∀ i, i < n → CsLe U (f i) (g i)) : CsLe U [.ros es n f c] [.ros es n g c] := fun l hl => by
 obtain ⟨x, r, rfl, h1, h2⟩ := (CsRel_one rfl).1 hl
 exact (CsRel_one rfl).2 ⟨x, r, rfl, VRel_ros h h1, h2⟩
/-- An argument that is one cell. -/
def oneT (P : Program) (t : TypeId) : Bool := match P.underlying t with
 | some .bool => true
 | some (.int _) => true
 | some .string => true
 | some (.slice _) => true
 | _ => false
theorem arg_one {W : World} {base : Nat} {t : TypeId} {v : Value} (h : Value.okWide P W .any base t v) (ho : oneT P t = true) : v.cells.toList = [v] := by
 unfold oneT at ho
 cases v <;> first | rfl | skip
 rename_i cs
 exfalso
 split at ho <;> first | (cases ho; done) | skip
 all_goals
  rename_i hu
  simp [Value.okWide, hu, Cell.okWide, Cell.ok] at h
theorem args_one {W : World} {base : Nat} {ps : Array TypeId} {args : Array Value} (hval : ∀ (j : Nat) t v, ps[j]? = some t → args[j]? = some v → Value.okWide P W .any base t v) {j : Nat} {t : TypeId} {v : Value} (h1 : ps[j]? = some t) (h2 : args[j]? = some v) (ho : oneT P t = true) : v.cells.toList = [v] :=
 arg_one (hval j t v h1 h2) ho
/-- An argument that is a struct. -/
theorem arg_struct {W : World} {base : Nat} {t : TypeId} {fs : Array Field} {v : Value} (h : Value.okWide P W .any base t v) (hu : P.underlying t = some (.struct fs)) : ∃ cs, v = .agg cs := by
 unfold Value.okWide at h
 rw [hu] at h
 obtain ⟨cs, h1, _⟩ := h
 exact ⟨cs, h1⟩
theorem args_struct {W : World} {base : Nat} {ps : Array TypeId} {args : Array Value} (hval : ∀ (j : Nat) t v, ps[j]? = some t → args[j]? = some v → Value.okWide P W .any base t v) {j : Nat} {t : TypeId} {fs : Array Field} {v : Value} (h1 : ps[j]? = some t) (h2 : args[j]? = some v) (hu : P.underlying t = some (.struct fs)) : ∃ cs, v = .agg cs :=
 arg_struct (hval j t v h1 h2) hu
theorem VRel_one {U : Imm} {u : V} {v : Value} (hu : u.cell = true) (hv : v.cells.toList = [v]) (h : CsRel U Env.none [u] v.cells.toList) : VRel U Env.none u v := by
 rw [hv] at h
 obtain ⟨x, l, h1, h2, h3⟩ := (CsRel_one hu).1 h
 cases h1
 exact h2
theorem VRel_agg {U : Imm} {vs : List V} {cs : Array Value} (h : CsRel U Env.none vs (Value.agg cs).cells.toList) : VRel U Env.none (.agg vs) (.agg cs) := by
 rw [VRel]; exact ⟨cs, rfl, h⟩
/-- Many at once. -/
theorem choose_fn {α : Type} [Inhabited α] {n : Nat} {p : Nat → α → Prop} (h : ∀ i, i < n → ∃ a, p i a) : ∃ f : Nat → α, ∀ i, i < n → p i (f i) := by
 classical
 refine ⟨fun i => if hi : i < n then Classical.choose (h i hi) else default, fun i hi => ?_⟩
 simp only [dif_pos hi]
 exact Classical.choose_spec (h i hi)
instance : Inhabited SSign := ⟨{}⟩
instance : Inhabited SReq := ⟨{}⟩
instance : Inhabited SRec := ⟨{}⟩
instance : Inhabited SHeld := ⟨{}⟩
instance : Inhabited SEnv := ⟨{}⟩
end Sy
namespace Sy
open Go

theorem first_bad (p : Nat → Prop) : ∀ n, (∀ k, k < n → p k) ∨ ∃ m, m < n ∧ (∀ k, k < m → p k) ∧ ¬ p m
 | 0 => .inl fun k h => absurd h (Nat.not_lt_zero k)
 | n + 1 => by
  rcases first_bad p n with h | ⟨m, h1, h2, h3⟩
  ·by_cases hp : p n
   ·exact .inl fun k hk => by
     rcases Nat.lt_or_ge k n with h1 | h1
     ·exact h k h1
     ·obtain rfl : k = n := by omega
      exact hp
   ·exact .inr ⟨n, Nat.lt_succ_self n, h, hp⟩
  ·exact .inr ⟨m, Nat.lt_succ_of_lt h1, h2, h3⟩
/-- A loop that goes on as long as something holds. -/
theorem loop_all {P : Program} {ro : Option Nat} {p : Nat} {c : Code} {I : Nat → St} {F : Nat → St} {e : Nat → Exit} {x : Exit} {G : St} {n : Nat} {q : Nat → Prop}
  (step : ∀ k, k < n → q k → R P ro p c (I k) .normal (I (k + 1))) (bad : ∀ k, k < n → ¬ q k → R P ro p c (I k) (e k) (F k)) (he : ∀ k, e k ≠ .normal) (out : R P ro p c (I n) x G) (hx : x ≠ .normal) :
  ((∀ k, k < n → q k) ∧ RLoop P ro p c (n + 1) (I 0) x G) ∨ ∃ m, m < n ∧ (∀ k, k < m → q k) ∧ ¬ q m ∧ RLoop P ro p c (m + 1) (I 0) (e m) (F m) := by
 rcases first_bad q n with h | ⟨m, h1, h2, h3⟩
 ·exact .inl ⟨h, RLoop.inv I n (fun k hk => step k hk (h k hk)) out hx⟩
 ·exact .inr ⟨m, h1, h2, h3, RLoop.inv I m (fun k hk => step k (by omega) (h2 k hk)) (bad m h1 h3) (he m)⟩
end Sy
namespace Sy
theorem neg_t {b : Bool} (h : b = true) : (!b) = false := by subst h; rfl
theorem neg_f {b : Bool} (h : ¬ b = true) : (!b) = true := by rw [Bool.eq_false_iff.mpr h]; rfl
theorem neg_f' {b : Bool} (h : b = false) : (!b) = true := by subst h; rfl
end Sy
namespace Sy
theorem not_t {b : Bool} (h : (!b) = true) : b = false := by cases b <;> simp_all
theorem not_f {b : Bool} (h : (!b) = false) : b = true := by cases b <;> simp_all
end Sy
namespace Sy
open Go
/-- What is known of the arguments may be more. -/
theorem T.args {P : Program} {f : FuncId} {args args' : List V} {pre : Heap} {val : V} {post : Heap} {cs : List Prop} (h : T P f args pre val post) (hl : leVs [] args' args = some cs) (hc : All cs) : T P f args' pre val post := by
 intro U ρ w xs hh ha hf
 exact h U ρ w xs hh (leVs_ok (Imm.le_refl U) (fun n b hb => absurd hb List.not_mem_nil) _ _ _ _ hl hc ha) hf
end Sy
namespace Go.Proofs.Ythifjamdfpjilaa
open Go Sy Go.Proofs
def s5I (a b : V) (nt k : Nat) : St := ⟨mkT nt [(0, a), (1, b), (5, .int .i64 k)], [], 0, []⟩
noncomputable def bdS5 (f : Func) (nt : Nat) (db : Nat → List V → Heap → Nat → List Cl) (a b : V) (n m : Nat) : Bd := { f := f, args := [a, b], kb := { db := db, lp := fun _ _ => [(True, .loop (n + 1) (wTo (s5I a b nt 0)) (.exit 0) (s5I a b nt n)), (True, .loop (m + 1) (wTo (s5I a b nt 0)) .ret (smF 4 nt))] } }
noncomputable def pcS5 (f : Func) (nt : Nat) (db : Nat → List V → Heap → Nat → List Cl) (a b : V) (n k : Nat) : Pc := { c := cB (cB (cR (cL (cR (cR (bodyOf f)))))), st := s5I a b nt k, kb := { db := db }, k := fun e _ => match e with
 | .normal => some (wTo (s5I a b nt (k + 1)))
 | .ret => some (wTo (smF 4 nt))
 | _ => some (wTo (s5I a b nt n)) }
noncomputable def bdRs (n n' : Nat) (a b : Nat → SSign) (m : Nat) : Bd := bdS5 Try.f70 26 (fun _ _ _ _ => []) (sg n a) (sg n' b) n m
noncomputable def pcRs (n n' : Nat) (a b : Nat → SSign) (k : Nat) : Pc := pcS5 Try.f70 26 (fun _ _ _ _ => []) (sg n a) (sg n' b) n k
def r7I (a b : SBatch) (k : Nat) : St := ⟨mkT 38 [(2, .ptr (.o 0) 0 0 0 0), (3, .ptr (.o 1) 0 0 0 0), (5, .int .i64 k)], [(.o 0, .flat a.c), (.o 1, .flat b.c)], 256, []⟩
noncomputable def bdRb (a b : SBatch) (m : Nat) : Bd := { f := Try.f67, args := [.agg a.c, .agg b.c], kb := { db := fun _ _ _ _ => [], lp := fun _ _ => [(True, .loop (a.n + 1) (wToS [(.o 1, .o 64)] (r7I a b 0)) (.exit 0) (r7I a b a.n)), (True, .loop (m + 1) (wToS [(.o 1, .o 64)] (r7I a b 0)) .ret (smF 4 38))] } }
noncomputable def pcRb (a b : SBatch) (k : Nat) : Pc := { c := cB (cB (cR (cL (cR (cR (bodyOf Try.f67)))))), st := r7I a b k, kb := kb0, k := fun e _ => match e with
 | .normal => some (wTo (r7I a b (k + 1)))
 | .ret => some (wTo (smF 4 38))
 | _ => some (wTo (r7I a b a.n)) }
noncomputable def bdRc (a b : SCert) : Bd := { f := Try.f69, args := [.agg a.c, .agg b.c], kb := { db := dbV [(70, .bool (sameL a.n b.n (fun i => signEq (a.sig i) (b.sig i))))] } }
end Go.Proofs.Ythifjamdfpjilaa
namespace Go.Proofs.Ythifjamdfpjilaa
open Go Sy Go.Proofs
theorem bdRs_p1 (n : Nat) (n' : Nat) (a : Nat → SSign) (b : Nat → SSign) (m : Nat) :
  along Try.prog (bdRs n n' a b m) [true] = (some (.bool false, [], [(!decide ((↑n : Int) = (↑n' : Int))) = true]) : Option (V × Heap × List Prop)) := by kernel_rfl
theorem bdRs_p01 (n : Nat) (n' : Nat) (a : Nat → SSign) (b : Nat → SSign) (m : Nat) :
  along Try.prog (bdRs n n' a b m) [false, true] = (some (.bool true, [], [(!decide ((↑n : Int) = (↑n' : Int))) = false, RLoop Try.prog none 0 (cB (cB (cR (cL (cR (cR (bodyOf (Bd.f (bdRs n n' a b m))))))))) (n + 1) (St.mk [.ros 17 n (fun i => SSign.c (a i)) false, .ros 17 n' (fun i => SSign.c (b i)) false, .any, .any, .any, .int .i64 0, .any, .any, .any, .any, .any, .any, .any, .any, .any, .any, .any, .any, .any, .any, .any, .any, .any, .any, .any, .any] [] 0 []) (.exit 0) (St.mk [.ros 17 n (fun i => SSign.c (a i)) false, .ros 17 n' (fun i => SSign.c (b i)) false, .any, .any, .any, .int .i64 ↑n, .any, .any, .any, .any, .any, .any, .any, .any, .any, .any, .any, .any, .any, .any, .any, .any, .any, .any, .any, .any] [] 0 []), q n, ∀ (k : Nat), k < n → SSign.c (a k) = SSign.c (a k), false = true → false = true, q (n'), ∀ (k : Nat), k < n' → SSign.c (b k) = SSign.c (b k), false = true → false = true, q1]) : Option (V × Heap × List Prop)) := by kernel_rfl
theorem bdRs_p00 (n : Nat) (n' : Nat) (a : Nat → SSign) (b : Nat → SSign) (m : Nat) :
  along Try.prog (bdRs n n' a b m) [false, false] = (some (.bool false, [], [(!decide ((↑n : Int) = (↑n' : Int))) = false, RLoop Try.prog none 0 (cB (cB (cR (cL (cR (cR (bodyOf (Bd.f (bdRs n n' a b m))))))))) (m + 1) (St.mk [.ros 17 n (fun i => SSign.c (a i)) false, .ros 17 n' (fun i => SSign.c (b i)) false, .any, .any, .any, .int .i64 0, .any, .any, .any, .any, .any, .any, .any, .any, .any, .any, .any, .any, .any, .any, .any, .any, .any, .any, .any, .any] [] 0 []) .ret (St.mk [.any, .any, .any, .any, .bool false, .any, .any, .any, .any, .any, .any, .any, .any, .any, .any, .any, .any, .any, .any, .any, .any, .any, .any, .any, .any, .any] [] 0 []), q n, ∀ (k : Nat), k < n → SSign.c (a k) = SSign.c (a k), false = true → false = true, q (n'), ∀ (k : Nat), k < n' → SSign.c (b k) = SSign.c (b k), false = true → false = true, q1]) : Option (V × Heap × List Prop)) := by kernel_rfl

theorem pcRs_p11 (n : Nat) (n' : Nat) (a : Nat → SSign) (b : Nat → SSign) (k : Nat) :
  alongPc Try.prog (pcRs n n' a b k) [true, true] = (some (.ret, St.mk [.any, .any, .any, .any, .bool false, .any, .any, .any, .any, .any, .any, .any, .any, .any, .any, .any, .any, .any, .any, .any, .any, .any, .any, .any, .any, .any] [] 0 [], [decide ((↑k : Int) < (↑n : Int)) = true, (0 : Int) ≤ (↑k : Int) ∧ (↑k : Int) < (↑n : Int), (0 : Int) ≤ (↑k : Int) ∧ (↑k : Int) < (↑n' : Int), (!(decide (SSign.node (a (Int.toNat (↑k : Int))) = SSign.node (b (Int.toNat (↑k : Int)))) && (decide (SSign.tag (a (Int.toNat (↑k : Int))) = SSign.tag (b (Int.toNat (↑k : Int)))) && true))) = true, q false]) : Option (Exit × St × List Prop)) := by kernel_rfl
theorem pcRs_p10 (n : Nat) (n' : Nat) (a : Nat → SSign) (b : Nat → SSign) (k : Nat) :
  alongPc Try.prog (pcRs n n' a b k) [true, false] = (some (.normal, St.mk [.ros 17 n (fun i => SSign.c (a i)) false, .ros 17 n' (fun i => SSign.c (b i)) false, .any, .any, .any, .int .i64 (↑(k + 1) : Int), .any, .any, .any, .any, .any, .any, .any, .any, .any, .any, .any, .any, .any, .any, .any, .any, .any, .any, .any, .any] [] 0 [], [decide ((↑k : Int) < (↑n : Int)) = true, (0 : Int) ≤ (↑k : Int) ∧ (↑k : Int) < (↑n : Int), (0 : Int) ≤ (↑k : Int) ∧ (↑k : Int) < (↑n' : Int), (!(decide (SSign.node (a (Int.toNat (↑k : Int))) = SSign.node (b (Int.toNat (↑k : Int)))) && (decide (SSign.tag (a (Int.toNat (↑k : Int))) = SSign.tag (b (Int.toNat (↑k : Int)))) && true))) = false, InR IntKind.i64 ((↑k : Int) + (1 : Int)), q n, ∀ (k : Nat), k < n → SSign.c (a k) = SSign.c (a k), false = true → false = true, q (n'), ∀ (k : Nat), k < n' → SSign.c (b k) = SSign.c (b k), false = true → false = true, (↑k : Int) + (1 : Int) = (↑(k + (1 : Nat)) : Int)]) : Option (Exit × St × List Prop)) := by kernel_rfl
theorem pcRs_p0 (n : Nat) (n' : Nat) (a : Nat → SSign) (b : Nat → SSign) (k : Nat) :
  alongPc Try.prog (pcRs n n' a b k) [false] = (some (.exit 0, St.mk [.ros 17 n (fun i => SSign.c (a i)) false, .ros 17 n' (fun i => SSign.c (b i)) false, .any, .any, .any, .int .i64 ↑n, .any, .any, .any, .any, .any, .any, .any, .any, .any, .any, .any, .any, .any, .any, .any, .any, .any, .any, .any, .any] [] 0 [], [decide ((↑k : Int) < (↑n : Int)) = false, q n, ∀ (k : Nat), k < n → SSign.c (a k) = SSign.c (a k), false = true → false = true, q (n'), ∀ (k : Nat), k < n' → SSign.c (b k) = SSign.c (b k), false = true → false = true, (↑k : Int) = (↑n : Int)]) : Option (Exit × St × List Prop)) := by kernel_rfl

theorem bdRb_p11 (a : SBatch) (b : SBatch) (m : Nat) :
  along Try.prog (bdRb a b m) [true, true] = (some (.bool false, [], [(!SBatch.noop a == SBatch.noop b) = true, q2]) : Option (V × Heap × List Prop)) := by kernel_rfl
theorem bdRb_p01 (a : SBatch) (b : SBatch) (m : Nat) :
  along Try.prog (bdRb a b m) [false, true] = (some (.bool false, [], [(!SBatch.noop a == SBatch.noop b) = false, (!decide ((↑(SBatch.n a) : Int) = (↑(SBatch.n b) : Int))) = true]) : Option (V × Heap × List Prop)) := by kernel_rfl
theorem bdRb_p001 (a : SBatch) (b : SBatch) (m : Nat) :
  along Try.prog (bdRb a b m) [false, false, true] = (some (.bool true, [], [(!SBatch.noop a == SBatch.noop b) = false, (!decide ((↑(SBatch.n a) : Int) = (↑(SBatch.n b) : Int))) = false, RLoop Try.prog none 0 (cB (cB (cR (cL (cR (cR (bodyOf (Bd.f (bdRb a b m))))))))) (SBatch.n a + 1) (St.mk [.any, .any, .ptr (.o 0) 0 0 0 0, .ptr (.o 1) 0 0 0 0, .any, .int .i64 0, .any, .any, .any, .any, .any, .any, .any, .any, .any, .any, .any, .any, .any, .any, .any, .any, .any, .any, .any, .any, .any, .any, .any, .any, .any, .any, .any, .any, .any, .any, .any, .any] [(.o 0, .flat (SBatch.c a)), (.o 1, .flat (SBatch.c b))] 256 []) (.exit 0) (St.mk [.any, .any, .ptr (.o 0) 0 0 0 0, .ptr (.o 1) 0 0 0 0, .any, .int .i64 (↑(SBatch.n a) : Int), .any, .any, .any, .any, .any, .any, .any, .any, .any, .any, .any, .any, .any, .any, .any, .any, .any, .any, .any, .any, .any, .any, .any, .any, .any, .any, .any, .any, .any, .any, .any, .any] [(.o 0, .flat (SBatch.c a)), (.o 1, .flat (SBatch.c b))] 256 []), q (SBatch.noop a), q (SBatch.n a), ∀ (k : Nat), k < SBatch.n a → SReq.c (SBatch.req a k) = SReq.c (SBatch.req a k), false = true → false = true, q (SBatch.noop b), q (SBatch.n b), ∀ (k : Nat), k < SBatch.n b → SReq.c (SBatch.req b k) = SReq.c (SBatch.req b k), false = true → false = true, q0, q0, q0, q0, q0, q0, q1]) : Option (V × Heap × List Prop)) := by kernel_rfl
theorem bdRb_p000 (a : SBatch) (b : SBatch) (m : Nat) :
  along Try.prog (bdRb a b m) [false, false, false] = (some (.bool false, [], [(!SBatch.noop a == SBatch.noop b) = false, (!decide ((↑(SBatch.n a) : Int) = (↑(SBatch.n b) : Int))) = false, RLoop Try.prog none 0 (cB (cB (cR (cL (cR (cR (bodyOf (Bd.f (bdRb a b m))))))))) (m + 1) (St.mk [.any, .any, .ptr (.o 0) 0 0 0 0, .ptr (.o 1) 0 0 0 0, .any, .int .i64 0, .any, .any, .any, .any, .any, .any, .any, .any, .any, .any, .any, .any, .any, .any, .any, .any, .any, .any, .any, .any, .any, .any, .any, .any, .any, .any, .any, .any, .any, .any, .any, .any] [(.o 0, .flat (SBatch.c a)), (.o 1, .flat (SBatch.c b))] 256 []) .ret (St.mk [.any, .any, .any, .any, .bool false, .any, .any, .any, .any, .any, .any, .any, .any, .any, .any, .any, .any, .any, .any, .any, .any, .any, .any, .any, .any, .any, .any, .any, .any, .any, .any, .any, .any, .any, .any, .any, .any, .any] [] 0 []), q (SBatch.noop a), q (SBatch.n a), ∀ (k : Nat), k < SBatch.n a → SReq.c (SBatch.req a k) = SReq.c (SBatch.req a k), false = true → false = true, q (SBatch.noop b), q (SBatch.n b), ∀ (k : Nat), k < SBatch.n b → SReq.c (SBatch.req b k) = SReq.c (SBatch.req b k), false = true → false = true, q0, q0, q0, q0, q0, q0, q1]) : Option (V × Heap × List Prop)) := by kernel_rfl

theorem pcRb_p11 (a : SBatch) (b : SBatch) (k : Nat) :
  alongPc Try.prog (pcRb a b k) [true, true] = (some (.ret, St.mk [.any, .any, .any, .any, .bool false, .any, .any, .any, .any, .any, .any, .any, .any, .any, .any, .any, .any, .any, .any, .any, .any, .any, .any, .any, .any, .any, .any, .any, .any, .any, .any, .any, .any, .any, .any, .any, .any, .any] [] 0 [], [decide ((↑k : Int) < (↑(SBatch.n a) : Int)) = true, (0 : Int) ≤ (↑k : Int) ∧ (↑k : Int) < (↑(SBatch.n a) : Int), (0 : Int) ≤ (↑k : Int) ∧ (↑k : Int) < (↑(SBatch.n b) : Int), (!(decide (SReq.client (SBatch.req a (Int.toNat (↑k : Int))) = SReq.client (SBatch.req b (Int.toNat (↑k : Int)))) && (decide (SReq.num (SBatch.req a (Int.toNat (↑k : Int))) = SReq.num (SBatch.req b (Int.toNat (↑k : Int)))) && (decide (SReq.data (SBatch.req a (Int.toNat (↑k : Int))) = SReq.data (SBatch.req b (Int.toNat (↑k : Int)))) && (decide (SReq.tag (SBatch.req a (Int.toNat (↑k : Int))) = SReq.tag (SBatch.req b (Int.toNat (↑k : Int)))) && true))))) = true, q false]) : Option (Exit × St × List Prop)) := by kernel_rfl
theorem pcRb_p10 (a : SBatch) (b : SBatch) (k : Nat) :
  alongPc Try.prog (pcRb a b k) [true, false] = (some (.normal, St.mk [.any, .any, .ptr (.o 0) 0 0 0 0, .ptr (.o 1) 0 0 0 0, .any, .int .i64 (↑(k + 1) : Int), .any, .any, .any, .any, .any, .any, .any, .any, .any, .any, .any, .any, .any, .any, .any, .any, .any, .any, .any, .any, .any, .any, .any, .any, .any, .any, .any, .any, .any, .any, .any, .any] [(.o 0, .flat (SBatch.c a)), (.o 1, .flat (SBatch.c b))] 256 [], [decide ((↑k : Int) < (↑(SBatch.n a) : Int)) = true, (0 : Int) ≤ (↑k : Int) ∧ (↑k : Int) < (↑(SBatch.n a) : Int), (0 : Int) ≤ (↑k : Int) ∧ (↑k : Int) < (↑(SBatch.n b) : Int), (!(decide (SReq.client (SBatch.req a (Int.toNat (↑k : Int))) = SReq.client (SBatch.req b (Int.toNat (↑k : Int)))) && (decide (SReq.num (SBatch.req a (Int.toNat (↑k : Int))) = SReq.num (SBatch.req b (Int.toNat (↑k : Int)))) && (decide (SReq.data (SBatch.req a (Int.toNat (↑k : Int))) = SReq.data (SBatch.req b (Int.toNat (↑k : Int)))) && (decide (SReq.tag (SBatch.req a (Int.toNat (↑k : Int))) = SReq.tag (SBatch.req b (Int.toNat (↑k : Int)))) && true))))) = false, InR IntKind.i64 ((↑k : Int) + (1 : Int)), q (SBatch.noop a), q (SBatch.n a), ∀ (k : Nat), k < SBatch.n a → SReq.c (SBatch.req a k) = SReq.c (SBatch.req a k), false = true → false = true, q (SBatch.noop b), q (SBatch.n b), ∀ (k : Nat), k < SBatch.n b → SReq.c (SBatch.req b k) = SReq.c (SBatch.req b k), false = true → false = true, q0, q0, q0, q0, q0, q0, (↑k : Int) + (1 : Int) = (↑(k + (1 : Nat)) : Int)]) : Option (Exit × St × List Prop)) := by kernel_rfl
theorem pcRb_p0 (a : SBatch) (b : SBatch) (k : Nat) :
  alongPc Try.prog (pcRb a b k) [false] = (some (.exit 0, St.mk [.any, .any, .ptr (.o 0) 0 0 0 0, .ptr (.o 1) 0 0 0 0, .any, .int .i64 (↑(SBatch.n a) : Int), .any, .any, .any, .any, .any, .any, .any, .any, .any, .any, .any, .any, .any, .any, .any, .any, .any, .any, .any, .any, .any, .any, .any, .any, .any, .any, .any, .any, .any, .any, .any, .any] [(.o 0, .flat (SBatch.c a)), (.o 1, .flat (SBatch.c b))] 256 [], [decide ((↑k : Int) < (↑(SBatch.n a) : Int)) = false, q (SBatch.noop a), q (SBatch.n a), ∀ (k : Nat), k < SBatch.n a → SReq.c (SBatch.req a k) = SReq.c (SBatch.req a k), false = true → false = true, q (SBatch.noop b), q (SBatch.n b), ∀ (k : Nat), k < SBatch.n b → SReq.c (SBatch.req b k) = SReq.c (SBatch.req b k), false = true → false = true, q0, q0, q0, q0, q0, q0, (↑k : Int) = (↑(SBatch.n a) : Int)]) : Option (Exit × St × List Prop)) := by kernel_rfl

theorem bdRc_p1 (a : SCert) (b : SCert) :
  along Try.prog (bdRc a b) [true] = (some (.bool (sameL (SCert.n a) (SCert.n b) fun i => signEq (SCert.sig a i) (SCert.sig b i)), [], [(decide (SVote.kind (SCert.vote a) = SVote.kind (SCert.vote b)) && (decide (SVote.epoch (SCert.vote a) = SVote.epoch (SCert.vote b)) && (decide (SVote.view (SCert.vote a) = SVote.view (SCert.vote b)) && (decide (SVote.slot (SCert.vote a) = SVote.slot (SCert.vote b)) && (decide (SVote.digest (SCert.vote a) = SVote.digest (SCert.vote b)) && true))))) = true, T Try.prog 70 [.ros 17 (SCert.n a) (fun i => SSign.c (SCert.sig a i)) false, .ros 17 (SCert.n b) (fun i => SSign.c (SCert.sig b i)) false] [] (.bool (sameL (SCert.n a) (SCert.n b) fun i => signEq (SCert.sig a i) (SCert.sig b i))) []]) : Option (V × Heap × List Prop)) := by kernel_rfl
theorem bdRc_p0 (a : SCert) (b : SCert) :
  along Try.prog (bdRc a b) [false] = (some (.bool false, [], [(decide (SVote.kind (SCert.vote a) = SVote.kind (SCert.vote b)) && (decide (SVote.epoch (SCert.vote a) = SVote.epoch (SCert.vote b)) && (decide (SVote.view (SCert.vote a) = SVote.view (SCert.vote b)) && (decide (SVote.slot (SCert.vote a) = SVote.slot (SCert.vote b)) && (decide (SVote.digest (SCert.vote a) = SVote.digest (SCert.vote b)) && true))))) = false]) : Option (V × Heap × List Prop)) := by kernel_rfl

theorem T_rs {n n' : Nat} (a b : Nat → SSign) (hn : n ≤ 1000000) : T Try.prog 70 [sg n a, sg n' b] [] (.bool (sameL n n' (fun i => signEq (a i) (b i)))) [] := by
 by_cases hnn : n = n'
 ·subst hnn
  rcases loop_all (P := Try.prog) (ro := none) (p := 0) (c := cB (cB (cR (cL (cR (cR (bodyOf Try.f70))))))) (I := s5I (sg n a) (sg n b) 26) (F := fun _ => smF 4 26) (e := fun _ => .ret) (q := fun k => signEq (a k) (b k) = true) (n := n)
   (fun k hk hq => by
    refine R_alongPc NG MO _ (pcRs_p10 n n a b k) ?_ (Nat.zero_le _)
    simp only [All, Int.toNat_natCast]; and_intros
    all_goals first
     | exact neg_t hq
     | (simp [hk, IntKind.min, IntKind.max, IntKind.signed, IntKind.bits] <;> omega))
   (fun k hk hq => by
    refine R_alongPc NG MO _ (pcRs_p11 n n a b k) ?_ (Nat.zero_le _)
    simp only [All, Int.toNat_natCast]; and_intros
    all_goals first
     | exact neg_f hq
     | (simp [hk, IntKind.min, IntKind.max, IntKind.signed, IntKind.bits] <;> omega))
   (by simp) (R_alongPc NG MO _ (pcRs_p0 n n a b n) (by simp [All]) (Nat.zero_le _)) (by simp) with ⟨h, hL⟩ | ⟨m, hm, _, hq, hL⟩
  ·refine T.bool (T_al (bdRs_p01 n n a b n) Try.func70 ⟨by simp, hL, ?_⟩) (by simp [sameL]; exact h)
   simp [All]
  ·refine T.bool (T_al (bdRs_p00 n n a b m) Try.func70 ⟨by simp, hL, ?_⟩) (by
    have : ¬ ∀ i, i < n → signEq (a i) (b i) = true := fun h => hq (h m hm)
    simp only [sameL, this, decide_false, Bool.and_false])
   simp [All]
 ·exact T.bool (T_al (bdRs_p1 n n' a b 0) Try.func70 ⟨by simp <;> omega, trivial⟩) (by simp [sameL, hnn])
theorem T_rb (a b : SBatch) (hn : a.n ≤ 1000000) : T Try.prog 67 [.agg a.c, .agg b.c] [] (.bool (sameBatchS a b)) [] := by
 rcases Bool.eq_false_or_eq_true (!a.noop == b.noop) with h0 | h0
 ·refine T.bool (T_al (bdRb_p11 a b 0) Try.func67 ?_) (by rw [Bool.not_eq_true'] at h0; simp only [sameBatchS, h0, Bool.false_and])
  simp only [All]; and_intros
  all_goals first
   | exact h0
   | rfl
   | trivial
 have h1 : (a.noop == b.noop) = true := by simpa using h0
 by_cases hnn : a.n = b.n
 ·rcases loop_all (P := Try.prog) (ro := none) (p := 0) (c := cB (cB (cR (cL (cR (cR (bodyOf Try.f67))))))) (I := r7I a b) (F := fun _ => smF 4 38) (e := fun _ => .ret) (q := fun k => reqEq (a.req k) (b.req k) = true) (n := a.n)
   (fun k hk hq => by
    refine R_alongPc NG MO _ (pcRb_p10 a b k) ?_ (Nat.zero_le _)
    simp only [All, Int.toNat_natCast]; and_intros
    all_goals first
     | exact neg_t hq
     | (simp [hk, IntKind.min, IntKind.max, IntKind.signed, IntKind.bits] <;> omega))
   (fun k hk hq => by
    refine R_alongPc NG MO _ (pcRb_p11 a b k) ?_ (Nat.zero_le _)
    simp only [All, Int.toNat_natCast]; and_intros
    all_goals first
     | exact neg_f hq
     | (simp [hk, IntKind.min, IntKind.max, IntKind.signed, IntKind.bits] <;> omega))
   (by simp) (R_alongPc NG MO _ (pcRb_p0 a b a.n) (by simp [All]) (Nat.zero_le _)) (by simp) with ⟨h, hL⟩ | ⟨m, hm, _, hq, hL⟩
  ·refine T.bool (T_al (bdRb_p001 a b 0) Try.func67 ?_) (by simp only [sameBatchS, sameL, h1, hnn, Bool.true_and, decide_true]; rw [← hnn]; exact (decide_eq_true h).symm)
   simp only [All]; and_intros
   all_goals first
    | exact h0
    | exact hL
    | (simp [hnn]; done)
  ·refine T.bool (T_al (bdRb_p000 a b m) Try.func67 ?_) (by
    have : ¬ ∀ i, i < a.n → reqEq (a.req i) (b.req i) = true := fun h => hq (h m hm)
    simp only [sameBatchS, sameL, this, decide_false, Bool.and_false])
   simp only [All]; and_intros
   all_goals first
    | exact h0
    | exact hL
    | (simp [hnn]; done)
 ·refine T.bool (T_al (bdRb_p01 a b 0) Try.func67 ?_) (by simp only [sameBatchS, sameL, hnn, decide_false, Bool.false_and, Bool.and_false])
  simp only [All]; and_intros
  all_goals first
   | exact h0
   | rfl
   | (simp <;> omega)
theorem T_rc (a b : SCert) (hn : a.n ≤ 1000000) : T Try.prog 69 [.agg a.c, .agg b.c] [] (.bool (sameCertS a b)) [] := by
 rcases Bool.eq_false_or_eq_true ((decide (SVote.kind (SCert.vote a) = SVote.kind (SCert.vote b)) && (decide (SVote.epoch (SCert.vote a) = SVote.epoch (SCert.vote b)) && (decide (SVote.view (SCert.vote a) = SVote.view (SCert.vote b)) && (decide (SVote.slot (SCert.vote a) = SVote.slot (SCert.vote b)) && (decide (SVote.digest (SCert.vote a) = SVote.digest (SCert.vote b)) && true)))))) with h1 | h1
 ·
  refine T.conv (T_al (bdRc_p1 a b) Try.func69 ?_) rfl rfl ?_ ?_
  ·simp only [All]; and_intros
   all_goals first
    | assumption
    | exact T_rs a.sig b.sig hn
    | trivial
    | rfl
    | (intro _ _; trivial)
    | (intro _ _; rfl)
    | (simp; done)
    | omega
  ·first | replace h1 := not_t h1 | replace h1 := not_f h1 | skip
   first | rfl | (congr 1; simp only [sameCertS, voteEq, h1, Bool.true_and, Bool.false_and, Bool.and_false]; done)
  ·rfl
 ·
  refine T.conv (T_al (bdRc_p0 a b) Try.func69 ?_) rfl rfl ?_ ?_
  ·simp only [All]; and_intros
   all_goals first
    | assumption
    | exact T_rs a.sig b.sig hn
    | trivial
    | rfl
    | (intro _ _; trivial)
    | (intro _ _; rfl)
    | (simp; done)
    | omega
  ·first | replace h1 := not_t h1 | replace h1 := not_f h1 | skip
   first | rfl | (congr 1; simp only [sameCertS, voteEq, h1, Bool.true_and, Bool.false_and, Bool.and_false]; done)
  ·rfl
end Go.Proofs.Ythifjamdfpjilaa
namespace Go.Proofs.Ythifjamdfpjilaa
open Go Sy Go.Proofs
def vote0 : SVote := { digest := z32 }
/-- A message with its kind alone. -/
def msg0 (k : Int) : SMsg := { kind := k, vote := vote0, digest := z32, cert := { vote := vote0 } }
def kOnly (r : SMsg) : Exit → St → Option W := fun _ st => some ⟨[], [(2, .set (.ptr (.o 64) 0 0 0 0))], [(.o 64, .set (.flat r.c))], none, st.next⟩
def o1 (m : SMsg) : SMsg := { msg0 m.kind with epoch := m.epoch, slot := m.slot, batch := m.batch }
def o2 (m : SMsg) : SMsg := { msg0 m.kind with vote := m.vote }
def o3 (m : SMsg) : SMsg := { msg0 m.kind with cepoch := m.cepoch, cleader := m.cleader, cview := m.cview, nheld := m.nheld, held := m.held }
def o4 (m : SMsg) : SMsg := { msg0 m.kind with epoch := m.epoch, leader := m.leader, view := m.view, nnews := m.nnews, news := m.news }
def o5 (m : SMsg) : SMsg := { msg0 m.kind with epoch := m.epoch, digest := m.digest }
def o6 (m : SMsg) : SMsg := { msg0 m.kind with epoch := m.epoch, slot := m.slot }
def o7 (m : SMsg) : SMsg := { msg0 m.kind with batch := m.batch, cert := m.cert }
def o8 (m : SMsg) : SMsg := { msg0 m.kind with state := m.state, n := m.n, sig := m.sig }
def o9 (m : SMsg) : SMsg := msg0 m.kind
def onlyS (m : SMsg) : SMsg :=
 if m.kind = 2 then o2 m else if m.kind = 3 then o3 m else if m.kind = 4 then o4 m else if m.kind = 5 then o5 m else
 if m.kind = 1 then o1 m else if m.kind = 6 then o6 m else if m.kind = 7 then o7 m else if m.kind = 8 then o8 m else o9 m
noncomputable def bdOnly (m r : SMsg) : Bd := { f := Try.f72, args := [.agg m.c], kb := kb0, k := kOnly r }
noncomputable def bdO1 (m : SMsg) : Bd := bdOnly m (o1 m)
noncomputable def bdO2 (m : SMsg) : Bd := bdOnly m (o2 m)
noncomputable def bdO3 (m : SMsg) : Bd := bdOnly m (o3 m)
noncomputable def bdO4 (m : SMsg) : Bd := bdOnly m (o4 m)
noncomputable def bdO5 (m : SMsg) : Bd := bdOnly m (o5 m)
noncomputable def bdO6 (m : SMsg) : Bd := bdOnly m (o6 m)
noncomputable def bdO7 (m : SMsg) : Bd := bdOnly m (o7 m)
noncomputable def bdO8 (m : SMsg) : Bd := bdOnly m (o8 m)
noncomputable def bdO9 (m : SMsg) : Bd := bdOnly m (o9 m)
noncomputable def bdGood (m o : SMsg) : Bd := { f := Try.f24, args := [.agg m.c], kb := { db := dbV [(72, .agg o.c), (71, .bool (sameMsgS m o)), (73, .bool (mayVoteS m.vote)), (74, .bool (mayCertS m.cert)), (76, .bool (mayBatchS m.batch)), (77, .bool (mayChangeS m)), (78, .bool (allS m.nnews 64 (fun i => mayEnvS (m.news i)))), (80, .bool (allS m.n 64 (fun i => maySignS (m.sig i))))] } }
def goodS (m : SMsg) : Bool := decide (1 ≤ m.kind) && (decide (m.kind ≤ 8) && (sameMsgS m (onlyS m) && ((!decide (m.kind = 2) || mayVoteS m.vote) && ((!decide (m.kind = 7) || mayCertS m.cert) && (uptoS m.epoch 1048576 && (uptoS m.slot 1099511627776 && (uptoS m.view 1099511627776 && (uptoS m.leader 64 && (mayBatchS m.batch && (mayChangeS m && (allS m.nnews 64 (fun i => mayEnvS (m.news i)) && (allS m.n 64 (fun i => maySignS (m.sig i)) && decide ((m.state.size : Int) ≤ 4194304)))))))))))))
end Go.Proofs.Ythifjamdfpjilaa
