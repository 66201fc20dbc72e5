/-
  Contracts and laws that the claim's theorem leans on, joined out of the texts Ta7 Ta8D Ta8 Ta5D (own work of this seat): Contracts: what is the same; Contracts: which messages may be; Contracts: which messages may be; Contracts: a message's bytes.
-/
import Derived.Test.YtnmccoincblecaaGreatC05
set_option linter.unusedVariables false
set_option linter.unusedSimpArgs false
set_option maxHeartbeats 1000000
namespace Go.Proofs.YtnmccoincblecaaGreat
open Go Sy Go.Proofs
theorem bdSq_p1 (n : Nat) (n' : Nat) (a : Nat → SReq) (b : Nat → SReq) (m : Nat) :
  along Tryz.prog (bdSq n n' a b m) [true] = (some (.bool false, [], [(!decide ((↑n : Int) = (↑n' : Int))) = true]) : Option (V × Heap × List Prop)) := by kernel_rfl
theorem bdSq_p01 (n : Nat) (n' : Nat) (a : Nat → SReq) (b : Nat → SReq) (m : Nat) :
  along Tryz.prog (bdSq n n' a b m) [false, true] = (some (.bool true, [], [(!decide ((↑n : Int) = (↑n' : Int))) = false, RLoop Tryz.prog none 0 (cB (cB (cR (cL (cR (cR (bodyOf (Bd.f (bdSq n n' a b m))))))))) (n + 1) (St.mk (mkT 26 [(0, .ros 19 n (fun i => SReq.c (a i)) false), (1, .ros 19 n' (fun i => SReq.c (b i)) false), (12, .int .i64 ↑n), (13, .int .i64 0)]) [] 0 []) (.exit 0) (St.mk (mkT 26 [(0, .ros 19 n (fun i => SReq.c (a i)) false), (1, .ros 19 n' (fun i => SReq.c (b i)) false), (12, .int .i64 ↑n), (13, .int .i64 ↑n)]) [] 0 []), q n, ∀ (k : Nat), k < n → SReq.c (a k) = SReq.c (a k), false = true → false = true, q (n'), ∀ (k : Nat), k < n' → SReq.c (b k) = SReq.c (b k), false = true → false = true, q (↑n : Int), q1]) : Option (V × Heap × List Prop)) := by kernel_rfl
theorem bdSq_p00 (n : Nat) (n' : Nat) (a : Nat → SReq) (b : Nat → SReq) (m : Nat) :
  along Tryz.prog (bdSq n n' a b m) [false, false] = (some (.bool false, [], [(!decide ((↑n : Int) = (↑n' : Int))) = false, RLoop Tryz.prog none 0 (cB (cB (cR (cL (cR (cR (bodyOf (Bd.f (bdSq n n' a b m))))))))) (m + 1) (St.mk (mkT 26 [(0, .ros 19 n (fun i => SReq.c (a i)) false), (1, .ros 19 n' (fun i => SReq.c (b i)) false), (12, .int .i64 ↑n), (13, .int .i64 0)]) [] 0 []) .ret (St.mk (mkT 26 [(4, .bool false)]) [] 0 []), q n, ∀ (k : Nat), k < n → SReq.c (a k) = SReq.c (a k), false = true → false = true, q (n'), ∀ (k : Nat), k < n' → SReq.c (b k) = SReq.c (b k), false = true → false = true, q (↑n : Int), q1]) : Option (V × Heap × List Prop)) := by kernel_rfl

theorem pcSq_p11 (n : Nat) (n' : Nat) (a : Nat → SReq) (b : Nat → SReq) (k : Nat) :
  alongPc Tryz.prog (pcSq n n' a b k) [true, true] = (some (.ret, St.mk (mkT 26 [(4, .bool false)]) [] 0 [], [decide ((↑k : Int) < (↑n : Int)) = true, (0 : Int) ≤ (↑k : Int) ∧ (↑k : Int) < (↑n : Int), (0 : Int) ≤ (↑k : Int) ∧ (↑k : Int) < (↑n' : Int), (!(decide (SReq.client (a (Int.toNat (↑k : Int))) = SReq.client (b (Int.toNat (↑k : Int)))) && (decide (SReq.num (a (Int.toNat (↑k : Int))) = SReq.num (b (Int.toNat (↑k : Int)))) && (decide (SReq.data (a (Int.toNat (↑k : Int))) = SReq.data (b (Int.toNat (↑k : Int)))) && (decide (SReq.tag (a (Int.toNat (↑k : Int))) = SReq.tag (b (Int.toNat (↑k : Int)))) && true))))) = true, q false]) : Option (Exit × St × List Prop)) := by kernel_rfl
theorem pcSq_p10 (n : Nat) (n' : Nat) (a : Nat → SReq) (b : Nat → SReq) (k : Nat) :
  alongPc Tryz.prog (pcSq n n' a b k) [true, false] = (some (.normal, St.mk (mkT 26 [(0, .ros 19 n (fun i => SReq.c (a i)) false), (1, .ros 19 n' (fun i => SReq.c (b i)) false), (12, .int .i64 ↑n), (13, .int .i64 (↑(k + 1) : Int))]) [] 0 [], [decide ((↑k : Int) < (↑n : Int)) = true, (0 : Int) ≤ (↑k : Int) ∧ (↑k : Int) < (↑n : Int), (0 : Int) ≤ (↑k : Int) ∧ (↑k : Int) < (↑n' : Int), (!(decide (SReq.client (a (Int.toNat (↑k : Int))) = SReq.client (b (Int.toNat (↑k : Int)))) && (decide (SReq.num (a (Int.toNat (↑k : Int))) = SReq.num (b (Int.toNat (↑k : Int)))) && (decide (SReq.data (a (Int.toNat (↑k : Int))) = SReq.data (b (Int.toNat (↑k : Int)))) && (decide (SReq.tag (a (Int.toNat (↑k : Int))) = SReq.tag (b (Int.toNat (↑k : Int)))) && true))))) = false, InR IntKind.i64 ((↑k : Int) + (1 : Int)), q n, ∀ (k : Nat), k < n → SReq.c (a k) = SReq.c (a k), false = true → false = true, q (n'), ∀ (k : Nat), k < n' → SReq.c (b k) = SReq.c (b k), false = true → false = true, q (↑n : Int), (↑k : Int) + (1 : Int) = (↑(k + (1 : Nat)) : Int)]) : Option (Exit × St × List Prop)) := by kernel_rfl
theorem pcSq_p0 (n : Nat) (n' : Nat) (a : Nat → SReq) (b : Nat → SReq) (k : Nat) :
  alongPc Tryz.prog (pcSq n n' a b k) [false] = (some (.exit 0, St.mk (mkT 26 [(0, .ros 19 n (fun i => SReq.c (a i)) false), (1, .ros 19 n' (fun i => SReq.c (b i)) false), (12, .int .i64 ↑n), (13, .int .i64 ↑n)]) [] 0 [], [decide ((↑k : Int) < (↑n : Int)) = false, q n, ∀ (k : Nat), k < n → SReq.c (a k) = SReq.c (a k), false = true → false = true, q (n'), ∀ (k : Nat), k < n' → SReq.c (b k) = SReq.c (b k), false = true → false = true, q (↑n : Int), (↑k : Int) = (↑n : Int)]) : Option (Exit × St × List Prop)) := by kernel_rfl

theorem bdEqS_p (a : SSign) (b : SSign) :
  along Tryz.prog (bdEqS a b) [] = (some (.bool (decide (SSign.node a = SSign.node b) && (decide (SSign.tag a = SSign.tag b) && true)), [], []) : Option (V × Heap × List Prop)) := by kernel_rfl

theorem bdEqE_p (a : SEnv) (b : SEnv) :
  along Tryz.prog (bdEqE a b) [] = (some (.bool (decide (SEnv.src a = SEnv.src b) && (decide (SEnv.body a = SEnv.body b) && (decide (SEnv.tag a = SEnv.tag b) && true))), [], []) : Option (V × Heap × List Prop)) := by kernel_rfl

theorem bdBS_p1 (a : SBatch) (b : SBatch) :
  along Tryz.prog (bdBS a b) [true] = (some (.bool (sameL (SBatch.n a) (SBatch.n b) fun i => reqEq (SBatch.req a i) (SBatch.req b i)), [], [(SBatch.noop a == SBatch.noop b) = true, T Tryz.prog 143 [.ros 19 (SBatch.n a) (fun i => SReq.c (SBatch.req a i)) false, .ros 19 (SBatch.n b) (fun i => SReq.c (SBatch.req b i)) false] [] (.bool (sameL (SBatch.n a) (SBatch.n b) fun i => reqEq (SBatch.req a i) (SBatch.req b i))) []]) : Option (V × Heap × List Prop)) := by kernel_rfl
theorem bdBS_p0 (a : SBatch) (b : SBatch) :
  along Tryz.prog (bdBS a b) [false] = (some (.bool false, [], [(SBatch.noop a == SBatch.noop b) = false]) : Option (V × Heap × List Prop)) := by kernel_rfl

theorem bdCS_p1 (a : SCert) (b : SCert) :
  along Tryz.prog (bdCS a b) [true] = (some (.bool (sameL (SCert.n a) (SCert.n b) fun i => signEq (SCert.sig a i) (SCert.sig b i)), [], [(decide (SVote.kind (SCert.vote a) = SVote.kind (SCert.vote b)) && (decide (SVote.epoch (SCert.vote a) = SVote.epoch (SCert.vote b)) && (decide (SVote.view (SCert.vote a) = SVote.view (SCert.vote b)) && (decide (SVote.slot (SCert.vote a) = SVote.slot (SCert.vote b)) && (decide (SVote.digest (SCert.vote a) = SVote.digest (SCert.vote b)) && true))))) = true, T Tryz.prog 129 [.ros 17 (SCert.n a) (fun i => SSign.c (SCert.sig a i)) false, .ros 17 (SCert.n b) (fun i => SSign.c (SCert.sig b i)) false, .fn (.func 130) [] []] [] (.bool (sameL (SCert.n a) (SCert.n b) fun i => signEq (SCert.sig a i) (SCert.sig b i))) []]) : Option (V × Heap × List Prop)) := by kernel_rfl
theorem bdCS_p0 (a : SCert) (b : SCert) :
  along Tryz.prog (bdCS a b) [false] = (some (.bool false, [], [(decide (SVote.kind (SCert.vote a) = SVote.kind (SCert.vote b)) && (decide (SVote.epoch (SCert.vote a) = SVote.epoch (SCert.vote b)) && (decide (SVote.view (SCert.vote a) = SVote.view (SCert.vote b)) && (decide (SVote.slot (SCert.vote a) = SVote.slot (SCert.vote b)) && (decide (SVote.digest (SCert.vote a) = SVote.digest (SCert.vote b)) && true))))) = false]) : Option (V × Heap × List Prop)) := by kernel_rfl

theorem bdHS_p1 (a : SHeld) (b : SHeld) :
  along Tryz.prog (bdHS a b) [true] = (some (.bool (sameCertS (SHeld.cert a) (SHeld.cert b)), [], [T Tryz.prog 124 [.agg (SBatch.c (SHeld.batch a)), .agg (SBatch.c (SHeld.batch b))] [] (.bool (sameBatchS (SHeld.batch a) (SHeld.batch b))) [], sameBatchS (SHeld.batch a) (SHeld.batch b) = true, T Tryz.prog 128 [.agg [.int .i64 (SVote.kind (SCert.vote (SHeld.cert a))), .int .i64 (SVote.epoch (SCert.vote (SHeld.cert a))), .int .i64 (SVote.view (SCert.vote (SHeld.cert a))), .int .i64 (SVote.slot (SCert.vote (SHeld.cert a))), .seg .u8 32 (SVote.digest (SCert.vote (SHeld.cert a))), sg (SCert.n (SHeld.cert a)) (SCert.sig (SHeld.cert a))], .agg [.int .i64 (SVote.kind (SCert.vote (SHeld.cert b))), .int .i64 (SVote.epoch (SCert.vote (SHeld.cert b))), .int .i64 (SVote.view (SCert.vote (SHeld.cert b))), .int .i64 (SVote.slot (SCert.vote (SHeld.cert b))), .seg .u8 32 (SVote.digest (SCert.vote (SHeld.cert b))), sg (SCert.n (SHeld.cert b)) (SCert.sig (SHeld.cert b))]] [] (.bool (sameCertS (SHeld.cert a) (SHeld.cert b))) []]) : Option (V × Heap × List Prop)) := by kernel_rfl
theorem bdHS_p0 (a : SHeld) (b : SHeld) :
  along Tryz.prog (bdHS a b) [false] = (some (.bool false, [], [T Tryz.prog 124 [.agg (SBatch.c (SHeld.batch a)), .agg (SBatch.c (SHeld.batch b))] [] (.bool (sameBatchS (SHeld.batch a) (SHeld.batch b))) [], sameBatchS (SHeld.batch a) (SHeld.batch b) = false]) : Option (V × Heap × List Prop)) := by kernel_rfl

theorem bdGS_p111 (a : SMsg) (b : SMsg) :
  along Tryz.prog (bdGS a b) [true, true, true] = (some (.bool (sameL (SMsg.nheld a) (SMsg.nheld b) fun i => sameHeldS (SMsg.held a i) (SMsg.held b i)), [], [decide (SMsg.cepoch a = SMsg.cepoch b) = true, decide (SMsg.cleader a = SMsg.cleader b) = true, decide (SMsg.cview a = SMsg.cview b) = true, T Tryz.prog 144 [.ros 39 (SMsg.nheld a) (fun i => SHeld.c (SMsg.held a i)) false, .ros 39 (SMsg.nheld b) (fun i => SHeld.c (SMsg.held b i)) false, .fn (.func 145) [] []] [] (.bool (sameL (SMsg.nheld a) (SMsg.nheld b) fun i => sameHeldS (SMsg.held a i) (SMsg.held b i))) []]) : Option (V × Heap × List Prop)) := by kernel_rfl
theorem bdGS_p110 (a : SMsg) (b : SMsg) :
  along Tryz.prog (bdGS a b) [true, true, false] = (some (.bool false, [], [decide (SMsg.cepoch a = SMsg.cepoch b) = true, decide (SMsg.cleader a = SMsg.cleader b) = true, decide (SMsg.cview a = SMsg.cview b) = false]) : Option (V × Heap × List Prop)) := by kernel_rfl
theorem bdGS_p100 (a : SMsg) (b : SMsg) :
  along Tryz.prog (bdGS a b) [true, false, false] = (some (.bool false, [], [decide (SMsg.cepoch a = SMsg.cepoch b) = true, decide (SMsg.cleader a = SMsg.cleader b) = false, q false]) : Option (V × Heap × List Prop)) := by kernel_rfl
theorem bdGS_p000 (a : SMsg) (b : SMsg) :
  along Tryz.prog (bdGS a b) [false, false, false] = (some (.bool false, [], [decide (SMsg.cepoch a = SMsg.cepoch b) = false, q false, q false]) : Option (V × Heap × List Prop)) := by kernel_rfl

noncomputable def bdMM_c (a : SMsg) (b : SMsg) : Nat → List Prop
 | 0 => [decide (SMsg.slot a = SMsg.slot b) = true, T Tryz.prog 124 [.agg (SBatch.c (SMsg.batch a)), .agg (SBatch.c (SMsg.batch b))] [] (.bool (sameBatchS (SMsg.batch a) (SMsg.batch b))) []]
 | 1 => [(decide (SVote.kind (SMsg.vote a) = SVote.kind (SMsg.vote b)) && (decide (SVote.epoch (SMsg.vote a) = SVote.epoch (SMsg.vote b)) && (decide (SVote.view (SMsg.vote a) = SVote.view (SMsg.vote b)) && (decide (SVote.slot (SMsg.vote a) = SVote.slot (SMsg.vote b)) && (decide (SVote.digest (SMsg.vote a) = SVote.digest (SMsg.vote b)) && true))))) = true, T Tryz.prog 125 [.agg [.int .i64 (SMsg.cepoch a), .int .i64 (SMsg.cleader a), .int .i64 (SMsg.cview a), hl (SMsg.nheld a) (SMsg.held a)], .agg [.int .i64 (SMsg.cepoch b), .int .i64 (SMsg.cleader b), .int .i64 (SMsg.cview b), hl (SMsg.nheld b) (SMsg.held b)]] [] (.bool (sameChangeS a b)) []]
 | 2 => [sameChangeS a b = true, T Tryz.prog 126 [.ros 18 (SMsg.nnews a) (fun i => SEnv.c (SMsg.news a i)) false, .ros 18 (SMsg.nnews b) (fun i => SEnv.c (SMsg.news b i)) false, .fn (.func 127) [] []] [] (.bool (sameL (SMsg.nnews a) (SMsg.nnews b) fun i => envEq (SMsg.news a i) (SMsg.news b i))) []]
 | 3 => [(sameL (SMsg.nnews a) (SMsg.nnews b) fun i => envEq (SMsg.news a i) (SMsg.news b i)) = true]
 | 4 => [decide (SMsg.digest a = SMsg.digest b) = true, T Tryz.prog 128 [.agg [.int .i64 (SVote.kind (SCert.vote (SMsg.cert a))), .int .i64 (SVote.epoch (SCert.vote (SMsg.cert a))), .int .i64 (SVote.view (SCert.vote (SMsg.cert a))), .int .i64 (SVote.slot (SCert.vote (SMsg.cert a))), .seg .u8 32 (SVote.digest (SCert.vote (SMsg.cert a))), sg (SCert.n (SMsg.cert a)) (SCert.sig (SMsg.cert a))], .agg [.int .i64 (SVote.kind (SCert.vote (SMsg.cert b))), .int .i64 (SVote.epoch (SCert.vote (SMsg.cert b))), .int .i64 (SVote.view (SCert.vote (SMsg.cert b))), .int .i64 (SVote.slot (SCert.vote (SMsg.cert b))), .seg .u8 32 (SVote.digest (SCert.vote (SMsg.cert b))), sg (SCert.n (SMsg.cert b)) (SCert.sig (SMsg.cert b))]] [] (.bool (sameCertS (SMsg.cert a) (SMsg.cert b))) []]
 | _ => []
theorem bdMM_p111111111111 (a : SMsg) (b : SMsg) :
 along Tryz.prog (bdMM a b) [true, true, true, true, true, true, true, true, true, true, true, true] = (some (.bool (sameL (SMsg.n a) (SMsg.n b) fun i => signEq (SMsg.sig a i) (SMsg.sig b i)), [], [decide (SMsg.kind a = SMsg.kind b) = true, decide (SMsg.epoch a = SMsg.epoch b) = true, decide (SMsg.leader a = SMsg.leader b) = true, decide (SMsg.view a = SMsg.view b) = true] ++ (bdMM_c a b 0 ++ ([sameBatchS (SMsg.batch a) (SMsg.batch b) = true] ++ (bdMM_c a b 1 ++ (bdMM_c a b 2 ++ (bdMM_c a b 3 ++ (bdMM_c a b 4 ++ [sameCertS (SMsg.cert a) (SMsg.cert b) = true, decide (SMsg.state a = SMsg.state b) = true, T Tryz.prog 129 [.ros 17 (SMsg.n a) (fun i => SSign.c (SMsg.sig a i)) false, .ros 17 (SMsg.n b) (fun i => SSign.c (SMsg.sig b i)) false, .fn (.func 130) [] []] [] (.bool (sameL (SMsg.n a) (SMsg.n b) fun i => signEq (SMsg.sig a i) (SMsg.sig b i))) []]))))))) : Option (V × Heap × List Prop)) := by kernel_rfl
theorem bdMM_p111111111110 (a : SMsg) (b : SMsg) :
 along Tryz.prog (bdMM a b) [true, true, true, true, true, true, true, true, true, true, true, false] = (some (.bool false, [], [decide (SMsg.kind a = SMsg.kind b) = true, decide (SMsg.epoch a = SMsg.epoch b) = true, decide (SMsg.leader a = SMsg.leader b) = true, decide (SMsg.view a = SMsg.view b) = true] ++ (bdMM_c a b 0 ++ ([sameBatchS (SMsg.batch a) (SMsg.batch b) = true] ++ (bdMM_c a b 1 ++ (bdMM_c a b 2 ++ (bdMM_c a b 3 ++ (bdMM_c a b 4 ++ [sameCertS (SMsg.cert a) (SMsg.cert b) = true, decide (SMsg.state a = SMsg.state b) = false]))))))) : Option (V × Heap × List Prop)) := by kernel_rfl
theorem bdMM_p111111111100 (a : SMsg) (b : SMsg) :
 along Tryz.prog (bdMM a b) [true, true, true, true, true, true, true, true, true, true, false, false] = (some (.bool false, [], [decide (SMsg.kind a = SMsg.kind b) = true, decide (SMsg.epoch a = SMsg.epoch b) = true, decide (SMsg.leader a = SMsg.leader b) = true, decide (SMsg.view a = SMsg.view b) = true] ++ (bdMM_c a b 0 ++ ([sameBatchS (SMsg.batch a) (SMsg.batch b) = true] ++ (bdMM_c a b 1 ++ (bdMM_c a b 2 ++ (bdMM_c a b 3 ++ (bdMM_c a b 4 ++ [sameCertS (SMsg.cert a) (SMsg.cert b) = false, q false]))))))) : Option (V × Heap × List Prop)) := by kernel_rfl
theorem bdMM_p111111111000 (a : SMsg) (b : SMsg) :
 along Tryz.prog (bdMM a b) [true, true, true, true, true, true, true, true, true, false, false, false] = (some (.bool false, [], [decide (SMsg.kind a = SMsg.kind b) = true, decide (SMsg.epoch a = SMsg.epoch b) = true, decide (SMsg.leader a = SMsg.leader b) = true, decide (SMsg.view a = SMsg.view b) = true] ++ (bdMM_c a b 0 ++ ([sameBatchS (SMsg.batch a) (SMsg.batch b) = true] ++ (bdMM_c a b 1 ++ (bdMM_c a b 2 ++ (bdMM_c a b 3 ++ [decide (SMsg.digest a = SMsg.digest b) = false, q false, q false])))))) : Option (V × Heap × List Prop)) := by kernel_rfl
theorem bdMM_p111111110000 (a : SMsg) (b : SMsg) :
 along Tryz.prog (bdMM a b) [true, true, true, true, true, true, true, true, false, false, false, false] = (some (.bool false, [], [decide (SMsg.kind a = SMsg.kind b) = true, decide (SMsg.epoch a = SMsg.epoch b) = true, decide (SMsg.leader a = SMsg.leader b) = true, decide (SMsg.view a = SMsg.view b) = true] ++ (bdMM_c a b 0 ++ ([sameBatchS (SMsg.batch a) (SMsg.batch b) = true] ++ (bdMM_c a b 1 ++ (bdMM_c a b 2 ++ [(sameL (SMsg.nnews a) (SMsg.nnews b) fun i => envEq (SMsg.news a i) (SMsg.news b i)) = false, q false, q false, q false]))))) : Option (V × Heap × List Prop)) := by kernel_rfl
theorem bdMM_p111111100000 (a : SMsg) (b : SMsg) :
 along Tryz.prog (bdMM a b) [true, true, true, true, true, true, true, false, false, false, false, false] = (some (.bool false, [], [decide (SMsg.kind a = SMsg.kind b) = true, decide (SMsg.epoch a = SMsg.epoch b) = true, decide (SMsg.leader a = SMsg.leader b) = true, decide (SMsg.view a = SMsg.view b) = true] ++ (bdMM_c a b 0 ++ ([sameBatchS (SMsg.batch a) (SMsg.batch b) = true] ++ (bdMM_c a b 1 ++ [sameChangeS a b = false, q false, q false, q false, q false])))) : Option (V × Heap × List Prop)) := by kernel_rfl
theorem bdMM_p111111000000 (a : SMsg) (b : SMsg) :
 along Tryz.prog (bdMM a b) [true, true, true, true, true, true, false, false, false, false, false, false] = (some (.bool false, [], [decide (SMsg.kind a = SMsg.kind b) = true, decide (SMsg.epoch a = SMsg.epoch b) = true, decide (SMsg.leader a = SMsg.leader b) = true, decide (SMsg.view a = SMsg.view b) = true] ++ (bdMM_c a b 0 ++ [sameBatchS (SMsg.batch a) (SMsg.batch b) = true, (decide (SVote.kind (SMsg.vote a) = SVote.kind (SMsg.vote b)) && (decide (SVote.epoch (SMsg.vote a) = SVote.epoch (SMsg.vote b)) && (decide (SVote.view (SMsg.vote a) = SVote.view (SMsg.vote b)) && (decide (SVote.slot (SMsg.vote a) = SVote.slot (SMsg.vote b)) && (decide (SVote.digest (SMsg.vote a) = SVote.digest (SMsg.vote b)) && true))))) = false, q false, q false, q false, q false, q false])) : Option (V × Heap × List Prop)) := by kernel_rfl
theorem bdMM_p111110000000 (a : SMsg) (b : SMsg) :
 along Tryz.prog (bdMM a b) [true, true, true, true, true, false, false, false, false, false, false, false] = (some (.bool false, [], [decide (SMsg.kind a = SMsg.kind b) = true, decide (SMsg.epoch a = SMsg.epoch b) = true, decide (SMsg.leader a = SMsg.leader b) = true, decide (SMsg.view a = SMsg.view b) = true] ++ (bdMM_c a b 0 ++ [sameBatchS (SMsg.batch a) (SMsg.batch b) = false, q false, q false, q false, q false, q false, q false])) : Option (V × Heap × List Prop)) := by kernel_rfl
theorem bdMM_p111100000000 (a : SMsg) (b : SMsg) :
 along Tryz.prog (bdMM a b) [true, true, true, true, false, false, false, false, false, false, false, false] = (some (.bool false, [], [decide (SMsg.kind a = SMsg.kind b) = true, decide (SMsg.epoch a = SMsg.epoch b) = true, decide (SMsg.leader a = SMsg.leader b) = true, decide (SMsg.view a = SMsg.view b) = true, decide (SMsg.slot a = SMsg.slot b) = false, q false, q false, q false, q false, q false, q false, q false]) : Option (V × Heap × List Prop)) := by kernel_rfl
theorem bdMM_p111000000000 (a : SMsg) (b : SMsg) :
 along Tryz.prog (bdMM a b) [true, true, true, false, false, false, false, false, false, false, false, false] = (some (.bool false, [], [decide (SMsg.kind a = SMsg.kind b) = true, decide (SMsg.epoch a = SMsg.epoch b) = true, decide (SMsg.leader a = SMsg.leader b) = true, decide (SMsg.view a = SMsg.view b) = false, q false, q false, q false, q false, q false, q false, q false, q false]) : Option (V × Heap × List Prop)) := by kernel_rfl
theorem bdMM_p110000000000 (a : SMsg) (b : SMsg) :
 along Tryz.prog (bdMM a b) [true, true, false, false, false, false, false, false, false, false, false, false] = (some (.bool false, [], [decide (SMsg.kind a = SMsg.kind b) = true, decide (SMsg.epoch a = SMsg.epoch b) = true, decide (SMsg.leader a = SMsg.leader b) = false, q false, q false, q false, q false, q false, q false, q false, q false, q false]) : Option (V × Heap × List Prop)) := by kernel_rfl
theorem bdMM_p100000000000 (a : SMsg) (b : SMsg) :
 along Tryz.prog (bdMM a b) [true, false, false, false, false, false, false, false, false, false, false, false] = (some (.bool false, [], [decide (SMsg.kind a = SMsg.kind b) = true, decide (SMsg.epoch a = SMsg.epoch b) = false, q false, q false, q false, q false, q false, q false, q false, q false, q false, q false]) : Option (V × Heap × List Prop)) := by kernel_rfl
theorem bdMM_p000000000000 (a : SMsg) (b : SMsg) :
 along Tryz.prog (bdMM a b) [false, false, false, false, false, false, false, false, false, false, false, false] = (some (.bool false, [], [decide (SMsg.kind a = SMsg.kind b) = false, q false, q false, q false, q false, q false, q false, q false, q false, q false, q false, q false]) : Option (V × Heap × List Prop)) := by kernel_rfl

theorem bdSmS_p1 (n : Nat) (n' : Nat) (a : Nat → SSign) (b : Nat → SSign) (m : Nat) :
  along Tryz.prog (bdSmS n n' a b m) [true] = (some (.bool false, [], [(!decide ((↑n : Int) = (↑n' : Int))) = true]) : Option (V × Heap × List Prop)) := by kernel_rfl
theorem bdSmS_p01 (n : Nat) (n' : Nat) (a : Nat → SSign) (b : Nat → SSign) (m : Nat) :
  along Tryz.prog (bdSmS n n' a b m) [false, true] = (some (.bool true, [], [(!decide ((↑n : Int) = (↑n' : Int))) = false, RLoop Tryz.prog none 0 (cB (cB (cR (cL (cR (cR (bodyOf (Bd.f (bdSmS n n' a b m))))))))) (n + 1) (St.mk (mkT 30 [(0, .ros 17 n (fun i => SSign.c (a i)) false), (1, .ros 17 n' (fun i => SSign.c (b i)) false), (2, .fn (.func 130) [] []), (14, .int .i64 ↑n), (15, .int .i64 0)]) [] 0 []) (.exit 0) (St.mk (mkT 30 [(0, .ros 17 n (fun i => SSign.c (a i)) false), (1, .ros 17 n' (fun i => SSign.c (b i)) false), (2, .fn (.func 130) [] []), (14, .int .i64 ↑n), (15, .int .i64 ↑n)]) [] 0 []), q n, ∀ (k : Nat), k < n → SSign.c (a k) = SSign.c (a k), false = true → false = true, q (n'), ∀ (k : Nat), k < n' → SSign.c (b k) = SSign.c (b k), false = true → false = true, q (↑n : Int), q1]) : Option (V × Heap × List Prop)) := by kernel_rfl
theorem bdSmS_p00 (n : Nat) (n' : Nat) (a : Nat → SSign) (b : Nat → SSign) (m : Nat) :
  along Tryz.prog (bdSmS n n' a b m) [false, false] = (some (.bool false, [], [(!decide ((↑n : Int) = (↑n' : Int))) = false, RLoop Tryz.prog none 0 (cB (cB (cR (cL (cR (cR (bodyOf (Bd.f (bdSmS n n' a b m))))))))) (m + 1) (St.mk (mkT 30 [(0, .ros 17 n (fun i => SSign.c (a i)) false), (1, .ros 17 n' (fun i => SSign.c (b i)) false), (2, .fn (.func 130) [] []), (14, .int .i64 ↑n), (15, .int .i64 0)]) [] 0 []) .ret (St.mk (mkT 30 [(6, .bool false)]) [] 0 []), q n, ∀ (k : Nat), k < n → SSign.c (a k) = SSign.c (a k), false = true → false = true, q (n'), ∀ (k : Nat), k < n' → SSign.c (b k) = SSign.c (b k), false = true → false = true, q (↑n : Int), q1]) : Option (V × Heap × List Prop)) := by kernel_rfl

theorem pcSmS_p11 (n : Nat) (n' : Nat) (a : Nat → SSign) (b : Nat → SSign) (k : Nat) :
  alongPc Tryz.prog (pcSmS n n' a b k) [true, true] = (some (.ret, St.mk (mkT 30 [(6, .bool false)]) [] 0 [], [decide ((↑k : Int) < (↑n : Int)) = true, (0 : Int) ≤ (↑k : Int) ∧ (↑k : Int) < (↑n : Int), (0 : Int) ≤ (↑k : Int) ∧ (↑k : Int) < (↑n' : Int), T Tryz.prog 130 [.agg (SSign.c (a (Int.toNat (↑k : Int)))), .agg (SSign.c (b (Int.toNat (↑k : Int))))] [] (.bool (signEq (a k) (b k))) [], (!signEq (a k) (b k)) = true, q false]) : Option (Exit × St × List Prop)) := by kernel_rfl
theorem pcSmS_p10 (n : Nat) (n' : Nat) (a : Nat → SSign) (b : Nat → SSign) (k : Nat) :
  alongPc Tryz.prog (pcSmS n n' a b k) [true, false] = (some (.normal, St.mk (mkT 30 [(0, .ros 17 n (fun i => SSign.c (a i)) false), (1, .ros 17 n' (fun i => SSign.c (b i)) false), (2, .fn (.func 130) [] []), (14, .int .i64 ↑n), (15, .int .i64 (↑(k + 1) : Int))]) [] 0 [], [decide ((↑k : Int) < (↑n : Int)) = true, (0 : Int) ≤ (↑k : Int) ∧ (↑k : Int) < (↑n : Int), (0 : Int) ≤ (↑k : Int) ∧ (↑k : Int) < (↑n' : Int), T Tryz.prog 130 [.agg (SSign.c (a (Int.toNat (↑k : Int)))), .agg (SSign.c (b (Int.toNat (↑k : Int))))] [] (.bool (signEq (a k) (b k))) [], (!signEq (a k) (b k)) = false, InR IntKind.i64 ((↑k : Int) + (1 : Int)), q n, ∀ (k : Nat), k < n → SSign.c (a k) = SSign.c (a k), false = true → false = true, q (n'), ∀ (k : Nat), k < n' → SSign.c (b k) = SSign.c (b k), false = true → false = true, q (↑n : Int), (↑k : Int) + (1 : Int) = (↑(k + (1 : Nat)) : Int)]) : Option (Exit × St × List Prop)) := by kernel_rfl
theorem pcSmS_p0 (n : Nat) (n' : Nat) (a : Nat → SSign) (b : Nat → SSign) (k : Nat) :
  alongPc Tryz.prog (pcSmS n n' a b k) [false] = (some (.exit 0, St.mk (mkT 30 [(0, .ros 17 n (fun i => SSign.c (a i)) false), (1, .ros 17 n' (fun i => SSign.c (b i)) false), (2, .fn (.func 130) [] []), (14, .int .i64 ↑n), (15, .int .i64 ↑n)]) [] 0 [], [decide ((↑k : Int) < (↑n : Int)) = false, q n, ∀ (k : Nat), k < n → SSign.c (a k) = SSign.c (a k), false = true → false = true, q (n'), ∀ (k : Nat), k < n' → SSign.c (b k) = SSign.c (b k), false = true → false = true, q (↑n : Int), (↑k : Int) = (↑n : Int)]) : Option (Exit × St × List Prop)) := by kernel_rfl

theorem bdSmE_p1 (n : Nat) (n' : Nat) (a : Nat → SEnv) (b : Nat → SEnv) (m : Nat) :
  along Tryz.prog (bdSmE n n' a b m) [true] = (some (.bool false, [], [(!decide ((↑n : Int) = (↑n' : Int))) = true]) : Option (V × Heap × List Prop)) := by kernel_rfl
theorem bdSmE_p01 (n : Nat) (n' : Nat) (a : Nat → SEnv) (b : Nat → SEnv) (m : Nat) :
  along Tryz.prog (bdSmE n n' a b m) [false, true] = (some (.bool true, [], [(!decide ((↑n : Int) = (↑n' : Int))) = false, RLoop Tryz.prog none 0 (cB (cB (cR (cL (cR (cR (bodyOf (Bd.f (bdSmE n n' a b m))))))))) (n + 1) (St.mk (mkT 30 [(0, .ros 18 n (fun i => SEnv.c (a i)) false), (1, .ros 18 n' (fun i => SEnv.c (b i)) false), (2, .fn (.func 127) [] []), (14, .int .i64 ↑n), (15, .int .i64 0)]) [] 0 []) (.exit 0) (St.mk (mkT 30 [(0, .ros 18 n (fun i => SEnv.c (a i)) false), (1, .ros 18 n' (fun i => SEnv.c (b i)) false), (2, .fn (.func 127) [] []), (14, .int .i64 ↑n), (15, .int .i64 ↑n)]) [] 0 []), q n, ∀ (k : Nat), k < n → SEnv.c (a k) = SEnv.c (a k), false = true → false = true, q (n'), ∀ (k : Nat), k < n' → SEnv.c (b k) = SEnv.c (b k), false = true → false = true, q (↑n : Int), q1]) : Option (V × Heap × List Prop)) := by kernel_rfl
theorem bdSmE_p00 (n : Nat) (n' : Nat) (a : Nat → SEnv) (b : Nat → SEnv) (m : Nat) :
  along Tryz.prog (bdSmE n n' a b m) [false, false] = (some (.bool false, [], [(!decide ((↑n : Int) = (↑n' : Int))) = false, RLoop Tryz.prog none 0 (cB (cB (cR (cL (cR (cR (bodyOf (Bd.f (bdSmE n n' a b m))))))))) (m + 1) (St.mk (mkT 30 [(0, .ros 18 n (fun i => SEnv.c (a i)) false), (1, .ros 18 n' (fun i => SEnv.c (b i)) false), (2, .fn (.func 127) [] []), (14, .int .i64 ↑n), (15, .int .i64 0)]) [] 0 []) .ret (St.mk (mkT 30 [(6, .bool false)]) [] 0 []), q n, ∀ (k : Nat), k < n → SEnv.c (a k) = SEnv.c (a k), false = true → false = true, q (n'), ∀ (k : Nat), k < n' → SEnv.c (b k) = SEnv.c (b k), false = true → false = true, q (↑n : Int), q1]) : Option (V × Heap × List Prop)) := by kernel_rfl

theorem pcSmE_p11 (n : Nat) (n' : Nat) (a : Nat → SEnv) (b : Nat → SEnv) (k : Nat) :
  alongPc Tryz.prog (pcSmE n n' a b k) [true, true] = (some (.ret, St.mk (mkT 30 [(6, .bool false)]) [] 0 [], [decide ((↑k : Int) < (↑n : Int)) = true, (0 : Int) ≤ (↑k : Int) ∧ (↑k : Int) < (↑n : Int), (0 : Int) ≤ (↑k : Int) ∧ (↑k : Int) < (↑n' : Int), T Tryz.prog 127 [.agg (SEnv.c (a (Int.toNat (↑k : Int)))), .agg (SEnv.c (b (Int.toNat (↑k : Int))))] [] (.bool (envEq (a k) (b k))) [], (!envEq (a k) (b k)) = true, q false]) : Option (Exit × St × List Prop)) := by kernel_rfl
theorem pcSmE_p10 (n : Nat) (n' : Nat) (a : Nat → SEnv) (b : Nat → SEnv) (k : Nat) :
  alongPc Tryz.prog (pcSmE n n' a b k) [true, false] = (some (.normal, St.mk (mkT 30 [(0, .ros 18 n (fun i => SEnv.c (a i)) false), (1, .ros 18 n' (fun i => SEnv.c (b i)) false), (2, .fn (.func 127) [] []), (14, .int .i64 ↑n), (15, .int .i64 (↑(k + 1) : Int))]) [] 0 [], [decide ((↑k : Int) < (↑n : Int)) = true, (0 : Int) ≤ (↑k : Int) ∧ (↑k : Int) < (↑n : Int), (0 : Int) ≤ (↑k : Int) ∧ (↑k : Int) < (↑n' : Int), T Tryz.prog 127 [.agg (SEnv.c (a (Int.toNat (↑k : Int)))), .agg (SEnv.c (b (Int.toNat (↑k : Int))))] [] (.bool (envEq (a k) (b k))) [], (!envEq (a k) (b k)) = false, InR IntKind.i64 ((↑k : Int) + (1 : Int)), q n, ∀ (k : Nat), k < n → SEnv.c (a k) = SEnv.c (a k), false = true → false = true, q (n'), ∀ (k : Nat), k < n' → SEnv.c (b k) = SEnv.c (b k), false = true → false = true, q (↑n : Int), (↑k : Int) + (1 : Int) = (↑(k + (1 : Nat)) : Int)]) : Option (Exit × St × List Prop)) := by kernel_rfl
theorem pcSmE_p0 (n : Nat) (n' : Nat) (a : Nat → SEnv) (b : Nat → SEnv) (k : Nat) :
  alongPc Tryz.prog (pcSmE n n' a b k) [false] = (some (.exit 0, St.mk (mkT 30 [(0, .ros 18 n (fun i => SEnv.c (a i)) false), (1, .ros 18 n' (fun i => SEnv.c (b i)) false), (2, .fn (.func 127) [] []), (14, .int .i64 ↑n), (15, .int .i64 ↑n)]) [] 0 [], [decide ((↑k : Int) < (↑n : Int)) = false, q n, ∀ (k : Nat), k < n → SEnv.c (a k) = SEnv.c (a k), false = true → false = true, q (n'), ∀ (k : Nat), k < n' → SEnv.c (b k) = SEnv.c (b k), false = true → false = true, q (↑n : Int), (↑k : Int) = (↑n : Int)]) : Option (Exit × St × List Prop)) := by kernel_rfl

theorem bdSmH_p1 (n : Nat) (n' : Nat) (a : Nat → SHeld) (b : Nat → SHeld) (m : Nat) :
  along Tryz.prog (bdSmH n n' a b m) [true] = (some (.bool false, [], [(!decide ((↑n : Int) = (↑n' : Int))) = true]) : Option (V × Heap × List Prop)) := by kernel_rfl
theorem bdSmH_p01 (n : Nat) (n' : Nat) (a : Nat → SHeld) (b : Nat → SHeld) (m : Nat) :
  along Tryz.prog (bdSmH n n' a b m) [false, true] = (some (.bool true, [], [(!decide ((↑n : Int) = (↑n' : Int))) = false, RLoop Tryz.prog none 0 (cB (cB (cR (cL (cR (cR (bodyOf (Bd.f (bdSmH n n' a b m))))))))) (n + 1) (St.mk (mkT 30 [(0, .ros 39 n (fun i => SHeld.c (a i)) false), (1, .ros 39 n' (fun i => SHeld.c (b i)) false), (2, .fn (.func 145) [] []), (14, .int .i64 ↑n), (15, .int .i64 0)]) [] 0 []) (.exit 0) (St.mk (mkT 30 [(0, .ros 39 n (fun i => SHeld.c (a i)) false), (1, .ros 39 n' (fun i => SHeld.c (b i)) false), (2, .fn (.func 145) [] []), (14, .int .i64 ↑n), (15, .int .i64 ↑n)]) [] 0 []), q n, ∀ (k : Nat), k < n → SHeld.c (a k) = SHeld.c (a k), false = true → false = true, q (n'), ∀ (k : Nat), k < n' → SHeld.c (b k) = SHeld.c (b k), false = true → false = true, q (↑n : Int), q1]) : Option (V × Heap × List Prop)) := by kernel_rfl
theorem bdSmH_p00 (n : Nat) (n' : Nat) (a : Nat → SHeld) (b : Nat → SHeld) (m : Nat) :
  along Tryz.prog (bdSmH n n' a b m) [false, false] = (some (.bool false, [], [(!decide ((↑n : Int) = (↑n' : Int))) = false, RLoop Tryz.prog none 0 (cB (cB (cR (cL (cR (cR (bodyOf (Bd.f (bdSmH n n' a b m))))))))) (m + 1) (St.mk (mkT 30 [(0, .ros 39 n (fun i => SHeld.c (a i)) false), (1, .ros 39 n' (fun i => SHeld.c (b i)) false), (2, .fn (.func 145) [] []), (14, .int .i64 ↑n), (15, .int .i64 0)]) [] 0 []) .ret (St.mk (mkT 30 [(6, .bool false)]) [] 0 []), q n, ∀ (k : Nat), k < n → SHeld.c (a k) = SHeld.c (a k), false = true → false = true, q (n'), ∀ (k : Nat), k < n' → SHeld.c (b k) = SHeld.c (b k), false = true → false = true, q (↑n : Int), q1]) : Option (V × Heap × List Prop)) := by kernel_rfl

noncomputable def pcSmH_c (n : Nat) (n' : Nat) (a : Nat → SHeld) (b : Nat → SHeld) (k : Nat) : Nat → List Prop
 | 0 => [decide ((↑k : Int) < (↑n : Int)) = true, (0 : Int) ≤ (↑k : Int) ∧ (↑k : Int) < (↑n : Int), (0 : Int) ≤ (↑k : Int) ∧ (↑k : Int) < (↑n' : Int), T Tryz.prog 145 [.agg [.bool (SBatch.noop (SHeld.batch (a (Int.toNat (↑k : Int))))), rq (SBatch.n (SHeld.batch (a (Int.toNat (↑k : Int))))) (SBatch.req (SHeld.batch (a (Int.toNat (↑k : Int))))), .int .i64 (SVote.kind (SCert.vote (SHeld.cert (a (Int.toNat (↑k : Int)))))), .int .i64 (SVote.epoch (SCert.vote (SHeld.cert (a (Int.toNat (↑k : Int)))))), .int .i64 (SVote.view (SCert.vote (SHeld.cert (a (Int.toNat (↑k : Int)))))), .int .i64 (SVote.slot (SCert.vote (SHeld.cert (a (Int.toNat (↑k : Int)))))), .seg .u8 32 (SVote.digest (SCert.vote (SHeld.cert (a (Int.toNat (↑k : Int)))))), sg (SCert.n (SHeld.cert (a (Int.toNat (↑k : Int))))) (SCert.sig (SHeld.cert (a (Int.toNat (↑k : Int)))))], .agg [.bool (SBatch.noop (SHeld.batch (b (Int.toNat (↑k : Int))))), rq (SBatch.n (SHeld.batch (b (Int.toNat (↑k : Int))))) (SBatch.req (SHeld.batch (b (Int.toNat (↑k : Int))))), .int .i64 (SVote.kind (SCert.vote (SHeld.cert (b (Int.toNat (↑k : Int)))))), .int .i64 (SVote.epoch (SCert.vote (SHeld.cert (b (Int.toNat (↑k : Int)))))), .int .i64 (SVote.view (SCert.vote (SHeld.cert (b (Int.toNat (↑k : Int)))))), .int .i64 (SVote.slot (SCert.vote (SHeld.cert (b (Int.toNat (↑k : Int)))))), .seg .u8 32 (SVote.digest (SCert.vote (SHeld.cert (b (Int.toNat (↑k : Int)))))), sg (SCert.n (SHeld.cert (b (Int.toNat (↑k : Int))))) (SCert.sig (SHeld.cert (b (Int.toNat (↑k : Int)))))]] [] (.bool (sameHeldS (a k) (b k))) []]
 | _ => []
theorem pcSmH_p11 (n : Nat) (n' : Nat) (a : Nat → SHeld) (b : Nat → SHeld) (k : Nat) :
 alongPc Tryz.prog (pcSmH n n' a b k) [true, true] = (some (.ret, St.mk (mkT 30 [(6, .bool false)]) [] 0 [], pcSmH_c n n' a b k 0 ++ [(!sameHeldS (a k) (b k)) = true, q false]) : Option (Exit × St × List Prop)) := by kernel_rfl
theorem pcSmH_p10 (n : Nat) (n' : Nat) (a : Nat → SHeld) (b : Nat → SHeld) (k : Nat) :
 alongPc Tryz.prog (pcSmH n n' a b k) [true, false] = (some (.normal, St.mk (mkT 30 [(0, .ros 39 n (fun i => SHeld.c (a i)) false), (1, .ros 39 n' (fun i => SHeld.c (b i)) false), (2, .fn (.func 145) [] []), (14, .int .i64 ↑n), (15, .int .i64 (↑(k + 1) : Int))]) [] 0 [], pcSmH_c n n' a b k 0 ++ [(!sameHeldS (a k) (b k)) = false, InR IntKind.i64 ((↑k : Int) + (1 : Int)), q n, ∀ (k : Nat), k < n → SHeld.c (a k) = SHeld.c (a k), false = true → false = true, q (n'), ∀ (k : Nat), k < n' → SHeld.c (b k) = SHeld.c (b k), false = true → false = true, q (↑n : Int), (↑k : Int) + (1 : Int) = (↑(k + (1 : Nat)) : Int)]) : Option (Exit × St × List Prop)) := by kernel_rfl
theorem pcSmH_p0 (n : Nat) (n' : Nat) (a : Nat → SHeld) (b : Nat → SHeld) (k : Nat) :
 alongPc Tryz.prog (pcSmH n n' a b k) [false] = (some (.exit 0, St.mk (mkT 30 [(0, .ros 39 n (fun i => SHeld.c (a i)) false), (1, .ros 39 n' (fun i => SHeld.c (b i)) false), (2, .fn (.func 145) [] []), (14, .int .i64 ↑n), (15, .int .i64 ↑n)]) [] 0 [], [decide ((↑k : Int) < (↑n : Int)) = false, q n, ∀ (k : Nat), k < n → SHeld.c (a k) = SHeld.c (a k), false = true → false = true, q (n'), ∀ (k : Nat), k < n' → SHeld.c (b k) = SHeld.c (b k), false = true → false = true, q (↑n : Int), (↑k : Int) = (↑n : Int)]) : Option (Exit × St × List Prop)) := by kernel_rfl

theorem reqEq_neg {a b : SReq} (h : reqEq a b = true) : a.client = b.client ∧ a.num = b.num ∧ a.data = b.data ∧ a.tag = b.tag := by
 simpa [reqEq] using h
theorem reqEq_neg' {a b : SReq} (h : ¬ reqEq a b = true) : (!(decide (a.client = b.client) && (decide (a.num = b.num) && (decide (a.data = b.data) && (decide (a.tag = b.tag) && true))))) = true := by
 rw [Bool.not_eq_true']; exact Bool.eq_false_iff.mpr h
theorem T_sq {n n' : Nat} (a b : Nat → SReq) (hn : n ≤ 1000000) : T Tryz.prog 143 [rq n a, rq n' b] [] (.bool (sameL n n' (fun i => reqEq (a i) (b i)))) [] := by
 by_cases hnn : n = n'
 ·subst hnn
  have step : ∀ k, k < n → reqEq (a k) (b k) = true → R Tryz.prog none 0 (cB (cB (cR (cL (cR (cR (bodyOf Tryz.f143))))))) (sqI (rq n a) (rq n b) n k) .normal (sqI (rq n a) (rq n b) n (k + 1)) := fun k hk hp => by
   refine R_alongPc NG MO _ (pcSq_p10 n n a b k) ?_ (Nat.zero_le _)
   simp only [All, All_append, bdMM_c, pcSmH_c, Int.toNat_natCast]
   and_intros
   all_goals first | (simp [hk, reqEq_neg hp, IntKind.min, IntKind.max, IntKind.signed, IntKind.bits] <;> omega)
  obtain ⟨m, h1, h2, h3⟩ := stop_at (fun k => reqEq (a k) (b k) = true) n
  by_cases hmn : m = n
  ·subst hmn
   refine T.bool (T_al (bdSq_p01 m m a b m) Tryz.func143 ⟨by simp, RLoop.inv (sqI (rq m a) (rq m b) m) m (fun k hk => step k hk (h2 k hk)) (R_alongPc NG MO _ (pcSq_p0 m m a b m) (by simp [All, All_append, bdMM_c, pcSmH_c]) (Nat.zero_le _)) (by simp), ?_⟩) (by simp [sameL]; exact h2)
   simp [All, All_append, bdMM_c, pcSmH_c]
  ·have hm' : m < n := by omega
   have h3 := h3.resolve_left hmn
   have bad : R Tryz.prog none 0 (cB (cB (cR (cL (cR (cR (bodyOf Tryz.f143))))))) (sqI (rq n a) (rq n b) n m) .ret (smF 4 26) := by
    refine R_alongPc NG MO _ (pcSq_p11 n n a b m) ?_ (Nat.zero_le _)
    simp only [All, All_append, bdMM_c, pcSmH_c, Int.toNat_natCast]
    and_intros
    all_goals first | exact reqEq_neg' h3 | (simp [hm'] <;> omega)
   refine T.bool (T_al (bdSq_p00 n n a b m) Tryz.func143 ⟨by simp, RLoop.inv (sqI (rq n a) (rq n b) n) m (fun k hk => step k (by omega) (h2 k hk)) bad (by simp), ?_⟩) (by
    have : ¬ ∀ i, i < n → reqEq (a i) (b i) = true := fun h => h3 (h m hm')
    simp only [sameL, this, decide_false, Bool.and_false])
   simp [All, All_append, bdMM_c, pcSmH_c]
 ·exact T.bool (T_al (bdSq_p1 n n' a b 0) Tryz.func143 ⟨by simp <;> omega, trivial⟩) (by simp [sameL, hnn])
theorem T_eqS (a b : SSign) : T Tryz.prog 130 [.agg a.c, .agg b.c] [] (.bool (signEq a b)) [] :=
 T_along NG MO _ (bdEqS_p a b) Tryz.func130 (by kernel_rfl) trivial (pinH_ok (by kernel_rfl)) (by kernel_rfl)
theorem T_eqE (a b : SEnv) : T Tryz.prog 127 [.agg a.c, .agg b.c] [] (.bool (envEq a b)) [] :=
 T_along NG MO _ (bdEqE_p a b) Tryz.func127 (by kernel_rfl) trivial (pinH_ok (by kernel_rfl)) (by kernel_rfl)
theorem T_smS {n n' : Nat} (a b : Nat → SSign) (hn : n ≤ 1000000) : T Tryz.prog 129 [sg n a, sg n' b, .fn (.func 130) [] []] [] (.bool (sameL n n' (fun i => signEq (a i) (b i)))) [] := by
 by_cases hnn : n = n'
 ·subst hnn
  have step : ∀ k, k < n → signEq (a k) (b k) = true → R Tryz.prog none 0 (cB (cB (cR (cL (cR (cR (bodyOf Tryz.f129))))))) (smI (sg n a) (sg n b) n 130 k) .normal (smI (sg n a) (sg n b) n 130 (k + 1)) := fun k hk hp => by
   refine R_alongPc NG MO _ (pcSmS_p10 n n a b k) ?_ (Nat.zero_le _)
   simp only [All, All_append, bdMM_c, pcSmH_c, Int.toNat_natCast]
   and_intros
   all_goals first | exact T_eqS (a k) (b k) | (simp [hk, hp, IntKind.min, IntKind.max, IntKind.signed, IntKind.bits] <;> omega)
  obtain ⟨m, h1, h2, h3⟩ := stop_at (fun k => signEq (a k) (b k) = true) n
  by_cases hmn : m = n
  ·subst hmn
   refine T.bool (T_al (bdSmS_p01 m m a b m) Tryz.func129 ⟨by simp, RLoop.inv (smI (sg m a) (sg m b) m 130) m (fun k hk => step k hk (h2 k hk)) (R_alongPc NG MO _ (pcSmS_p0 m m a b m) (by simp [All, All_append, bdMM_c, pcSmH_c]) (Nat.zero_le _)) (by simp), ?_⟩) (by simp [sameL]; exact h2)
   simp [All, All_append, bdMM_c, pcSmH_c]
  ·have hm' : m < n := by omega
   have h3 := h3.resolve_left hmn
   have bad : R Tryz.prog none 0 (cB (cB (cR (cL (cR (cR (bodyOf Tryz.f129))))))) (smI (sg n a) (sg n b) n 130 m) .ret (smF 6 30) := by
    refine R_alongPc NG MO _ (pcSmS_p11 n n a b m) ?_ (Nat.zero_le _)
    simp only [All, All_append, bdMM_c, pcSmH_c, Int.toNat_natCast]
    and_intros
    all_goals first | exact T_eqS (a m) (b m) | (simp [hm', h3] <;> omega)
   refine T.bool (T_al (bdSmS_p00 n n a b m) Tryz.func129 ⟨by simp, RLoop.inv (smI (sg n a) (sg n b) n 130) m (fun k hk => step k (by omega) (h2 k hk)) bad (by simp), ?_⟩) (by
    have : ¬ ∀ i, i < n → signEq (a i) (b i) = true := fun h => h3 (h m hm')
    simp only [sameL, this, decide_false, Bool.and_false])
   simp [All, All_append, bdMM_c, pcSmH_c]
 ·exact T.bool (T_al (bdSmS_p1 n n' a b 0) Tryz.func129 ⟨by simp <;> omega, trivial⟩) (by simp [sameL, hnn])
theorem T_smE {n n' : Nat} (a b : Nat → SEnv) (hn : n ≤ 1000000) : T Tryz.prog 126 [nw n a, nw n' b, .fn (.func 127) [] []] [] (.bool (sameL n n' (fun i => envEq (a i) (b i)))) [] := by
 by_cases hnn : n = n'
 ·subst hnn
  have step : ∀ k, k < n → envEq (a k) (b k) = true → R Tryz.prog none 0 (cB (cB (cR (cL (cR (cR (bodyOf Tryz.f126))))))) (smI (nw n a) (nw n b) n 127 k) .normal (smI (nw n a) (nw n b) n 127 (k + 1)) := fun k hk hp => by
   refine R_alongPc NG MO _ (pcSmE_p10 n n a b k) ?_ (Nat.zero_le _)
   simp only [All, All_append, bdMM_c, pcSmH_c, Int.toNat_natCast]
   and_intros
   all_goals first | exact T_eqE (a k) (b k) | (simp [hk, hp, IntKind.min, IntKind.max, IntKind.signed, IntKind.bits] <;> omega)
  obtain ⟨m, h1, h2, h3⟩ := stop_at (fun k => envEq (a k) (b k) = true) n
  by_cases hmn : m = n
  ·subst hmn
   refine T.bool (T_al (bdSmE_p01 m m a b m) Tryz.func126 ⟨by simp, RLoop.inv (smI (nw m a) (nw m b) m 127) m (fun k hk => step k hk (h2 k hk)) (R_alongPc NG MO _ (pcSmE_p0 m m a b m) (by simp [All, All_append, bdMM_c, pcSmH_c]) (Nat.zero_le _)) (by simp), ?_⟩) (by simp [sameL]; exact h2)
   simp [All, All_append, bdMM_c, pcSmH_c]
  ·have hm' : m < n := by omega
   have h3 := h3.resolve_left hmn
   have bad : R Tryz.prog none 0 (cB (cB (cR (cL (cR (cR (bodyOf Tryz.f126))))))) (smI (nw n a) (nw n b) n 127 m) .ret (smF 6 30) := by
    refine R_alongPc NG MO _ (pcSmE_p11 n n a b m) ?_ (Nat.zero_le _)
    simp only [All, All_append, bdMM_c, pcSmH_c, Int.toNat_natCast]
    and_intros
    all_goals first | exact T_eqE (a m) (b m) | (simp [hm', h3] <;> omega)
   refine T.bool (T_al (bdSmE_p00 n n a b m) Tryz.func126 ⟨by simp, RLoop.inv (smI (nw n a) (nw n b) n 127) m (fun k hk => step k (by omega) (h2 k hk)) bad (by simp), ?_⟩) (by
    have : ¬ ∀ i, i < n → envEq (a i) (b i) = true := fun h => h3 (h m hm')
    simp only [sameL, this, decide_false, Bool.and_false])
   simp [All, All_append, bdMM_c, pcSmH_c]
 ·exact T.bool (T_al (bdSmE_p1 n n' a b 0) Tryz.func126 ⟨by simp <;> omega, trivial⟩) (by simp [sameL, hnn])
theorem T_bS (a b : SBatch) (hn : a.n ≤ 1000000) : T Tryz.prog 124 [.agg a.c, .agg b.c] [] (.bool (sameBatchS a b)) [] := by
 by_cases h1 : (a.noop == b.noop) = true
 ·
  refine T.bool (T_al (bdBS_p1 a b) Tryz.func124 ?_) (by simp [sameBatchS, h1] <;> omega)
  simp only [All, All_append, bdMM_c, pcSmH_c]
  and_intros
  all_goals first | exact T_sq a.req b.req hn | (simp [h1]; done)
 ·
  refine T.bool (T_al (bdBS_p0 a b) Tryz.func124 ?_) (by simp [sameBatchS, h1] <;> omega)
  simp only [All, All_append, bdMM_c, pcSmH_c]
  and_intros
  all_goals first | (simp [h1]; done)
theorem T_cS (a b : SCert) (hn : a.n ≤ 1000000) : T Tryz.prog 128 [.agg a.c, .agg b.c] [] (.bool (sameCertS a b)) [] := by
 by_cases h1 : voteEq a.vote b.vote = true
 ·
  refine T.bool (T_al (bdCS_p1 a b) Tryz.func128 ?_) (by simp [sameCertS, h1] <;> omega)
  simp only [All, All_append, bdMM_c, pcSmH_c]
  and_intros
  all_goals first | exact T_smS a.sig b.sig hn | (simp [h1]; done) | exact h1
 ·
  refine T.bool (T_al (bdCS_p0 a b) Tryz.func128 ?_) (by simp [sameCertS, h1] <;> omega)
  simp only [All, All_append, bdMM_c, pcSmH_c]
  and_intros
  all_goals first | (simp [h1]; done) | exact Bool.eq_false_iff.mpr h1
theorem T_hS (a b : SHeld) (h1n : a.batch.n ≤ 1000000) (h2n : a.cert.n ≤ 1000000) : T Tryz.prog 145 [.agg a.c, .agg b.c] [] (.bool (sameHeldS a b)) [] := by
 by_cases h1 : sameBatchS a.batch b.batch = true
 ·
  refine T.bool (T_al (bdHS_p1 a b) Tryz.func145 ?_) (by simp [sameHeldS, h1] <;> omega)
  simp only [All, All_append, bdMM_c, pcSmH_c]
  and_intros
  all_goals first | exact T_bS a.batch b.batch h1n | exact T_cS a.cert b.cert h2n | (simp [h1]; done)
 ·
  refine T.bool (T_al (bdHS_p0 a b) Tryz.func145 ?_) (by simp [sameHeldS, h1] <;> omega)
  simp only [All, All_append, bdMM_c, pcSmH_c]
  and_intros
  all_goals first | exact T_bS a.batch b.batch h1n | (simp [h1]; done)
theorem T_smH {n n' : Nat} (a b : Nat → SHeld) (hn : n ≤ 1000000) (hb : ∀ k, k < n → (a k).batch.n ≤ 1000000 ∧ (a k).cert.n ≤ 1000000) : T Tryz.prog 144 [hl n a, hl n' b, .fn (.func 145) [] []] [] (.bool (sameL n n' (fun i => sameHeldS (a i) (b i)))) [] := by
 by_cases hnn : n = n'
 ·subst hnn
  have step : ∀ k, k < n → sameHeldS (a k) (b k) = true → R Tryz.prog none 0 (cB (cB (cR (cL (cR (cR (bodyOf Tryz.f144))))))) (smI (hl n a) (hl n b) n 145 k) .normal (smI (hl n a) (hl n b) n 145 (k + 1)) := fun k hk hp => by
   refine R_alongPc NG MO _ (pcSmH_p10 n n a b k) ?_ (Nat.zero_le _)
   simp only [All, All_append, bdMM_c, pcSmH_c, Int.toNat_natCast]
   and_intros
   all_goals first | exact T_hS (a k) (b k) (hb k hk).1 (hb k hk).2 | (simp [hk, hp, IntKind.min, IntKind.max, IntKind.signed, IntKind.bits] <;> omega)
  obtain ⟨m, h1, h2, h3⟩ := stop_at (fun k => sameHeldS (a k) (b k) = true) n
  by_cases hmn : m = n
  ·subst hmn
   refine T.bool (T_al (bdSmH_p01 m m a b m) Tryz.func144 ⟨by simp, RLoop.inv (smI (hl m a) (hl m b) m 145) m (fun k hk => step k hk (h2 k hk)) (R_alongPc NG MO _ (pcSmH_p0 m m a b m) (by simp [All, All_append, bdMM_c, pcSmH_c]) (Nat.zero_le _)) (by simp), ?_⟩) (by simp [sameL]; exact h2)
   simp [All, All_append, bdMM_c, pcSmH_c]
  ·have hm' : m < n := by omega
   have h3 := h3.resolve_left hmn
   have bad : R Tryz.prog none 0 (cB (cB (cR (cL (cR (cR (bodyOf Tryz.f144))))))) (smI (hl n a) (hl n b) n 145 m) .ret (smF 6 30) := by
    refine R_alongPc NG MO _ (pcSmH_p11 n n a b m) ?_ (Nat.zero_le _)
    simp only [All, All_append, bdMM_c, pcSmH_c, Int.toNat_natCast]
    and_intros
    all_goals first | exact T_hS (a m) (b m) (hb m hm').1 (hb m hm').2 | (simp [hm', h3] <;> omega)
   refine T.bool (T_al (bdSmH_p00 n n a b m) Tryz.func144 ⟨by simp, RLoop.inv (smI (hl n a) (hl n b) n 145) m (fun k hk => step k (by omega) (h2 k hk)) bad (by simp), ?_⟩) (by
    have : ¬ ∀ i, i < n → sameHeldS (a i) (b i) = true := fun h => h3 (h m hm')
    simp only [sameL, this, decide_false, Bool.and_false])
   simp [All, All_append, bdMM_c, pcSmH_c]
 ·exact T.bool (T_al (bdSmH_p1 n n' a b 0) Tryz.func144 ⟨by simp <;> omega, trivial⟩) (by simp [sameL, hnn])
theorem T_gS (a b : SMsg) (hn : a.nheld ≤ 1000000) (hb : ∀ k, k < a.nheld → (a.held k).batch.n ≤ 1000000 ∧ (a.held k).cert.n ≤ 1000000) : T Tryz.prog 125 [.agg (chC a), .agg (chC b)] [] (.bool (sameChangeS a b)) [] := by
 by_cases h1 : a.cepoch = b.cepoch
 ·
  by_cases h2 : a.cleader = b.cleader
  ·
   by_cases h3 : a.cview = b.cview
   ·
    refine T.bool (T_al (bdGS_p111 a b) Tryz.func125 ?_) (by simp [sameChangeS, h1, h2, h3] <;> omega)
    simp only [All, All_append, bdMM_c, pcSmH_c]
    and_intros
    all_goals first | exact T_smH a.held b.held hn hb | (simp [h1, h2, h3]; done)
   ·
    refine T.bool (T_al (bdGS_p110 a b) Tryz.func125 ?_) (by simp [sameChangeS, h1, h2, h3] <;> omega)
    simp only [All, All_append, bdMM_c, pcSmH_c]
    and_intros
    all_goals first | (simp [h1, h2, h3]; done)
  ·
   refine T.bool (T_al (bdGS_p100 a b) Tryz.func125 ?_) (by simp [sameChangeS, h1, h2] <;> omega)
   simp only [All, All_append, bdMM_c, pcSmH_c]
   and_intros
   all_goals first | (simp [h1, h2]; done)
 ·
  refine T.bool (T_al (bdGS_p000 a b) Tryz.func125 ?_) (by simp [sameChangeS, h1] <;> omega)
  simp only [All, All_append, bdMM_c, pcSmH_c]
  and_intros
  all_goals first | (simp [h1]; done)
structure FitM (a : SMsg) : Prop where
 batch : a.batch.n ≤ 1000000
 nheld : a.nheld ≤ 1000000
 held : ∀ k, k < a.nheld → (a.held k).batch.n ≤ 1000000 ∧ (a.held k).cert.n ≤ 1000000
 nnews : a.nnews ≤ 1000000
 cert : a.cert.n ≤ 1000000
 n : a.n ≤ 1000000
theorem T_mS (a b : SMsg) (h : FitM a) : T Tryz.prog 86 [.agg a.c, .agg b.c] [] (.bool (sameMsgS a b)) [] := by
 by_cases h1 : a.kind = b.kind
 ·
  by_cases h2 : a.epoch = b.epoch
  ·
   by_cases h3 : a.leader = b.leader
   ·
    by_cases h4 : a.view = b.view
    ·
     by_cases h5 : a.slot = b.slot
     ·
      by_cases h6 : sameBatchS a.batch b.batch = true
      ·
       by_cases h7 : voteEq a.vote b.vote = true
       ·
        by_cases h8 : sameChangeS a b = true
        ·
         by_cases h9 : sameL a.nnews b.nnews (fun i => envEq (a.news i) (b.news i)) = true
         ·
          by_cases h10 : a.digest = b.digest
          ·
           by_cases h11 : sameCertS a.cert b.cert = true
           ·
            by_cases h12 : a.state = b.state
            ·
             refine T.bool (T_al (bdMM_p111111111111 a b) Tryz.func86 ?_) (by simp [sameMsgS, h1, h2, h3, h4, h5, h6, h7, h8, h9, h10, h11, h12] <;> omega)
             simp only [All, All_append, bdMM_c, pcSmH_c]
             and_intros
             all_goals first | exact T_bS a.batch b.batch h.batch | exact T_gS a b h.nheld h.held | exact T_smE a.news b.news h.nnews | exact T_cS a.cert b.cert h.cert | exact T_smS a.sig b.sig h.n | (simp [h1, h2, h3, h4, h5, h6, h7, h8, h9, h10, h11, h12]; done) | exact h7
            ·
             refine T.bool (T_al (bdMM_p111111111110 a b) Tryz.func86 ?_) (by simp [sameMsgS, h1, h2, h3, h4, h5, h6, h7, h8, h9, h10, h11, h12] <;> omega)
             simp only [All, All_append, bdMM_c, pcSmH_c]
             and_intros
             all_goals first | exact T_bS a.batch b.batch h.batch | exact T_gS a b h.nheld h.held | exact T_smE a.news b.news h.nnews | exact T_cS a.cert b.cert h.cert | (simp [h1, h2, h3, h4, h5, h6, h7, h8, h9, h10, h11, h12]; done) | exact h7
           ·
            refine T.bool (T_al (bdMM_p111111111100 a b) Tryz.func86 ?_) (by simp [sameMsgS, h1, h2, h3, h4, h5, h6, h7, h8, h9, h10, h11] <;> omega)
            simp only [All, All_append, bdMM_c, pcSmH_c]
            and_intros
            all_goals first | exact T_bS a.batch b.batch h.batch | exact T_gS a b h.nheld h.held | exact T_smE a.news b.news h.nnews | exact T_cS a.cert b.cert h.cert | (simp [h1, h2, h3, h4, h5, h6, h7, h8, h9, h10, h11]; done) | exact h7
          ·
           refine T.bool (T_al (bdMM_p111111111000 a b) Tryz.func86 ?_) (by simp [sameMsgS, h1, h2, h3, h4, h5, h6, h7, h8, h9, h10] <;> omega)
           simp only [All, All_append, bdMM_c, pcSmH_c]
           and_intros
           all_goals first | exact T_bS a.batch b.batch h.batch | exact T_gS a b h.nheld h.held | exact T_smE a.news b.news h.nnews | (simp [h1, h2, h3, h4, h5, h6, h7, h8, h9, h10]; done) | exact h7
         ·
          refine T.bool (T_al (bdMM_p111111110000 a b) Tryz.func86 ?_) (by simp [sameMsgS, h1, h2, h3, h4, h5, h6, h7, h8, h9] <;> omega)
          simp only [All, All_append, bdMM_c, pcSmH_c]
          and_intros
          all_goals first | exact T_bS a.batch b.batch h.batch | exact T_gS a b h.nheld h.held | exact T_smE a.news b.news h.nnews | (simp [h1, h2, h3, h4, h5, h6, h7, h8, h9]; done) | exact h7
        ·
         refine T.bool (T_al (bdMM_p111111100000 a b) Tryz.func86 ?_) (by simp [sameMsgS, h1, h2, h3, h4, h5, h6, h7, h8] <;> omega)
         simp only [All, All_append, bdMM_c, pcSmH_c]
         and_intros
         all_goals first | exact T_bS a.batch b.batch h.batch | exact T_gS a b h.nheld h.held | (simp [h1, h2, h3, h4, h5, h6, h7, h8]; done) | exact h7
       ·
        refine T.bool (T_al (bdMM_p111111000000 a b) Tryz.func86 ?_) (by simp [sameMsgS, h1, h2, h3, h4, h5, h6, h7] <;> omega)
        simp only [All, All_append, bdMM_c, pcSmH_c]
        and_intros
        all_goals first | exact T_bS a.batch b.batch h.batch | (simp [h1, h2, h3, h4, h5, h6, h7]; done) | exact Bool.eq_false_iff.mpr h7
      ·
       refine T.bool (T_al (bdMM_p111110000000 a b) Tryz.func86 ?_) (by simp [sameMsgS, h1, h2, h3, h4, h5, h6] <;> omega)
       simp only [All, All_append, bdMM_c, pcSmH_c]
       and_intros
       all_goals first | exact T_bS a.batch b.batch h.batch | (simp [h1, h2, h3, h4, h5, h6]; done)
     ·
      refine T.bool (T_al (bdMM_p111100000000 a b) Tryz.func86 ?_) (by simp [sameMsgS, h1, h2, h3, h4, h5] <;> omega)
      simp only [All, All_append, bdMM_c, pcSmH_c]
      and_intros
      all_goals first | (simp [h1, h2, h3, h4, h5]; done)
    ·
     refine T.bool (T_al (bdMM_p111000000000 a b) Tryz.func86 ?_) (by simp [sameMsgS, h1, h2, h3, h4] <;> omega)
     simp only [All, All_append, bdMM_c, pcSmH_c]
     and_intros
     all_goals first | (simp [h1, h2, h3, h4]; done)
   ·
    refine T.bool (T_al (bdMM_p110000000000 a b) Tryz.func86 ?_) (by simp [sameMsgS, h1, h2, h3] <;> omega)
    simp only [All, All_append, bdMM_c, pcSmH_c]
    and_intros
    all_goals first | (simp [h1, h2, h3]; done)
  ·
   refine T.bool (T_al (bdMM_p100000000000 a b) Tryz.func86 ?_) (by simp [sameMsgS, h1, h2] <;> omega)
   simp only [All, All_append, bdMM_c, pcSmH_c]
   and_intros
   all_goals first | (simp [h1, h2]; done)
 ·
  refine T.bool (T_al (bdMM_p000000000000 a b) Tryz.func86 ?_) (by simp [sameMsgS, h1] <;> omega)
  simp only [All, All_append, bdMM_c, pcSmH_c]
  and_intros
  all_goals first | (simp [h1]; done)
end Go.Proofs.YtnmccoincblecaaGreat
namespace Go.Proofs.YtnmccoincblecaaGreat
open Go Sy Go.Proofs
def vote0 : SVote := { digest := z32 }
/-- A message with its kind alone. -/
def msg0 (k : Int) : SMsg := { kind := k, vote := vote0, digest := z32, cert := { vote := vote0 } }
def kOnly (r : SMsg) : Exit → St → Option W := fun _ st => some ⟨[], [(2, .set (.ptr (.o 64) 0 0 0 0))], [(.o 64, .set (.flat r.c))], none, st.next⟩
def o1 (m : SMsg) : SMsg := { msg0 m.kind with epoch := m.epoch, slot := m.slot, batch := m.batch }
def o2 (m : SMsg) : SMsg := { msg0 m.kind with vote := m.vote }
def o3 (m : SMsg) : SMsg := { msg0 m.kind with cepoch := m.cepoch, cleader := m.cleader, cview := m.cview, nheld := m.nheld, held := m.held }
def o4 (m : SMsg) : SMsg := { msg0 m.kind with epoch := m.epoch, leader := m.leader, view := m.view, nnews := m.nnews, news := m.news }
def o5 (m : SMsg) : SMsg := { msg0 m.kind with epoch := m.epoch, digest := m.digest }
def o6 (m : SMsg) : SMsg := { msg0 m.kind with epoch := m.epoch, slot := m.slot }
def o7 (m : SMsg) : SMsg := { msg0 m.kind with batch := m.batch, cert := m.cert }
def o8 (m : SMsg) : SMsg := { msg0 m.kind with state := m.state, n := m.n, sig := m.sig }
def o9 (m : SMsg) : SMsg := msg0 m.kind
def onlyS (m : SMsg) : SMsg :=
 if m.kind = 2 then o2 m else if m.kind = 3 then o3 m else if m.kind = 4 then o4 m else if m.kind = 5 then o5 m else
 if m.kind = 1 then o1 m else if m.kind = 6 then o6 m else if m.kind = 7 then o7 m else if m.kind = 8 then o8 m else o9 m
noncomputable def bdOnly (m r : SMsg) : Bd := { f := Tryz.f87, args := [.agg m.c], kb := kb0, k := kOnly r }
noncomputable def bdO1 (m : SMsg) : Bd := bdOnly m (o1 m)
noncomputable def bdO2 (m : SMsg) : Bd := bdOnly m (o2 m)
noncomputable def bdO3 (m : SMsg) : Bd := bdOnly m (o3 m)
noncomputable def bdO4 (m : SMsg) : Bd := bdOnly m (o4 m)
noncomputable def bdO5 (m : SMsg) : Bd := bdOnly m (o5 m)
noncomputable def bdO6 (m : SMsg) : Bd := bdOnly m (o6 m)
noncomputable def bdO7 (m : SMsg) : Bd := bdOnly m (o7 m)
noncomputable def bdO8 (m : SMsg) : Bd := bdOnly m (o8 m)
noncomputable def bdO9 (m : SMsg) : Bd := bdOnly m (o9 m)
noncomputable def bdGood (m o : SMsg) : Bd := { f := Tryz.f52, args := [.agg m.c], kb := { db := dbV [(87, .agg o.c), (86, .bool (sameMsgS m o)), (88, .bool (mayVoteS m.vote)), (89, .bool (mayCertS m.cert)), (91, .bool (mayBatchS m.batch)), (92, .bool (mayChangeS m)), (93, .bool (allS m.nnews 64 (fun i => mayEnvS (m.news i)))), (95, .bool (allS m.n 64 (fun i => maySignS (m.sig i))))] } }
def goodS (m : SMsg) : Bool := decide (1 ≤ m.kind) && (decide (m.kind ≤ 8) && (sameMsgS m (onlyS m) && ((!decide (m.kind = 2) || mayVoteS m.vote) && ((!decide (m.kind = 7) || mayCertS m.cert) && (uptoS m.epoch 1048576 && (uptoS m.slot 1099511627776 && (uptoS m.view 1099511627776 && (uptoS m.leader 64 && (mayBatchS m.batch && (mayChangeS m && (allS m.nnews 64 (fun i => mayEnvS (m.news i)) && (allS m.n 64 (fun i => maySignS (m.sig i)) && decide ((m.state.size : Int) ≤ 4194304)))))))))))))
end Go.Proofs.YtnmccoincblecaaGreat
namespace Go.Proofs.YtnmccoincblecaaGreat
open Go Sy Go.Proofs
theorem bdO2_p1 (m : SMsg) :
  along Tryz.prog (bdO2 m) [true] = (some (.agg [.int .i64 (SMsg.kind m), .int .i64 0, .int .i64 0, .int .i64 0, .int .i64 0, .bool false, rq 0 fun x => SReq.mk (0 : Int) (0 : Int) ByteArray.empty [], .int .i64 (SVote.kind (SMsg.vote m)), .int .i64 (SVote.epoch (SMsg.vote m)), .int .i64 (SVote.view (SMsg.vote m)), .int .i64 (SVote.slot (SMsg.vote m)), .seg .u8 32 (SVote.digest (SMsg.vote m)), .int .i64 0, .int .i64 0, .int .i64 0, hl 0 fun x => SHeld.mk (SBatch.mk false 0 fun x => SReq.mk (0 : Int) (0 : Int) ByteArray.empty []) (SCert.mk (SVote.mk (0 : Int) (0 : Int) (0 : Int) (0 : Int) []) 0 fun x => SSign.mk (0 : Int) []), nw 0 fun x => SEnv.mk (0 : Int) ByteArray.empty [], .seg .u8 32 z32, .int .i64 0, .int .i64 0, .int .i64 0, .int .i64 0, .seg .u8 32 z32, sg 0 fun x => SSign.mk (0 : Int) [], .str ByteArray.empty, sg 0 fun x => SSign.mk (0 : Int) []], [], [decide (SMsg.kind m = (2 : Int)) = true, q (SMsg.kind m), q1, q1, q1, q1, q false, q0, q (SVote.kind (SMsg.vote m)), q (SVote.epoch (SMsg.vote m)), q (SVote.view (SMsg.vote m)), q (SVote.slot (SMsg.vote m)), q (32 : Nat), q (SVote.digest (SMsg.vote m)), q1, q1, q1, q0, q0, q (32 : Nat), q z32, q1, q1, q1, q1, q (32 : Nat), q z32, q0, q ByteArray.empty, q0, q0, q0, q0]) : Option (V × Heap × List Prop)) := by kernel_rfl

theorem bdO3_p01 (m : SMsg) :
  along Tryz.prog (bdO3 m) [false, true] = (some (.agg [.int .i64 (SMsg.kind m), .int .i64 0, .int .i64 0, .int .i64 0, .int .i64 0, .bool false, rq 0 fun x => SReq.mk (0 : Int) (0 : Int) ByteArray.empty [], .int .i64 0, .int .i64 0, .int .i64 0, .int .i64 0, .seg .u8 32 z32, .int .i64 (SMsg.cepoch m), .int .i64 (SMsg.cleader m), .int .i64 (SMsg.cview m), hl (SMsg.nheld m) (SMsg.held m), nw 0 fun x => SEnv.mk (0 : Int) ByteArray.empty [], .seg .u8 32 z32, .int .i64 0, .int .i64 0, .int .i64 0, .int .i64 0, .seg .u8 32 z32, sg 0 fun x => SSign.mk (0 : Int) [], .str ByteArray.empty, sg 0 fun x => SSign.mk (0 : Int) []], [], [decide (SMsg.kind m = (2 : Int)) = false, decide (SMsg.kind m = (3 : Int)) = true, q (SMsg.kind m), q1, q1, q1, q1, q false, q0, q1, q1, q1, q1, q (32 : Nat), q z32, q (SMsg.cepoch m), q (SMsg.cleader m), q (SMsg.cview m), q (SMsg.nheld m), ∀ (k : Nat), k < SMsg.nheld m → SHeld.c (SMsg.held m k) = SHeld.c (SMsg.held (SMsg.mk (SMsg.kind m) (0 : Int) (0 : Int) (0 : Int) (0 : Int) (SBatch.mk false (0 : Nat) fun x => SReq.mk (0 : Int) (0 : Int) ByteArray.empty []) vote0 (SMsg.cepoch m) (SMsg.cleader m) (SMsg.cview m) (SMsg.nheld m) (SMsg.held m) (0 : Nat) (fun x => SEnv.mk (0 : Int) ByteArray.empty []) z32 (SCert.mk vote0 (0 : Nat) fun x => SSign.mk (0 : Int) []) ByteArray.empty (0 : Nat) fun x => SSign.mk (0 : Int) []) k), false = true → false = true, q0, q (32 : Nat), q z32, q1, q1, q1, q1, q (32 : Nat), q z32, q0, q ByteArray.empty, q0, q0, q0, q0]) : Option (V × Heap × List Prop)) := by kernel_rfl

theorem bdO4_p001 (m : SMsg) :
  along Tryz.prog (bdO4 m) [false, false, true] = (some (.agg [.int .i64 (SMsg.kind m), .int .i64 (SMsg.epoch m), .int .i64 (SMsg.leader m), .int .i64 (SMsg.view m), .int .i64 0, .bool false, rq 0 fun x => SReq.mk (0 : Int) (0 : Int) ByteArray.empty [], .int .i64 0, .int .i64 0, .int .i64 0, .int .i64 0, .seg .u8 32 z32, .int .i64 0, .int .i64 0, .int .i64 0, hl 0 fun x => SHeld.mk (SBatch.mk false 0 fun x => SReq.mk (0 : Int) (0 : Int) ByteArray.empty []) (SCert.mk (SVote.mk (0 : Int) (0 : Int) (0 : Int) (0 : Int) []) 0 fun x => SSign.mk (0 : Int) []), nw (SMsg.nnews m) (SMsg.news m), .seg .u8 32 z32, .int .i64 0, .int .i64 0, .int .i64 0, .int .i64 0, .seg .u8 32 z32, sg 0 fun x => SSign.mk (0 : Int) [], .str ByteArray.empty, sg 0 fun x => SSign.mk (0 : Int) []], [], [decide (SMsg.kind m = (2 : Int)) = false, decide (SMsg.kind m = (3 : Int)) = false, decide (SMsg.kind m = (4 : Int)) = true, q (SMsg.kind m), q (SMsg.epoch m), q (SMsg.leader m), q (SMsg.view m), q1, q false, q0, q1, q1, q1, q1, q (32 : Nat), q z32, q1, q1, q1, q0, q (SMsg.nnews m), ∀ (k : Nat), k < SMsg.nnews m → SEnv.c (SMsg.news m k) = SEnv.c (SMsg.news (SMsg.mk (SMsg.kind m) (SMsg.epoch m) (SMsg.leader m) (SMsg.view m) (0 : Int) (SBatch.mk false (0 : Nat) fun x => SReq.mk (0 : Int) (0 : Int) ByteArray.empty []) vote0 (0 : Int) (0 : Int) (0 : Int) (0 : Nat) (fun x => SHeld.mk (SBatch.mk false (0 : Nat) fun x => SReq.mk (0 : Int) (0 : Int) ByteArray.empty []) (SCert.mk (SVote.mk (0 : Int) (0 : Int) (0 : Int) (0 : Int) []) (0 : Nat) fun x => SSign.mk (0 : Int) [])) (SMsg.nnews m) (SMsg.news m) z32 (SCert.mk vote0 (0 : Nat) fun x => SSign.mk (0 : Int) []) ByteArray.empty (0 : Nat) fun x => SSign.mk (0 : Int) []) k), false = true → false = true, q (32 : Nat), q z32, q1, q1, q1, q1, q (32 : Nat), q z32, q0, q ByteArray.empty, q0, q0, q0, q0]) : Option (V × Heap × List Prop)) := by kernel_rfl

theorem bdO5_p0001 (m : SMsg) :
  along Tryz.prog (bdO5 m) [false, false, false, true] = (some (.agg [.int .i64 (SMsg.kind m), .int .i64 (SMsg.epoch m), .int .i64 0, .int .i64 0, .int .i64 0, .bool false, rq 0 fun x => SReq.mk (0 : Int) (0 : Int) ByteArray.empty [], .int .i64 0, .int .i64 0, .int .i64 0, .int .i64 0, .seg .u8 32 z32, .int .i64 0, .int .i64 0, .int .i64 0, hl 0 fun x => SHeld.mk (SBatch.mk false 0 fun x => SReq.mk (0 : Int) (0 : Int) ByteArray.empty []) (SCert.mk (SVote.mk (0 : Int) (0 : Int) (0 : Int) (0 : Int) []) 0 fun x => SSign.mk (0 : Int) []), nw 0 fun x => SEnv.mk (0 : Int) ByteArray.empty [], .seg .u8 32 (SMsg.digest m), .int .i64 0, .int .i64 0, .int .i64 0, .int .i64 0, .seg .u8 32 z32, sg 0 fun x => SSign.mk (0 : Int) [], .str ByteArray.empty, sg 0 fun x => SSign.mk (0 : Int) []], [], [decide (SMsg.kind m = (2 : Int)) = false, decide (SMsg.kind m = (3 : Int)) = false, decide (SMsg.kind m = (4 : Int)) = false, decide (SMsg.kind m = (5 : Int)) = true, q (SMsg.kind m), q (SMsg.epoch m), q1, q1, q1, q false, q0, q1, q1, q1, q1, q (32 : Nat), q z32, q1, q1, q1, q0, q0, q (32 : Nat), q (SMsg.digest m), q1, q1, q1, q1, q (32 : Nat), q z32, q0, q ByteArray.empty, q0, q0, q0, q0]) : Option (V × Heap × List Prop)) := by kernel_rfl

theorem bdO1_p00001 (m : SMsg) :
  along Tryz.prog (bdO1 m) [false, false, false, false, true] = (some (.agg [.int .i64 (SMsg.kind m), .int .i64 (SMsg.epoch m), .int .i64 0, .int .i64 0, .int .i64 (SMsg.slot m), .bool (SBatch.noop (SMsg.batch m)), rq (SBatch.n (SMsg.batch m)) (SBatch.req (SMsg.batch m)), .int .i64 0, .int .i64 0, .int .i64 0, .int .i64 0, .seg .u8 32 z32, .int .i64 0, .int .i64 0, .int .i64 0, hl 0 fun x => SHeld.mk (SBatch.mk false 0 fun x => SReq.mk (0 : Int) (0 : Int) ByteArray.empty []) (SCert.mk (SVote.mk (0 : Int) (0 : Int) (0 : Int) (0 : Int) []) 0 fun x => SSign.mk (0 : Int) []), nw 0 fun x => SEnv.mk (0 : Int) ByteArray.empty [], .seg .u8 32 z32, .int .i64 0, .int .i64 0, .int .i64 0, .int .i64 0, .seg .u8 32 z32, sg 0 fun x => SSign.mk (0 : Int) [], .str ByteArray.empty, sg 0 fun x => SSign.mk (0 : Int) []], [], [decide (SMsg.kind m = (2 : Int)) = false, decide (SMsg.kind m = (3 : Int)) = false, decide (SMsg.kind m = (4 : Int)) = false, decide (SMsg.kind m = (5 : Int)) = false, decide (SMsg.kind m = (1 : Int)) = true, q (SMsg.kind m), q (SMsg.epoch m), q1, q1, q (SMsg.slot m), q (SBatch.noop (SMsg.batch m)), q (SBatch.n (SMsg.batch m)), ∀ (k : Nat), k < SBatch.n (SMsg.batch m) → SReq.c (SBatch.req (SMsg.batch m) k) = SReq.c (SBatch.req (SMsg.batch m) k), false = true → false = true, q1, q1, q1, q1, q (32 : Nat), q z32, q1, q1, q1, q0, q0, q (32 : Nat), q z32, q1, q1, q1, q1, q (32 : Nat), q z32, q0, q ByteArray.empty, q0, q0, q0, q0]) : Option (V × Heap × List Prop)) := by kernel_rfl

theorem bdO6_p000001 (m : SMsg) :
  along Tryz.prog (bdO6 m) [false, false, false, false, false, true] = (some (.agg [.int .i64 (SMsg.kind m), .int .i64 (SMsg.epoch m), .int .i64 0, .int .i64 0, .int .i64 (SMsg.slot m), .bool false, rq 0 fun x => SReq.mk (0 : Int) (0 : Int) ByteArray.empty [], .int .i64 0, .int .i64 0, .int .i64 0, .int .i64 0, .seg .u8 32 z32, .int .i64 0, .int .i64 0, .int .i64 0, hl 0 fun x => SHeld.mk (SBatch.mk false 0 fun x => SReq.mk (0 : Int) (0 : Int) ByteArray.empty []) (SCert.mk (SVote.mk (0 : Int) (0 : Int) (0 : Int) (0 : Int) []) 0 fun x => SSign.mk (0 : Int) []), nw 0 fun x => SEnv.mk (0 : Int) ByteArray.empty [], .seg .u8 32 z32, .int .i64 0, .int .i64 0, .int .i64 0, .int .i64 0, .seg .u8 32 z32, sg 0 fun x => SSign.mk (0 : Int) [], .str ByteArray.empty, sg 0 fun x => SSign.mk (0 : Int) []], [], [decide (SMsg.kind m = (2 : Int)) = false, decide (SMsg.kind m = (3 : Int)) = false, decide (SMsg.kind m = (4 : Int)) = false, decide (SMsg.kind m = (5 : Int)) = false, decide (SMsg.kind m = (1 : Int)) = false, decide (SMsg.kind m = (6 : Int)) = true, q (SMsg.kind m), q (SMsg.epoch m), q1, q1, q (SMsg.slot m), q false, q0, q1, q1, q1, q1, q (32 : Nat), q z32, q1, q1, q1, q0, q0, q (32 : Nat), q z32, q1, q1, q1, q1, q (32 : Nat), q z32, q0, q ByteArray.empty, q0, q0, q0, q0]) : Option (V × Heap × List Prop)) := by kernel_rfl

theorem bdO7_p0000001 (m : SMsg) :
  along Tryz.prog (bdO7 m) [false, false, false, false, false, false, true] = (some (.agg [.int .i64 (SMsg.kind m), .int .i64 0, .int .i64 0, .int .i64 0, .int .i64 0, .bool (SBatch.noop (SMsg.batch m)), rq (SBatch.n (SMsg.batch m)) (SBatch.req (SMsg.batch m)), .int .i64 0, .int .i64 0, .int .i64 0, .int .i64 0, .seg .u8 32 z32, .int .i64 0, .int .i64 0, .int .i64 0, hl 0 fun x => SHeld.mk (SBatch.mk false 0 fun x => SReq.mk (0 : Int) (0 : Int) ByteArray.empty []) (SCert.mk (SVote.mk (0 : Int) (0 : Int) (0 : Int) (0 : Int) []) 0 fun x => SSign.mk (0 : Int) []), nw 0 fun x => SEnv.mk (0 : Int) ByteArray.empty [], .seg .u8 32 z32, .int .i64 (SVote.kind (SCert.vote (SMsg.cert m))), .int .i64 (SVote.epoch (SCert.vote (SMsg.cert m))), .int .i64 (SVote.view (SCert.vote (SMsg.cert m))), .int .i64 (SVote.slot (SCert.vote (SMsg.cert m))), .seg .u8 32 (SVote.digest (SCert.vote (SMsg.cert m))), sg (SCert.n (SMsg.cert m)) (SCert.sig (SMsg.cert m)), .str ByteArray.empty, sg 0 fun x => SSign.mk (0 : Int) []], [], [decide (SMsg.kind m = (2 : Int)) = false, decide (SMsg.kind m = (3 : Int)) = false, decide (SMsg.kind m = (4 : Int)) = false, decide (SMsg.kind m = (5 : Int)) = false, decide (SMsg.kind m = (1 : Int)) = false, decide (SMsg.kind m = (6 : Int)) = false, decide (SMsg.kind m = (7 : Int)) = true, q (SMsg.kind m), q1, q1, q1, q1, q (SBatch.noop (SMsg.batch m)), q (SBatch.n (SMsg.batch m)), ∀ (k : Nat), k < SBatch.n (SMsg.batch m) → SReq.c (SBatch.req (SMsg.batch m) k) = SReq.c (SBatch.req (SMsg.batch m) k), false = true → false = true, q1, q1, q1, q1, q (32 : Nat), q z32, q1, q1, q1, q0, q0, q (32 : Nat), q z32, q (SVote.kind (SCert.vote (SMsg.cert m))), q (SVote.epoch (SCert.vote (SMsg.cert m))), q (SVote.view (SCert.vote (SMsg.cert m))), q (SVote.slot (SCert.vote (SMsg.cert m))), q (32 : Nat), q (SVote.digest (SCert.vote (SMsg.cert m))), q (SCert.n (SMsg.cert m)), ∀ (k : Nat), k < SCert.n (SMsg.cert m) → SSign.c (SCert.sig (SMsg.cert m) k) = SSign.c (SCert.sig (SMsg.cert m) k), false = true → false = true, q ByteArray.empty, q0, q0, q0, q0]) : Option (V × Heap × List Prop)) := by kernel_rfl

theorem bdO8_p00000001 (m : SMsg) :
  along Tryz.prog (bdO8 m) [false, false, false, false, false, false, false, true] = (some (.agg [.int .i64 (SMsg.kind m), .int .i64 0, .int .i64 0, .int .i64 0, .int .i64 0, .bool false, rq 0 fun x => SReq.mk (0 : Int) (0 : Int) ByteArray.empty [], .int .i64 0, .int .i64 0, .int .i64 0, .int .i64 0, .seg .u8 32 z32, .int .i64 0, .int .i64 0, .int .i64 0, hl 0 fun x => SHeld.mk (SBatch.mk false 0 fun x => SReq.mk (0 : Int) (0 : Int) ByteArray.empty []) (SCert.mk (SVote.mk (0 : Int) (0 : Int) (0 : Int) (0 : Int) []) 0 fun x => SSign.mk (0 : Int) []), nw 0 fun x => SEnv.mk (0 : Int) ByteArray.empty [], .seg .u8 32 z32, .int .i64 0, .int .i64 0, .int .i64 0, .int .i64 0, .seg .u8 32 z32, sg 0 fun x => SSign.mk (0 : Int) [], .str (SMsg.state m), sg (SMsg.n m) (SMsg.sig m)], [], [decide (SMsg.kind m = (2 : Int)) = false, decide (SMsg.kind m = (3 : Int)) = false, decide (SMsg.kind m = (4 : Int)) = false, decide (SMsg.kind m = (5 : Int)) = false, decide (SMsg.kind m = (1 : Int)) = false, decide (SMsg.kind m = (6 : Int)) = false, decide (SMsg.kind m = (7 : Int)) = false, decide (SMsg.kind m = (8 : Int)) = true, q (SMsg.kind m), q1, q1, q1, q1, q false, q0, q1, q1, q1, q1, q (32 : Nat), q z32, q1, q1, q1, q0, q0, q (32 : Nat), q z32, q1, q1, q1, q1, q (32 : Nat), q z32, q0, q (SMsg.state m), q (SMsg.n m), ∀ (k : Nat), k < SMsg.n m → SSign.c (SMsg.sig m k) = SSign.c (SMsg.sig (SMsg.mk (SMsg.kind m) (0 : Int) (0 : Int) (0 : Int) (0 : Int) (SBatch.mk false (0 : Nat) fun x => SReq.mk (0 : Int) (0 : Int) ByteArray.empty []) vote0 (0 : Int) (0 : Int) (0 : Int) (0 : Nat) (fun x => SHeld.mk (SBatch.mk false (0 : Nat) fun x => SReq.mk (0 : Int) (0 : Int) ByteArray.empty []) (SCert.mk (SVote.mk (0 : Int) (0 : Int) (0 : Int) (0 : Int) []) (0 : Nat) fun x => SSign.mk (0 : Int) [])) (0 : Nat) (fun x => SEnv.mk (0 : Int) ByteArray.empty []) z32 (SCert.mk vote0 (0 : Nat) fun x => SSign.mk (0 : Int) []) (SMsg.state m) (SMsg.n m) (SMsg.sig m)) k), false = true → false = true, q0, q0, q0]) : Option (V × Heap × List Prop)) := by kernel_rfl

theorem bdO9_p00000000 (m : SMsg) :
  along Tryz.prog (bdO9 m) [false, false, false, false, false, false, false, false] = (some (.agg [.int .i64 (SMsg.kind m), .int .i64 0, .int .i64 0, .int .i64 0, .int .i64 0, .bool false, rq 0 fun x => SReq.mk (0 : Int) (0 : Int) ByteArray.empty [], .int .i64 0, .int .i64 0, .int .i64 0, .int .i64 0, .seg .u8 32 z32, .int .i64 0, .int .i64 0, .int .i64 0, hl 0 fun x => SHeld.mk (SBatch.mk false 0 fun x => SReq.mk (0 : Int) (0 : Int) ByteArray.empty []) (SCert.mk (SVote.mk (0 : Int) (0 : Int) (0 : Int) (0 : Int) []) 0 fun x => SSign.mk (0 : Int) []), nw 0 fun x => SEnv.mk (0 : Int) ByteArray.empty [], .seg .u8 32 z32, .int .i64 0, .int .i64 0, .int .i64 0, .int .i64 0, .seg .u8 32 z32, sg 0 fun x => SSign.mk (0 : Int) [], .str ByteArray.empty, sg 0 fun x => SSign.mk (0 : Int) []], [], [decide (SMsg.kind m = (2 : Int)) = false, decide (SMsg.kind m = (3 : Int)) = false, decide (SMsg.kind m = (4 : Int)) = false, decide (SMsg.kind m = (5 : Int)) = false, decide (SMsg.kind m = (1 : Int)) = false, decide (SMsg.kind m = (6 : Int)) = false, decide (SMsg.kind m = (7 : Int)) = false, decide (SMsg.kind m = (8 : Int)) = false, q (SMsg.kind m), q1, q1, q1, q1, q false, q0, q1, q1, q1, q1, q (32 : Nat), q z32, q1, q1, q1, q0, q0, q (32 : Nat), q z32, q1, q1, q1, q1, q (32 : Nat), q z32, q0, q ByteArray.empty, q0, q0, q0, q0]) : Option (V × Heap × List Prop)) := by kernel_rfl

noncomputable def bdGood_c (m : SMsg) (o : SMsg) : Nat → List Prop
 | 0 => [decide ((8 : Int) < SMsg.kind m) = false, T Tryz.prog 87 [.agg (SMsg.c m)] [] (.agg (SMsg.c o)) [], T Tryz.prog 86 [.agg (SMsg.c m), .agg (SMsg.c o)] [] (.bool (sameMsgS m o)) []]
 | 1 => [decide (SMsg.kind m = (2 : Int)) = true, T Tryz.prog 88 [.agg (SVote.c (SMsg.vote m))] [] (.bool (mayVoteS (SMsg.vote m))) []]
 | 2 => [(!mayVoteS (SMsg.vote m)) = false, decide (SMsg.kind m = (7 : Int)) = false, q false, T Tryz.prog 90 [.int .i64 (SMsg.epoch m), .int .i64 1048576] [] (.bool (uptoS (SMsg.epoch m) (1048576 : Int))) []]
 | 3 => [uptoS (SMsg.epoch m) (1048576 : Int) = true, T Tryz.prog 90 [.int .i64 (SMsg.slot m), .int .i64 1099511627776] [] (.bool (uptoS (SMsg.slot m) (1099511627776 : Int))) []]
 | 4 => [uptoS (SMsg.slot m) (1099511627776 : Int) = true, T Tryz.prog 90 [.int .i64 (SMsg.view m), .int .i64 1099511627776] [] (.bool (uptoS (SMsg.view m) (1099511627776 : Int))) []]
 | 5 => [uptoS (SMsg.view m) (1099511627776 : Int) = true, T Tryz.prog 90 [.int .i64 (SMsg.leader m), .int .i64 64] [] (.bool (uptoS (SMsg.leader m) (64 : Int))) []]
 | 6 => [uptoS (SMsg.leader m) (64 : Int) = true, T Tryz.prog 91 [.agg (SBatch.c (SMsg.batch m))] [] (.bool (mayBatchS (SMsg.batch m))) []]
 | 7 => [mayBatchS (SMsg.batch m) = true, T Tryz.prog 92 [.agg [.int .i64 (SMsg.cepoch m), .int .i64 (SMsg.cleader m), .int .i64 (SMsg.cview m), hl (SMsg.nheld m) (SMsg.held m)]] [] (.bool (mayChangeS m)) []]
 | 8 => [mayChangeS m = true, T Tryz.prog 93 [.ros 18 (SMsg.nnews m) (fun i => SEnv.c (SMsg.news m i)) false, .int .i64 64, .fn (.func 94) [] []] [] (.bool (allS (SMsg.nnews m) 64 fun i => mayEnvS (SMsg.news m i))) []]
 | 9 => [(allS (SMsg.nnews m) (64 : Nat) fun i => mayEnvS (SMsg.news m i)) = true, T Tryz.prog 95 [.ros 17 (SMsg.n m) (fun i => SSign.c (SMsg.sig m i)) false, .int .i64 64, .fn (.func 96) [] []] [] (.bool (allS (SMsg.n m) 64 fun i => maySignS (SMsg.sig m i))) []]
 | 10 => [decide (SMsg.kind m = (7 : Int)) = true, T Tryz.prog 89 [.agg [.int .i64 (SVote.kind (SCert.vote (SMsg.cert m))), .int .i64 (SVote.epoch (SCert.vote (SMsg.cert m))), .int .i64 (SVote.view (SCert.vote (SMsg.cert m))), .int .i64 (SVote.slot (SCert.vote (SMsg.cert m))), .seg .u8 32 (SVote.digest (SCert.vote (SMsg.cert m))), sg (SCert.n (SMsg.cert m)) (SCert.sig (SMsg.cert m))]] [] (.bool (mayCertS (SMsg.cert m))) []]
 | 11 => [(!mayCertS (SMsg.cert m)) = false, T Tryz.prog 90 [.int .i64 (SMsg.epoch m), .int .i64 1048576] [] (.bool (uptoS (SMsg.epoch m) (1048576 : Int))) []]
 | 12 => [uptoS (SMsg.epoch m) (1048576 : Int) = true, T Tryz.prog 90 [.int .i64 (SMsg.slot m), .int .i64 1099511627776] [] (.bool (uptoS (SMsg.slot m) (1099511627776 : Int))) []]
 | 13 => [uptoS (SMsg.slot m) (1099511627776 : Int) = true, T Tryz.prog 90 [.int .i64 (SMsg.view m), .int .i64 1099511627776] [] (.bool (uptoS (SMsg.view m) (1099511627776 : Int))) []]
 | 14 => [uptoS (SMsg.view m) (1099511627776 : Int) = true, T Tryz.prog 90 [.int .i64 (SMsg.leader m), .int .i64 64] [] (.bool (uptoS (SMsg.leader m) (64 : Int))) []]
 | 15 => [uptoS (SMsg.leader m) (64 : Int) = true, T Tryz.prog 91 [.agg (SBatch.c (SMsg.batch m))] [] (.bool (mayBatchS (SMsg.batch m))) []]
 | 16 => [mayBatchS (SMsg.batch m) = true, T Tryz.prog 92 [.agg [.int .i64 (SMsg.cepoch m), .int .i64 (SMsg.cleader m), .int .i64 (SMsg.cview m), hl (SMsg.nheld m) (SMsg.held m)]] [] (.bool (mayChangeS m)) []]
 | 17 => [mayChangeS m = true, T Tryz.prog 93 [.ros 18 (SMsg.nnews m) (fun i => SEnv.c (SMsg.news m i)) false, .int .i64 64, .fn (.func 94) [] []] [] (.bool (allS (SMsg.nnews m) 64 fun i => mayEnvS (SMsg.news m i))) []]
 | 18 => [(allS (SMsg.nnews m) (64 : Nat) fun i => mayEnvS (SMsg.news m i)) = true, T Tryz.prog 95 [.ros 17 (SMsg.n m) (fun i => SSign.c (SMsg.sig m i)) false, .int .i64 64, .fn (.func 96) [] []] [] (.bool (allS (SMsg.n m) 64 fun i => maySignS (SMsg.sig m i))) []]
 | 19 => [decide (SMsg.kind m = (7 : Int)) = false, q false, T Tryz.prog 90 [.int .i64 (SMsg.epoch m), .int .i64 1048576] [] (.bool (uptoS (SMsg.epoch m) (1048576 : Int))) []]
 | 20 => [uptoS (SMsg.epoch m) (1048576 : Int) = true, T Tryz.prog 90 [.int .i64 (SMsg.slot m), .int .i64 1099511627776] [] (.bool (uptoS (SMsg.slot m) (1099511627776 : Int))) []]
 | 21 => [uptoS (SMsg.slot m) (1099511627776 : Int) = true, T Tryz.prog 90 [.int .i64 (SMsg.view m), .int .i64 1099511627776] [] (.bool (uptoS (SMsg.view m) (1099511627776 : Int))) []]
 | 22 => [uptoS (SMsg.view m) (1099511627776 : Int) = true, T Tryz.prog 90 [.int .i64 (SMsg.leader m), .int .i64 64] [] (.bool (uptoS (SMsg.leader m) (64 : Int))) []]
 | 23 => [uptoS (SMsg.leader m) (64 : Int) = true, T Tryz.prog 91 [.agg (SBatch.c (SMsg.batch m))] [] (.bool (mayBatchS (SMsg.batch m))) []]
 | 24 => [mayBatchS (SMsg.batch m) = true, T Tryz.prog 92 [.agg [.int .i64 (SMsg.cepoch m), .int .i64 (SMsg.cleader m), .int .i64 (SMsg.cview m), hl (SMsg.nheld m) (SMsg.held m)]] [] (.bool (mayChangeS m)) []]
 | 25 => [mayChangeS m = true, T Tryz.prog 93 [.ros 18 (SMsg.nnews m) (fun i => SEnv.c (SMsg.news m i)) false, .int .i64 64, .fn (.func 94) [] []] [] (.bool (allS (SMsg.nnews m) 64 fun i => mayEnvS (SMsg.news m i))) []]
 | 26 => [(allS (SMsg.nnews m) (64 : Nat) fun i => mayEnvS (SMsg.news m i)) = true, T Tryz.prog 95 [.ros 17 (SMsg.n m) (fun i => SSign.c (SMsg.sig m i)) false, .int .i64 64, .fn (.func 96) [] []] [] (.bool (allS (SMsg.n m) 64 fun i => maySignS (SMsg.sig m i))) []]
 | _ => []
theorem bdGood_p111 (m : SMsg) (o : SMsg) :
 along Tryz.prog (bdGood m o) [true, true, true] = (some (.bool false, [], [decide (SMsg.kind m < (1 : Int)) = true, q2, q2]) : Option (V × Heap × List Prop)) := by kernel_rfl

theorem bdGood_p011 (m : SMsg) (o : SMsg) :
 along Tryz.prog (bdGood m o) [false, true, true] = (some (.bool false, [], [decide (SMsg.kind m < (1 : Int)) = false, decide ((8 : Int) < SMsg.kind m) = true, q2]) : Option (V × Heap × List Prop)) := by kernel_rfl

theorem bdGood_p001 (m : SMsg) (o : SMsg) :
 along Tryz.prog (bdGood m o) [false, false, true] = (some (.bool false, [], [decide (SMsg.kind m < (1 : Int)) = false] ++ (bdGood_c m o 0 ++ [(!sameMsgS m o) = true])) : Option (V × Heap × List Prop)) := by kernel_rfl

theorem bdGood_p000111 (m : SMsg) (o : SMsg) :
 along Tryz.prog (bdGood m o) [false, false, false, true, true, true] = (some (.bool false, [], [decide (SMsg.kind m < (1 : Int)) = false] ++ (bdGood_c m o 0 ++ ([(!sameMsgS m o) = false] ++ (bdGood_c m o 1 ++ [(!mayVoteS (SMsg.vote m)) = true, q2])))) : Option (V × Heap × List Prop)) := by kernel_rfl

theorem bdGood_p0000011 (m : SMsg) (o : SMsg) :
 along Tryz.prog (bdGood m o) [false, false, false, false, false, true, true] = (some (.bool false, [], [decide (SMsg.kind m < (1 : Int)) = false] ++ (bdGood_c m o 0 ++ ([(!sameMsgS m o) = false, decide (SMsg.kind m = (2 : Int)) = false, q false] ++ (bdGood_c m o 10 ++ [(!mayCertS (SMsg.cert m)) = true])))) : Option (V × Heap × List Prop)) := by kernel_rfl

theorem bdGood_p000100000000000 (m : SMsg) (o : SMsg) :
 along Tryz.prog (bdGood m o) [false, false, false, true, false, false, false, false, false, false, false, false, false, false, false] = (some (.bool false, [], [decide (SMsg.kind m < (1 : Int)) = false] ++ (bdGood_c m o 0 ++ ([(!sameMsgS m o) = false] ++ (bdGood_c m o 1 ++ (bdGood_c m o 2 ++ [uptoS (SMsg.epoch m) (1048576 : Int) = false, q false, q false, q false, q false, q false, q false, q false]))))) : Option (V × Heap × List Prop)) := by kernel_rfl

theorem bdGood_p000100010000000 (m : SMsg) (o : SMsg) :
 along Tryz.prog (bdGood m o) [false, false, false, true, false, false, false, true, false, false, false, false, false, false, false] = (some (.bool false, [], [decide (SMsg.kind m < (1 : Int)) = false] ++ (bdGood_c m o 0 ++ ([(!sameMsgS m o) = false] ++ (bdGood_c m o 1 ++ (bdGood_c m o 2 ++ (bdGood_c m o 3 ++ [uptoS (SMsg.slot m) (1099511627776 : Int) = false, q false, q false, q false, q false, q false, q false])))))) : Option (V × Heap × List Prop)) := by kernel_rfl

theorem bdGood_p000100011000000 (m : SMsg) (o : SMsg) :
 along Tryz.prog (bdGood m o) [false, false, false, true, false, false, false, true, true, false, false, false, false, false, false] = (some (.bool false, [], [decide (SMsg.kind m < (1 : Int)) = false] ++ (bdGood_c m o 0 ++ ([(!sameMsgS m o) = false] ++ (bdGood_c m o 1 ++ (bdGood_c m o 2 ++ (bdGood_c m o 3 ++ (bdGood_c m o 4 ++ [uptoS (SMsg.view m) (1099511627776 : Int) = false, q false, q false, q false, q false, q false]))))))) : Option (V × Heap × List Prop)) := by kernel_rfl

theorem bdGood_p000100011100000 (m : SMsg) (o : SMsg) :
 along Tryz.prog (bdGood m o) [false, false, false, true, false, false, false, true, true, true, false, false, false, false, false] = (some (.bool false, [], [decide (SMsg.kind m < (1 : Int)) = false] ++ (bdGood_c m o 0 ++ ([(!sameMsgS m o) = false] ++ (bdGood_c m o 1 ++ (bdGood_c m o 2 ++ (bdGood_c m o 3 ++ (bdGood_c m o 4 ++ (bdGood_c m o 5 ++ [uptoS (SMsg.leader m) (64 : Int) = false, q false, q false, q false, q false])))))))) : Option (V × Heap × List Prop)) := by kernel_rfl

theorem bdGood_p000100011110000 (m : SMsg) (o : SMsg) :
 along Tryz.prog (bdGood m o) [false, false, false, true, false, false, false, true, true, true, true, false, false, false, false] = (some (.bool false, [], [decide (SMsg.kind m < (1 : Int)) = false] ++ (bdGood_c m o 0 ++ ([(!sameMsgS m o) = false] ++ (bdGood_c m o 1 ++ (bdGood_c m o 2 ++ (bdGood_c m o 3 ++ (bdGood_c m o 4 ++ (bdGood_c m o 5 ++ (bdGood_c m o 6 ++ [mayBatchS (SMsg.batch m) = false, q false, q false, q false]))))))))) : Option (V × Heap × List Prop)) := by kernel_rfl

theorem bdGood_p000100011111000 (m : SMsg) (o : SMsg) :
 along Tryz.prog (bdGood m o) [false, false, false, true, false, false, false, true, true, true, true, true, false, false, false] = (some (.bool false, [], [decide (SMsg.kind m < (1 : Int)) = false] ++ (bdGood_c m o 0 ++ ([(!sameMsgS m o) = false] ++ (bdGood_c m o 1 ++ (bdGood_c m o 2 ++ (bdGood_c m o 3 ++ (bdGood_c m o 4 ++ (bdGood_c m o 5 ++ (bdGood_c m o 6 ++ (bdGood_c m o 7 ++ [mayChangeS m = false, q false, q false])))))))))) : Option (V × Heap × List Prop)) := by kernel_rfl

theorem bdGood_p000100011111100 (m : SMsg) (o : SMsg) :
 along Tryz.prog (bdGood m o) [false, false, false, true, false, false, false, true, true, true, true, true, true, false, false] = (some (.bool false, [], [decide (SMsg.kind m < (1 : Int)) = false] ++ (bdGood_c m o 0 ++ ([(!sameMsgS m o) = false] ++ (bdGood_c m o 1 ++ (bdGood_c m o 2 ++ (bdGood_c m o 3 ++ (bdGood_c m o 4 ++ (bdGood_c m o 5 ++ (bdGood_c m o 6 ++ (bdGood_c m o 7 ++ (bdGood_c m o 8 ++ [(allS (SMsg.nnews m) (64 : Nat) fun i => mayEnvS (SMsg.news m i)) = false, q false]))))))))))) : Option (V × Heap × List Prop)) := by kernel_rfl

theorem bdGood_p000100011111110 (m : SMsg) (o : SMsg) :
 along Tryz.prog (bdGood m o) [false, false, false, true, false, false, false, true, true, true, true, true, true, true, false] = (some (.bool false, [], [decide (SMsg.kind m < (1 : Int)) = false] ++ (bdGood_c m o 0 ++ ([(!sameMsgS m o) = false] ++ (bdGood_c m o 1 ++ (bdGood_c m o 2 ++ (bdGood_c m o 3 ++ (bdGood_c m o 4 ++ (bdGood_c m o 5 ++ (bdGood_c m o 6 ++ (bdGood_c m o 7 ++ (bdGood_c m o 8 ++ (bdGood_c m o 9 ++ [(allS (SMsg.n m) (64 : Nat) fun i => maySignS (SMsg.sig m i)) = false])))))))))))) : Option (V × Heap × List Prop)) := by kernel_rfl

theorem bdGood_p000100011111111 (m : SMsg) (o : SMsg) :
 along Tryz.prog (bdGood m o) [false, false, false, true, false, false, false, true, true, true, true, true, true, true, true] = (some (.bool (decide ((↑(ByteArray.size (SMsg.state m)) : Int) ≤ (4194304 : Int))), [], [decide (SMsg.kind m < (1 : Int)) = false] ++ (bdGood_c m o 0 ++ ([(!sameMsgS m o) = false] ++ (bdGood_c m o 1 ++ (bdGood_c m o 2 ++ (bdGood_c m o 3 ++ (bdGood_c m o 4 ++ (bdGood_c m o 5 ++ (bdGood_c m o 6 ++ (bdGood_c m o 7 ++ (bdGood_c m o 8 ++ (bdGood_c m o 9 ++ [(allS (SMsg.n m) (64 : Nat) fun i => maySignS (SMsg.sig m i)) = true])))))))))))) : Option (V × Heap × List Prop)) := by kernel_rfl

theorem bdGood_p000001000000000 (m : SMsg) (o : SMsg) :
 along Tryz.prog (bdGood m o) [false, false, false, false, false, true, false, false, false, false, false, false, false, false, false] = (some (.bool false, [], [decide (SMsg.kind m < (1 : Int)) = false] ++ (bdGood_c m o 0 ++ ([(!sameMsgS m o) = false, decide (SMsg.kind m = (2 : Int)) = false, q false] ++ (bdGood_c m o 10 ++ (bdGood_c m o 11 ++ [uptoS (SMsg.epoch m) (1048576 : Int) = false, q false, q false, q false, q false, q false, q false, q false]))))) : Option (V × Heap × List Prop)) := by kernel_rfl

theorem bdGood_p000001010000000 (m : SMsg) (o : SMsg) :
 along Tryz.prog (bdGood m o) [false, false, false, false, false, true, false, true, false, false, false, false, false, false, false] = (some (.bool false, [], [decide (SMsg.kind m < (1 : Int)) = false] ++ (bdGood_c m o 0 ++ ([(!sameMsgS m o) = false, decide (SMsg.kind m = (2 : Int)) = false, q false] ++ (bdGood_c m o 10 ++ (bdGood_c m o 11 ++ (bdGood_c m o 12 ++ [uptoS (SMsg.slot m) (1099511627776 : Int) = false, q false, q false, q false, q false, q false, q false])))))) : Option (V × Heap × List Prop)) := by kernel_rfl

theorem bdGood_p000001011000000 (m : SMsg) (o : SMsg) :
 along Tryz.prog (bdGood m o) [false, false, false, false, false, true, false, true, true, false, false, false, false, false, false] = (some (.bool false, [], [decide (SMsg.kind m < (1 : Int)) = false] ++ (bdGood_c m o 0 ++ ([(!sameMsgS m o) = false, decide (SMsg.kind m = (2 : Int)) = false, q false] ++ (bdGood_c m o 10 ++ (bdGood_c m o 11 ++ (bdGood_c m o 12 ++ (bdGood_c m o 13 ++ [uptoS (SMsg.view m) (1099511627776 : Int) = false, q false, q false, q false, q false, q false]))))))) : Option (V × Heap × List Prop)) := by kernel_rfl

theorem bdGood_p000001011100000 (m : SMsg) (o : SMsg) :
 along Tryz.prog (bdGood m o) [false, false, false, false, false, true, false, true, true, true, false, false, false, false, false] = (some (.bool false, [], [decide (SMsg.kind m < (1 : Int)) = false] ++ (bdGood_c m o 0 ++ ([(!sameMsgS m o) = false, decide (SMsg.kind m = (2 : Int)) = false, q false] ++ (bdGood_c m o 10 ++ (bdGood_c m o 11 ++ (bdGood_c m o 12 ++ (bdGood_c m o 13 ++ (bdGood_c m o 14 ++ [uptoS (SMsg.leader m) (64 : Int) = false, q false, q false, q false, q false])))))))) : Option (V × Heap × List Prop)) := by kernel_rfl

theorem bdGood_p000001011110000 (m : SMsg) (o : SMsg) :
 along Tryz.prog (bdGood m o) [false, false, false, false, false, true, false, true, true, true, true, false, false, false, false] = (some (.bool false, [], [decide (SMsg.kind m < (1 : Int)) = false] ++ (bdGood_c m o 0 ++ ([(!sameMsgS m o) = false, decide (SMsg.kind m = (2 : Int)) = false, q false] ++ (bdGood_c m o 10 ++ (bdGood_c m o 11 ++ (bdGood_c m o 12 ++ (bdGood_c m o 13 ++ (bdGood_c m o 14 ++ (bdGood_c m o 15 ++ [mayBatchS (SMsg.batch m) = false, q false, q false, q false]))))))))) : Option (V × Heap × List Prop)) := by kernel_rfl

theorem bdGood_p000001011111000 (m : SMsg) (o : SMsg) :
 along Tryz.prog (bdGood m o) [false, false, false, false, false, true, false, true, true, true, true, true, false, false, false] = (some (.bool false, [], [decide (SMsg.kind m < (1 : Int)) = false] ++ (bdGood_c m o 0 ++ ([(!sameMsgS m o) = false, decide (SMsg.kind m = (2 : Int)) = false, q false] ++ (bdGood_c m o 10 ++ (bdGood_c m o 11 ++ (bdGood_c m o 12 ++ (bdGood_c m o 13 ++ (bdGood_c m o 14 ++ (bdGood_c m o 15 ++ (bdGood_c m o 16 ++ [mayChangeS m = false, q false, q false])))))))))) : Option (V × Heap × List Prop)) := by kernel_rfl

theorem bdGood_p000001011111100 (m : SMsg) (o : SMsg) :
 along Tryz.prog (bdGood m o) [false, false, false, false, false, true, false, true, true, true, true, true, true, false, false] = (some (.bool false, [], [decide (SMsg.kind m < (1 : Int)) = false] ++ (bdGood_c m o 0 ++ ([(!sameMsgS m o) = false, decide (SMsg.kind m = (2 : Int)) = false, q false] ++ (bdGood_c m o 10 ++ (bdGood_c m o 11 ++ (bdGood_c m o 12 ++ (bdGood_c m o 13 ++ (bdGood_c m o 14 ++ (bdGood_c m o 15 ++ (bdGood_c m o 16 ++ (bdGood_c m o 17 ++ [(allS (SMsg.nnews m) (64 : Nat) fun i => mayEnvS (SMsg.news m i)) = false, q false]))))))))))) : Option (V × Heap × List Prop)) := by kernel_rfl

theorem bdGood_p000001011111110 (m : SMsg) (o : SMsg) :
 along Tryz.prog (bdGood m o) [false, false, false, false, false, true, false, true, true, true, true, true, true, true, false] = (some (.bool false, [], [decide (SMsg.kind m < (1 : Int)) = false] ++ (bdGood_c m o 0 ++ ([(!sameMsgS m o) = false, decide (SMsg.kind m = (2 : Int)) = false, q false] ++ (bdGood_c m o 10 ++ (bdGood_c m o 11 ++ (bdGood_c m o 12 ++ (bdGood_c m o 13 ++ (bdGood_c m o 14 ++ (bdGood_c m o 15 ++ (bdGood_c m o 16 ++ (bdGood_c m o 17 ++ (bdGood_c m o 18 ++ [(allS (SMsg.n m) (64 : Nat) fun i => maySignS (SMsg.sig m i)) = false])))))))))))) : Option (V × Heap × List Prop)) := by kernel_rfl

theorem bdGood_p000001011111111 (m : SMsg) (o : SMsg) :
 along Tryz.prog (bdGood m o) [false, false, false, false, false, true, false, true, true, true, true, true, true, true, true] = (some (.bool (decide ((↑(ByteArray.size (SMsg.state m)) : Int) ≤ (4194304 : Int))), [], [decide (SMsg.kind m < (1 : Int)) = false] ++ (bdGood_c m o 0 ++ ([(!sameMsgS m o) = false, decide (SMsg.kind m = (2 : Int)) = false, q false] ++ (bdGood_c m o 10 ++ (bdGood_c m o 11 ++ (bdGood_c m o 12 ++ (bdGood_c m o 13 ++ (bdGood_c m o 14 ++ (bdGood_c m o 15 ++ (bdGood_c m o 16 ++ (bdGood_c m o 17 ++ (bdGood_c m o 18 ++ [(allS (SMsg.n m) (64 : Nat) fun i => maySignS (SMsg.sig m i)) = true])))))))))))) : Option (V × Heap × List Prop)) := by kernel_rfl

theorem bdGood_p000000000000000 (m : SMsg) (o : SMsg) :
 along Tryz.prog (bdGood m o) [false, false, false, false, false, false, false, false, false, false, false, false, false, false, false] = (some (.bool false, [], [decide (SMsg.kind m < (1 : Int)) = false] ++ (bdGood_c m o 0 ++ ([(!sameMsgS m o) = false, decide (SMsg.kind m = (2 : Int)) = false, q false] ++ (bdGood_c m o 19 ++ [uptoS (SMsg.epoch m) (1048576 : Int) = false, q false, q false, q false, q false, q false, q false, q false])))) : Option (V × Heap × List Prop)) := by kernel_rfl

theorem bdGood_p000000010000000 (m : SMsg) (o : SMsg) :
 along Tryz.prog (bdGood m o) [false, false, false, false, false, false, false, true, false, false, false, false, false, false, false] = (some (.bool false, [], [decide (SMsg.kind m < (1 : Int)) = false] ++ (bdGood_c m o 0 ++ ([(!sameMsgS m o) = false, decide (SMsg.kind m = (2 : Int)) = false, q false] ++ (bdGood_c m o 19 ++ (bdGood_c m o 20 ++ [uptoS (SMsg.slot m) (1099511627776 : Int) = false, q false, q false, q false, q false, q false, q false]))))) : Option (V × Heap × List Prop)) := by kernel_rfl

theorem bdGood_p000000011000000 (m : SMsg) (o : SMsg) :
 along Tryz.prog (bdGood m o) [false, false, false, false, false, false, false, true, true, false, false, false, false, false, false] = (some (.bool false, [], [decide (SMsg.kind m < (1 : Int)) = false] ++ (bdGood_c m o 0 ++ ([(!sameMsgS m o) = false, decide (SMsg.kind m = (2 : Int)) = false, q false] ++ (bdGood_c m o 19 ++ (bdGood_c m o 20 ++ (bdGood_c m o 21 ++ [uptoS (SMsg.view m) (1099511627776 : Int) = false, q false, q false, q false, q false, q false])))))) : Option (V × Heap × List Prop)) := by kernel_rfl

theorem bdGood_p000000011100000 (m : SMsg) (o : SMsg) :
 along Tryz.prog (bdGood m o) [false, false, false, false, false, false, false, true, true, true, false, false, false, false, false] = (some (.bool false, [], [decide (SMsg.kind m < (1 : Int)) = false] ++ (bdGood_c m o 0 ++ ([(!sameMsgS m o) = false, decide (SMsg.kind m = (2 : Int)) = false, q false] ++ (bdGood_c m o 19 ++ (bdGood_c m o 20 ++ (bdGood_c m o 21 ++ (bdGood_c m o 22 ++ [uptoS (SMsg.leader m) (64 : Int) = false, q false, q false, q false, q false]))))))) : Option (V × Heap × List Prop)) := by kernel_rfl

theorem bdGood_p000000011110000 (m : SMsg) (o : SMsg) :
 along Tryz.prog (bdGood m o) [false, false, false, false, false, false, false, true, true, true, true, false, false, false, false] = (some (.bool false, [], [decide (SMsg.kind m < (1 : Int)) = false] ++ (bdGood_c m o 0 ++ ([(!sameMsgS m o) = false, decide (SMsg.kind m = (2 : Int)) = false, q false] ++ (bdGood_c m o 19 ++ (bdGood_c m o 20 ++ (bdGood_c m o 21 ++ (bdGood_c m o 22 ++ (bdGood_c m o 23 ++ [mayBatchS (SMsg.batch m) = false, q false, q false, q false])))))))) : Option (V × Heap × List Prop)) := by kernel_rfl

theorem bdGood_p000000011111000 (m : SMsg) (o : SMsg) :
 along Tryz.prog (bdGood m o) [false, false, false, false, false, false, false, true, true, true, true, true, false, false, false] = (some (.bool false, [], [decide (SMsg.kind m < (1 : Int)) = false] ++ (bdGood_c m o 0 ++ ([(!sameMsgS m o) = false, decide (SMsg.kind m = (2 : Int)) = false, q false] ++ (bdGood_c m o 19 ++ (bdGood_c m o 20 ++ (bdGood_c m o 21 ++ (bdGood_c m o 22 ++ (bdGood_c m o 23 ++ (bdGood_c m o 24 ++ [mayChangeS m = false, q false, q false]))))))))) : Option (V × Heap × List Prop)) := by kernel_rfl

theorem bdGood_p000000011111100 (m : SMsg) (o : SMsg) :
 along Tryz.prog (bdGood m o) [false, false, false, false, false, false, false, true, true, true, true, true, true, false, false] = (some (.bool false, [], [decide (SMsg.kind m < (1 : Int)) = false] ++ (bdGood_c m o 0 ++ ([(!sameMsgS m o) = false, decide (SMsg.kind m = (2 : Int)) = false, q false] ++ (bdGood_c m o 19 ++ (bdGood_c m o 20 ++ (bdGood_c m o 21 ++ (bdGood_c m o 22 ++ (bdGood_c m o 23 ++ (bdGood_c m o 24 ++ (bdGood_c m o 25 ++ [(allS (SMsg.nnews m) (64 : Nat) fun i => mayEnvS (SMsg.news m i)) = false, q false])))))))))) : Option (V × Heap × List Prop)) := by kernel_rfl

theorem bdGood_p000000011111110 (m : SMsg) (o : SMsg) :
 along Tryz.prog (bdGood m o) [false, false, false, false, false, false, false, true, true, true, true, true, true, true, false] = (some (.bool false, [], [decide (SMsg.kind m < (1 : Int)) = false] ++ (bdGood_c m o 0 ++ ([(!sameMsgS m o) = false, decide (SMsg.kind m = (2 : Int)) = false, q false] ++ (bdGood_c m o 19 ++ (bdGood_c m o 20 ++ (bdGood_c m o 21 ++ (bdGood_c m o 22 ++ (bdGood_c m o 23 ++ (bdGood_c m o 24 ++ (bdGood_c m o 25 ++ (bdGood_c m o 26 ++ [(allS (SMsg.n m) (64 : Nat) fun i => maySignS (SMsg.sig m i)) = false]))))))))))) : Option (V × Heap × List Prop)) := by kernel_rfl

theorem bdGood_p000000011111111 (m : SMsg) (o : SMsg) :
 along Tryz.prog (bdGood m o) [false, false, false, false, false, false, false, true, true, true, true, true, true, true, true] = (some (.bool (decide ((↑(ByteArray.size (SMsg.state m)) : Int) ≤ (4194304 : Int))), [], [decide (SMsg.kind m < (1 : Int)) = false] ++ (bdGood_c m o 0 ++ ([(!sameMsgS m o) = false, decide (SMsg.kind m = (2 : Int)) = false, q false] ++ (bdGood_c m o 19 ++ (bdGood_c m o 20 ++ (bdGood_c m o 21 ++ (bdGood_c m o 22 ++ (bdGood_c m o 23 ++ (bdGood_c m o 24 ++ (bdGood_c m o 25 ++ (bdGood_c m o 26 ++ [(allS (SMsg.n m) (64 : Nat) fun i => maySignS (SMsg.sig m i)) = true]))))))))))) : Option (V × Heap × List Prop)) := by kernel_rfl

theorem T_only (m : SMsg) : T Tryz.prog 87 [.agg m.c] [] (.agg (onlyS m).c) [] := by
 by_cases h1 : m.kind = 2
 ·refine T.val (T_al (bdO2_p1 m) Tryz.func87 ?_) (by simp only [onlyS, if_pos h1]; rfl)
  simp [All, All_append, bdGood_c, h1]
 ·
  by_cases h2 : m.kind = 3
  ·refine T.val (T_al (bdO3_p01 m) Tryz.func87 ?_) (by simp only [onlyS, if_neg h1, if_pos h2]; rfl)
   simp [All, All_append, bdGood_c, h1, h2]
  ·
   by_cases h3 : m.kind = 4
   ·refine T.val (T_al (bdO4_p001 m) Tryz.func87 ?_) (by simp only [onlyS, if_neg h1, if_neg h2, if_pos h3]; rfl)
    simp [All, All_append, bdGood_c, h1, h2, h3]
   ·
    by_cases h4 : m.kind = 5
    ·refine T.val (T_al (bdO5_p0001 m) Tryz.func87 ?_) (by simp only [onlyS, if_neg h1, if_neg h2, if_neg h3, if_pos h4]; rfl)
     simp [All, All_append, bdGood_c, h1, h2, h3, h4]
    ·
     by_cases h5 : m.kind = 1
     ·refine T.val (T_al (bdO1_p00001 m) Tryz.func87 ?_) (by simp only [onlyS, if_neg h1, if_neg h2, if_neg h3, if_neg h4, if_pos h5]; rfl)
      simp [All, All_append, bdGood_c, h1, h2, h3, h4, h5]
     ·
      by_cases h6 : m.kind = 6
      ·refine T.val (T_al (bdO6_p000001 m) Tryz.func87 ?_) (by simp only [onlyS, if_neg h1, if_neg h2, if_neg h3, if_neg h4, if_neg h5, if_pos h6]; rfl)
       simp [All, All_append, bdGood_c, h1, h2, h3, h4, h5, h6]
      ·
       by_cases h7 : m.kind = 7
       ·refine T.val (T_al (bdO7_p0000001 m) Tryz.func87 ?_) (by simp only [onlyS, if_neg h1, if_neg h2, if_neg h3, if_neg h4, if_neg h5, if_neg h6, if_pos h7]; rfl)
        simp [All, All_append, bdGood_c, h1, h2, h3, h4, h5, h6, h7]
       ·
        by_cases h8 : m.kind = 8
        ·refine T.val (T_al (bdO8_p00000001 m) Tryz.func87 ?_) (by simp only [onlyS, if_neg h1, if_neg h2, if_neg h3, if_neg h4, if_neg h5, if_neg h6, if_neg h7, if_pos h8]; rfl)
         simp [All, All_append, bdGood_c, h1, h2, h3, h4, h5, h6, h7, h8]
        ·
         refine T.val (T_al (bdO9_p00000000 m) Tryz.func87 ?_) (by simp only [onlyS, if_neg h1, if_neg h2, if_neg h3, if_neg h4, if_neg h5, if_neg h6, if_neg h7, if_neg h8]; rfl)
         simp [All, All_append, bdGood_c, h1, h2, h3, h4, h5, h6, h7, h8]
theorem T_good {m : SMsg} (hf : FitM m) : T Tryz.prog 52 [.agg m.c] [] (.bool (goodS m)) [] := by
 by_cases h1 : m.kind < 1
 ·
  refine T.bool (T_al (bdGood_p111 m (onlyS m)) Tryz.func52 ?_) (by simp [goodS, h1] <;> omega)
  simp only [All, All_append, bdGood_c]
  and_intros
  all_goals first | (simp [h1]; done)
 ·
  by_cases h2 : 8 < m.kind
  ·
   refine T.bool (T_al (bdGood_p011 m (onlyS m)) Tryz.func52 ?_) (by simp [goodS, h1, h2] <;> omega)
   simp only [All, All_append, bdGood_c]
   and_intros
   all_goals first | (simp [h1, h2]; done)
  ·
   by_cases h3 : sameMsgS m (onlyS m) = false
   ·
    refine T.bool (T_al (bdGood_p001 m (onlyS m)) Tryz.func52 ?_) (by simp [goodS, h1, h2, h3] <;> omega)
    simp only [All, All_append, bdGood_c]
    and_intros
    all_goals first | exact T_only m | exact T_mS m (onlyS m) hf | (simp [h1, h2, h3]; done)
   ·
    by_cases h4 : m.kind = 2
    ·
     by_cases h5 : mayVoteS m.vote = false
     ·
      refine T.bool (T_al (bdGood_p000111 m (onlyS m)) Tryz.func52 ?_) (by simp [goodS, h1, h2, h3, h4, h5] <;> omega)
      simp only [All, All_append, bdGood_c]
      and_intros
      all_goals first | exact T_only m | exact T_mS m (onlyS m) hf | exact T_mv m.vote | (simp [h1, h2, h3, h4, h5]; done)
     ·
      by_cases h6 : uptoS m.epoch 1048576 = true
      ·
       by_cases h7 : uptoS m.slot 1099511627776 = true
       ·
        by_cases h8 : uptoS m.view 1099511627776 = true
        ·
         by_cases h9 : uptoS m.leader 64 = true
         ·
          by_cases h10 : mayBatchS m.batch = true
          ·
           by_cases h11 : mayChangeS m = true
           ·
            by_cases h12 : (allS m.nnews 64 fun i => mayEnvS (m.news i)) = true
            ·
             by_cases h13 : (allS m.n 64 fun i => maySignS (m.sig i)) = true
             ·
              refine T.bool (T_al (bdGood_p000100011111111 m (onlyS m)) Tryz.func52 ?_) (by simp [goodS, h1, h2, h3, h4, h5, h6, h7, h8, h9, h10, h11, h12, h13] <;> omega)
              simp only [All, All_append, bdGood_c]
              and_intros
              all_goals first | exact T_only m | exact T_mS m (onlyS m) hf | exact T_mv m.vote | exact T_upto _ _ | exact T_mb m.batch | exact T_mg m | exact T_alE m.news (by decide) | exact T_alS m.sig (by decide) | (simp [h1, h2, h3, h4, h5, h6, h7, h8, h9, h10, h11, h12, h13]; done)
             ·
              refine T.bool (T_al (bdGood_p000100011111110 m (onlyS m)) Tryz.func52 ?_) (by simp [goodS, h1, h2, h3, h4, h5, h6, h7, h8, h9, h10, h11, h12, h13] <;> omega)
              simp only [All, All_append, bdGood_c]
              and_intros
              all_goals first | exact T_only m | exact T_mS m (onlyS m) hf | exact T_mv m.vote | exact T_upto _ _ | exact T_mb m.batch | exact T_mg m | exact T_alE m.news (by decide) | exact T_alS m.sig (by decide) | (simp [h1, h2, h3, h4, h5, h6, h7, h8, h9, h10, h11, h12, h13]; done)
            ·
             refine T.bool (T_al (bdGood_p000100011111100 m (onlyS m)) Tryz.func52 ?_) (by simp [goodS, h1, h2, h3, h4, h5, h6, h7, h8, h9, h10, h11, h12] <;> omega)
             simp only [All, All_append, bdGood_c]
             and_intros
             all_goals first | exact T_only m | exact T_mS m (onlyS m) hf | exact T_mv m.vote | exact T_upto _ _ | exact T_mb m.batch | exact T_mg m | exact T_alE m.news (by decide) | (simp [h1, h2, h3, h4, h5, h6, h7, h8, h9, h10, h11, h12]; done)
           ·
            refine T.bool (T_al (bdGood_p000100011111000 m (onlyS m)) Tryz.func52 ?_) (by simp [goodS, h1, h2, h3, h4, h5, h6, h7, h8, h9, h10, h11] <;> omega)
            simp only [All, All_append, bdGood_c]
            and_intros
            all_goals first | exact T_only m | exact T_mS m (onlyS m) hf | exact T_mv m.vote | exact T_upto _ _ | exact T_mb m.batch | exact T_mg m | (simp [h1, h2, h3, h4, h5, h6, h7, h8, h9, h10, h11]; done)
          ·
           refine T.bool (T_al (bdGood_p000100011110000 m (onlyS m)) Tryz.func52 ?_) (by simp [goodS, h1, h2, h3, h4, h5, h6, h7, h8, h9, h10] <;> omega)
           simp only [All, All_append, bdGood_c]
           and_intros
           all_goals first | exact T_only m | exact T_mS m (onlyS m) hf | exact T_mv m.vote | exact T_upto _ _ | exact T_mb m.batch | (simp [h1, h2, h3, h4, h5, h6, h7, h8, h9, h10]; done)
         ·
          refine T.bool (T_al (bdGood_p000100011100000 m (onlyS m)) Tryz.func52 ?_) (by simp [goodS, h1, h2, h3, h4, h5, h6, h7, h8, h9] <;> omega)
          simp only [All, All_append, bdGood_c]
          and_intros
          all_goals first | exact T_only m | exact T_mS m (onlyS m) hf | exact T_mv m.vote | exact T_upto _ _ | (simp [h1, h2, h3, h4, h5, h6, h7, h8, h9]; done)
        ·
         refine T.bool (T_al (bdGood_p000100011000000 m (onlyS m)) Tryz.func52 ?_) (by simp [goodS, h1, h2, h3, h4, h5, h6, h7, h8] <;> omega)
         simp only [All, All_append, bdGood_c]
         and_intros
         all_goals first | exact T_only m | exact T_mS m (onlyS m) hf | exact T_mv m.vote | exact T_upto _ _ | (simp [h1, h2, h3, h4, h5, h6, h7, h8]; done)
       ·
        refine T.bool (T_al (bdGood_p000100010000000 m (onlyS m)) Tryz.func52 ?_) (by simp [goodS, h1, h2, h3, h4, h5, h6, h7] <;> omega)
        simp only [All, All_append, bdGood_c]
        and_intros
        all_goals first | exact T_only m | exact T_mS m (onlyS m) hf | exact T_mv m.vote | exact T_upto _ _ | (simp [h1, h2, h3, h4, h5, h6, h7]; done)
      ·
       refine T.bool (T_al (bdGood_p000100000000000 m (onlyS m)) Tryz.func52 ?_) (by simp [goodS, h1, h2, h3, h4, h5, h6] <;> omega)
       simp only [All, All_append, bdGood_c]
       and_intros
       all_goals first | exact T_only m | exact T_mS m (onlyS m) hf | exact T_mv m.vote | exact T_upto _ _ | (simp [h1, h2, h3, h4, h5, h6]; done)
    ·
     by_cases h5 : m.kind = 7
     ·
      by_cases h6 : mayCertS m.cert = false
      ·
       refine T.bool (T_al (bdGood_p0000011 m (onlyS m)) Tryz.func52 ?_) (by simp [goodS, h1, h2, h3, h4, h5, h6] <;> omega)
       simp only [All, All_append, bdGood_c]
       and_intros
       all_goals first | exact T_only m | exact T_mS m (onlyS m) hf | exact T_mc m.cert | (simp [h1, h2, h3, h4, h5, h6]; done)
      ·
       by_cases h7 : uptoS m.epoch 1048576 = true
       ·
        by_cases h8 : uptoS m.slot 1099511627776 = true
        ·
         by_cases h9 : uptoS m.view 1099511627776 = true
         ·
          by_cases h10 : uptoS m.leader 64 = true
          ·
           by_cases h11 : mayBatchS m.batch = true
           ·
            by_cases h12 : mayChangeS m = true
            ·
             by_cases h13 : (allS m.nnews 64 fun i => mayEnvS (m.news i)) = true
             ·
              by_cases h14 : (allS m.n 64 fun i => maySignS (m.sig i)) = true
              ·
               refine T.bool (T_al (bdGood_p000001011111111 m (onlyS m)) Tryz.func52 ?_) (by simp [goodS, h1, h2, h3, h4, h5, h6, h7, h8, h9, h10, h11, h12, h13, h14] <;> omega)
               simp only [All, All_append, bdGood_c]
               and_intros
               all_goals first | exact T_only m | exact T_mS m (onlyS m) hf | exact T_mc m.cert | exact T_upto _ _ | exact T_mb m.batch | exact T_mg m | exact T_alE m.news (by decide) | exact T_alS m.sig (by decide) | (simp [h1, h2, h3, h4, h5, h6, h7, h8, h9, h10, h11, h12, h13, h14]; done)
              ·
               refine T.bool (T_al (bdGood_p000001011111110 m (onlyS m)) Tryz.func52 ?_) (by simp [goodS, h1, h2, h3, h4, h5, h6, h7, h8, h9, h10, h11, h12, h13, h14] <;> omega)
               simp only [All, All_append, bdGood_c]
               and_intros
               all_goals first | exact T_only m | exact T_mS m (onlyS m) hf | exact T_mc m.cert | exact T_upto _ _ | exact T_mb m.batch | exact T_mg m | exact T_alE m.news (by decide) | exact T_alS m.sig (by decide) | (simp [h1, h2, h3, h4, h5, h6, h7, h8, h9, h10, h11, h12, h13, h14]; done)
             ·
              refine T.bool (T_al (bdGood_p000001011111100 m (onlyS m)) Tryz.func52 ?_) (by simp [goodS, h1, h2, h3, h4, h5, h6, h7, h8, h9, h10, h11, h12, h13] <;> omega)
              simp only [All, All_append, bdGood_c]
              and_intros
              all_goals first | exact T_only m | exact T_mS m (onlyS m) hf | exact T_mc m.cert | exact T_upto _ _ | exact T_mb m.batch | exact T_mg m | exact T_alE m.news (by decide) | (simp [h1, h2, h3, h4, h5, h6, h7, h8, h9, h10, h11, h12, h13]; done)
            ·
             refine T.bool (T_al (bdGood_p000001011111000 m (onlyS m)) Tryz.func52 ?_) (by simp [goodS, h1, h2, h3, h4, h5, h6, h7, h8, h9, h10, h11, h12] <;> omega)
             simp only [All, All_append, bdGood_c]
             and_intros
             all_goals first | exact T_only m | exact T_mS m (onlyS m) hf | exact T_mc m.cert | exact T_upto _ _ | exact T_mb m.batch | exact T_mg m | (simp [h1, h2, h3, h4, h5, h6, h7, h8, h9, h10, h11, h12]; done)
           ·
            refine T.bool (T_al (bdGood_p000001011110000 m (onlyS m)) Tryz.func52 ?_) (by simp [goodS, h1, h2, h3, h4, h5, h6, h7, h8, h9, h10, h11] <;> omega)
            simp only [All, All_append, bdGood_c]
            and_intros
            all_goals first | exact T_only m | exact T_mS m (onlyS m) hf | exact T_mc m.cert | exact T_upto _ _ | exact T_mb m.batch | (simp [h1, h2, h3, h4, h5, h6, h7, h8, h9, h10, h11]; done)
          ·
           refine T.bool (T_al (bdGood_p000001011100000 m (onlyS m)) Tryz.func52 ?_) (by simp [goodS, h1, h2, h3, h4, h5, h6, h7, h8, h9, h10] <;> omega)
           simp only [All, All_append, bdGood_c]
           and_intros
           all_goals first | exact T_only m | exact T_mS m (onlyS m) hf | exact T_mc m.cert | exact T_upto _ _ | (simp [h1, h2, h3, h4, h5, h6, h7, h8, h9, h10]; done)
         ·
          refine T.bool (T_al (bdGood_p000001011000000 m (onlyS m)) Tryz.func52 ?_) (by simp [goodS, h1, h2, h3, h4, h5, h6, h7, h8, h9] <;> omega)
          simp only [All, All_append, bdGood_c]
          and_intros
          all_goals first | exact T_only m | exact T_mS m (onlyS m) hf | exact T_mc m.cert | exact T_upto _ _ | (simp [h1, h2, h3, h4, h5, h6, h7, h8, h9]; done)
        ·
         refine T.bool (T_al (bdGood_p000001010000000 m (onlyS m)) Tryz.func52 ?_) (by simp [goodS, h1, h2, h3, h4, h5, h6, h7, h8] <;> omega)
         simp only [All, All_append, bdGood_c]
         and_intros
         all_goals first | exact T_only m | exact T_mS m (onlyS m) hf | exact T_mc m.cert | exact T_upto _ _ | (simp [h1, h2, h3, h4, h5, h6, h7, h8]; done)
       ·
        refine T.bool (T_al (bdGood_p000001000000000 m (onlyS m)) Tryz.func52 ?_) (by simp [goodS, h1, h2, h3, h4, h5, h6, h7] <;> omega)
        simp only [All, All_append, bdGood_c]
        and_intros
        all_goals first | exact T_only m | exact T_mS m (onlyS m) hf | exact T_mc m.cert | exact T_upto _ _ | (simp [h1, h2, h3, h4, h5, h6, h7]; done)
     ·
      by_cases h6 : uptoS m.epoch 1048576 = true
      ·
       by_cases h7 : uptoS m.slot 1099511627776 = true
       ·
        by_cases h8 : uptoS m.view 1099511627776 = true
        ·
         by_cases h9 : uptoS m.leader 64 = true
         ·
          by_cases h10 : mayBatchS m.batch = true
          ·
           by_cases h11 : mayChangeS m = true
           ·
            by_cases h12 : (allS m.nnews 64 fun i => mayEnvS (m.news i)) = true
            ·
             by_cases h13 : (allS m.n 64 fun i => maySignS (m.sig i)) = true
             ·
              refine T.bool (T_al (bdGood_p000000011111111 m (onlyS m)) Tryz.func52 ?_) (by
  have e1 : 1 ≤ m.kind := by omega
  have e2 : m.kind ≤ 8 := by omega
  simp [goodS, e1, e2, h1, h2, h3, h4, h5, h6, h7, h8, h9, h10, h11, h12, h13] <;> omega)
              simp only [All, All_append, bdGood_c]
              and_intros
              all_goals first | exact T_only m | exact T_mS m (onlyS m) hf | exact T_upto _ _ | exact T_mb m.batch | exact T_mg m | exact T_alE m.news (by decide) | exact T_alS m.sig (by decide) | (simp [h1, h2, h3, h4, h5, h6, h7, h8, h9, h10, h11, h12, h13]; done)
             ·
              refine T.bool (T_al (bdGood_p000000011111110 m (onlyS m)) Tryz.func52 ?_) (by simp [goodS, h1, h2, h3, h4, h5, h6, h7, h8, h9, h10, h11, h12, h13] <;> omega)
              simp only [All, All_append, bdGood_c]
              and_intros
              all_goals first | exact T_only m | exact T_mS m (onlyS m) hf | exact T_upto _ _ | exact T_mb m.batch | exact T_mg m | exact T_alE m.news (by decide) | exact T_alS m.sig (by decide) | (simp [h1, h2, h3, h4, h5, h6, h7, h8, h9, h10, h11, h12, h13]; done)
            ·
             refine T.bool (T_al (bdGood_p000000011111100 m (onlyS m)) Tryz.func52 ?_) (by simp [goodS, h1, h2, h3, h4, h5, h6, h7, h8, h9, h10, h11, h12] <;> omega)
             simp only [All, All_append, bdGood_c]
             and_intros
             all_goals first | exact T_only m | exact T_mS m (onlyS m) hf | exact T_upto _ _ | exact T_mb m.batch | exact T_mg m | exact T_alE m.news (by decide) | (simp [h1, h2, h3, h4, h5, h6, h7, h8, h9, h10, h11, h12]; done)
           ·
            refine T.bool (T_al (bdGood_p000000011111000 m (onlyS m)) Tryz.func52 ?_) (by simp [goodS, h1, h2, h3, h4, h5, h6, h7, h8, h9, h10, h11] <;> omega)
            simp only [All, All_append, bdGood_c]
            and_intros
            all_goals first | exact T_only m | exact T_mS m (onlyS m) hf | exact T_upto _ _ | exact T_mb m.batch | exact T_mg m | (simp [h1, h2, h3, h4, h5, h6, h7, h8, h9, h10, h11]; done)
          ·
           refine T.bool (T_al (bdGood_p000000011110000 m (onlyS m)) Tryz.func52 ?_) (by simp [goodS, h1, h2, h3, h4, h5, h6, h7, h8, h9, h10] <;> omega)
           simp only [All, All_append, bdGood_c]
           and_intros
           all_goals first | exact T_only m | exact T_mS m (onlyS m) hf | exact T_upto _ _ | exact T_mb m.batch | (simp [h1, h2, h3, h4, h5, h6, h7, h8, h9, h10]; done)
         ·
          refine T.bool (T_al (bdGood_p000000011100000 m (onlyS m)) Tryz.func52 ?_) (by simp [goodS, h1, h2, h3, h4, h5, h6, h7, h8, h9] <;> omega)
          simp only [All, All_append, bdGood_c]
          and_intros
          all_goals first | exact T_only m | exact T_mS m (onlyS m) hf | exact T_upto _ _ | (simp [h1, h2, h3, h4, h5, h6, h7, h8, h9]; done)
        ·
         refine T.bool (T_al (bdGood_p000000011000000 m (onlyS m)) Tryz.func52 ?_) (by simp [goodS, h1, h2, h3, h4, h5, h6, h7, h8] <;> omega)
         simp only [All, All_append, bdGood_c]
         and_intros
         all_goals first | exact T_only m | exact T_mS m (onlyS m) hf | exact T_upto _ _ | (simp [h1, h2, h3, h4, h5, h6, h7, h8]; done)
       ·
        refine T.bool (T_al (bdGood_p000000010000000 m (onlyS m)) Tryz.func52 ?_) (by simp [goodS, h1, h2, h3, h4, h5, h6, h7] <;> omega)
        simp only [All, All_append, bdGood_c]
        and_intros
        all_goals first | exact T_only m | exact T_mS m (onlyS m) hf | exact T_upto _ _ | (simp [h1, h2, h3, h4, h5, h6, h7]; done)
      ·
       refine T.bool (T_al (bdGood_p000000000000000 m (onlyS m)) Tryz.func52 ?_) (by simp [goodS, h1, h2, h3, h4, h5, h6] <;> omega)
       simp only [All, All_append, bdGood_c]
       and_intros
       all_goals first | exact T_only m | exact T_mS m (onlyS m) hf | exact T_upto _ _ | (simp [h1, h2, h3, h4, h5, h6]; done)
end Go.Proofs.YtnmccoincblecaaGreat
namespace Go.Proofs.YtnmccoincblecaaGreat
open Go Sy Go.Proofs
def bodyB (m : SMsg) : List UInt8 :=
 if m.kind = 1 then numsB [m.epoch, m.slot] ++ batchB m.batch else
 if m.kind = 2 then voteB m.vote else
 if m.kind = 3 then numsB [m.cepoch, m.cleader, m.cview] ++ (numsB [(m.nheld : Int)] ++ heldsB m.held m.nheld) else
 if m.kind = 4 then numsB [m.epoch, m.leader, m.view] ++ (numsB [(m.nnews : Int)] ++ envsB m.news m.nnews) else
 if m.kind = 5 then numsB [m.epoch] ++ segB m.digest else
 if m.kind = 6 then numsB [m.epoch, m.slot] else
 if m.kind = 7 then batchB m.batch ++ certB m.cert else
 if m.kind = 8 then textB m.state ++ (numsB [(m.n : Int)] ++ signsB m.sig m.n) else []
def encB (m : SMsg) : List UInt8 := putZ m.kind ++ bodyB m
def baL (l : List UInt8) : ByteArray := ⟨l.toArray⟩
def look2 {α : Type} : List (Nat × Nat × α) → Nat → Nat → Option α
 | [], _, _ => none
 | p :: r, k, n => bif Nat.beq p.1 k && Nat.beq p.2.1 n then some p.2.2 else look2 r k n
def dbSeqF (base : Nat) (l : List (Nat × Nat × (List V → Heap → Nat → List Cl))) : Nat → List V → Heap → Nat → List Cl := fun k args h lo => match look2 l k ((lo - base) / 64) with
 | some f => f args h lo
 | none => []
def encDb (m : SMsg) (g : Bool) : List (Nat × Nat × (List V → Heap → Nat → List Cl)) := [
 (52, 4, cVal (.bool g)),
 (53, 13, cW (putZ m.kind)),
 (53, 24, cW (putZ m.kind ++ numsB [m.epoch, m.slot])), (54, 28, cW (putZ m.kind ++ numsB [m.epoch, m.slot] ++ batchB m.batch)),
 (55, 23, cW (putZ m.kind ++ voteB m.vote)),
 (53, 33, cW (putZ m.kind ++ numsB [m.cepoch, m.cleader, m.cview])), (56, 40, cW (putZ m.kind ++ numsB [m.cepoch, m.cleader, m.cview] ++ (numsB [(m.nheld : Int)] ++ heldsB m.held m.nheld))),
 (53, 32, cW (putZ m.kind ++ numsB [m.epoch, m.leader, m.view])), (58, 38, cW (putZ m.kind ++ numsB [m.epoch, m.leader, m.view] ++ (numsB [(m.nnews : Int)] ++ envsB m.news m.nnews))),
 (53, 30, cW (putZ m.kind ++ numsB [m.epoch])), (60, 34, cW (putZ m.kind ++ numsB [m.epoch] ++ segB m.digest)),
 (53, 34, cW (putZ m.kind ++ numsB [m.epoch, m.slot])),
 (54, 33, cW (putZ m.kind ++ batchB m.batch)), (61, 37, cW (putZ m.kind ++ batchB m.batch ++ certB m.cert)),
 (62, 35, cW (putZ m.kind ++ textB m.state)), (63, 41, cW (putZ m.kind ++ textB m.state ++ (numsB [(m.n : Int)] ++ signsB m.sig m.n)))]
noncomputable def bdEnc (m : SMsg) (g : Bool) : Bd := { f := Tryz.f19, args := [.agg m.c], kb := { db := dbSeqF 0 (encDb m g) } }
end Go.Proofs.YtnmccoincblecaaGreat
