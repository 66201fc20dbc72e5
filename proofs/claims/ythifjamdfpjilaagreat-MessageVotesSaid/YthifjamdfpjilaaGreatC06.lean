/-
  Contracts and laws that the claim's theorem leans on, joined out of the texts ZTa7 SyShape SyMore ZVa0D ZVa0 ZVa1D ZVa1 ZVa2D ZVa2 ZVa3D (own work of this seat): Contracts: what is the same; The shapes of handed values, unfolded; what is known of their cells; Loops that look at each one of many; more glue; Contracts: numbers and texts as bytes, as the document's answer has them; Contracts: numbers and texts as bytes, as the document's answer has them; Contracts: numbers in a row, tags, digests, as the document's answer has them; Contracts: numbers in a row, tags, digests, as the document's answer has them; Contracts: requests and rows of numbers, as the document's answer has them; Contracts: requests and rows of numbers, as the document's answer has them; Contracts: batches, signs, votes, certs, as the document's answer has them.
-/
import Derived.Test.YthifjamdfpjilaaGreatC04
import Derived.Test.YthifjamdfpjilaaGreatC05
set_option linter.unusedVariables false
set_option linter.unusedSimpArgs false
set_option maxHeartbeats 1000000
namespace Go.Proofs.YthifjamdfpjilaaGreat
open Go Sy Go.Proofs
theorem bdSq_p1 (n : Nat) (n' : Nat) (a : Nat → SReq) (b : Nat → SReq) (m : Nat) :
  along Tryz.prog (bdSq n n' a b m) [true] = (some (.bool false, [], [(!decide ((↑n : Int) = (↑n' : Int))) = true]) : Option (V × Heap × List Prop)) := by kernel_rfl
theorem bdSq_p01 (n : Nat) (n' : Nat) (a : Nat → SReq) (b : Nat → SReq) (m : Nat) :
  along Tryz.prog (bdSq n n' a b m) [false, true] = (some (.bool true, [], [(!decide ((↑n : Int) = (↑n' : Int))) = false, RLoop Tryz.prog none 0 (cB (cB (cR (cL (cR (cR (bodyOf (Bd.f (bdSq n n' a b m))))))))) (n + 1) (St.mk [.ros 19 n (fun i => SReq.c (a i)) false, .ros 19 n' (fun i => SReq.c (b i)) false, .any, .any, .any, .any, .any, .any, .any, .any, .any, .any, .int .i64 ↑n, .int .i64 0, .any, .any, .any, .any, .any, .any, .any, .any, .any, .any, .any, .any] [] 0 []) (.exit 0) (St.mk [.ros 19 n (fun i => SReq.c (a i)) false, .ros 19 n' (fun i => SReq.c (b i)) false, .any, .any, .any, .any, .any, .any, .any, .any, .any, .any, .int .i64 ↑n, .int .i64 ↑n, .any, .any, .any, .any, .any, .any, .any, .any, .any, .any, .any, .any] [] 0 []), q n, ∀ (k : Nat), k < n → SReq.c (a k) = SReq.c (a k), false = true → false = true, q (n'), ∀ (k : Nat), k < n' → SReq.c (b k) = SReq.c (b k), false = true → false = true, q (↑n : Int), q1]) : Option (V × Heap × List Prop)) := by kernel_rfl
theorem bdSq_p00 (n : Nat) (n' : Nat) (a : Nat → SReq) (b : Nat → SReq) (m : Nat) :
  along Tryz.prog (bdSq n n' a b m) [false, false] = (some (.bool false, [], [(!decide ((↑n : Int) = (↑n' : Int))) = false, RLoop Tryz.prog none 0 (cB (cB (cR (cL (cR (cR (bodyOf (Bd.f (bdSq n n' a b m))))))))) (m + 1) (St.mk [.ros 19 n (fun i => SReq.c (a i)) false, .ros 19 n' (fun i => SReq.c (b i)) false, .any, .any, .any, .any, .any, .any, .any, .any, .any, .any, .int .i64 ↑n, .int .i64 0, .any, .any, .any, .any, .any, .any, .any, .any, .any, .any, .any, .any] [] 0 []) .ret (St.mk [.any, .any, .any, .any, .bool false, .any, .any, .any, .any, .any, .any, .any, .any, .any, .any, .any, .any, .any, .any, .any, .any, .any, .any, .any, .any, .any] [] 0 []), q n, ∀ (k : Nat), k < n → SReq.c (a k) = SReq.c (a k), false = true → false = true, q (n'), ∀ (k : Nat), k < n' → SReq.c (b k) = SReq.c (b k), false = true → false = true, q (↑n : Int), q1]) : Option (V × Heap × List Prop)) := by kernel_rfl

theorem pcSq_p11 (n : Nat) (n' : Nat) (a : Nat → SReq) (b : Nat → SReq) (k : Nat) :
  alongPc Tryz.prog (pcSq n n' a b k) [true, true] = (some (.ret, St.mk [.any, .any, .any, .any, .bool false, .any, .any, .any, .any, .any, .any, .any, .any, .any, .any, .any, .any, .any, .any, .any, .any, .any, .any, .any, .any, .any] [] 0 [], [decide ((↑k : Int) < (↑n : Int)) = true, (0 : Int) ≤ (↑k : Int) ∧ (↑k : Int) < (↑n : Int), (0 : Int) ≤ (↑k : Int) ∧ (↑k : Int) < (↑n' : Int), (!(decide (SReq.client (a (Int.toNat (↑k : Int))) = SReq.client (b (Int.toNat (↑k : Int)))) && (decide (SReq.num (a (Int.toNat (↑k : Int))) = SReq.num (b (Int.toNat (↑k : Int)))) && (decide (SReq.data (a (Int.toNat (↑k : Int))) = SReq.data (b (Int.toNat (↑k : Int)))) && (decide (SReq.tag (a (Int.toNat (↑k : Int))) = SReq.tag (b (Int.toNat (↑k : Int)))) && true))))) = true, q false]) : Option (Exit × St × List Prop)) := by kernel_rfl
theorem pcSq_p10 (n : Nat) (n' : Nat) (a : Nat → SReq) (b : Nat → SReq) (k : Nat) :
  alongPc Tryz.prog (pcSq n n' a b k) [true, false] = (some (.normal, St.mk [.ros 19 n (fun i => SReq.c (a i)) false, .ros 19 n' (fun i => SReq.c (b i)) false, .any, .any, .any, .any, .any, .any, .any, .any, .any, .any, .int .i64 ↑n, .int .i64 (↑(k + 1) : Int), .any, .any, .any, .any, .any, .any, .any, .any, .any, .any, .any, .any] [] 0 [], [decide ((↑k : Int) < (↑n : Int)) = true, (0 : Int) ≤ (↑k : Int) ∧ (↑k : Int) < (↑n : Int), (0 : Int) ≤ (↑k : Int) ∧ (↑k : Int) < (↑n' : Int), (!(decide (SReq.client (a (Int.toNat (↑k : Int))) = SReq.client (b (Int.toNat (↑k : Int)))) && (decide (SReq.num (a (Int.toNat (↑k : Int))) = SReq.num (b (Int.toNat (↑k : Int)))) && (decide (SReq.data (a (Int.toNat (↑k : Int))) = SReq.data (b (Int.toNat (↑k : Int)))) && (decide (SReq.tag (a (Int.toNat (↑k : Int))) = SReq.tag (b (Int.toNat (↑k : Int)))) && true))))) = false, InR IntKind.i64 ((↑k : Int) + (1 : Int)), q n, ∀ (k : Nat), k < n → SReq.c (a k) = SReq.c (a k), false = true → false = true, q (n'), ∀ (k : Nat), k < n' → SReq.c (b k) = SReq.c (b k), false = true → false = true, q (↑n : Int), (↑k : Int) + (1 : Int) = (↑(k + (1 : Nat)) : Int)]) : Option (Exit × St × List Prop)) := by kernel_rfl
theorem pcSq_p0 (n : Nat) (n' : Nat) (a : Nat → SReq) (b : Nat → SReq) (k : Nat) :
  alongPc Tryz.prog (pcSq n n' a b k) [false] = (some (.exit 0, St.mk [.ros 19 n (fun i => SReq.c (a i)) false, .ros 19 n' (fun i => SReq.c (b i)) false, .any, .any, .any, .any, .any, .any, .any, .any, .any, .any, .int .i64 ↑n, .int .i64 ↑n, .any, .any, .any, .any, .any, .any, .any, .any, .any, .any, .any, .any] [] 0 [], [decide ((↑k : Int) < (↑n : Int)) = false, q n, ∀ (k : Nat), k < n → SReq.c (a k) = SReq.c (a k), false = true → false = true, q (n'), ∀ (k : Nat), k < n' → SReq.c (b k) = SReq.c (b k), false = true → false = true, q (↑n : Int), (↑k : Int) = (↑n : Int)]) : Option (Exit × St × List Prop)) := by kernel_rfl

theorem bdEqS_p (a : SSign) (b : SSign) :
  along Tryz.prog (bdEqS a b) [] = (some (.bool (decide (SSign.node a = SSign.node b) && (decide (SSign.tag a = SSign.tag b) && true)), [], []) : Option (V × Heap × List Prop)) := by kernel_rfl

theorem bdEqE_p (a : SEnv) (b : SEnv) :
  along Tryz.prog (bdEqE a b) [] = (some (.bool (decide (SEnv.src a = SEnv.src b) && (decide (SEnv.body a = SEnv.body b) && (decide (SEnv.tag a = SEnv.tag b) && true))), [], []) : Option (V × Heap × List Prop)) := by kernel_rfl

theorem bdBS_p1 (a : SBatch) (b : SBatch) :
  along Tryz.prog (bdBS a b) [true] = (some (.bool (sameL (SBatch.n a) (SBatch.n b) fun i => reqEq (SBatch.req a i) (SBatch.req b i)), [], [(SBatch.noop a == SBatch.noop b) = true, T Tryz.prog 101 [.ros 19 (SBatch.n a) (fun i => SReq.c (SBatch.req a i)) false, .ros 19 (SBatch.n b) (fun i => SReq.c (SBatch.req b i)) false] [] (.bool (sameL (SBatch.n a) (SBatch.n b) fun i => reqEq (SBatch.req a i) (SBatch.req b i))) []]) : Option (V × Heap × List Prop)) := by kernel_rfl
theorem bdBS_p0 (a : SBatch) (b : SBatch) :
  along Tryz.prog (bdBS a b) [false] = (some (.bool false, [], [(SBatch.noop a == SBatch.noop b) = false]) : Option (V × Heap × List Prop)) := by kernel_rfl

theorem bdCS_p1 (a : SCert) (b : SCert) :
  along Tryz.prog (bdCS a b) [true] = (some (.bool (sameL (SCert.n a) (SCert.n b) fun i => signEq (SCert.sig a i) (SCert.sig b i)), [], [(decide (SVote.kind (SCert.vote a) = SVote.kind (SCert.vote b)) && (decide (SVote.epoch (SCert.vote a) = SVote.epoch (SCert.vote b)) && (decide (SVote.view (SCert.vote a) = SVote.view (SCert.vote b)) && (decide (SVote.slot (SCert.vote a) = SVote.slot (SCert.vote b)) && (decide (SVote.digest (SCert.vote a) = SVote.digest (SCert.vote b)) && true))))) = true, T Tryz.prog 65 [.ros 17 (SCert.n a) (fun i => SSign.c (SCert.sig a i)) false, .ros 17 (SCert.n b) (fun i => SSign.c (SCert.sig b i)) false, .fn (.func 66) [] []] [] (.bool (sameL (SCert.n a) (SCert.n b) fun i => signEq (SCert.sig a i) (SCert.sig b i))) []]) : Option (V × Heap × List Prop)) := by kernel_rfl
theorem bdCS_p0 (a : SCert) (b : SCert) :
  along Tryz.prog (bdCS a b) [false] = (some (.bool false, [], [(decide (SVote.kind (SCert.vote a) = SVote.kind (SCert.vote b)) && (decide (SVote.epoch (SCert.vote a) = SVote.epoch (SCert.vote b)) && (decide (SVote.view (SCert.vote a) = SVote.view (SCert.vote b)) && (decide (SVote.slot (SCert.vote a) = SVote.slot (SCert.vote b)) && (decide (SVote.digest (SCert.vote a) = SVote.digest (SCert.vote b)) && true))))) = false]) : Option (V × Heap × List Prop)) := by kernel_rfl

theorem bdHS_p1 (a : SHeld) (b : SHeld) :
  along Tryz.prog (bdHS a b) [true] = (some (.bool (sameCertS (SHeld.cert a) (SHeld.cert b)), [], [T Tryz.prog 60 [.agg (SBatch.c (SHeld.batch a)), .agg (SBatch.c (SHeld.batch b))] [] (.bool (sameBatchS (SHeld.batch a) (SHeld.batch b))) [], sameBatchS (SHeld.batch a) (SHeld.batch b) = true, T Tryz.prog 64 [.agg [.int .i64 (SVote.kind (SCert.vote (SHeld.cert a))), .int .i64 (SVote.epoch (SCert.vote (SHeld.cert a))), .int .i64 (SVote.view (SCert.vote (SHeld.cert a))), .int .i64 (SVote.slot (SCert.vote (SHeld.cert a))), .seg .u8 32 (SVote.digest (SCert.vote (SHeld.cert a))), sg (SCert.n (SHeld.cert a)) (SCert.sig (SHeld.cert a))], .agg [.int .i64 (SVote.kind (SCert.vote (SHeld.cert b))), .int .i64 (SVote.epoch (SCert.vote (SHeld.cert b))), .int .i64 (SVote.view (SCert.vote (SHeld.cert b))), .int .i64 (SVote.slot (SCert.vote (SHeld.cert b))), .seg .u8 32 (SVote.digest (SCert.vote (SHeld.cert b))), sg (SCert.n (SHeld.cert b)) (SCert.sig (SHeld.cert b))]] [] (.bool (sameCertS (SHeld.cert a) (SHeld.cert b))) []]) : Option (V × Heap × List Prop)) := by kernel_rfl
theorem bdHS_p0 (a : SHeld) (b : SHeld) :
  along Tryz.prog (bdHS a b) [false] = (some (.bool false, [], [T Tryz.prog 60 [.agg (SBatch.c (SHeld.batch a)), .agg (SBatch.c (SHeld.batch b))] [] (.bool (sameBatchS (SHeld.batch a) (SHeld.batch b))) [], sameBatchS (SHeld.batch a) (SHeld.batch b) = false]) : Option (V × Heap × List Prop)) := by kernel_rfl

theorem bdGS_p111 (a : SMsg) (b : SMsg) :
  along Tryz.prog (bdGS a b) [true, true, true] = (some (.bool (sameL (SMsg.nheld a) (SMsg.nheld b) fun i => sameHeldS (SMsg.held a i) (SMsg.held b i)), [], [decide (SMsg.cepoch a = SMsg.cepoch b) = true, decide (SMsg.cleader a = SMsg.cleader b) = true, decide (SMsg.cview a = SMsg.cview b) = true, T Tryz.prog 102 [.ros 39 (SMsg.nheld a) (fun i => SHeld.c (SMsg.held a i)) false, .ros 39 (SMsg.nheld b) (fun i => SHeld.c (SMsg.held b i)) false, .fn (.func 103) [] []] [] (.bool (sameL (SMsg.nheld a) (SMsg.nheld b) fun i => sameHeldS (SMsg.held a i) (SMsg.held b i))) []]) : Option (V × Heap × List Prop)) := by kernel_rfl
theorem bdGS_p110 (a : SMsg) (b : SMsg) :
  along Tryz.prog (bdGS a b) [true, true, false] = (some (.bool false, [], [decide (SMsg.cepoch a = SMsg.cepoch b) = true, decide (SMsg.cleader a = SMsg.cleader b) = true, decide (SMsg.cview a = SMsg.cview b) = false]) : Option (V × Heap × List Prop)) := by kernel_rfl
theorem bdGS_p100 (a : SMsg) (b : SMsg) :
  along Tryz.prog (bdGS a b) [true, false, false] = (some (.bool false, [], [decide (SMsg.cepoch a = SMsg.cepoch b) = true, decide (SMsg.cleader a = SMsg.cleader b) = false, q false]) : Option (V × Heap × List Prop)) := by kernel_rfl
theorem bdGS_p000 (a : SMsg) (b : SMsg) :
  along Tryz.prog (bdGS a b) [false, false, false] = (some (.bool false, [], [decide (SMsg.cepoch a = SMsg.cepoch b) = false, q false, q false]) : Option (V × Heap × List Prop)) := by kernel_rfl

noncomputable def bdMM_c (a : SMsg) (b : SMsg) : Nat → List Prop
 | 0 => [decide (SMsg.slot a = SMsg.slot b) = true, T Tryz.prog 60 [.agg [.bool (SBatch.noop (SMsg.batch a)), rq (SBatch.n (SMsg.batch a)) (SBatch.req (SMsg.batch a))], .agg [.bool (SBatch.noop (SMsg.batch b)), rq (SBatch.n (SMsg.batch b)) (SBatch.req (SMsg.batch b))]] [] (.bool (sameBatchS (SMsg.batch a) (SMsg.batch b))) []]
 | 1 => [(decide (SVote.kind (SMsg.vote a) = SVote.kind (SMsg.vote b)) && (decide (SVote.epoch (SMsg.vote a) = SVote.epoch (SMsg.vote b)) && (decide (SVote.view (SMsg.vote a) = SVote.view (SMsg.vote b)) && (decide (SVote.slot (SMsg.vote a) = SVote.slot (SMsg.vote b)) && (decide (SVote.digest (SMsg.vote a) = SVote.digest (SMsg.vote b)) && true))))) = true, T Tryz.prog 61 [.agg [.int .i64 (SMsg.cepoch a), .int .i64 (SMsg.cleader a), .int .i64 (SMsg.cview a), hl (SMsg.nheld a) (SMsg.held a)], .agg [.int .i64 (SMsg.cepoch b), .int .i64 (SMsg.cleader b), .int .i64 (SMsg.cview b), hl (SMsg.nheld b) (SMsg.held b)]] [] (.bool (sameChangeS a b)) []]
 | 2 => [sameChangeS a b = true, T Tryz.prog 62 [.ros 18 (SMsg.nnews a) (fun i => SEnv.c (SMsg.news a i)) false, .ros 18 (SMsg.nnews b) (fun i => SEnv.c (SMsg.news b i)) false, .fn (.func 63) [] []] [] (.bool (sameL (SMsg.nnews a) (SMsg.nnews b) fun i => envEq (SMsg.news a i) (SMsg.news b i))) []]
 | 3 => [(sameL (SMsg.nnews a) (SMsg.nnews b) fun i => envEq (SMsg.news a i) (SMsg.news b i)) = true]
 | 4 => [decide (SMsg.digest a = SMsg.digest b) = true, T Tryz.prog 64 [.agg [.int .i64 (SVote.kind (SCert.vote (SMsg.cert a))), .int .i64 (SVote.epoch (SCert.vote (SMsg.cert a))), .int .i64 (SVote.view (SCert.vote (SMsg.cert a))), .int .i64 (SVote.slot (SCert.vote (SMsg.cert a))), .seg .u8 32 (SVote.digest (SCert.vote (SMsg.cert a))), sg (SCert.n (SMsg.cert a)) (SCert.sig (SMsg.cert a))], .agg [.int .i64 (SVote.kind (SCert.vote (SMsg.cert b))), .int .i64 (SVote.epoch (SCert.vote (SMsg.cert b))), .int .i64 (SVote.view (SCert.vote (SMsg.cert b))), .int .i64 (SVote.slot (SCert.vote (SMsg.cert b))), .seg .u8 32 (SVote.digest (SCert.vote (SMsg.cert b))), sg (SCert.n (SMsg.cert b)) (SCert.sig (SMsg.cert b))]] [] (.bool (sameCertS (SMsg.cert a) (SMsg.cert b))) []]
 | _ => []
theorem bdMM_p111111111111 (a : SMsg) (b : SMsg) :
 along Tryz.prog (bdMM a b) [true, true, true, true, true, true, true, true, true, true, true, true] = (some (.bool (sameL (SMsg.n a) (SMsg.n b) fun i => signEq (SMsg.sig a i) (SMsg.sig b i)), [], [decide (SMsg.kind a = SMsg.kind b) = true, decide (SMsg.epoch a = SMsg.epoch b) = true, decide (SMsg.leader a = SMsg.leader b) = true, decide (SMsg.view a = SMsg.view b) = true] ++ (bdMM_c a b 0 ++ ([sameBatchS (SMsg.batch a) (SMsg.batch b) = true] ++ (bdMM_c a b 1 ++ (bdMM_c a b 2 ++ (bdMM_c a b 3 ++ (bdMM_c a b 4 ++ [sameCertS (SMsg.cert a) (SMsg.cert b) = true, decide (SMsg.state a = SMsg.state b) = true, T Tryz.prog 65 [.ros 17 (SMsg.n a) (fun i => SSign.c (SMsg.sig a i)) false, .ros 17 (SMsg.n b) (fun i => SSign.c (SMsg.sig b i)) false, .fn (.func 66) [] []] [] (.bool (sameL (SMsg.n a) (SMsg.n b) fun i => signEq (SMsg.sig a i) (SMsg.sig b i))) []]))))))) : Option (V × Heap × List Prop)) := by kernel_rfl
theorem bdMM_p111111111110 (a : SMsg) (b : SMsg) :
 along Tryz.prog (bdMM a b) [true, true, true, true, true, true, true, true, true, true, true, false] = (some (.bool false, [], [decide (SMsg.kind a = SMsg.kind b) = true, decide (SMsg.epoch a = SMsg.epoch b) = true, decide (SMsg.leader a = SMsg.leader b) = true, decide (SMsg.view a = SMsg.view b) = true] ++ (bdMM_c a b 0 ++ ([sameBatchS (SMsg.batch a) (SMsg.batch b) = true] ++ (bdMM_c a b 1 ++ (bdMM_c a b 2 ++ (bdMM_c a b 3 ++ (bdMM_c a b 4 ++ [sameCertS (SMsg.cert a) (SMsg.cert b) = true, decide (SMsg.state a = SMsg.state b) = false]))))))) : Option (V × Heap × List Prop)) := by kernel_rfl
theorem bdMM_p111111111100 (a : SMsg) (b : SMsg) :
 along Tryz.prog (bdMM a b) [true, true, true, true, true, true, true, true, true, true, false, false] = (some (.bool false, [], [decide (SMsg.kind a = SMsg.kind b) = true, decide (SMsg.epoch a = SMsg.epoch b) = true, decide (SMsg.leader a = SMsg.leader b) = true, decide (SMsg.view a = SMsg.view b) = true] ++ (bdMM_c a b 0 ++ ([sameBatchS (SMsg.batch a) (SMsg.batch b) = true] ++ (bdMM_c a b 1 ++ (bdMM_c a b 2 ++ (bdMM_c a b 3 ++ (bdMM_c a b 4 ++ [sameCertS (SMsg.cert a) (SMsg.cert b) = false, q false]))))))) : Option (V × Heap × List Prop)) := by kernel_rfl
theorem bdMM_p111111111000 (a : SMsg) (b : SMsg) :
 along Tryz.prog (bdMM a b) [true, true, true, true, true, true, true, true, true, false, false, false] = (some (.bool false, [], [decide (SMsg.kind a = SMsg.kind b) = true, decide (SMsg.epoch a = SMsg.epoch b) = true, decide (SMsg.leader a = SMsg.leader b) = true, decide (SMsg.view a = SMsg.view b) = true] ++ (bdMM_c a b 0 ++ ([sameBatchS (SMsg.batch a) (SMsg.batch b) = true] ++ (bdMM_c a b 1 ++ (bdMM_c a b 2 ++ (bdMM_c a b 3 ++ [decide (SMsg.digest a = SMsg.digest b) = false, q false, q false])))))) : Option (V × Heap × List Prop)) := by kernel_rfl
theorem bdMM_p111111110000 (a : SMsg) (b : SMsg) :
 along Tryz.prog (bdMM a b) [true, true, true, true, true, true, true, true, false, false, false, false] = (some (.bool false, [], [decide (SMsg.kind a = SMsg.kind b) = true, decide (SMsg.epoch a = SMsg.epoch b) = true, decide (SMsg.leader a = SMsg.leader b) = true, decide (SMsg.view a = SMsg.view b) = true] ++ (bdMM_c a b 0 ++ ([sameBatchS (SMsg.batch a) (SMsg.batch b) = true] ++ (bdMM_c a b 1 ++ (bdMM_c a b 2 ++ [(sameL (SMsg.nnews a) (SMsg.nnews b) fun i => envEq (SMsg.news a i) (SMsg.news b i)) = false, q false, q false, q false]))))) : Option (V × Heap × List Prop)) := by kernel_rfl
theorem bdMM_p111111100000 (a : SMsg) (b : SMsg) :
 along Tryz.prog (bdMM a b) [true, true, true, true, true, true, true, false, false, false, false, false] = (some (.bool false, [], [decide (SMsg.kind a = SMsg.kind b) = true, decide (SMsg.epoch a = SMsg.epoch b) = true, decide (SMsg.leader a = SMsg.leader b) = true, decide (SMsg.view a = SMsg.view b) = true] ++ (bdMM_c a b 0 ++ ([sameBatchS (SMsg.batch a) (SMsg.batch b) = true] ++ (bdMM_c a b 1 ++ [sameChangeS a b = false, q false, q false, q false, q false])))) : Option (V × Heap × List Prop)) := by kernel_rfl
theorem bdMM_p111111000000 (a : SMsg) (b : SMsg) :
 along Tryz.prog (bdMM a b) [true, true, true, true, true, true, false, false, false, false, false, false] = (some (.bool false, [], [decide (SMsg.kind a = SMsg.kind b) = true, decide (SMsg.epoch a = SMsg.epoch b) = true, decide (SMsg.leader a = SMsg.leader b) = true, decide (SMsg.view a = SMsg.view b) = true] ++ (bdMM_c a b 0 ++ [sameBatchS (SMsg.batch a) (SMsg.batch b) = true, (decide (SVote.kind (SMsg.vote a) = SVote.kind (SMsg.vote b)) && (decide (SVote.epoch (SMsg.vote a) = SVote.epoch (SMsg.vote b)) && (decide (SVote.view (SMsg.vote a) = SVote.view (SMsg.vote b)) && (decide (SVote.slot (SMsg.vote a) = SVote.slot (SMsg.vote b)) && (decide (SVote.digest (SMsg.vote a) = SVote.digest (SMsg.vote b)) && true))))) = false, q false, q false, q false, q false, q false])) : Option (V × Heap × List Prop)) := by kernel_rfl
theorem bdMM_p111110000000 (a : SMsg) (b : SMsg) :
 along Tryz.prog (bdMM a b) [true, true, true, true, true, false, false, false, false, false, false, false] = (some (.bool false, [], [decide (SMsg.kind a = SMsg.kind b) = true, decide (SMsg.epoch a = SMsg.epoch b) = true, decide (SMsg.leader a = SMsg.leader b) = true, decide (SMsg.view a = SMsg.view b) = true] ++ (bdMM_c a b 0 ++ [sameBatchS (SMsg.batch a) (SMsg.batch b) = false, q false, q false, q false, q false, q false, q false])) : Option (V × Heap × List Prop)) := by kernel_rfl
theorem bdMM_p111100000000 (a : SMsg) (b : SMsg) :
 along Tryz.prog (bdMM a b) [true, true, true, true, false, false, false, false, false, false, false, false] = (some (.bool false, [], [decide (SMsg.kind a = SMsg.kind b) = true, decide (SMsg.epoch a = SMsg.epoch b) = true, decide (SMsg.leader a = SMsg.leader b) = true, decide (SMsg.view a = SMsg.view b) = true, decide (SMsg.slot a = SMsg.slot b) = false, q false, q false, q false, q false, q false, q false, q false]) : Option (V × Heap × List Prop)) := by kernel_rfl
theorem bdMM_p111000000000 (a : SMsg) (b : SMsg) :
 along Tryz.prog (bdMM a b) [true, true, true, false, false, false, false, false, false, false, false, false] = (some (.bool false, [], [decide (SMsg.kind a = SMsg.kind b) = true, decide (SMsg.epoch a = SMsg.epoch b) = true, decide (SMsg.leader a = SMsg.leader b) = true, decide (SMsg.view a = SMsg.view b) = false, q false, q false, q false, q false, q false, q false, q false, q false]) : Option (V × Heap × List Prop)) := by kernel_rfl
theorem bdMM_p110000000000 (a : SMsg) (b : SMsg) :
 along Tryz.prog (bdMM a b) [true, true, false, false, false, false, false, false, false, false, false, false] = (some (.bool false, [], [decide (SMsg.kind a = SMsg.kind b) = true, decide (SMsg.epoch a = SMsg.epoch b) = true, decide (SMsg.leader a = SMsg.leader b) = false, q false, q false, q false, q false, q false, q false, q false, q false, q false]) : Option (V × Heap × List Prop)) := by kernel_rfl
theorem bdMM_p100000000000 (a : SMsg) (b : SMsg) :
 along Tryz.prog (bdMM a b) [true, false, false, false, false, false, false, false, false, false, false, false] = (some (.bool false, [], [decide (SMsg.kind a = SMsg.kind b) = true, decide (SMsg.epoch a = SMsg.epoch b) = false, q false, q false, q false, q false, q false, q false, q false, q false, q false, q false]) : Option (V × Heap × List Prop)) := by kernel_rfl
theorem bdMM_p000000000000 (a : SMsg) (b : SMsg) :
 along Tryz.prog (bdMM a b) [false, false, false, false, false, false, false, false, false, false, false, false] = (some (.bool false, [], [decide (SMsg.kind a = SMsg.kind b) = false, q false, q false, q false, q false, q false, q false, q false, q false, q false, q false, q false]) : Option (V × Heap × List Prop)) := by kernel_rfl

theorem bdSmS_p1 (n : Nat) (n' : Nat) (a : Nat → SSign) (b : Nat → SSign) (m : Nat) :
  along Tryz.prog (bdSmS n n' a b m) [true] = (some (.bool false, [], [(!decide ((↑n : Int) = (↑n' : Int))) = true]) : Option (V × Heap × List Prop)) := by kernel_rfl
theorem bdSmS_p01 (n : Nat) (n' : Nat) (a : Nat → SSign) (b : Nat → SSign) (m : Nat) :
  along Tryz.prog (bdSmS n n' a b m) [false, true] = (some (.bool true, [], [(!decide ((↑n : Int) = (↑n' : Int))) = false, RLoop Tryz.prog none 0 (cB (cB (cR (cL (cR (cR (bodyOf (Bd.f (bdSmS n n' a b m))))))))) (n + 1) (St.mk [.ros 17 n (fun i => SSign.c (a i)) false, .ros 17 n' (fun i => SSign.c (b i)) false, .fn (.func 66) [] [], .any, .any, .any, .any, .any, .any, .any, .any, .any, .any, .any, .int .i64 ↑n, .int .i64 0, .any, .any, .any, .any, .any, .any, .any, .any, .any, .any, .any, .any, .any, .any] [] 0 []) (.exit 0) (St.mk [.ros 17 n (fun i => SSign.c (a i)) false, .ros 17 n' (fun i => SSign.c (b i)) false, .fn (.func 66) [] [], .any, .any, .any, .any, .any, .any, .any, .any, .any, .any, .any, .int .i64 ↑n, .int .i64 ↑n, .any, .any, .any, .any, .any, .any, .any, .any, .any, .any, .any, .any, .any, .any] [] 0 []), q n, ∀ (k : Nat), k < n → SSign.c (a k) = SSign.c (a k), false = true → false = true, q (n'), ∀ (k : Nat), k < n' → SSign.c (b k) = SSign.c (b k), false = true → false = true, q (↑n : Int), q1]) : Option (V × Heap × List Prop)) := by kernel_rfl
theorem bdSmS_p00 (n : Nat) (n' : Nat) (a : Nat → SSign) (b : Nat → SSign) (m : Nat) :
  along Tryz.prog (bdSmS n n' a b m) [false, false] = (some (.bool false, [], [(!decide ((↑n : Int) = (↑n' : Int))) = false, RLoop Tryz.prog none 0 (cB (cB (cR (cL (cR (cR (bodyOf (Bd.f (bdSmS n n' a b m))))))))) (m + 1) (St.mk [.ros 17 n (fun i => SSign.c (a i)) false, .ros 17 n' (fun i => SSign.c (b i)) false, .fn (.func 66) [] [], .any, .any, .any, .any, .any, .any, .any, .any, .any, .any, .any, .int .i64 ↑n, .int .i64 0, .any, .any, .any, .any, .any, .any, .any, .any, .any, .any, .any, .any, .any, .any] [] 0 []) .ret (St.mk [.any, .any, .any, .any, .any, .any, .bool false, .any, .any, .any, .any, .any, .any, .any, .any, .any, .any, .any, .any, .any, .any, .any, .any, .any, .any, .any, .any, .any, .any, .any] [] 0 []), q n, ∀ (k : Nat), k < n → SSign.c (a k) = SSign.c (a k), false = true → false = true, q (n'), ∀ (k : Nat), k < n' → SSign.c (b k) = SSign.c (b k), false = true → false = true, q (↑n : Int), q1]) : Option (V × Heap × List Prop)) := by kernel_rfl

theorem pcSmS_p11 (n : Nat) (n' : Nat) (a : Nat → SSign) (b : Nat → SSign) (k : Nat) :
  alongPc Tryz.prog (pcSmS n n' a b k) [true, true] = (some (.ret, St.mk [.any, .any, .any, .any, .any, .any, .bool false, .any, .any, .any, .any, .any, .any, .any, .any, .any, .any, .any, .any, .any, .any, .any, .any, .any, .any, .any, .any, .any, .any, .any] [] 0 [], [decide ((↑k : Int) < (↑n : Int)) = true, (0 : Int) ≤ (↑k : Int) ∧ (↑k : Int) < (↑n : Int), (0 : Int) ≤ (↑k : Int) ∧ (↑k : Int) < (↑n' : Int), T Tryz.prog 66 [.agg [.int .i64 (SSign.node (a (Int.toNat (↑k : Int)))), .seg .u8 16 (SSign.tag (a (Int.toNat (↑k : Int))))], .agg [.int .i64 (SSign.node (b (Int.toNat (↑k : Int)))), .seg .u8 16 (SSign.tag (b (Int.toNat (↑k : Int))))]] [] (.bool (signEq (a k) (b k))) [], (!signEq (a k) (b k)) = true, q false]) : Option (Exit × St × List Prop)) := by kernel_rfl
theorem pcSmS_p10 (n : Nat) (n' : Nat) (a : Nat → SSign) (b : Nat → SSign) (k : Nat) :
  alongPc Tryz.prog (pcSmS n n' a b k) [true, false] = (some (.normal, St.mk [.ros 17 n (fun i => SSign.c (a i)) false, .ros 17 n' (fun i => SSign.c (b i)) false, .fn (.func 66) [] [], .any, .any, .any, .any, .any, .any, .any, .any, .any, .any, .any, .int .i64 ↑n, .int .i64 (↑(k + 1) : Int), .any, .any, .any, .any, .any, .any, .any, .any, .any, .any, .any, .any, .any, .any] [] 0 [], [decide ((↑k : Int) < (↑n : Int)) = true, (0 : Int) ≤ (↑k : Int) ∧ (↑k : Int) < (↑n : Int), (0 : Int) ≤ (↑k : Int) ∧ (↑k : Int) < (↑n' : Int), T Tryz.prog 66 [.agg [.int .i64 (SSign.node (a (Int.toNat (↑k : Int)))), .seg .u8 16 (SSign.tag (a (Int.toNat (↑k : Int))))], .agg [.int .i64 (SSign.node (b (Int.toNat (↑k : Int)))), .seg .u8 16 (SSign.tag (b (Int.toNat (↑k : Int))))]] [] (.bool (signEq (a k) (b k))) [], (!signEq (a k) (b k)) = false, InR IntKind.i64 ((↑k : Int) + (1 : Int)), q n, ∀ (k : Nat), k < n → SSign.c (a k) = SSign.c (a k), false = true → false = true, q (n'), ∀ (k : Nat), k < n' → SSign.c (b k) = SSign.c (b k), false = true → false = true, q (↑n : Int), (↑k : Int) + (1 : Int) = (↑(k + (1 : Nat)) : Int)]) : Option (Exit × St × List Prop)) := by kernel_rfl
theorem pcSmS_p0 (n : Nat) (n' : Nat) (a : Nat → SSign) (b : Nat → SSign) (k : Nat) :
  alongPc Tryz.prog (pcSmS n n' a b k) [false] = (some (.exit 0, St.mk [.ros 17 n (fun i => SSign.c (a i)) false, .ros 17 n' (fun i => SSign.c (b i)) false, .fn (.func 66) [] [], .any, .any, .any, .any, .any, .any, .any, .any, .any, .any, .any, .int .i64 ↑n, .int .i64 ↑n, .any, .any, .any, .any, .any, .any, .any, .any, .any, .any, .any, .any, .any, .any] [] 0 [], [decide ((↑k : Int) < (↑n : Int)) = false, q n, ∀ (k : Nat), k < n → SSign.c (a k) = SSign.c (a k), false = true → false = true, q (n'), ∀ (k : Nat), k < n' → SSign.c (b k) = SSign.c (b k), false = true → false = true, q (↑n : Int), (↑k : Int) = (↑n : Int)]) : Option (Exit × St × List Prop)) := by kernel_rfl

theorem bdSmE_p1 (n : Nat) (n' : Nat) (a : Nat → SEnv) (b : Nat → SEnv) (m : Nat) :
  along Tryz.prog (bdSmE n n' a b m) [true] = (some (.bool false, [], [(!decide ((↑n : Int) = (↑n' : Int))) = true]) : Option (V × Heap × List Prop)) := by kernel_rfl
theorem bdSmE_p01 (n : Nat) (n' : Nat) (a : Nat → SEnv) (b : Nat → SEnv) (m : Nat) :
  along Tryz.prog (bdSmE n n' a b m) [false, true] = (some (.bool true, [], [(!decide ((↑n : Int) = (↑n' : Int))) = false, RLoop Tryz.prog none 0 (cB (cB (cR (cL (cR (cR (bodyOf (Bd.f (bdSmE n n' a b m))))))))) (n + 1) (St.mk [.ros 18 n (fun i => SEnv.c (a i)) false, .ros 18 n' (fun i => SEnv.c (b i)) false, .fn (.func 63) [] [], .any, .any, .any, .any, .any, .any, .any, .any, .any, .any, .any, .int .i64 ↑n, .int .i64 0, .any, .any, .any, .any, .any, .any, .any, .any, .any, .any, .any, .any, .any, .any] [] 0 []) (.exit 0) (St.mk [.ros 18 n (fun i => SEnv.c (a i)) false, .ros 18 n' (fun i => SEnv.c (b i)) false, .fn (.func 63) [] [], .any, .any, .any, .any, .any, .any, .any, .any, .any, .any, .any, .int .i64 ↑n, .int .i64 ↑n, .any, .any, .any, .any, .any, .any, .any, .any, .any, .any, .any, .any, .any, .any] [] 0 []), q n, ∀ (k : Nat), k < n → SEnv.c (a k) = SEnv.c (a k), false = true → false = true, q (n'), ∀ (k : Nat), k < n' → SEnv.c (b k) = SEnv.c (b k), false = true → false = true, q (↑n : Int), q1]) : Option (V × Heap × List Prop)) := by kernel_rfl
theorem bdSmE_p00 (n : Nat) (n' : Nat) (a : Nat → SEnv) (b : Nat → SEnv) (m : Nat) :
  along Tryz.prog (bdSmE n n' a b m) [false, false] = (some (.bool false, [], [(!decide ((↑n : Int) = (↑n' : Int))) = false, RLoop Tryz.prog none 0 (cB (cB (cR (cL (cR (cR (bodyOf (Bd.f (bdSmE n n' a b m))))))))) (m + 1) (St.mk [.ros 18 n (fun i => SEnv.c (a i)) false, .ros 18 n' (fun i => SEnv.c (b i)) false, .fn (.func 63) [] [], .any, .any, .any, .any, .any, .any, .any, .any, .any, .any, .any, .int .i64 ↑n, .int .i64 0, .any, .any, .any, .any, .any, .any, .any, .any, .any, .any, .any, .any, .any, .any] [] 0 []) .ret (St.mk [.any, .any, .any, .any, .any, .any, .bool false, .any, .any, .any, .any, .any, .any, .any, .any, .any, .any, .any, .any, .any, .any, .any, .any, .any, .any, .any, .any, .any, .any, .any] [] 0 []), q n, ∀ (k : Nat), k < n → SEnv.c (a k) = SEnv.c (a k), false = true → false = true, q (n'), ∀ (k : Nat), k < n' → SEnv.c (b k) = SEnv.c (b k), false = true → false = true, q (↑n : Int), q1]) : Option (V × Heap × List Prop)) := by kernel_rfl

theorem pcSmE_p11 (n : Nat) (n' : Nat) (a : Nat → SEnv) (b : Nat → SEnv) (k : Nat) :
  alongPc Tryz.prog (pcSmE n n' a b k) [true, true] = (some (.ret, St.mk [.any, .any, .any, .any, .any, .any, .bool false, .any, .any, .any, .any, .any, .any, .any, .any, .any, .any, .any, .any, .any, .any, .any, .any, .any, .any, .any, .any, .any, .any, .any] [] 0 [], [decide ((↑k : Int) < (↑n : Int)) = true, (0 : Int) ≤ (↑k : Int) ∧ (↑k : Int) < (↑n : Int), (0 : Int) ≤ (↑k : Int) ∧ (↑k : Int) < (↑n' : Int), T Tryz.prog 63 [.agg [.int .i64 (SEnv.src (a (Int.toNat (↑k : Int)))), .str (SEnv.body (a (Int.toNat (↑k : Int)))), .seg .u8 16 (SEnv.tag (a (Int.toNat (↑k : Int))))], .agg [.int .i64 (SEnv.src (b (Int.toNat (↑k : Int)))), .str (SEnv.body (b (Int.toNat (↑k : Int)))), .seg .u8 16 (SEnv.tag (b (Int.toNat (↑k : Int))))]] [] (.bool (envEq (a k) (b k))) [], (!envEq (a k) (b k)) = true, q false]) : Option (Exit × St × List Prop)) := by kernel_rfl
theorem pcSmE_p10 (n : Nat) (n' : Nat) (a : Nat → SEnv) (b : Nat → SEnv) (k : Nat) :
  alongPc Tryz.prog (pcSmE n n' a b k) [true, false] = (some (.normal, St.mk [.ros 18 n (fun i => SEnv.c (a i)) false, .ros 18 n' (fun i => SEnv.c (b i)) false, .fn (.func 63) [] [], .any, .any, .any, .any, .any, .any, .any, .any, .any, .any, .any, .int .i64 ↑n, .int .i64 (↑(k + 1) : Int), .any, .any, .any, .any, .any, .any, .any, .any, .any, .any, .any, .any, .any, .any] [] 0 [], [decide ((↑k : Int) < (↑n : Int)) = true, (0 : Int) ≤ (↑k : Int) ∧ (↑k : Int) < (↑n : Int), (0 : Int) ≤ (↑k : Int) ∧ (↑k : Int) < (↑n' : Int), T Tryz.prog 63 [.agg [.int .i64 (SEnv.src (a (Int.toNat (↑k : Int)))), .str (SEnv.body (a (Int.toNat (↑k : Int)))), .seg .u8 16 (SEnv.tag (a (Int.toNat (↑k : Int))))], .agg [.int .i64 (SEnv.src (b (Int.toNat (↑k : Int)))), .str (SEnv.body (b (Int.toNat (↑k : Int)))), .seg .u8 16 (SEnv.tag (b (Int.toNat (↑k : Int))))]] [] (.bool (envEq (a k) (b k))) [], (!envEq (a k) (b k)) = false, InR IntKind.i64 ((↑k : Int) + (1 : Int)), q n, ∀ (k : Nat), k < n → SEnv.c (a k) = SEnv.c (a k), false = true → false = true, q (n'), ∀ (k : Nat), k < n' → SEnv.c (b k) = SEnv.c (b k), false = true → false = true, q (↑n : Int), (↑k : Int) + (1 : Int) = (↑(k + (1 : Nat)) : Int)]) : Option (Exit × St × List Prop)) := by kernel_rfl
theorem pcSmE_p0 (n : Nat) (n' : Nat) (a : Nat → SEnv) (b : Nat → SEnv) (k : Nat) :
  alongPc Tryz.prog (pcSmE n n' a b k) [false] = (some (.exit 0, St.mk [.ros 18 n (fun i => SEnv.c (a i)) false, .ros 18 n' (fun i => SEnv.c (b i)) false, .fn (.func 63) [] [], .any, .any, .any, .any, .any, .any, .any, .any, .any, .any, .any, .int .i64 ↑n, .int .i64 ↑n, .any, .any, .any, .any, .any, .any, .any, .any, .any, .any, .any, .any, .any, .any] [] 0 [], [decide ((↑k : Int) < (↑n : Int)) = false, q n, ∀ (k : Nat), k < n → SEnv.c (a k) = SEnv.c (a k), false = true → false = true, q (n'), ∀ (k : Nat), k < n' → SEnv.c (b k) = SEnv.c (b k), false = true → false = true, q (↑n : Int), (↑k : Int) = (↑n : Int)]) : Option (Exit × St × List Prop)) := by kernel_rfl

theorem bdSmH_p1 (n : Nat) (n' : Nat) (a : Nat → SHeld) (b : Nat → SHeld) (m : Nat) :
  along Tryz.prog (bdSmH n n' a b m) [true] = (some (.bool false, [], [(!decide ((↑n : Int) = (↑n' : Int))) = true]) : Option (V × Heap × List Prop)) := by kernel_rfl
theorem bdSmH_p01 (n : Nat) (n' : Nat) (a : Nat → SHeld) (b : Nat → SHeld) (m : Nat) :
  along Tryz.prog (bdSmH n n' a b m) [false, true] = (some (.bool true, [], [(!decide ((↑n : Int) = (↑n' : Int))) = false, RLoop Tryz.prog none 0 (cB (cB (cR (cL (cR (cR (bodyOf (Bd.f (bdSmH n n' a b m))))))))) (n + 1) (St.mk [.ros 39 n (fun i => SHeld.c (a i)) false, .ros 39 n' (fun i => SHeld.c (b i)) false, .fn (.func 103) [] [], .any, .any, .any, .any, .any, .any, .any, .any, .any, .any, .any, .int .i64 ↑n, .int .i64 0, .any, .any, .any, .any, .any, .any, .any, .any, .any, .any, .any, .any, .any, .any] [] 0 []) (.exit 0) (St.mk [.ros 39 n (fun i => SHeld.c (a i)) false, .ros 39 n' (fun i => SHeld.c (b i)) false, .fn (.func 103) [] [], .any, .any, .any, .any, .any, .any, .any, .any, .any, .any, .any, .int .i64 ↑n, .int .i64 ↑n, .any, .any, .any, .any, .any, .any, .any, .any, .any, .any, .any, .any, .any, .any] [] 0 []), q n, ∀ (k : Nat), k < n → SHeld.c (a k) = SHeld.c (a k), false = true → false = true, q (n'), ∀ (k : Nat), k < n' → SHeld.c (b k) = SHeld.c (b k), false = true → false = true, q (↑n : Int), q1]) : Option (V × Heap × List Prop)) := by kernel_rfl
theorem bdSmH_p00 (n : Nat) (n' : Nat) (a : Nat → SHeld) (b : Nat → SHeld) (m : Nat) :
  along Tryz.prog (bdSmH n n' a b m) [false, false] = (some (.bool false, [], [(!decide ((↑n : Int) = (↑n' : Int))) = false, RLoop Tryz.prog none 0 (cB (cB (cR (cL (cR (cR (bodyOf (Bd.f (bdSmH n n' a b m))))))))) (m + 1) (St.mk [.ros 39 n (fun i => SHeld.c (a i)) false, .ros 39 n' (fun i => SHeld.c (b i)) false, .fn (.func 103) [] [], .any, .any, .any, .any, .any, .any, .any, .any, .any, .any, .any, .int .i64 ↑n, .int .i64 0, .any, .any, .any, .any, .any, .any, .any, .any, .any, .any, .any, .any, .any, .any] [] 0 []) .ret (St.mk [.any, .any, .any, .any, .any, .any, .bool false, .any, .any, .any, .any, .any, .any, .any, .any, .any, .any, .any, .any, .any, .any, .any, .any, .any, .any, .any, .any, .any, .any, .any] [] 0 []), q n, ∀ (k : Nat), k < n → SHeld.c (a k) = SHeld.c (a k), false = true → false = true, q (n'), ∀ (k : Nat), k < n' → SHeld.c (b k) = SHeld.c (b k), false = true → false = true, q (↑n : Int), q1]) : Option (V × Heap × List Prop)) := by kernel_rfl

noncomputable def pcSmH_c (n : Nat) (n' : Nat) (a : Nat → SHeld) (b : Nat → SHeld) (k : Nat) : Nat → List Prop
 | 0 => [decide ((↑k : Int) < (↑n : Int)) = true, (0 : Int) ≤ (↑k : Int) ∧ (↑k : Int) < (↑n : Int), (0 : Int) ≤ (↑k : Int) ∧ (↑k : Int) < (↑n' : Int), T Tryz.prog 103 [.agg [.bool (SBatch.noop (SHeld.batch (a (Int.toNat (↑k : Int))))), rq (SBatch.n (SHeld.batch (a (Int.toNat (↑k : Int))))) (SBatch.req (SHeld.batch (a (Int.toNat (↑k : Int))))), .int .i64 (SVote.kind (SCert.vote (SHeld.cert (a (Int.toNat (↑k : Int)))))), .int .i64 (SVote.epoch (SCert.vote (SHeld.cert (a (Int.toNat (↑k : Int)))))), .int .i64 (SVote.view (SCert.vote (SHeld.cert (a (Int.toNat (↑k : Int)))))), .int .i64 (SVote.slot (SCert.vote (SHeld.cert (a (Int.toNat (↑k : Int)))))), .seg .u8 32 (SVote.digest (SCert.vote (SHeld.cert (a (Int.toNat (↑k : Int)))))), sg (SCert.n (SHeld.cert (a (Int.toNat (↑k : Int))))) (SCert.sig (SHeld.cert (a (Int.toNat (↑k : Int)))))], .agg [.bool (SBatch.noop (SHeld.batch (b (Int.toNat (↑k : Int))))), rq (SBatch.n (SHeld.batch (b (Int.toNat (↑k : Int))))) (SBatch.req (SHeld.batch (b (Int.toNat (↑k : Int))))), .int .i64 (SVote.kind (SCert.vote (SHeld.cert (b (Int.toNat (↑k : Int)))))), .int .i64 (SVote.epoch (SCert.vote (SHeld.cert (b (Int.toNat (↑k : Int)))))), .int .i64 (SVote.view (SCert.vote (SHeld.cert (b (Int.toNat (↑k : Int)))))), .int .i64 (SVote.slot (SCert.vote (SHeld.cert (b (Int.toNat (↑k : Int)))))), .seg .u8 32 (SVote.digest (SCert.vote (SHeld.cert (b (Int.toNat (↑k : Int)))))), sg (SCert.n (SHeld.cert (b (Int.toNat (↑k : Int))))) (SCert.sig (SHeld.cert (b (Int.toNat (↑k : Int)))))]] [] (.bool (sameHeldS (a k) (b k))) []]
 | _ => []
theorem pcSmH_p11 (n : Nat) (n' : Nat) (a : Nat → SHeld) (b : Nat → SHeld) (k : Nat) :
 alongPc Tryz.prog (pcSmH n n' a b k) [true, true] = (some (.ret, St.mk [.any, .any, .any, .any, .any, .any, .bool false, .any, .any, .any, .any, .any, .any, .any, .any, .any, .any, .any, .any, .any, .any, .any, .any, .any, .any, .any, .any, .any, .any, .any] [] 0 [], pcSmH_c n n' a b k 0 ++ [(!sameHeldS (a k) (b k)) = true, q false]) : Option (Exit × St × List Prop)) := by kernel_rfl
theorem pcSmH_p10 (n : Nat) (n' : Nat) (a : Nat → SHeld) (b : Nat → SHeld) (k : Nat) :
 alongPc Tryz.prog (pcSmH n n' a b k) [true, false] = (some (.normal, St.mk [.ros 39 n (fun i => SHeld.c (a i)) false, .ros 39 n' (fun i => SHeld.c (b i)) false, .fn (.func 103) [] [], .any, .any, .any, .any, .any, .any, .any, .any, .any, .any, .any, .int .i64 ↑n, .int .i64 (↑(k + 1) : Int), .any, .any, .any, .any, .any, .any, .any, .any, .any, .any, .any, .any, .any, .any] [] 0 [], pcSmH_c n n' a b k 0 ++ [(!sameHeldS (a k) (b k)) = false, InR IntKind.i64 ((↑k : Int) + (1 : Int)), q n, ∀ (k : Nat), k < n → SHeld.c (a k) = SHeld.c (a k), false = true → false = true, q (n'), ∀ (k : Nat), k < n' → SHeld.c (b k) = SHeld.c (b k), false = true → false = true, q (↑n : Int), (↑k : Int) + (1 : Int) = (↑(k + (1 : Nat)) : Int)]) : Option (Exit × St × List Prop)) := by kernel_rfl
theorem pcSmH_p0 (n : Nat) (n' : Nat) (a : Nat → SHeld) (b : Nat → SHeld) (k : Nat) :
 alongPc Tryz.prog (pcSmH n n' a b k) [false] = (some (.exit 0, St.mk [.ros 39 n (fun i => SHeld.c (a i)) false, .ros 39 n' (fun i => SHeld.c (b i)) false, .fn (.func 103) [] [], .any, .any, .any, .any, .any, .any, .any, .any, .any, .any, .any, .int .i64 ↑n, .int .i64 ↑n, .any, .any, .any, .any, .any, .any, .any, .any, .any, .any, .any, .any, .any, .any] [] 0 [], [decide ((↑k : Int) < (↑n : Int)) = false, q n, ∀ (k : Nat), k < n → SHeld.c (a k) = SHeld.c (a k), false = true → false = true, q (n'), ∀ (k : Nat), k < n' → SHeld.c (b k) = SHeld.c (b k), false = true → false = true, q (↑n : Int), (↑k : Int) = (↑n : Int)]) : Option (Exit × St × List Prop)) := by kernel_rfl

theorem reqEq_neg {a b : SReq} (h : reqEq a b = true) : a.client = b.client ∧ a.num = b.num ∧ a.data = b.data ∧ a.tag = b.tag := by
 simpa [reqEq] using h
theorem reqEq_neg' {a b : SReq} (h : ¬ reqEq a b = true) : (!(decide (a.client = b.client) && (decide (a.num = b.num) && (decide (a.data = b.data) && (decide (a.tag = b.tag) && true))))) = true := by
 rw [Bool.not_eq_true']; exact Bool.eq_false_iff.mpr h
theorem T_sq {n n' : Nat} (a b : Nat → SReq) (hn : n ≤ 1000000) : T Tryz.prog 101 [rq n a, rq n' b] [] (.bool (sameL n n' (fun i => reqEq (a i) (b i)))) [] := by
 by_cases hnn : n = n'
 ·subst hnn
  have step : ∀ k, k < n → reqEq (a k) (b k) = true → R Tryz.prog none 0 (cB (cB (cR (cL (cR (cR (bodyOf Tryz.f101))))))) (sqI (rq n a) (rq n b) n k) .normal (sqI (rq n a) (rq n b) n (k + 1)) := fun k hk hp => by
   refine R_alongPc NG MO _ (pcSq_p10 n n a b k) ?_ (Nat.zero_le _)
   simp only [All, All_append, bdMM_c, pcSmH_c, Int.toNat_natCast]
   and_intros
   all_goals first
    | (simp [hk, reqEq_neg hp, IntKind.min, IntKind.max, IntKind.signed, IntKind.bits] <;> omega)
  obtain ⟨m, h1, h2, h3⟩ := stop_at (fun k => reqEq (a k) (b k) = true) n
  by_cases hmn : m = n
  ·subst hmn
   refine T.bool (T_al (bdSq_p01 m m a b m) Tryz.func101 ⟨by simp, RLoop.inv (sqI (rq m a) (rq m b) m) m (fun k hk => step k hk (h2 k hk)) (R_alongPc NG MO _ (pcSq_p0 m m a b m) (by simp [All, All_append, bdMM_c, pcSmH_c]) (Nat.zero_le _)) (by simp), ?_⟩) (by simp [sameL]; exact h2)
   simp [All, All_append, bdMM_c, pcSmH_c]
  ·have hm' : m < n := by omega
   have h3 := h3.resolve_left hmn
   have bad : R Tryz.prog none 0 (cB (cB (cR (cL (cR (cR (bodyOf Tryz.f101))))))) (sqI (rq n a) (rq n b) n m) .ret (smF 4 26) := by
    refine R_alongPc NG MO _ (pcSq_p11 n n a b m) ?_ (Nat.zero_le _)
    simp only [All, All_append, bdMM_c, pcSmH_c, Int.toNat_natCast]
    and_intros
    all_goals first
     | exact reqEq_neg' h3
     | (simp [hm'] <;> omega)
   refine T.bool (T_al (bdSq_p00 n n a b m) Tryz.func101 ⟨by simp, RLoop.inv (sqI (rq n a) (rq n b) n) m (fun k hk => step k (by omega) (h2 k hk)) bad (by simp), ?_⟩) (by
    have : ¬ ∀ i, i < n → reqEq (a i) (b i) = true := fun h => h3 (h m hm')
    simp only [sameL, this, decide_false, Bool.and_false])
   simp [All, All_append, bdMM_c, pcSmH_c]
 ·exact T.bool (T_al (bdSq_p1 n n' a b 0) Tryz.func101 ⟨by simp <;> omega, trivial⟩) (by simp [sameL, hnn])
theorem T_eqS (a b : SSign) : T Tryz.prog 66 [.agg a.c, .agg b.c] [] (.bool (signEq a b)) [] :=
 T_along NG MO _ (bdEqS_p a b) Tryz.func66 (by kernel_rfl) trivial (pinH_ok (by kernel_rfl)) (by kernel_rfl)
theorem T_eqE (a b : SEnv) : T Tryz.prog 63 [.agg a.c, .agg b.c] [] (.bool (envEq a b)) [] :=
 T_along NG MO _ (bdEqE_p a b) Tryz.func63 (by kernel_rfl) trivial (pinH_ok (by kernel_rfl)) (by kernel_rfl)
theorem T_smS {n n' : Nat} (a b : Nat → SSign) (hn : n ≤ 1000000) : T Tryz.prog 65 [sg n a, sg n' b, .fn (.func 66) [] []] [] (.bool (sameL n n' (fun i => signEq (a i) (b i)))) [] := by
 by_cases hnn : n = n'
 ·subst hnn
  have step : ∀ k, k < n → signEq (a k) (b k) = true → R Tryz.prog none 0 (cB (cB (cR (cL (cR (cR (bodyOf Tryz.f65))))))) (smI (sg n a) (sg n b) n 66 k) .normal (smI (sg n a) (sg n b) n 66 (k + 1)) := fun k hk hp => by
   refine R_alongPc NG MO _ (pcSmS_p10 n n a b k) ?_ (Nat.zero_le _)
   simp only [All, All_append, bdMM_c, pcSmH_c, Int.toNat_natCast]
   and_intros
   all_goals first
    | exact T_eqS (a k) (b k)
    | (simp [hk, hp, IntKind.min, IntKind.max, IntKind.signed, IntKind.bits] <;> omega)
  obtain ⟨m, h1, h2, h3⟩ := stop_at (fun k => signEq (a k) (b k) = true) n
  by_cases hmn : m = n
  ·subst hmn
   refine T.bool (T_al (bdSmS_p01 m m a b m) Tryz.func65 ⟨by simp, RLoop.inv (smI (sg m a) (sg m b) m 66) m (fun k hk => step k hk (h2 k hk)) (R_alongPc NG MO _ (pcSmS_p0 m m a b m) (by simp [All, All_append, bdMM_c, pcSmH_c]) (Nat.zero_le _)) (by simp), ?_⟩) (by simp [sameL]; exact h2)
   simp [All, All_append, bdMM_c, pcSmH_c]
  ·have hm' : m < n := by omega
   have h3 := h3.resolve_left hmn
   have bad : R Tryz.prog none 0 (cB (cB (cR (cL (cR (cR (bodyOf Tryz.f65))))))) (smI (sg n a) (sg n b) n 66 m) .ret (smF 6 30) := by
    refine R_alongPc NG MO _ (pcSmS_p11 n n a b m) ?_ (Nat.zero_le _)
    simp only [All, All_append, bdMM_c, pcSmH_c, Int.toNat_natCast]
    and_intros
    all_goals first
     | exact T_eqS (a m) (b m)
     | (simp [hm', h3] <;> omega)
   refine T.bool (T_al (bdSmS_p00 n n a b m) Tryz.func65 ⟨by simp, RLoop.inv (smI (sg n a) (sg n b) n 66) m (fun k hk => step k (by omega) (h2 k hk)) bad (by simp), ?_⟩) (by
    have : ¬ ∀ i, i < n → signEq (a i) (b i) = true := fun h => h3 (h m hm')
    simp only [sameL, this, decide_false, Bool.and_false])
   simp [All, All_append, bdMM_c, pcSmH_c]
 ·exact T.bool (T_al (bdSmS_p1 n n' a b 0) Tryz.func65 ⟨by simp <;> omega, trivial⟩) (by simp [sameL, hnn])
theorem T_smE {n n' : Nat} (a b : Nat → SEnv) (hn : n ≤ 1000000) : T Tryz.prog 62 [nw n a, nw n' b, .fn (.func 63) [] []] [] (.bool (sameL n n' (fun i => envEq (a i) (b i)))) [] := by
 by_cases hnn : n = n'
 ·subst hnn
  have step : ∀ k, k < n → envEq (a k) (b k) = true → R Tryz.prog none 0 (cB (cB (cR (cL (cR (cR (bodyOf Tryz.f62))))))) (smI (nw n a) (nw n b) n 63 k) .normal (smI (nw n a) (nw n b) n 63 (k + 1)) := fun k hk hp => by
   refine R_alongPc NG MO _ (pcSmE_p10 n n a b k) ?_ (Nat.zero_le _)
   simp only [All, All_append, bdMM_c, pcSmH_c, Int.toNat_natCast]
   and_intros
   all_goals first
    | exact T_eqE (a k) (b k)
    | (simp [hk, hp, IntKind.min, IntKind.max, IntKind.signed, IntKind.bits] <;> omega)
  obtain ⟨m, h1, h2, h3⟩ := stop_at (fun k => envEq (a k) (b k) = true) n
  by_cases hmn : m = n
  ·subst hmn
   refine T.bool (T_al (bdSmE_p01 m m a b m) Tryz.func62 ⟨by simp, RLoop.inv (smI (nw m a) (nw m b) m 63) m (fun k hk => step k hk (h2 k hk)) (R_alongPc NG MO _ (pcSmE_p0 m m a b m) (by simp [All, All_append, bdMM_c, pcSmH_c]) (Nat.zero_le _)) (by simp), ?_⟩) (by simp [sameL]; exact h2)
   simp [All, All_append, bdMM_c, pcSmH_c]
  ·have hm' : m < n := by omega
   have h3 := h3.resolve_left hmn
   have bad : R Tryz.prog none 0 (cB (cB (cR (cL (cR (cR (bodyOf Tryz.f62))))))) (smI (nw n a) (nw n b) n 63 m) .ret (smF 6 30) := by
    refine R_alongPc NG MO _ (pcSmE_p11 n n a b m) ?_ (Nat.zero_le _)
    simp only [All, All_append, bdMM_c, pcSmH_c, Int.toNat_natCast]
    and_intros
    all_goals first
     | exact T_eqE (a m) (b m)
     | (simp [hm', h3] <;> omega)
   refine T.bool (T_al (bdSmE_p00 n n a b m) Tryz.func62 ⟨by simp, RLoop.inv (smI (nw n a) (nw n b) n 63) m (fun k hk => step k (by omega) (h2 k hk)) bad (by simp), ?_⟩) (by
    have : ¬ ∀ i, i < n → envEq (a i) (b i) = true := fun h => h3 (h m hm')
    simp only [sameL, this, decide_false, Bool.and_false])
   simp [All, All_append, bdMM_c, pcSmH_c]
 ·exact T.bool (T_al (bdSmE_p1 n n' a b 0) Tryz.func62 ⟨by simp <;> omega, trivial⟩) (by simp [sameL, hnn])
theorem T_bS (a b : SBatch) (hn : a.n ≤ 1000000) : T Tryz.prog 60 [.agg a.c, .agg b.c] [] (.bool (sameBatchS a b)) [] := by
 by_cases h1 : (a.noop == b.noop) = true
 ·
  refine T.bool (T_al (bdBS_p1 a b) Tryz.func60 ?_) (by simp [sameBatchS, h1] <;> omega)
  simp only [All, All_append, bdMM_c, pcSmH_c]
  and_intros
  all_goals first
   | exact T_sq a.req b.req hn
   | (simp [h1]; done)
   | exact h1
   | exact Bool.eq_false_iff.mpr h1
 ·
  refine T.bool (T_al (bdBS_p0 a b) Tryz.func60 ?_) (by simp [sameBatchS, h1] <;> omega)
  simp only [All, All_append, bdMM_c, pcSmH_c]
  and_intros
  all_goals first
   | exact T_sq a.req b.req hn
   | (simp [h1]; done)
   | exact h1
   | exact Bool.eq_false_iff.mpr h1
theorem T_cS (a b : SCert) (hn : a.n ≤ 1000000) : T Tryz.prog 64 [.agg a.c, .agg b.c] [] (.bool (sameCertS a b)) [] := by
 by_cases h1 : voteEq a.vote b.vote = true
 ·
  refine T.bool (T_al (bdCS_p1 a b) Tryz.func64 ?_) (by simp [sameCertS, h1] <;> omega)
  simp only [All, All_append, bdMM_c, pcSmH_c]
  and_intros
  all_goals first
   | exact T_smS a.sig b.sig hn
   | (simp [h1]; done)
   | exact h1
   | exact Bool.eq_false_iff.mpr h1
 ·
  refine T.bool (T_al (bdCS_p0 a b) Tryz.func64 ?_) (by simp [sameCertS, h1] <;> omega)
  simp only [All, All_append, bdMM_c, pcSmH_c]
  and_intros
  all_goals first
   | exact T_smS a.sig b.sig hn
   | (simp [h1]; done)
   | exact h1
   | exact Bool.eq_false_iff.mpr h1
theorem T_hS (a b : SHeld) (h1n : a.batch.n ≤ 1000000) (h2n : a.cert.n ≤ 1000000) : T Tryz.prog 103 [.agg a.c, .agg b.c] [] (.bool (sameHeldS a b)) [] := by
 by_cases h1 : sameBatchS a.batch b.batch = true
 ·
  refine T.bool (T_al (bdHS_p1 a b) Tryz.func103 ?_) (by simp [sameHeldS, h1] <;> omega)
  simp only [All, All_append, bdMM_c, pcSmH_c]
  and_intros
  all_goals first
   | exact T_bS a.batch b.batch h1n
   | exact T_cS a.cert b.cert h2n
   | (simp [h1]; done)
   | exact h1
   | exact Bool.eq_false_iff.mpr h1
 ·
  refine T.bool (T_al (bdHS_p0 a b) Tryz.func103 ?_) (by simp [sameHeldS, h1] <;> omega)
  simp only [All, All_append, bdMM_c, pcSmH_c]
  and_intros
  all_goals first
   | exact T_bS a.batch b.batch h1n
   | exact T_cS a.cert b.cert h2n
   | (simp [h1]; done)
   | exact h1
   | exact Bool.eq_false_iff.mpr h1
theorem T_smH {n n' : Nat} (a b : Nat → SHeld) (hn : n ≤ 1000000) (hb : ∀ k, k < n → (a k).batch.n ≤ 1000000 ∧ (a k).cert.n ≤ 1000000) : T Tryz.prog 102 [hl n a, hl n' b, .fn (.func 103) [] []] [] (.bool (sameL n n' (fun i => sameHeldS (a i) (b i)))) [] := by
 by_cases hnn : n = n'
 ·subst hnn
  have step : ∀ k, k < n → sameHeldS (a k) (b k) = true → R Tryz.prog none 0 (cB (cB (cR (cL (cR (cR (bodyOf Tryz.f102))))))) (smI (hl n a) (hl n b) n 103 k) .normal (smI (hl n a) (hl n b) n 103 (k + 1)) := fun k hk hp => by
   refine R_alongPc NG MO _ (pcSmH_p10 n n a b k) ?_ (Nat.zero_le _)
   simp only [All, All_append, bdMM_c, pcSmH_c, Int.toNat_natCast]
   and_intros
   all_goals first
    | exact T_hS (a k) (b k) (hb k hk).1 (hb k hk).2
    | (simp [hk, hp, IntKind.min, IntKind.max, IntKind.signed, IntKind.bits] <;> omega)
  obtain ⟨m, h1, h2, h3⟩ := stop_at (fun k => sameHeldS (a k) (b k) = true) n
  by_cases hmn : m = n
  ·subst hmn
   refine T.bool (T_al (bdSmH_p01 m m a b m) Tryz.func102 ⟨by simp, RLoop.inv (smI (hl m a) (hl m b) m 103) m (fun k hk => step k hk (h2 k hk)) (R_alongPc NG MO _ (pcSmH_p0 m m a b m) (by simp [All, All_append, bdMM_c, pcSmH_c]) (Nat.zero_le _)) (by simp), ?_⟩) (by simp [sameL]; exact h2)
   simp [All, All_append, bdMM_c, pcSmH_c]
  ·have hm' : m < n := by omega
   have h3 := h3.resolve_left hmn
   have bad : R Tryz.prog none 0 (cB (cB (cR (cL (cR (cR (bodyOf Tryz.f102))))))) (smI (hl n a) (hl n b) n 103 m) .ret (smF 6 30) := by
    refine R_alongPc NG MO _ (pcSmH_p11 n n a b m) ?_ (Nat.zero_le _)
    simp only [All, All_append, bdMM_c, pcSmH_c, Int.toNat_natCast]
    and_intros
    all_goals first
     | exact T_hS (a m) (b m) (hb m hm').1 (hb m hm').2
     | (simp [hm', h3] <;> omega)
   refine T.bool (T_al (bdSmH_p00 n n a b m) Tryz.func102 ⟨by simp, RLoop.inv (smI (hl n a) (hl n b) n 103) m (fun k hk => step k (by omega) (h2 k hk)) bad (by simp), ?_⟩) (by
    have : ¬ ∀ i, i < n → sameHeldS (a i) (b i) = true := fun h => h3 (h m hm')
    simp only [sameL, this, decide_false, Bool.and_false])
   simp [All, All_append, bdMM_c, pcSmH_c]
 ·exact T.bool (T_al (bdSmH_p1 n n' a b 0) Tryz.func102 ⟨by simp <;> omega, trivial⟩) (by simp [sameL, hnn])
theorem T_gS (a b : SMsg) (hn : a.nheld ≤ 1000000) (hb : ∀ k, k < a.nheld → (a.held k).batch.n ≤ 1000000 ∧ (a.held k).cert.n ≤ 1000000) : T Tryz.prog 61 [.agg (chC a), .agg (chC b)] [] (.bool (sameChangeS a b)) [] := by
 by_cases h1 : a.cepoch = b.cepoch
 ·
  by_cases h2 : a.cleader = b.cleader
  ·
   by_cases h3 : a.cview = b.cview
   ·
    refine T.bool (T_al (bdGS_p111 a b) Tryz.func61 ?_) (by simp [sameChangeS, h1, h2, h3] <;> omega)
    simp only [All, All_append, bdMM_c, pcSmH_c]
    and_intros
    all_goals first
     | exact T_smH a.held b.held hn hb
     | (simp [h1, h2, h3]; done)
     | exact h1
     | exact Bool.eq_false_iff.mpr h1
     | exact h2
     | exact Bool.eq_false_iff.mpr h2
     | exact h3
     | exact Bool.eq_false_iff.mpr h3
   ·
    refine T.bool (T_al (bdGS_p110 a b) Tryz.func61 ?_) (by simp [sameChangeS, h1, h2, h3] <;> omega)
    simp only [All, All_append, bdMM_c, pcSmH_c]
    and_intros
    all_goals first
     | exact T_smH a.held b.held hn hb
     | (simp [h1, h2, h3]; done)
     | exact h1
     | exact Bool.eq_false_iff.mpr h1
     | exact h2
     | exact Bool.eq_false_iff.mpr h2
     | exact h3
     | exact Bool.eq_false_iff.mpr h3
  ·
   refine T.bool (T_al (bdGS_p100 a b) Tryz.func61 ?_) (by simp [sameChangeS, h1, h2] <;> omega)
   simp only [All, All_append, bdMM_c, pcSmH_c]
   and_intros
   all_goals first
    | exact T_smH a.held b.held hn hb
    | (simp [h1, h2]; done)
    | exact h1
    | exact Bool.eq_false_iff.mpr h1
    | exact h2
    | exact Bool.eq_false_iff.mpr h2
 ·
  refine T.bool (T_al (bdGS_p000 a b) Tryz.func61 ?_) (by simp [sameChangeS, h1] <;> omega)
  simp only [All, All_append, bdMM_c, pcSmH_c]
  and_intros
  all_goals first
   | exact T_smH a.held b.held hn hb
   | (simp [h1]; done)
   | exact h1
   | exact Bool.eq_false_iff.mpr h1
structure FitM (a : SMsg) : Prop where
 batch : a.batch.n ≤ 1000000
 nheld : a.nheld ≤ 1000000
 held : ∀ k, k < a.nheld → (a.held k).batch.n ≤ 1000000 ∧ (a.held k).cert.n ≤ 1000000
 nnews : a.nnews ≤ 1000000
 cert : a.cert.n ≤ 1000000
 n : a.n ≤ 1000000
theorem T_mS (a b : SMsg) (h : FitM a) : T Tryz.prog 12 [.agg a.c, .agg b.c] [] (.bool (sameMsgS a b)) [] := by
 by_cases h1 : a.kind = b.kind
 ·
  by_cases h2 : a.epoch = b.epoch
  ·
   by_cases h3 : a.leader = b.leader
   ·
    by_cases h4 : a.view = b.view
    ·
     by_cases h5 : a.slot = b.slot
     ·
      by_cases h6 : sameBatchS a.batch b.batch = true
      ·
       by_cases h7 : voteEq a.vote b.vote = true
       ·
        by_cases h8 : sameChangeS a b = true
        ·
         by_cases h9 : sameL a.nnews b.nnews (fun i => envEq (a.news i) (b.news i)) = true
         ·
          by_cases h10 : a.digest = b.digest
          ·
           by_cases h11 : sameCertS a.cert b.cert = true
           ·
            by_cases h12 : a.state = b.state
            ·
             refine T.bool (T_al (bdMM_p111111111111 a b) Tryz.func12 ?_) (by simp [sameMsgS, h1, h2, h3, h4, h5, h6, h7, h8, h9, h10, h11, h12] <;> omega)
             simp only [All, All_append, bdMM_c, pcSmH_c]
             and_intros
             all_goals first
              | exact T_bS a.batch b.batch h.batch
              | exact T_gS a b h.nheld h.held
              | exact T_smE a.news b.news h.nnews
              | exact T_cS a.cert b.cert h.cert
              | exact T_smS a.sig b.sig h.n
              | (simp [h1, h2, h3, h4, h5, h6, h7, h8, h9, h10, h11, h12]; done)
              | exact h1
              | exact Bool.eq_false_iff.mpr h1
              | exact h2
              | exact Bool.eq_false_iff.mpr h2
              | exact h3
              | exact Bool.eq_false_iff.mpr h3
              | exact h4
              | exact Bool.eq_false_iff.mpr h4
              | exact h5
              | exact Bool.eq_false_iff.mpr h5
              | exact h6
              | exact Bool.eq_false_iff.mpr h6
              | exact h7
              | exact Bool.eq_false_iff.mpr h7
              | exact h8
              | exact Bool.eq_false_iff.mpr h8
              | exact h9
              | exact Bool.eq_false_iff.mpr h9
              | exact h10
              | exact Bool.eq_false_iff.mpr h10
              | exact h11
              | exact Bool.eq_false_iff.mpr h11
              | exact h12
              | exact Bool.eq_false_iff.mpr h12
            ·
             refine T.bool (T_al (bdMM_p111111111110 a b) Tryz.func12 ?_) (by simp [sameMsgS, h1, h2, h3, h4, h5, h6, h7, h8, h9, h10, h11, h12] <;> omega)
             simp only [All, All_append, bdMM_c, pcSmH_c]
             and_intros
             all_goals first
              | exact T_bS a.batch b.batch h.batch
              | exact T_gS a b h.nheld h.held
              | exact T_smE a.news b.news h.nnews
              | exact T_cS a.cert b.cert h.cert
              | exact T_smS a.sig b.sig h.n
              | (simp [h1, h2, h3, h4, h5, h6, h7, h8, h9, h10, h11, h12]; done)
              | exact h1
              | exact Bool.eq_false_iff.mpr h1
              | exact h2
              | exact Bool.eq_false_iff.mpr h2
              | exact h3
              | exact Bool.eq_false_iff.mpr h3
              | exact h4
              | exact Bool.eq_false_iff.mpr h4
              | exact h5
              | exact Bool.eq_false_iff.mpr h5
              | exact h6
              | exact Bool.eq_false_iff.mpr h6
              | exact h7
              | exact Bool.eq_false_iff.mpr h7
              | exact h8
              | exact Bool.eq_false_iff.mpr h8
              | exact h9
              | exact Bool.eq_false_iff.mpr h9
              | exact h10
              | exact Bool.eq_false_iff.mpr h10
              | exact h11
              | exact Bool.eq_false_iff.mpr h11
              | exact h12
              | exact Bool.eq_false_iff.mpr h12
           ·
            refine T.bool (T_al (bdMM_p111111111100 a b) Tryz.func12 ?_) (by simp [sameMsgS, h1, h2, h3, h4, h5, h6, h7, h8, h9, h10, h11] <;> omega)
            simp only [All, All_append, bdMM_c, pcSmH_c]
            and_intros
            all_goals first
             | exact T_bS a.batch b.batch h.batch
             | exact T_gS a b h.nheld h.held
             | exact T_smE a.news b.news h.nnews
             | exact T_cS a.cert b.cert h.cert
             | exact T_smS a.sig b.sig h.n
             | (simp [h1, h2, h3, h4, h5, h6, h7, h8, h9, h10, h11]; done)
             | exact h1
             | exact Bool.eq_false_iff.mpr h1
             | exact h2
             | exact Bool.eq_false_iff.mpr h2
             | exact h3
             | exact Bool.eq_false_iff.mpr h3
             | exact h4
             | exact Bool.eq_false_iff.mpr h4
             | exact h5
             | exact Bool.eq_false_iff.mpr h5
             | exact h6
             | exact Bool.eq_false_iff.mpr h6
             | exact h7
             | exact Bool.eq_false_iff.mpr h7
             | exact h8
             | exact Bool.eq_false_iff.mpr h8
             | exact h9
             | exact Bool.eq_false_iff.mpr h9
             | exact h10
             | exact Bool.eq_false_iff.mpr h10
             | exact h11
             | exact Bool.eq_false_iff.mpr h11
          ·
           refine T.bool (T_al (bdMM_p111111111000 a b) Tryz.func12 ?_) (by simp [sameMsgS, h1, h2, h3, h4, h5, h6, h7, h8, h9, h10] <;> omega)
           simp only [All, All_append, bdMM_c, pcSmH_c]
           and_intros
           all_goals first
            | exact T_bS a.batch b.batch h.batch
            | exact T_gS a b h.nheld h.held
            | exact T_smE a.news b.news h.nnews
            | exact T_cS a.cert b.cert h.cert
            | exact T_smS a.sig b.sig h.n
            | (simp [h1, h2, h3, h4, h5, h6, h7, h8, h9, h10]; done)
            | exact h1
            | exact Bool.eq_false_iff.mpr h1
            | exact h2
            | exact Bool.eq_false_iff.mpr h2
            | exact h3
            | exact Bool.eq_false_iff.mpr h3
            | exact h4
            | exact Bool.eq_false_iff.mpr h4
            | exact h5
            | exact Bool.eq_false_iff.mpr h5
            | exact h6
            | exact Bool.eq_false_iff.mpr h6
            | exact h7
            | exact Bool.eq_false_iff.mpr h7
            | exact h8
            | exact Bool.eq_false_iff.mpr h8
            | exact h9
            | exact Bool.eq_false_iff.mpr h9
            | exact h10
            | exact Bool.eq_false_iff.mpr h10
         ·
          refine T.bool (T_al (bdMM_p111111110000 a b) Tryz.func12 ?_) (by simp [sameMsgS, h1, h2, h3, h4, h5, h6, h7, h8, h9] <;> omega)
          simp only [All, All_append, bdMM_c, pcSmH_c]
          and_intros
          all_goals first
           | exact T_bS a.batch b.batch h.batch
           | exact T_gS a b h.nheld h.held
           | exact T_smE a.news b.news h.nnews
           | exact T_cS a.cert b.cert h.cert
           | exact T_smS a.sig b.sig h.n
           | (simp [h1, h2, h3, h4, h5, h6, h7, h8, h9]; done)
           | exact h1
           | exact Bool.eq_false_iff.mpr h1
           | exact h2
           | exact Bool.eq_false_iff.mpr h2
           | exact h3
           | exact Bool.eq_false_iff.mpr h3
           | exact h4
           | exact Bool.eq_false_iff.mpr h4
           | exact h5
           | exact Bool.eq_false_iff.mpr h5
           | exact h6
           | exact Bool.eq_false_iff.mpr h6
           | exact h7
           | exact Bool.eq_false_iff.mpr h7
           | exact h8
           | exact Bool.eq_false_iff.mpr h8
           | exact h9
           | exact Bool.eq_false_iff.mpr h9
        ·
         refine T.bool (T_al (bdMM_p111111100000 a b) Tryz.func12 ?_) (by simp [sameMsgS, h1, h2, h3, h4, h5, h6, h7, h8] <;> omega)
         simp only [All, All_append, bdMM_c, pcSmH_c]
         and_intros
         all_goals first
          | exact T_bS a.batch b.batch h.batch
          | exact T_gS a b h.nheld h.held
          | exact T_smE a.news b.news h.nnews
          | exact T_cS a.cert b.cert h.cert
          | exact T_smS a.sig b.sig h.n
          | (simp [h1, h2, h3, h4, h5, h6, h7, h8]; done)
          | exact h1
          | exact Bool.eq_false_iff.mpr h1
          | exact h2
          | exact Bool.eq_false_iff.mpr h2
          | exact h3
          | exact Bool.eq_false_iff.mpr h3
          | exact h4
          | exact Bool.eq_false_iff.mpr h4
          | exact h5
          | exact Bool.eq_false_iff.mpr h5
          | exact h6
          | exact Bool.eq_false_iff.mpr h6
          | exact h7
          | exact Bool.eq_false_iff.mpr h7
          | exact h8
          | exact Bool.eq_false_iff.mpr h8
       ·
        refine T.bool (T_al (bdMM_p111111000000 a b) Tryz.func12 ?_) (by simp [sameMsgS, h1, h2, h3, h4, h5, h6, h7] <;> omega)
        simp only [All, All_append, bdMM_c, pcSmH_c]
        and_intros
        all_goals first
         | exact T_bS a.batch b.batch h.batch
         | exact T_gS a b h.nheld h.held
         | exact T_smE a.news b.news h.nnews
         | exact T_cS a.cert b.cert h.cert
         | exact T_smS a.sig b.sig h.n
         | (simp [h1, h2, h3, h4, h5, h6, h7]; done)
         | exact h1
         | exact Bool.eq_false_iff.mpr h1
         | exact h2
         | exact Bool.eq_false_iff.mpr h2
         | exact h3
         | exact Bool.eq_false_iff.mpr h3
         | exact h4
         | exact Bool.eq_false_iff.mpr h4
         | exact h5
         | exact Bool.eq_false_iff.mpr h5
         | exact h6
         | exact Bool.eq_false_iff.mpr h6
         | exact h7
         | exact Bool.eq_false_iff.mpr h7
      ·
       refine T.bool (T_al (bdMM_p111110000000 a b) Tryz.func12 ?_) (by simp [sameMsgS, h1, h2, h3, h4, h5, h6] <;> omega)
       simp only [All, All_append, bdMM_c, pcSmH_c]
       and_intros
       all_goals first
        | exact T_bS a.batch b.batch h.batch
        | exact T_gS a b h.nheld h.held
        | exact T_smE a.news b.news h.nnews
        | exact T_cS a.cert b.cert h.cert
        | exact T_smS a.sig b.sig h.n
        | (simp [h1, h2, h3, h4, h5, h6]; done)
        | exact h1
        | exact Bool.eq_false_iff.mpr h1
        | exact h2
        | exact Bool.eq_false_iff.mpr h2
        | exact h3
        | exact Bool.eq_false_iff.mpr h3
        | exact h4
        | exact Bool.eq_false_iff.mpr h4
        | exact h5
        | exact Bool.eq_false_iff.mpr h5
        | exact h6
        | exact Bool.eq_false_iff.mpr h6
     ·
      refine T.bool (T_al (bdMM_p111100000000 a b) Tryz.func12 ?_) (by simp [sameMsgS, h1, h2, h3, h4, h5] <;> omega)
      simp only [All, All_append, bdMM_c, pcSmH_c]
      and_intros
      all_goals first
       | exact T_bS a.batch b.batch h.batch
       | exact T_gS a b h.nheld h.held
       | exact T_smE a.news b.news h.nnews
       | exact T_cS a.cert b.cert h.cert
       | exact T_smS a.sig b.sig h.n
       | (simp [h1, h2, h3, h4, h5]; done)
       | exact h1
       | exact Bool.eq_false_iff.mpr h1
       | exact h2
       | exact Bool.eq_false_iff.mpr h2
       | exact h3
       | exact Bool.eq_false_iff.mpr h3
       | exact h4
       | exact Bool.eq_false_iff.mpr h4
       | exact h5
       | exact Bool.eq_false_iff.mpr h5
    ·
     refine T.bool (T_al (bdMM_p111000000000 a b) Tryz.func12 ?_) (by simp [sameMsgS, h1, h2, h3, h4] <;> omega)
     simp only [All, All_append, bdMM_c, pcSmH_c]
     and_intros
     all_goals first
      | exact T_bS a.batch b.batch h.batch
      | exact T_gS a b h.nheld h.held
      | exact T_smE a.news b.news h.nnews
      | exact T_cS a.cert b.cert h.cert
      | exact T_smS a.sig b.sig h.n
      | (simp [h1, h2, h3, h4]; done)
      | exact h1
      | exact Bool.eq_false_iff.mpr h1
      | exact h2
      | exact Bool.eq_false_iff.mpr h2
      | exact h3
      | exact Bool.eq_false_iff.mpr h3
      | exact h4
      | exact Bool.eq_false_iff.mpr h4
   ·
    refine T.bool (T_al (bdMM_p110000000000 a b) Tryz.func12 ?_) (by simp [sameMsgS, h1, h2, h3] <;> omega)
    simp only [All, All_append, bdMM_c, pcSmH_c]
    and_intros
    all_goals first
     | exact T_bS a.batch b.batch h.batch
     | exact T_gS a b h.nheld h.held
     | exact T_smE a.news b.news h.nnews
     | exact T_cS a.cert b.cert h.cert
     | exact T_smS a.sig b.sig h.n
     | (simp [h1, h2, h3]; done)
     | exact h1
     | exact Bool.eq_false_iff.mpr h1
     | exact h2
     | exact Bool.eq_false_iff.mpr h2
     | exact h3
     | exact Bool.eq_false_iff.mpr h3
  ·
   refine T.bool (T_al (bdMM_p100000000000 a b) Tryz.func12 ?_) (by simp [sameMsgS, h1, h2] <;> omega)
   simp only [All, All_append, bdMM_c, pcSmH_c]
   and_intros
   all_goals first
    | exact T_bS a.batch b.batch h.batch
    | exact T_gS a b h.nheld h.held
    | exact T_smE a.news b.news h.nnews
    | exact T_cS a.cert b.cert h.cert
    | exact T_smS a.sig b.sig h.n
    | (simp [h1, h2]; done)
    | exact h1
    | exact Bool.eq_false_iff.mpr h1
    | exact h2
    | exact Bool.eq_false_iff.mpr h2
 ·
  refine T.bool (T_al (bdMM_p000000000000 a b) Tryz.func12 ?_) (by simp [sameMsgS, h1] <;> omega)
  simp only [All, All_append, bdMM_c, pcSmH_c]
  and_intros
  all_goals first
   | exact T_bS a.batch b.batch h.batch
   | exact T_gS a b h.nheld h.held
   | exact T_smE a.news b.news h.nnews
   | exact T_cS a.cert b.cert h.cert
   | exact T_smS a.sig b.sig h.n
   | (simp [h1]; done)
   | exact h1
   | exact Bool.eq_false_iff.mpr h1
end Go.Proofs.YthifjamdfpjilaaGreat
namespace Sy
open Go

variable {P : Program}
theorem sh_struct {d : Nat} {t : TypeId} {vs : List V} {fs : Array Field} (h : ShC P d t vs) (hu : P.underlying t = some (.struct fs)) : ∃ d', ShFs (ShC P d') fs.toList vs := by
 cases d with
 | zero => exact h.elim
 | succ d => rw [ShC, hu] at h; exact ⟨d, h⟩
theorem sh_slice {d : Nat} {t e : TypeId} {vs : List V} (h : ShC P d t vs) (hu : P.underlying t = some (.slice e)) : ∃ d' len f, vs = [.ros (P.cellsOf e) len f false] ∧ len ≤ maxLen ∧ ∀ i, i < len → ShC P d' e (f i) := by
 cases d with
 | zero => exact h.elim
 | succ d => rw [ShC, hu] at h; obtain ⟨len, f, h1, h2, h3⟩ := h; exact ⟨d, len, f, h1, h2, h3⟩
theorem sh_int {d : Nat} {t : TypeId} {vs : List V} {k : IntKind} (h : ShC P d t vs) (hu : P.underlying t = some (.int k)) : ∃ n, vs = [.int k n] ∧ InR k n := by
 cases d with
 | zero => exact h.elim
 | succ d => rw [ShC, hu] at h; exact h
theorem sh_bool {d : Nat} {t : TypeId} {vs : List V} (h : ShC P d t vs) (hu : P.underlying t = some .bool) : ∃ b, vs = [.bool b] := by
 cases d with
 | zero => exact h.elim
 | succ d => rw [ShC, hu] at h; exact h
theorem sh_str {d : Nat} {t : TypeId} {vs : List V} (h : ShC P d t vs) (hu : P.underlying t = some .string) : ∃ s : ByteArray, vs = [.str s] ∧ s.size ≤ maxLen := by
 cases d with
 | zero => exact h.elim
 | succ d => rw [ShC, hu] at h; exact h
theorem sh_arr {d : Nat} {t e : TypeId} {n : Nat} {k : IntKind} {vs : List V} (h : ShC P d t vs) (hu : P.underlying t = some (.array n e)) (he : P.underlying e = some (.int k)) : ∃ xs, vs = [.seg k n xs] ∧ xs.length = n ∧ ∀ x ∈ xs, InR k x := by
 cases d with
 | zero => exact h.elim
 | succ d =>
  rw [ShC, hu] at h
  obtain ⟨k', xs, h1, h2, h3, h4⟩ := h
  rw [he] at h1; cases h1
  exact ⟨xs, h2, h3, h4⟩

/-- What these cells are, those are too. -/
def CsLe (U : Imm) (a b : List V) : Prop := ∀ l, CsRel U Env.none a l → CsRel U Env.none b l
theorem CsLe.refl (U : Imm) (a : List V) : CsLe U a a := fun _ h => h
theorem CsLe.app {U : Imm} {a a' b b' : List V} (h1 : CsLe U a a') (h2 : CsLe U b b') : CsLe U (a ++ b) (a' ++ b') := fun l h => by
 obtain ⟨la, lb, rfl, h3, h4⟩ := CsRel_append.1 h
 exact CsRel_append.2 ⟨la, lb, rfl, h1 _ h3, h2 _ h4⟩
theorem VRel_ros {U : Imm} {ρ : Env} {es n : Nat} {f g : Nat → List V} {c : Bool} (h : ∀ i, i < n → CsLe U (f i) (g i)) {x : Value} (hx : VRel U ρ (.ros es n f c) x) : VRel U ρ (.ros es n g c) x := by
 rw [VRel] at hx ⊢
 obtain ⟨a, cp, h1, h2, h3, h4⟩ := hx
 refine ⟨a, cp, h1, h2, h3, fun i hi => ?_⟩
 obtain ⟨b, base, c0, g1, g2, l, g3, g4⟩ := h4 i hi
 exact ⟨b, base, c0, g1, g2, l, h i hi l g3, g4⟩
theorem CsLe.ros {U : Imm} {es n : Nat} {f g : Nat → List V} {c : Bool} (h : ∀ i, i < n → CsLe U (f i) (g i)) : CsLe U [.ros es n f c] [.ros es n g c] := fun l hl => by
 obtain ⟨x, r, rfl, h1, h2⟩ := (CsRel_one rfl).1 hl
 exact (CsRel_one rfl).2 ⟨x, r, rfl, VRel_ros h h1, h2⟩
/-- An argument that is one cell. -/
def oneT (P : Program) (t : TypeId) : Bool := match P.underlying t with
 | some .bool => true
 | some (.int _) => true
 | some .string => true
 | some (.slice _) => true
 | _ => false
theorem arg_one {W : World} {base : Nat} {t : TypeId} {v : Value} (h : Value.okWide P W .any base t v) (ho : oneT P t = true) : v.cells.toList = [v] := by
 unfold oneT at ho
 cases v <;> first | rfl | skip
 rename_i cs
 exfalso
 split at ho <;> first | (cases ho; done) | skip
 all_goals
  rename_i hu
  simp [Value.okWide, hu, Cell.okWide, Cell.ok] at h
theorem args_one {W : World} {base : Nat} {ps : Array TypeId} {args : Array Value} (hval : ∀ (j : Nat) t v, ps[j]? = some t → args[j]? = some v → Value.okWide P W .any base t v) {j : Nat} {t : TypeId} {v : Value} (h1 : ps[j]? = some t) (h2 : args[j]? = some v) (ho : oneT P t = true) : v.cells.toList = [v] :=
 arg_one (hval j t v h1 h2) ho
/-- An argument that is a struct. -/
theorem arg_struct {W : World} {base : Nat} {t : TypeId} {fs : Array Field} {v : Value} (h : Value.okWide P W .any base t v) (hu : P.underlying t = some (.struct fs)) : ∃ cs, v = .agg cs := by
 unfold Value.okWide at h
 rw [hu] at h
 obtain ⟨cs, h1, _⟩ := h
 exact ⟨cs, h1⟩
theorem args_struct {W : World} {base : Nat} {ps : Array TypeId} {args : Array Value} (hval : ∀ (j : Nat) t v, ps[j]? = some t → args[j]? = some v → Value.okWide P W .any base t v) {j : Nat} {t : TypeId} {fs : Array Field} {v : Value} (h1 : ps[j]? = some t) (h2 : args[j]? = some v) (hu : P.underlying t = some (.struct fs)) : ∃ cs, v = .agg cs :=
 arg_struct (hval j t v h1 h2) hu
theorem VRel_one {U : Imm} {u : V} {v : Value} (hu : u.cell = true) (hv : v.cells.toList = [v]) (h : CsRel U Env.none [u] v.cells.toList) : VRel U Env.none u v := by
 rw [hv] at h
 obtain ⟨x, l, h1, h2, h3⟩ := (CsRel_one hu).1 h
 cases h1
 exact h2
theorem VRel_agg {U : Imm} {vs : List V} {cs : Array Value} (h : CsRel U Env.none vs (Value.agg cs).cells.toList) : VRel U Env.none (.agg vs) (.agg cs) := by
 rw [VRel]; exact ⟨cs, rfl, h⟩
/-- Many at once. -/
theorem choose_fn {α : Type} [Inhabited α] {n : Nat} {p : Nat → α → Prop} (h : ∀ i, i < n → ∃ a, p i a) : ∃ f : Nat → α, ∀ i, i < n → p i (f i) := by
 classical
 refine ⟨fun i => if hi : i < n then Classical.choose (h i hi) else default, fun i hi => ?_⟩
 simp only [dif_pos hi]
 exact Classical.choose_spec (h i hi)
instance : Inhabited SSign := ⟨{}⟩
instance : Inhabited SReq := ⟨{}⟩
instance : Inhabited SRec := ⟨{}⟩
instance : Inhabited SHeld := ⟨{}⟩
instance : Inhabited SEnv := ⟨{}⟩
end Sy
namespace Sy
open Go

theorem first_bad (p : Nat → Prop) : ∀ n, (∀ k, k < n → p k) ∨ ∃ m, m < n ∧ (∀ k, k < m → p k) ∧ ¬ p m
 | 0 => .inl fun k h => absurd h (Nat.not_lt_zero k)
 | n + 1 => by
  rcases first_bad p n with h | ⟨m, h1, h2, h3⟩
  ·by_cases hp : p n
   ·exact .inl fun k hk => by
     rcases Nat.lt_or_ge k n with h1 | h1
     ·exact h k h1
     ·obtain rfl : k = n := by omega
      exact hp
   ·exact .inr ⟨n, Nat.lt_succ_self n, h, hp⟩
  ·exact .inr ⟨m, Nat.lt_succ_of_lt h1, h2, h3⟩
/-- A loop that goes on as long as something holds. -/
theorem loop_all {P : Program} {ro : Option Nat} {p : Nat} {c : Code} {I : Nat → St} {F : Nat → St} {e : Nat → Exit} {x : Exit} {G : St} {n : Nat} {q : Nat → Prop}
  (step : ∀ k, k < n → q k → R P ro p c (I k) .normal (I (k + 1))) (bad : ∀ k, k < n → ¬ q k → R P ro p c (I k) (e k) (F k)) (he : ∀ k, e k ≠ .normal) (out : R P ro p c (I n) x G) (hx : x ≠ .normal) :
  ((∀ k, k < n → q k) ∧ RLoop P ro p c (n + 1) (I 0) x G) ∨ ∃ m, m < n ∧ (∀ k, k < m → q k) ∧ ¬ q m ∧ RLoop P ro p c (m + 1) (I 0) (e m) (F m) := by
 rcases first_bad q n with h | ⟨m, h1, h2, h3⟩
 ·exact .inl ⟨h, RLoop.inv I n (fun k hk => step k hk (h k hk)) out hx⟩
 ·exact .inr ⟨m, h1, h2, h3, RLoop.inv I m (fun k hk => step k (by omega) (h2 k hk)) (bad m h1 h3) (he m)⟩
end Sy
namespace Sy
theorem neg_t {b : Bool} (h : b = true) : (!b) = false := by subst h; rfl
theorem neg_f {b : Bool} (h : ¬ b = true) : (!b) = true := by rw [Bool.eq_false_iff.mpr h]; rfl
theorem neg_f' {b : Bool} (h : b = false) : (!b) = true := by subst h; rfl
end Sy
namespace Sy
theorem not_t {b : Bool} (h : (!b) = true) : b = false := by cases b <;> simp_all
theorem not_f {b : Bool} (h : (!b) = false) : b = true := by cases b <;> simp_all
end Sy
namespace Sy
open Go
/-- What is known of the arguments may be more. -/
theorem T.args {P : Program} {f : FuncId} {args args' : List V} {pre : Heap} {val : V} {post : Heap} {cs : List Prop} (h : T P f args pre val post) (hl : leVs [] args' args = some cs) (hc : All cs) : T P f args' pre val post := by
 intro U ρ w xs hh ha hf
 exact h U ρ w xs hh (leVs_ok (Imm.le_refl U) (fun n b hb => absurd hb List.not_mem_nil) _ _ _ _ hl hc ha) hf
end Sy
namespace Go.Proofs.YthifjamdfpjilaaGreat
open Go Sy Go.Proofs
/-- The last digits. -/
def lastD (n k : Nat) : List UInt8 := (digs 8 n).drop ((digs 8 n).length - k)
def dgI (n k : Nat) : St := ⟨mkT 15 [(0, .int .i64 (n / 256 ^ k : Nat)), (3, sb (.o 1) (lastD n k))], [(.o 1, bs (lastD n k))], 2, []⟩
def dgS (n : Nat) (b : Bool) : St := ⟨mkT 15 ((0, .int .i64 (n : Nat)) :: (if b then [(3, .snil)] else [])), [], 1, []⟩
noncomputable def pcDa (n : Nat) : Pc := { c := cL (bodyOf Tryz.f108), st := ⟨[.int .i64 (n : Nat)] ++ List.replicate 14 (.tup []), [], 1, []⟩, p := 1, kb := kb0, k := fun _ _ => some (wTo (dgS n false)) }
noncomputable def pcDb (n : Nat) : Pc := { c := cL (cR (bodyOf Tryz.f108)), st := dgS n false, p := 1, kb := kb0, k := fun _ _ => some (wTo (dgS n true)) }
noncomputable def pcDc (n : Nat) : Pc := { c := cR (cR (bodyOf Tryz.f108)), st := dgS n true, p := 1, kb := { db := fun _ _ _ _ => [], lp := fun _ t => match getV t.tmps 3 with | .sl a _ _ _ _ _ _ => [(True, .loop ((digs 8 n).length + 1) (wToS [(.o 1, a)] (dgI n 0)) (.exit 0) (dgI n (digs 8 n).length))] | _ => [], fx := fun id _ => bif Nat.beq id 2 then [.virt 3 1] else [] }, k := kSb 2 63 (digs 8 n) }
noncomputable def pcDg (n k : Nat) : Pc := { c := cB (cB (cL (cR (cR (bodyOf Tryz.f108))))), st := dgI n k, p := 1, kb := kb0, k := fun e t => match e with
 | .normal => match getV t.tmps 3 with
  | .sl a _ _ _ _ _ _ => some (wToS [(.o 1, a)] (dgI n (k + 1)))
  | _ => none
 | _ => some (wTo (dgI n k)) }
noncomputable def bdRp (n : Nat) (l : List UInt8) : Bd := { f := Tryz.f78, args := [sb (.o 0) l, .int .i64 n], pre := [(.o 0, bs l)], base := 1, kb := { db := fun k _ _ lo => bif Nat.beq k 108 then [{ val := sb (.o lo) (digs 8 n), post := [(.o lo, bs (digs 8 n))] }] else [] }, names := fun _ => [.o 63], k := kSb 4 63 (l ++ putN n) }
noncomputable def bdRp0 (n : Nat) : Bd := { f := Tryz.f78, args := [.snil, .int .i64 n], base := 1, kb := { db := fun k _ _ lo => bif Nat.beq k 108 then [{ val := sb (.o lo) (digs 8 n), post := [(.o lo, bs (digs 8 n))] }] else [] }, names := fun _ => [.o 63], k := kSb 4 63 (putN n) }
noncomputable def bdRt (l : List UInt8) (s : ByteArray) : Bd := { f := Tryz.f81, args := [sb (.o 0) l, .str s], pre := [(.o 0, bs l)], base := 1, kb := { db := fun k a _ lo => bif Nat.beq k 78 then cNew (l ++ putZ s.size) a lo else [] }, k := kSb 4 63 (l ++ textB s), names := fun _ => [.o 63] }
end Go.Proofs.YthifjamdfpjilaaGreat
namespace Go.Proofs.YthifjamdfpjilaaGreat
open Go Sy Go.Proofs
theorem pcDa_p (n : Nat) :
  alongPc Tryz.prog (pcDa n) [] = (some (.normal, St.mk [.int .i64 ↑n, .any, .any, .any, .any, .any, .any, .any, .any, .any, .any, .any, .any, .any, .any] [] 1 [], [q (↑n : Int)]) : Option (Exit × St × List Prop)) := by kernel_rfl

theorem pcDb_p (n : Nat) :
  alongPc Tryz.prog (pcDb n) [] = (some (.normal, St.mk [.int .i64 ↑n, .any, .any, .snil, .any, .any, .any, .any, .any, .any, .any, .any, .any, .any, .any] [] 1 [], [q (↑n : Int)]) : Option (Exit × St × List Prop)) := by kernel_rfl

theorem pcDc_p (n : Nat) :
  alongPc Tryz.prog (pcDc n) [] = (some (.ret, St.mk [.any, .any, sb (.o 63) (digs 8 n), .any, .any, .any, .any, .any, .any, .any, .any, .any, .any, .any, .any] [(.o 63, bs (digs 8 n))] 130 [], [RLoop Tryz.prog none 1 (cB (cB (cL (Pc.c (pcDc n))))) (List.length (digs 8 n) + 1) (St.mk [.int .i64 (↑(n / nat_lit 1) : Int), .any, .any, .sl (.o 1) 1 0 0 0 (List.length (lastD n 0)) none, .any, .any, .any, .any, .any, .any, .any, .any, .any, .any, .any] [(.o 1, bs (lastD n 0))] 2 []) (.exit 0) (St.mk [.int .i64 (↑(n / 256 ^ List.length (digs 8 n)) : Int), .any, .any, .sl (.o 1) 1 0 0 0 (List.length (lastD n (List.length (digs 8 n)))) none, .any, .any, .any, .any, .any, .any, .any, .any, .any, .any, .any] [(.o 1, bs (lastD n (List.length (digs 8 n))))] 2 []), (0 : Nat) = List.length (lastD n (0 : Nat)), ∀ (k : Nat), k < (0 : Nat) → [] = bl (lastD n (0 : Nat)) k, true = false → true = false, (↑n : Int) = (↑(n / nat_lit 1) : Int), q0, q0, q0, (0 : Nat) = List.length (lastD n (0 : Nat)), (none : Option Nat) = none ∨ (none : Option Nat) = none, List.length (lastD n (List.length (digs (8 : Nat) n))) = List.length (digs (8 : Nat) n), ∀ (k : Nat), k < List.length (lastD n (List.length (digs (8 : Nat) n))) → bl (lastD n (List.length (digs (8 : Nat) n))) k = bl (digs (8 : Nat) n) k, true = false → true = false, q0, q0, q0, List.length (lastD n (List.length (digs (8 : Nat) n))) = List.length (digs (8 : Nat) n), (none : Option Nat) = none ∨ (none : Option Nat) = none]) : Option (Exit × St × List Prop)) := by kernel_rfl

theorem pcDg_p1 (n : Nat) (k : Nat) :
  alongPc Tryz.prog (pcDg n k) [true] = (some (.normal, St.mk [.int .i64 (↑(n / 256 ^ (k + 1)) : Int), .any, .any, .sl (.o 1) 1 0 0 0 (List.length (lastD n (k + 1))) none, .any, .any, .any, .any, .any, .any, .any, .any, .any, .any, .any] [(.o 1, bs (lastD n (k + 1)))] 2 [], [decide ((0 : Int) < (↑(n / (256 : Nat) ^ k) : Int)) = true, (0 : Int) ≤ (↑(n / (256 : Nat) ^ k) : Int) ∧ (0 : Int) < (256 : Int), q (1 : Nat), (0 : Nat) + List.length (lastD n k) ≤ List.length (lastD n k), ∀ (k_1 : Nat), k_1 < List.length (lastD n k) → true = true, ((1 : Nat) + List.length (lastD n k)) * (1 : Nat) ≤ (140737488355328 : Nat), (0 : Int) ≤ (↑(n / (256 : Nat) ^ k) : Int) ∧ (0 : Int) < (256 : Int) ∧ InR IntKind.i64 ((↑(n / (256 : Nat) ^ k) : Int) / (256 : Int)), (1 : Nat) + List.length (lastD n k) = List.length (lastD n (k + (1 : Nat))), ∀ (k_1 : Nat), k_1 < (1 : Nat) + List.length (lastD n k) → catF (1 : Nat) (getL [[V.int IntKind.u8 (IntKind.wrap IntKind.u8 ((↑(n / (256 : Nat) ^ k) : Int) % (256 : Int)))]]) (fun k_2 => bl (lastD n k) ((0 : Nat) + k_2)) k_1 = bl (lastD n (k + (1 : Nat))) k_1, true = false → true = false, (↑(n / (256 : Nat) ^ k) : Int) / (256 : Int) = (↑(n / (256 : Nat) ^ (k + (1 : Nat))) : Int), q0, q0, q0, (1 : Nat) + List.length (lastD n k) = List.length (lastD n (k + (1 : Nat))), (none : Option Nat) = none ∨ (none : Option Nat) = none]) : Option (Exit × St × List Prop)) := by kernel_rfl
theorem pcDg_p0 (n : Nat) (k : Nat) :
  alongPc Tryz.prog (pcDg n k) [false] = (some (.exit 0, St.mk [.int .i64 (↑(n / 256 ^ k) : Int), .any, .any, .sl (.o 1) 1 0 0 0 (List.length (lastD n k)) none, .any, .any, .any, .any, .any, .any, .any, .any, .any, .any, .any] [(.o 1, bs (lastD n k))] 2 [], [decide ((0 : Int) < (↑(n / (256 : Nat) ^ k) : Int)) = false, q (List.length (lastD n k)), ∀ (k_1 : Nat), k_1 < List.length (lastD n k) → bl (lastD n k) k_1 = bl (lastD n k) k_1, true = false → true = false, q (↑(n / (256 : Nat) ^ k) : Int), q0, q0, q0, q (List.length (lastD n k)), (none : Option Nat) = none ∨ (none : Option Nat) = none]) : Option (Exit × St × List Prop)) := by kernel_rfl

theorem bdRp_p0 (n : Nat) (l : List UInt8) :
  along Tryz.prog (bdRp n l) [false] = (some (.sl (.o 63) 1 0 0 0 (List.length (l ++ putN n)) none, [(.o 63, bs (l ++ putN n))], [q0, (0 : Nat) + List.length l ≤ List.length l, ∀ (k : Nat), k < List.length l → true = true, ((0 : Nat) + List.length l) * (1 : Nat) ≤ (140737488355328 : Nat), q false, T Tryz.prog 108 [.int .i64 ↑n] [] (sb (.o 513) (digs 8 n)) [(.o 513, bs (digs 8 n))], q ((0 : Nat) + List.length l), nat_lit 1 ≤ (1 : Nat), ∀ (k : Nat), k < (1 : Nat) → solid (getL [[V.int IntKind.u8 (IntKind.wrap IntKind.u8 (↑(List.length (digs (8 : Nat) n)) : Int))]] ((0 : Nat) + k)) = true, ((0 : Nat) + List.length l + (1 : Nat)) * (1 : Nat) ≤ (140737488355328 : Nat), q ((0 : Nat) + List.length l + (1 : Nat)), (0 : Nat) + List.length (digs (8 : Nat) n) ≤ List.length (digs (8 : Nat) n), ∀ (k : Nat), k < List.length (digs (8 : Nat) n) → true = true, ((0 : Nat) + List.length l + (1 : Nat) + List.length (digs (8 : Nat) n)) * (1 : Nat) ≤ (140737488355328 : Nat), (0 : Nat) + List.length l + (1 : Nat) + List.length (digs (8 : Nat) n) = List.length (l ++ putN n), ∀ (k : Nat), k < (0 : Nat) + List.length l + (1 : Nat) + List.length (digs (8 : Nat) n) → catF ((0 : Nat) + List.length l + (1 : Nat)) (catF ((0 : Nat) + List.length l) (catF (0 : Nat) (getL []) fun k => bl l ((0 : Nat) + k)) fun k => getL [[V.int IntKind.u8 (IntKind.wrap IntKind.u8 (↑(List.length (digs (8 : Nat) n)) : Int))]] ((0 : Nat) + k)) (fun k => bl (digs (8 : Nat) n) ((0 : Nat) + k)) k = bl (l ++ putN n) k, true = false → true = false, q0, q0, q0, (0 : Nat) + List.length l + (1 : Nat) + List.length (digs (8 : Nat) n) = List.length (l ++ putN n), (none : Option Nat) = none ∨ (none : Option Nat) = none]) : Option (V × Heap × List Prop)) := by kernel_rfl

theorem bdRp0_p0 (n : Nat) :
  along Tryz.prog (bdRp0 n) [false] = (some (.sl (.o 63) 1 0 0 0 (List.length (putN n)) none, [(.o 63, bs (putN n))], [q0, nat_lit 0 ≤ (140737488355328 : Nat), q false, T Tryz.prog 108 [.int .i64 ↑n] [] (sb (.o 513) (digs 8 n)) [(.o 513, bs (digs 8 n))], q (nat_lit 0), nat_lit 1 ≤ (1 : Nat), ∀ (k : Nat), k < (1 : Nat) → solid (getL [[V.int IntKind.u8 (IntKind.wrap IntKind.u8 (↑(List.length (digs (8 : Nat) n)) : Int))]] ((0 : Nat) + k)) = true, nat_lit 1 ≤ (140737488355328 : Nat), q (nat_lit 1), (0 : Nat) + List.length (digs (8 : Nat) n) ≤ List.length (digs (8 : Nat) n), ∀ (k : Nat), k < List.length (digs (8 : Nat) n) → true = true, (nat_lit 1 + List.length (digs (8 : Nat) n)) * (1 : Nat) ≤ (140737488355328 : Nat), nat_lit 1 + List.length (digs (8 : Nat) n) = List.length (putN n), ∀ (k : Nat), k < nat_lit 1 + List.length (digs (8 : Nat) n) → catF (nat_lit 1) (catF (nat_lit 0) (catF (0 : Nat) (getL []) fun x => []) fun k => getL [[V.int IntKind.u8 (IntKind.wrap IntKind.u8 (↑(List.length (digs (8 : Nat) n)) : Int))]] ((0 : Nat) + k)) (fun k => bl (digs (8 : Nat) n) ((0 : Nat) + k)) k = bl (putN n) k, true = false → true = false, q0, q0, q0, nat_lit 1 + List.length (digs (8 : Nat) n) = List.length (putN n), (none : Option Nat) = none ∨ (none : Option Nat) = none]) : Option (V × Heap × List Prop)) := by kernel_rfl

theorem bdRt_p (l : List UInt8) (s : ByteArray) :
  along Tryz.prog (bdRt l s) [] = (some (.sl (.o 63) 1 0 0 0 (List.length (l ++ textB s)) none, [(.o 63, bs (l ++ textB s))], [T Tryz.prog 78 [.sl (.o 0) 1 0 0 0 (List.length l) none, .int .i64 (↑(ByteArray.size s) : Int)] [(.o 0, bs l)] (sb (.o 257) (l ++ putZ (↑(ByteArray.size s) : Int))) [(.o 257, bs (l ++ putZ (↑(ByteArray.size s) : Int)))], q (List.length (l ++ putZ (↑(ByteArray.size s) : Int))), (List.length (l ++ putZ (↑(ByteArray.size s) : Int)) + ByteArray.size s) * (1 : Nat) ≤ (140737488355328 : Nat), List.length (l ++ putZ (↑(ByteArray.size s) : Int)) + ByteArray.size s = List.length (l ++ textB s), ∀ (k : Nat), k < List.length (l ++ putZ (↑(ByteArray.size s) : Int)) + ByteArray.size s → catF (List.length (l ++ putZ (↑(ByteArray.size s) : Int))) (bl (l ++ putZ (↑(ByteArray.size s) : Int))) (fun k => [V.int IntKind.u8 (byteAt s k)]) k = bl (l ++ textB s) k, true = false → true = false, q0, q0, q0, List.length (l ++ putZ (↑(ByteArray.size s) : Int)) + ByteArray.size s = List.length (l ++ textB s), (none : Option Nat) = none ∨ (none : Option Nat) = none]) : Option (V × Heap × List Prop)) := by kernel_rfl

theorem lastD0 (n : Nat) : lastD n 0 = [] := by simp [lastD]
theorem lastDe (n : Nat) : lastD n (digs 8 n).length = digs 8 n := by simp [lastD]
theorem lastD_len {n k : Nat} (h : k ≤ (digs 8 n).length) : (lastD n k).length = k := by simp [lastD]; omega
theorem lastD_s {n k : Nat} (h : n < 9223372036854775808) (hk : k < (digs 8 n).length) : lastD n (k + 1) = UInt8.ofNat (n / 256 ^ k % 256) :: lastD n k := by
 have hg := digs_get 8 n ((digs 8 n).length - (k + 1)) (digs8 h) (by omega)
 rw [show (digs 8 n).length - 1 - ((digs 8 n).length - (k + 1)) = k by omega] at hg
 have hi : (digs 8 n).length - (k + 1) < (digs 8 n).length := by omega
 rw [List.getElem?_eq_getElem hi, Option.some.injEq] at hg
 rw [lastD, List.drop_eq_getElem_cons hi, hg, lastD, show (digs 8 n).length - (k + 1) + 1 = (digs 8 n).length - k by omega]
theorem catF_ext {n : Nat} {f f' g g' : Nat → List V} (h : ∀ k, k < n → f k = f' k) (h' : ∀ k, g k = g' k) (k : Nat) : catF n f g k = catF n f' g' k := by
 unfold catF
 cases hb : Nat.blt k n with
 | true => exact h k (Nat.le_of_ble_eq_true hb)
 | false => exact h' _
theorem catF_cons (l : List UInt8) {v : Int} {x : UInt8} (h : v = (x.toNat : Int)) (k : Nat) : catF 1 (getL [[V.int .u8 v]]) (fun k => bl l (0 + k)) k = bl (x :: l) k := by
 rw [show x :: l = [x] ++ l from rfl, bl_append]
 refine catF_ext (n := 1) (fun j hj => ?_) (fun j => by rw [Nat.zero_add]) k
 rw [show j = 0 by omega, h]; rfl
theorem put_catF (l D : List UInt8) {v : Int} {x : UInt8} (h : v = (x.toNat : Int)) (k : Nat) : catF (0 + l.length + 1) (catF (0 + l.length) (catF 0 (getL []) fun k => bl l (0 + k)) fun k => getL [[V.int .u8 v]] (0 + k)) (fun k => bl D (0 + k)) k = bl (l ++ x :: D) k := by
 rw [show l ++ x :: D = (l ++ [x]) ++ D by simp, bl_append, List.length_append, List.length_singleton]
 simp only [Nat.zero_add]
 refine catF_ext (fun j hj => ?_) (fun _ => rfl) k
 have := catF_bl1 l v x h j hj
 simp only [Nat.zero_add] at this
 exact this
theorem T_dg1 {n : Nat} (h : n < 9223372036854775808) : T Tryz.prog 108 [.int .i64 n] [] (sb (.o 63) (digs 8 n)) [(.o 63, bs (digs 8 n))] := by
 have h1 := digs_len 8 n (digs8 h)
 have hL : RLoop Tryz.prog none 1 (cB (cB (cL (cR (cR (bodyOf Tryz.f108)))))) ((digs 8 n).length + 1) (dgI n 0) (.exit 0) (dgI n (digs 8 n).length) := by
  refine RLoop.inv (dgI n) (digs 8 n).length (fun k hk => ?_) ?_ (by simp)
  ·refine R_alongPc NG MO _ (pcDg_p1 n k) ?_ (show 1 ≤ 2 by decide)
   have hp : 0 < n / 256 ^ k := h1.2.2 k hk
   have hq : n / 256 ^ k ≤ n := Nat.div_le_self _ _
   have e := lastD_s h hk
   have hl := lastD_len (n := n) (k := k) (by omega)
   have hv : IntKind.wrap IntKind.u8 (((n / 256 ^ k : Nat) : Int) % 256) = ((UInt8.ofNat (n / 256 ^ k % 256)).toNat : Int) := by
    rw [show ((n / 256 ^ k : Nat) : Int) % 256 = ((n / 256 ^ k % 256 : Nat) : Int) from rfl, wrap8']; simp
   have hd : ((n / 256 ^ k : Nat) : Int) / 256 = ((n / 256 ^ (k + 1) : Nat) : Int) := by
    rw [Nat.pow_succ, ← Nat.div_div_eq_div_mul]; rfl
   have hI : InR IntKind.i64 (((n / 256 ^ k : Nat) : Int) / 256) := by
    generalize n / 256 ^ k = q at hq
    simp [InR, IntKind.min, IntKind.max, IntKind.signed, IntKind.bits]; omega
   simp only [All]
   and_intros
   all_goals first
    | (rw [decide_eq_true_eq]; omega)
    | exact hd
    | exact hI.1
    | exact hI.2
    | (rw [e, List.length_cons]; omega)
    | (rw [e]; intro j _; exact catF_cons _ hv j)
    | omega
    | trivial
    | rfl
    | (intro _ _; rfl)
    | (simp [IntKind.min, IntKind.max, IntKind.signed, IntKind.bits] <;> omega)
  ·refine R_alongPc NG MO _ (pcDg_p0 n (digs 8 n).length) ?_ (show 1 ≤ 2 by decide)
   have hz := h1.2.1
   simp only [All]
   and_intros
   all_goals first
    | (rw [decide_eq_false_iff_not]; omega)
    | trivial
    | rfl
    | (intro _ _; rfl)
    | (simp; done)
 have ha := R_alongPc NG MO _ (pcDa_p n) (by simp [All]) (Nat.le_refl _)
 have hb := R_alongPc NG MO _ (pcDb_p n) (by simp [All]) (Nat.le_refl _)
 have hc := R_alongPc NG MO _ (pcDc_p n) (by
  simp only [All]
  and_intros
  all_goals first
   | exact hL
   | trivial
   | rfl
   | (simp only [lastD0]; rfl)
   | (simp only [lastDe]; done)
   | (simp only [Nat.div_one]; done)
   | (intro k hk; omega)
   | (rw [lastDe]; intro _ _; rfl)
   | (simp; done)) (Nat.le_refl _)
 exact T_of_end (c0 := []) Tryz.func108 (by kernel_rfl) (R.seq ha (R.seq hb hc)) (names := [.o 63]) (tl := none) rfl trivial (pinH_ok (by kernel_rfl)) (by kernel_rfl)
theorem T_dg {n : Nat} (h : n < 9223372036854775808) {m : Nat} : T Tryz.prog 108 [.int .i64 n] [] (sb (.o m) (digs 8 n)) [(.o m, bs (digs 8 n))] := by
 obtain ⟨σ, hσ, h1⟩ := T.at (T_dg1 h) [.o 63] [.o m] (by simp) (by simp) rfl
 simp only [List.map_cons, List.map_nil, List.cons.injEq, and_true] at hσ
 simpa [V.rens, V.ren, sb, bs, Heap.ren, B.ren, hσ] using h1
theorem T_rp1 {n : Nat} (h : n < 9223372036854775808) {l : List UInt8} (hl : l.length ≤ 70368744177664) : T Tryz.prog 78 [sb (.o 0) l, .int .i64 n] [(.o 0, bs l)] (sb (.o 63) (l ++ putN n)) [(.o 63, bs (l ++ putN n))] := by
 have h1 := digs_len 8 n (digs8 h)
 have hv : IntKind.wrap IntKind.u8 ((digs 8 n).length : Int) = ((UInt8.ofNat (digs 8 n).length).toNat : Int) := wrap8 _
 refine T_al (bdRp_p0 n l) Tryz.func78 ?_
 simp only [All]
 and_intros
 all_goals first
  | exact T_dg h
  | omega
  | (intro k _; exact put_catF l (digs 8 n) hv k)
  | (intro k hk; rw [show k = 0 by omega]; rfl)
  | (simp [putN, IntKind.min, IntKind.max, IntKind.signed, IntKind.bits] <;> omega)
theorem T_rp {z : Int} (h : num63 z) {l : List UInt8} (hl : l.length ≤ 70368744177664) {a m : Nat} (hne : a ≠ m) : T Tryz.prog 78 [sb (.o a) l, .int .i64 z] [(.o a, bs l)] (sb (.o m) (l ++ putZ z)) [(.o m, bs (l ++ putZ z))] := by
 have e : ((z.toNat : Nat) : Int) = z := Int.toNat_of_nonneg h.1
 have h0 := T_rp1 (n := z.toNat) (by have := h.2; omega) hl
 rw [e] at h0
 obtain ⟨σ, hσ, h1⟩ := T.at h0 [.o 0, .o 63] [.o a, .o m] (by simp) (by simp [hne]) rfl
 simp only [List.map_cons, List.map_nil, List.cons.injEq, and_true] at hσ
 simpa [V.rens, V.ren, sb, bs, Heap.ren, B.ren, hσ.1, hσ.2, putZ] using h1
theorem T_rp0 {n : Nat} (h : n < 9223372036854775808) : T Tryz.prog 78 [.snil, .int .i64 n] [] (sb (.o 63) (putN n)) [(.o 63, bs (putN n))] := by
 have h1 := digs_len 8 n (digs8 h)
 have hv : IntKind.wrap IntKind.u8 ((digs 8 n).length : Int) = ((UInt8.ofNat (digs 8 n).length).toNat : Int) := wrap8 _
 refine T_al (bdRp0_p0 n) Tryz.func78 ?_
 simp only [All]
 and_intros
 all_goals first
  | exact T_dg h
  | omega
  | (intro k _; exact put_catF [] (digs 8 n) hv k)
  | (intro k hk; rw [show k = 0 by omega]; rfl)
  | (simp [putN, IntKind.min, IntKind.max, IntKind.signed, IntKind.bits] <;> omega)
theorem T_rpNil {z : Int} (h : num63 z) {m : Nat} : T Tryz.prog 78 [.snil, .int .i64 z] [] (sb (.o m) (putZ z)) [(.o m, bs (putZ z))] := by
 have e : ((z.toNat : Nat) : Int) = z := Int.toNat_of_nonneg h.1
 have h0 := T_rp0 (n := z.toNat) (by have := h.2; omega)
 rw [e] at h0
 obtain ⟨σ, hσ, h1⟩ := T.at h0 [.o 63] [.o m] (by simp) (by simp) rfl
 simp only [List.map_cons, List.map_nil, List.cons.injEq, and_true] at hσ
 simpa [V.rens, V.ren, sb, bs, Heap.ren, B.ren, hσ, putZ] using h1
theorem T_rt1 {l : List UInt8} {s : ByteArray} (hl : l.length ≤ 17592186044416) (hs : s.size ≤ 1099511627776) : T Tryz.prog 81 [sb (.o 0) l, .str s] [(.o 0, bs l)] (sb (.o 63) (l ++ textB s)) [(.o 63, bs (l ++ textB s))] := by
 have hz := num63_nat (n := s.size) (by omega)
 have e : l ++ textB s = (l ++ putZ s.size) ++ strB s := by rw [textB_eq, List.append_assoc]
 have h9 := putZ_len hz
 have hlen : (l ++ putZ (s.size : Int)).length ≤ l.length + 9 := by rw [List.length_append]; omega
 have hle : (l ++ putZ (s.size : Int)).length + s.size = (l ++ textB s).length := by rw [e, List.length_append (bs := strB s), strB_len]
 refine T_al (bdRt_p l s) Tryz.func81 ?_
 simp only [All]
 and_intros
 all_goals first
  | exact T_rp hz (by omega) (by decide)
  | exact hle
  | omega
  | (rw [e, bl_append (l ++ putZ (s.size : Int)) (strB s)]; intro k _; rfl)
  | simp
theorem T_rt {l : List UInt8} {s : ByteArray} (hl : l.length ≤ 17592186044416) (hs : s.size ≤ 1099511627776) {a m : Nat} (hne : a ≠ m) : T Tryz.prog 81 [sb (.o a) l, .str s] [(.o a, bs l)] (sb (.o m) (l ++ textB s)) [(.o m, bs (l ++ textB s))] := by
 obtain ⟨σ, hσ, h1⟩ := T.at (T_rt1 hl hs) [.o 0, .o 63] [.o a, .o m] (by simp) (by simp [hne]) rfl
 simp only [List.map_cons, List.map_nil, List.cons.injEq, and_true] at hσ
 simpa [V.rens, V.ren, sb, bs, Heap.ren, B.ren, hσ.1, hσ.2] using h1
end Go.Proofs.YthifjamdfpjilaaGreat
namespace Go.Proofs.YthifjamdfpjilaaGreat
open Go Sy Go.Proofs
def Tg0 (l : List UInt8) (xs : List Int) : St := ⟨mkT 17 [(0, sb (.o 0) l), (3, .ptr (.o 2) 0 0 0 0), (5, .int .i64 0)], [(.o 0, bs l), (.o 2, .flat [.seg .u8 16 xs])], 3, []⟩
def TgS (l : List UInt8) (xs : List Int) (k : Nat) : St := ⟨mkT 17 [(0, sb (.o 1) (l ++ segB (xs.take (k + 1)))), (3, .ptr (.o 2) 0 0 0 0), (5, .int .i64 ((k + 1 : Nat) : Int))], [(.o 1, bs (l ++ segB (xs.take (k + 1)))), (.o 2, .flat [.seg .u8 16 xs])], 3, []⟩
def TgI (l : List UInt8) (xs : List Int) : Nat → St
 | 0 => Tg0 l xs
 | k + 1 => TgS l xs k
noncomputable def bdTg (l : List UInt8) (xs : List Int) : Bd := { f := Tryz.f94, args := [sb (.o 0) l, .agg [.seg .u8 16 xs]], pre := [(.o 0, bs l)], base := 1, kb := { db := fun _ _ _ _ => [], lp := fun _ t => match getV t.tmps 3 with | .ptr b _ _ _ _ => [(True, .loop 17 (wToS [(.o 2, b)] (Tg0 l xs)) (.exit 0) (TgS l xs 15))] | _ => [] }, names := fun _ => [.o 63], k := kSb 4 63 (l ++ segB xs) }
noncomputable def pcTgA (l : List UInt8) (xs : List Int) : Pc := { c := cB (cB (cR (cL (cR (bodyOf Tryz.f94))))), st := Tg0 l xs, p := 1, kb := kb0, k := fun e t => match e with
 | .normal => match getV t.tmps 0 with
  | .sl a _ _ _ _ _ _ => some (wToS [(.o 1, a)] (TgS l xs 0))
  | _ => none
 | _ => none }
noncomputable def pcTg (l : List UInt8) (xs : List Int) (k : Nat) : Pc := { c := cB (cB (cR (cL (cR (bodyOf Tryz.f94))))), st := TgS l xs k, p := 1, kb := kb0, k := fun e t => match e with
 | .normal => match getV t.tmps 0 with
  | .sl a _ _ _ _ _ _ => some (wToS [(.o 1, a)] (TgS l xs (k + 1)))
  | _ => none
 | _ => some (wTo (TgS l xs k)) }
def Dd0 (l : List UInt8) (xs : List Int) : St := ⟨mkT 17 [(0, sb (.o 0) l), (3, .ptr (.o 2) 0 0 0 0), (5, .int .i64 0)], [(.o 0, bs l), (.o 2, .flat [.seg .u8 32 xs])], 3, []⟩
def DdS (l : List UInt8) (xs : List Int) (k : Nat) : St := ⟨mkT 17 [(0, sb (.o 1) (l ++ segB (xs.take (k + 1)))), (3, .ptr (.o 2) 0 0 0 0), (5, .int .i64 ((k + 1 : Nat) : Int))], [(.o 1, bs (l ++ segB (xs.take (k + 1)))), (.o 2, .flat [.seg .u8 32 xs])], 3, []⟩
def DdI (l : List UInt8) (xs : List Int) : Nat → St
 | 0 => Dd0 l xs
 | k + 1 => DdS l xs k
noncomputable def bdDd (l : List UInt8) (xs : List Int) : Bd := { f := Tryz.f95, args := [sb (.o 0) l, .agg [.seg .u8 32 xs]], pre := [(.o 0, bs l)], base := 1, kb := { db := fun _ _ _ _ => [], lp := fun _ t => match getV t.tmps 3 with | .ptr b _ _ _ _ => [(True, .loop 33 (wToS [(.o 2, b)] (Dd0 l xs)) (.exit 0) (DdS l xs 31))] | _ => [] }, names := fun _ => [.o 63], k := kSb 4 63 (l ++ segB xs) }
noncomputable def pcDdA (l : List UInt8) (xs : List Int) : Pc := { c := cB (cB (cR (cL (cR (bodyOf Tryz.f95))))), st := Dd0 l xs, p := 1, kb := kb0, k := fun e t => match e with
 | .normal => match getV t.tmps 0 with
  | .sl a _ _ _ _ _ _ => some (wToS [(.o 1, a)] (DdS l xs 0))
  | _ => none
 | _ => none }
noncomputable def pcDd (l : List UInt8) (xs : List Int) (k : Nat) : Pc := { c := cB (cB (cR (cL (cR (bodyOf Tryz.f95))))), st := DdS l xs k, p := 1, kb := kb0, k := fun e t => match e with
 | .normal => match getV t.tmps 0 with
  | .sl a _ _ _ _ _ _ => some (wToS [(.o 1, a)] (DdS l xs (k + 1)))
  | _ => none
 | _ => some (wTo (DdS l xs k)) }
end Go.Proofs.YthifjamdfpjilaaGreat
namespace Go.Proofs.YthifjamdfpjilaaGreat
open Go Sy Go.Proofs
theorem bdTg_p (l : List UInt8) (xs : List Int) :
  along Tryz.prog (bdTg l xs) [] = (some (.sl (.o 63) 1 0 0 0 (List.length (l ++ segB xs)) none, [(.o 63, bs (l ++ segB xs))], [RLoop Tryz.prog none 1 (cB (cB (cR (cL (cR (bodyOf (Bd.f (bdTg l xs)))))))) 17 (St.mk [.sl (.o 0) 1 0 0 0 (List.length l) none, .any, .any, .ptr (.o 2) 0 0 0 0, .any, .int .i64 0, .any, .any, .any, .any, .any, .any, .any, .any, .any, .any, .any] [(.o 0, bs l), (.o 2, .flat [.seg .u8 16 xs])] 3 []) (.exit 0) (St.mk [.sl (.o 1) 1 0 0 0 (List.length (l ++ segB (List.take 16 xs))) none, .any, .any, .ptr (.o 2) 0 0 0 0, .any, .int .i64 16, .any, .any, .any, .any, .any, .any, .any, .any, .any, .any, .any] [(.o 1, bs (l ++ segB (List.take 16 xs))), (.o 2, .flat [.seg .u8 16 xs])] 3 []), q (List.length l), ∀ (k : Nat), k < List.length l → bl l k = bl l k, true = false → true = false, q (16 : Nat), q xs, q0, q0, q0, q (List.length l), (none : Option Nat) = none ∨ (none : Option Nat) = none, q0, q0, q0, q1, List.length (l ++ segB (List.take (nat_lit 16) xs)) = List.length (l ++ segB xs), ∀ (k : Nat), k < List.length (l ++ segB (List.take (nat_lit 16) xs)) → bl (l ++ segB (List.take (nat_lit 16) xs)) k = bl (l ++ segB xs) k, true = false → true = false, q0, q0, q0, List.length (l ++ segB (List.take (nat_lit 16) xs)) = List.length (l ++ segB xs), (none : Option Nat) = none ∨ (none : Option Nat) = none]) : Option (V × Heap × List Prop)) := by kernel_rfl

theorem pcTgA_p1 (l : List UInt8) (xs : List Int) :
  alongPc Tryz.prog (pcTgA l xs) [true] = (some (.normal, St.mk [.sl (.o 1) 1 0 0 0 (List.length (l ++ segB (List.take 1 xs))) none, .any, .any, .ptr (.o 2) 0 0 0 0, .any, .int .i64 1, .any, .any, .any, .any, .any, .any, .any, .any, .any, .any, .any] [(.o 1, bs (l ++ segB (List.take 1 xs))), (.o 2, .flat [.seg .u8 16 xs])] 3 [], [q2, (0 : Int) ≤ (0 : Int) ∧ (0 : Int) < (16 : Int), nat_lit 0 < (16 : Nat), q (List.length l), nat_lit 1 ≤ (1 : Nat), ∀ (k : Nat), k < (1 : Nat) → solid (getL [[V.int IntKind.u8 (List.getD xs (nat_lit 0) (0 : Int))]] ((0 : Nat) + k)) = true, (List.length l + (1 : Nat)) * (1 : Nat) ≤ (140737488355328 : Nat), InR IntKind.i64 (1 : Int), List.length l + (1 : Nat) = List.length (l ++ segB (List.take (nat_lit 1) xs)), ∀ (k : Nat), k < List.length l + (1 : Nat) → catF (List.length l) (bl l) (fun k => getL [[V.int IntKind.u8 (List.getD xs (nat_lit 0) (0 : Int))]] ((0 : Nat) + k)) k = bl (l ++ segB (List.take (nat_lit 1) xs)) k, true = false → true = false, q (16 : Nat), q xs, q0, q0, q0, List.length l + (1 : Nat) = List.length (l ++ segB (List.take (nat_lit 1) xs)), (none : Option Nat) = none ∨ (none : Option Nat) = none, q0, q0, q0, q (1 : Int)]) : Option (Exit × St × List Prop)) := by kernel_rfl

theorem pcTg_p1 (l : List UInt8) (xs : List Int) (k : Nat) :
  alongPc Tryz.prog (pcTg l xs k) [true] = (some (.normal, St.mk [.sl (.o 1) 1 0 0 0 (List.length (l ++ segB (List.take (k + 1 + 1) xs))) none, .any, .any, .ptr (.o 2) 0 0 0 0, .any, .int .i64 (↑(k + 1 + 1) : Int), .any, .any, .any, .any, .any, .any, .any, .any, .any, .any, .any] [(.o 1, bs (l ++ segB (List.take (k + 1 + 1) xs))), (.o 2, .flat [.seg .u8 16 xs])] 3 [], [decide ((↑(k + (1 : Nat)) : Int) < (16 : Int)) = true, (0 : Int) ≤ (↑(k + (1 : Nat)) : Int) ∧ (↑(k + (1 : Nat)) : Int) < (16 : Int), (0 : Nat) + Int.toNat (↑(k + (1 : Nat)) : Int) < (16 : Nat), q (List.length (l ++ segB (List.take (k + (1 : Nat)) xs))), nat_lit 1 ≤ (1 : Nat), ∀ (k_1 : Nat), k_1 < (1 : Nat) → solid (getL [[V.int IntKind.u8 (List.getD xs ((0 : Nat) + Int.toNat (↑(k + (1 : Nat)) : Int)) (0 : Int))]] ((0 : Nat) + k_1)) = true, (List.length (l ++ segB (List.take (k + (1 : Nat)) xs)) + (1 : Nat)) * (1 : Nat) ≤ (140737488355328 : Nat), InR IntKind.i64 ((↑(k + (1 : Nat)) : Int) + (1 : Int)), List.length (l ++ segB (List.take (k + (1 : Nat)) xs)) + (1 : Nat) = List.length (l ++ segB (List.take (k + (1 : Nat) + (1 : Nat)) xs)), ∀ (k_1 : Nat), k_1 < List.length (l ++ segB (List.take (k + (1 : Nat)) xs)) + (1 : Nat) → catF (List.length (l ++ segB (List.take (k + (1 : Nat)) xs))) (bl (l ++ segB (List.take (k + (1 : Nat)) xs))) (fun k_2 => getL [[V.int IntKind.u8 (List.getD xs ((0 : Nat) + Int.toNat (↑(k + (1 : Nat)) : Int)) (0 : Int))]] ((0 : Nat) + k_2)) k_1 = bl (l ++ segB (List.take (k + (1 : Nat) + (1 : Nat)) xs)) k_1, true = false → true = false, q (16 : Nat), q xs, q0, q0, q0, List.length (l ++ segB (List.take (k + (1 : Nat)) xs)) + (1 : Nat) = List.length (l ++ segB (List.take (k + (1 : Nat) + (1 : Nat)) xs)), (none : Option Nat) = none ∨ (none : Option Nat) = none, q0, q0, q0, (↑(k + (1 : Nat)) : Int) + (1 : Int) = (↑(k + (1 : Nat) + (1 : Nat)) : Int)]) : Option (Exit × St × List Prop)) := by kernel_rfl
theorem pcTg_p0 (l : List UInt8) (xs : List Int) (k : Nat) :
  alongPc Tryz.prog (pcTg l xs k) [false] = (some (.exit 0, St.mk [.sl (.o 1) 1 0 0 0 (List.length (l ++ segB (List.take (k + 1) xs))) none, .any, .any, .ptr (.o 2) 0 0 0 0, .any, .int .i64 (↑(k + 1) : Int), .any, .any, .any, .any, .any, .any, .any, .any, .any, .any, .any] [(.o 1, bs (l ++ segB (List.take (k + 1) xs))), (.o 2, .flat [.seg .u8 16 xs])] 3 [], [decide ((↑(k + (1 : Nat)) : Int) < (16 : Int)) = false, q (List.length (l ++ segB (List.take (k + (1 : Nat)) xs))), ∀ (k_1 : Nat), k_1 < List.length (l ++ segB (List.take (k + (1 : Nat)) xs)) → bl (l ++ segB (List.take (k + (1 : Nat)) xs)) k_1 = bl (l ++ segB (List.take (k + (1 : Nat)) xs)) k_1, true = false → true = false, q (16 : Nat), q xs, q0, q0, q0, q (List.length (l ++ segB (List.take (k + (1 : Nat)) xs))), (none : Option Nat) = none ∨ (none : Option Nat) = none, q0, q0, q0, q (↑(k + (1 : Nat)) : Int)]) : Option (Exit × St × List Prop)) := by kernel_rfl

theorem bdDd_p (l : List UInt8) (xs : List Int) :
  along Tryz.prog (bdDd l xs) [] = (some (.sl (.o 63) 1 0 0 0 (List.length (l ++ segB xs)) none, [(.o 63, bs (l ++ segB xs))], [RLoop Tryz.prog none 1 (cB (cB (cR (cL (cR (bodyOf (Bd.f (bdDd l xs)))))))) 33 (St.mk [.sl (.o 0) 1 0 0 0 (List.length l) none, .any, .any, .ptr (.o 2) 0 0 0 0, .any, .int .i64 0, .any, .any, .any, .any, .any, .any, .any, .any, .any, .any, .any] [(.o 0, bs l), (.o 2, .flat [.seg .u8 32 xs])] 3 []) (.exit 0) (St.mk [.sl (.o 1) 1 0 0 0 (List.length (l ++ segB (List.take 32 xs))) none, .any, .any, .ptr (.o 2) 0 0 0 0, .any, .int .i64 32, .any, .any, .any, .any, .any, .any, .any, .any, .any, .any, .any] [(.o 1, bs (l ++ segB (List.take 32 xs))), (.o 2, .flat [.seg .u8 32 xs])] 3 []), q (List.length l), ∀ (k : Nat), k < List.length l → bl l k = bl l k, true = false → true = false, q (32 : Nat), q xs, q0, q0, q0, q (List.length l), (none : Option Nat) = none ∨ (none : Option Nat) = none, q0, q0, q0, q1, List.length (l ++ segB (List.take (nat_lit 32) xs)) = List.length (l ++ segB xs), ∀ (k : Nat), k < List.length (l ++ segB (List.take (nat_lit 32) xs)) → bl (l ++ segB (List.take (nat_lit 32) xs)) k = bl (l ++ segB xs) k, true = false → true = false, q0, q0, q0, List.length (l ++ segB (List.take (nat_lit 32) xs)) = List.length (l ++ segB xs), (none : Option Nat) = none ∨ (none : Option Nat) = none]) : Option (V × Heap × List Prop)) := by kernel_rfl

theorem pcDdA_p1 (l : List UInt8) (xs : List Int) :
  alongPc Tryz.prog (pcDdA l xs) [true] = (some (.normal, St.mk [.sl (.o 1) 1 0 0 0 (List.length (l ++ segB (List.take 1 xs))) none, .any, .any, .ptr (.o 2) 0 0 0 0, .any, .int .i64 1, .any, .any, .any, .any, .any, .any, .any, .any, .any, .any, .any] [(.o 1, bs (l ++ segB (List.take 1 xs))), (.o 2, .flat [.seg .u8 32 xs])] 3 [], [q2, (0 : Int) ≤ (0 : Int) ∧ (0 : Int) < (32 : Int), nat_lit 0 < (32 : Nat), q (List.length l), nat_lit 1 ≤ (1 : Nat), ∀ (k : Nat), k < (1 : Nat) → solid (getL [[V.int IntKind.u8 (List.getD xs (nat_lit 0) (0 : Int))]] ((0 : Nat) + k)) = true, (List.length l + (1 : Nat)) * (1 : Nat) ≤ (140737488355328 : Nat), InR IntKind.i64 (1 : Int), List.length l + (1 : Nat) = List.length (l ++ segB (List.take (nat_lit 1) xs)), ∀ (k : Nat), k < List.length l + (1 : Nat) → catF (List.length l) (bl l) (fun k => getL [[V.int IntKind.u8 (List.getD xs (nat_lit 0) (0 : Int))]] ((0 : Nat) + k)) k = bl (l ++ segB (List.take (nat_lit 1) xs)) k, true = false → true = false, q (32 : Nat), q xs, q0, q0, q0, List.length l + (1 : Nat) = List.length (l ++ segB (List.take (nat_lit 1) xs)), (none : Option Nat) = none ∨ (none : Option Nat) = none, q0, q0, q0, q (1 : Int)]) : Option (Exit × St × List Prop)) := by kernel_rfl

theorem pcDd_p1 (l : List UInt8) (xs : List Int) (k : Nat) :
  alongPc Tryz.prog (pcDd l xs k) [true] = (some (.normal, St.mk [.sl (.o 1) 1 0 0 0 (List.length (l ++ segB (List.take (k + 1 + 1) xs))) none, .any, .any, .ptr (.o 2) 0 0 0 0, .any, .int .i64 (↑(k + 1 + 1) : Int), .any, .any, .any, .any, .any, .any, .any, .any, .any, .any, .any] [(.o 1, bs (l ++ segB (List.take (k + 1 + 1) xs))), (.o 2, .flat [.seg .u8 32 xs])] 3 [], [decide ((↑(k + (1 : Nat)) : Int) < (32 : Int)) = true, (0 : Int) ≤ (↑(k + (1 : Nat)) : Int) ∧ (↑(k + (1 : Nat)) : Int) < (32 : Int), (0 : Nat) + Int.toNat (↑(k + (1 : Nat)) : Int) < (32 : Nat), q (List.length (l ++ segB (List.take (k + (1 : Nat)) xs))), nat_lit 1 ≤ (1 : Nat), ∀ (k_1 : Nat), k_1 < (1 : Nat) → solid (getL [[V.int IntKind.u8 (List.getD xs ((0 : Nat) + Int.toNat (↑(k + (1 : Nat)) : Int)) (0 : Int))]] ((0 : Nat) + k_1)) = true, (List.length (l ++ segB (List.take (k + (1 : Nat)) xs)) + (1 : Nat)) * (1 : Nat) ≤ (140737488355328 : Nat), InR IntKind.i64 ((↑(k + (1 : Nat)) : Int) + (1 : Int)), List.length (l ++ segB (List.take (k + (1 : Nat)) xs)) + (1 : Nat) = List.length (l ++ segB (List.take (k + (1 : Nat) + (1 : Nat)) xs)), ∀ (k_1 : Nat), k_1 < List.length (l ++ segB (List.take (k + (1 : Nat)) xs)) + (1 : Nat) → catF (List.length (l ++ segB (List.take (k + (1 : Nat)) xs))) (bl (l ++ segB (List.take (k + (1 : Nat)) xs))) (fun k_2 => getL [[V.int IntKind.u8 (List.getD xs ((0 : Nat) + Int.toNat (↑(k + (1 : Nat)) : Int)) (0 : Int))]] ((0 : Nat) + k_2)) k_1 = bl (l ++ segB (List.take (k + (1 : Nat) + (1 : Nat)) xs)) k_1, true = false → true = false, q (32 : Nat), q xs, q0, q0, q0, List.length (l ++ segB (List.take (k + (1 : Nat)) xs)) + (1 : Nat) = List.length (l ++ segB (List.take (k + (1 : Nat) + (1 : Nat)) xs)), (none : Option Nat) = none ∨ (none : Option Nat) = none, q0, q0, q0, (↑(k + (1 : Nat)) : Int) + (1 : Int) = (↑(k + (1 : Nat) + (1 : Nat)) : Int)]) : Option (Exit × St × List Prop)) := by kernel_rfl
theorem pcDd_p0 (l : List UInt8) (xs : List Int) (k : Nat) :
  alongPc Tryz.prog (pcDd l xs k) [false] = (some (.exit 0, St.mk [.sl (.o 1) 1 0 0 0 (List.length (l ++ segB (List.take (k + 1) xs))) none, .any, .any, .ptr (.o 2) 0 0 0 0, .any, .int .i64 (↑(k + 1) : Int), .any, .any, .any, .any, .any, .any, .any, .any, .any, .any, .any] [(.o 1, bs (l ++ segB (List.take (k + 1) xs))), (.o 2, .flat [.seg .u8 32 xs])] 3 [], [decide ((↑(k + (1 : Nat)) : Int) < (32 : Int)) = false, q (List.length (l ++ segB (List.take (k + (1 : Nat)) xs))), ∀ (k_1 : Nat), k_1 < List.length (l ++ segB (List.take (k + (1 : Nat)) xs)) → bl (l ++ segB (List.take (k + (1 : Nat)) xs)) k_1 = bl (l ++ segB (List.take (k + (1 : Nat)) xs)) k_1, true = false → true = false, q (32 : Nat), q xs, q0, q0, q0, q (List.length (l ++ segB (List.take (k + (1 : Nat)) xs))), (none : Option Nat) = none ∨ (none : Option Nat) = none, q0, q0, q0, q (↑(k + (1 : Nat)) : Int)]) : Option (Exit × St × List Prop)) := by kernel_rfl

theorem segB_takeS {xs : List Int} {k : Nat} (h : k < xs.length) : segB (xs.take (k + 1)) = segB (xs.take k) ++ [UInt8.ofNat (xs.getD k 0).toNat] := by
 rw [List.take_add_one, List.getElem?_eq_getElem h, segB, segB, List.map_append, List.getD_eq_getElem?_getD, List.getElem?_eq_getElem h]; rfl
theorem seg_byte {n : Nat} {xs : List Int} (h : SegOk n xs) {k : Nat} (hk : k < xs.length) : xs.getD k 0 = ((UInt8.ofNat (xs.getD k 0).toNat).toNat : Int) := by
 have hx : xs.getD k 0 ∈ xs := by rw [List.getD_eq_getElem?_getD, List.getElem?_eq_getElem hk]; exact List.getElem_mem hk
 have := h.rng _ hx
 rw [UInt8.toNat_ofNat']
 omega
theorem T_Tg1 {l : List UInt8} {xs : List Int} (hl : l.length ≤ 70368744177664) (hx : SegOk 16 xs) : T Tryz.prog 94 [sb (.o 0) l, .agg [.seg .u8 16 xs]] [(.o 0, bs l)] (sb (.o 63) (l ++ segB xs)) [(.o 63, bs (l ++ segB xs))] := by
 have h16 := hx.len
 have ht : xs.take 16 = xs := List.take_of_length_le (by omega)
 have hL : RLoop Tryz.prog none 1 (cB (cB (cR (cL (cR (bodyOf Tryz.f94)))))) 17 (TgI l xs 0) (.exit 0) (TgS l xs 15) := by
  refine RLoop.inv (TgI l xs) 16 (fun k hk => ?_) ?_ (by simp)
  ·cases k with
   | zero =>
    have e := segB_takeS (xs := xs) (k := 0) (by omega)
    have hv := seg_byte hx (k := 0) (by omega)
    have hc := catF_bl1 l _ _ hv
    rw [List.take_zero, show segB [] = [] from rfl, List.nil_append] at e
    refine R_alongPc NG MO _ (pcTgA_p1 l xs) ?_ (show 1 ≤ 3 by decide)
    simp only [All, e]
    and_intros
    all_goals first
     | exact hc
     | omega
     | (intro k hk; rw [show k = 0 by omega]; rfl)
     | (simp [IntKind.min, IntKind.max, IntKind.signed, IntKind.bits]; done)
   | succ k =>
    have e := segB_takeS (xs := xs) (k := k + 1) (by omega)
    have hv := seg_byte hx (k := k + 1) (by omega)
    have hc := catF_bl1 (l ++ segB (xs.take (k + 1))) _ _ hv
    have hn : (l ++ segB (xs.take (k + 1))).length ≤ l.length + 16 := by
     rw [List.length_append, segB_len, List.length_take]; omega
    refine R_alongPc NG MO _ (pcTg_p1 l xs k) ?_ (show 1 ≤ 3 by decide)
    simp only [All, e, Int.toNat_natCast, Nat.zero_add, ← List.append_assoc]
    and_intros
    all_goals first
     | (rw [decide_eq_true_eq]; omega)
     | (simp only [Nat.zero_add] at hc; exact hc)
     | omega
     | (intro j hj; rw [show j = 0 by omega]; rfl)
     | (simp [IntKind.min, IntKind.max, IntKind.signed, IntKind.bits] <;> omega)
  ·refine R_alongPc NG MO _ (pcTg_p0 l xs 15) ?_ (show 1 ≤ 3 by decide)
   simp [All]
 refine T_al (bdTg_p l xs) Tryz.func94 ?_
 simp only [All]
 and_intros
 all_goals first
  | exact hL
  | trivial
  | rfl
  | (intro _ _; rfl)
  | (rw [ht]; done)
  | (rw [ht]; intro _ _; rfl)
  | (simp; done)
theorem T_Tg {l : List UInt8} {xs : List Int} (hl : l.length ≤ 70368744177664) (hx : SegOk 16 xs) {a m : Nat} (hne : a ≠ m) : T Tryz.prog 94 [sb (.o a) l, .agg [.seg .u8 16 xs]] [(.o a, bs l)] (sb (.o m) (l ++ segB xs)) [(.o m, bs (l ++ segB xs))] := by
 obtain ⟨σ, hσ, h1⟩ := T.at (T_Tg1 hl hx) [.o 0, .o 63] [.o a, .o m] (by simp) (by simp [hne]) rfl
 simp only [List.map_cons, List.map_nil, List.cons.injEq, and_true] at hσ
 simpa [V.rens, V.ren, sb, bs, Heap.ren, B.ren, hσ.1, hσ.2] using h1
theorem T_Dd1 {l : List UInt8} {xs : List Int} (hl : l.length ≤ 70368744177664) (hx : SegOk 32 xs) : T Tryz.prog 95 [sb (.o 0) l, .agg [.seg .u8 32 xs]] [(.o 0, bs l)] (sb (.o 63) (l ++ segB xs)) [(.o 63, bs (l ++ segB xs))] := by
 have h16 := hx.len
 have ht : xs.take 32 = xs := List.take_of_length_le (by omega)
 have hL : RLoop Tryz.prog none 1 (cB (cB (cR (cL (cR (bodyOf Tryz.f95)))))) 33 (DdI l xs 0) (.exit 0) (DdS l xs 31) := by
  refine RLoop.inv (DdI l xs) 32 (fun k hk => ?_) ?_ (by simp)
  ·cases k with
   | zero =>
    have e := segB_takeS (xs := xs) (k := 0) (by omega)
    have hv := seg_byte hx (k := 0) (by omega)
    have hc := catF_bl1 l _ _ hv
    rw [List.take_zero, show segB [] = [] from rfl, List.nil_append] at e
    refine R_alongPc NG MO _ (pcDdA_p1 l xs) ?_ (show 1 ≤ 3 by decide)
    simp only [All, e]
    and_intros
    all_goals first
     | exact hc
     | omega
     | (intro k hk; rw [show k = 0 by omega]; rfl)
     | (simp [IntKind.min, IntKind.max, IntKind.signed, IntKind.bits]; done)
   | succ k =>
    have e := segB_takeS (xs := xs) (k := k + 1) (by omega)
    have hv := seg_byte hx (k := k + 1) (by omega)
    have hc := catF_bl1 (l ++ segB (xs.take (k + 1))) _ _ hv
    have hn : (l ++ segB (xs.take (k + 1))).length ≤ l.length + 32 := by
     rw [List.length_append, segB_len, List.length_take]; omega
    refine R_alongPc NG MO _ (pcDd_p1 l xs k) ?_ (show 1 ≤ 3 by decide)
    simp only [All, e, Int.toNat_natCast, Nat.zero_add, ← List.append_assoc]
    and_intros
    all_goals first
     | (rw [decide_eq_true_eq]; omega)
     | (simp only [Nat.zero_add] at hc; exact hc)
     | omega
     | (intro j hj; rw [show j = 0 by omega]; rfl)
     | (simp [IntKind.min, IntKind.max, IntKind.signed, IntKind.bits] <;> omega)
  ·refine R_alongPc NG MO _ (pcDd_p0 l xs 31) ?_ (show 1 ≤ 3 by decide)
   simp [All]
 refine T_al (bdDd_p l xs) Tryz.func95 ?_
 simp only [All]
 and_intros
 all_goals first
  | exact hL
  | trivial
  | rfl
  | (intro _ _; rfl)
  | (rw [ht]; done)
  | (rw [ht]; intro _ _; rfl)
  | (simp; done)
theorem T_Dd {l : List UInt8} {xs : List Int} (hl : l.length ≤ 70368744177664) (hx : SegOk 32 xs) {a m : Nat} (hne : a ≠ m) : T Tryz.prog 95 [sb (.o a) l, .agg [.seg .u8 32 xs]] [(.o a, bs l)] (sb (.o m) (l ++ segB xs)) [(.o m, bs (l ++ segB xs))] := by
 obtain ⟨σ, hσ, h1⟩ := T.at (T_Dd1 hl hx) [.o 0, .o 63] [.o a, .o m] (by simp) (by simp [hne]) rfl
 simp only [List.map_cons, List.map_nil, List.cons.injEq, and_true] at hσ
 simpa [V.rens, V.ren, sb, bs, Heap.ren, B.ren, hσ.1, hσ.2] using h1
end Go.Proofs.YthifjamdfpjilaaGreat
namespace Go.Proofs.YthifjamdfpjilaaGreat
open Go Sy Go.Proofs
/-- A request's bytes ahead of its tag. -/
def reqH (l : List UInt8) (r : SReq) : List UInt8 := l ++ putZ r.client ++ putZ r.num ++ textB r.data
def rrI (l : List UInt8) (r : SReq) (k : Nat) : St := ⟨mkT 28 [(0, sb (.o 1) (reqH l r ++ segB (r.tag.take k))), (3, .ptr (.o 2) 0 0 0 0), (5, .int .i64 (k : Nat))], [(.o 1, bs (reqH l r ++ segB (r.tag.take k))), (.o 2, .flat r.c)], 3, []⟩
noncomputable def bdRr (l : List UInt8) (r : SReq) : Bd := { f := Tryz.f109, args := [sb (.o 0) l, .agg r.c], pre := [(.o 0, bs l)], base := 1, kb := { db := dbSeq 1 [(5, cNew (l ++ putZ r.client)), (8, cNew (l ++ putZ r.client ++ putZ r.num)), (11, cNew (l ++ putZ r.client ++ putZ r.num ++ textB r.data))], lp := fun _ t => match getV t.tmps 0, getV t.tmps 3 with | .sl a _ _ _ _ _ _, .ptr b _ _ _ _ => [(True, .loop 17 (wToS [(.o 1, a), (.o 2, b)] (rrI l r 0)) (.exit 0) (rrI l r 16))] | _, _ => [] }, names := fun _ => [.o 63], k := kSb 4 63 (l ++ reqB r) }
noncomputable def pcRr (l : List UInt8) (r : SReq) (k : Nat) : Pc := { c := cB (cB (cR (cL (cR (cR (bodyOf Tryz.f109)))))), st := rrI l r k, p := 1, kb := kb0, k := fun e t => match e with
 | .normal => match getV t.tmps 0 with
  | .sl a _ _ _ _ _ _ => some (wToS [(.o 1, a)] (rrI l r (k + 1)))
  | _ => none
 | _ => some (wTo (rrI l r k)) }
/-- The result is a slice with these bytes; other blocks stay. -/
def kSbO (t nm : Nat) (l : List UInt8) (others : Heap) : Exit → St → Option W := fun _ st => match getV st.tmps t with
 | .sl a _ _ _ _ _ _ => some ⟨[(.o nm, a)], [(t, .set (sb (.o nm) l))], [(.o nm, .set (bs l))] ++ hsetsOf others, none, st.next⟩
 | _ => none
noncomputable def bdPn (l : List UInt8) (ns : List Int) (steps : List (Nat × (List V → Nat → List Cl))) : Bd := { f := Tryz.f91, args := [sb (.o 0) l, nsA 2 ns], pre := [(.o 0, bs l)] ++ nsH ns, base := 3, kb := { db := dbSeq 3 steps, lp := fun _ _ => [(True, .rounds (ns.length + 1))] }, names := fun _ => [.o 63, .o 2], k := kSbO 4 63 (l ++ numsB ns) (nsH ns) }
noncomputable def bdPn2 (l : List UInt8) (a b : Int) : Bd := bdPn l [a, b] [(11, cNew (l ++ putZ a)), (25, cNew (l ++ putZ a ++ putZ b))]
noncomputable def bdPn4 (l : List UInt8) (a b c d : Int) : Bd := bdPn l [a, b, c, d] [(11, cNew (l ++ putZ a)), (25, cNew (l ++ putZ a ++ putZ b)), (39, cNew (l ++ putZ a ++ putZ b ++ putZ c)), (53, cNew (l ++ putZ a ++ putZ b ++ putZ c ++ putZ d))]
end Go.Proofs.YthifjamdfpjilaaGreat
namespace Go.Proofs.YthifjamdfpjilaaGreat
open Go Sy Go.Proofs
theorem bdRr_p (l : List UInt8) (r : SReq) :
  along Tryz.prog (bdRr l r) [] = (some (.sl (.o 63) 1 0 0 0 (List.length (l ++ reqB r)) none, [(.o 63, bs (l ++ reqB r))], [T Tryz.prog 78 [.sl (.o 0) 1 0 0 0 (List.length l) none, .int .i64 (SReq.client r)] [(.o 0, bs l)] (sb (.o 321) (l ++ putZ (SReq.client r))) [(.o 321, bs (l ++ putZ (SReq.client r)))], T Tryz.prog 78 [.sl (.o 321) 1 0 0 0 (List.length (l ++ putZ (SReq.client r))) none, .int .i64 (SReq.num r)] [(.o 321, bs (l ++ putZ (SReq.client r)))] (sb (.o 513) (l ++ putZ (SReq.client r) ++ putZ (SReq.num r))) [(.o 513, bs (l ++ putZ (SReq.client r) ++ putZ (SReq.num r)))], T Tryz.prog 81 [.sl (.o 513) 1 0 0 0 (List.length (l ++ putZ (SReq.client r) ++ putZ (SReq.num r))) none, .str (SReq.data r)] [(.o 513, bs (l ++ putZ (SReq.client r) ++ putZ (SReq.num r)))] (sb (.o 705) (l ++ putZ (SReq.client r) ++ putZ (SReq.num r) ++ textB (SReq.data r))) [(.o 705, bs (l ++ putZ (SReq.client r) ++ putZ (SReq.num r) ++ textB (SReq.data r)))], RLoop Tryz.prog none 1 (cB (cB (cR (cL (cR (cR (bodyOf (Bd.f (bdRr l r))))))))) 17 (St.mk [.sl (.o 1) 1 0 0 0 (List.length (reqH l r ++ segB [])) none, .any, .any, .ptr (.o 2) 0 0 0 0, .any, .int .i64 0, .any, .any, .any, .any, .any, .any, .any, .any, .any, .any, .any, .any, .any, .any, .any, .any, .any, .any, .any, .any, .any, .any] [(.o 1, bs (reqH l r ++ segB [])), (.o 2, .flat (SReq.c r))] 3 []) (.exit 0) (St.mk [.sl (.o 1) 1 0 0 0 (List.length (reqH l r ++ segB (List.take 16 (SReq.tag r)))) none, .any, .any, .ptr (.o 2) 0 0 0 0, .any, .int .i64 16, .any, .any, .any, .any, .any, .any, .any, .any, .any, .any, .any, .any, .any, .any, .any, .any, .any, .any, .any, .any, .any, .any] [(.o 1, bs (reqH l r ++ segB (List.take 16 (SReq.tag r)))), (.o 2, .flat (SReq.c r))] 3 []), List.length (l ++ putZ (SReq.client r) ++ putZ (SReq.num r) ++ textB (SReq.data r)) = List.length (reqH l r ++ segB []), ∀ (k : Nat), k < List.length (l ++ putZ (SReq.client r) ++ putZ (SReq.num r) ++ textB (SReq.data r)) → bl (l ++ putZ (SReq.client r) ++ putZ (SReq.num r) ++ textB (SReq.data r)) k = bl (reqH l r ++ segB []) k, true = false → true = false, q (SReq.client r), q (SReq.num r), q (SReq.data r), q (16 : Nat), q (SReq.tag r), q0, q0, q0, List.length (l ++ putZ (SReq.client r) ++ putZ (SReq.num r) ++ textB (SReq.data r)) = List.length (reqH l r ++ segB []), (none : Option Nat) = none ∨ (none : Option Nat) = none, q0, q0, q0, q1, List.length (reqH l r ++ segB (List.take (16 : Nat) (SReq.tag r))) = List.length (l ++ reqB r), ∀ (k : Nat), k < List.length (reqH l r ++ segB (List.take (16 : Nat) (SReq.tag r))) → bl (reqH l r ++ segB (List.take (16 : Nat) (SReq.tag r))) k = bl (l ++ reqB r) k, true = false → true = false, q0, q0, q0, List.length (reqH l r ++ segB (List.take (16 : Nat) (SReq.tag r))) = List.length (l ++ reqB r), (none : Option Nat) = none ∨ (none : Option Nat) = none]) : Option (V × Heap × List Prop)) := by kernel_rfl

theorem pcRr_p1 (l : List UInt8) (r : SReq) (k : Nat) :
  alongPc Tryz.prog (pcRr l r k) [true] = (some (.normal, St.mk [.sl (.o 1) 1 0 0 0 (List.length (reqH l r ++ segB (List.take (k + 1) (SReq.tag r)))) none, .any, .any, .ptr (.o 2) 0 0 0 0, .any, .int .i64 (↑(k + 1) : Int), .any, .any, .any, .any, .any, .any, .any, .any, .any, .any, .any, .any, .any, .any, .any, .any, .any, .any, .any, .any, .any, .any] [(.o 1, bs (reqH l r ++ segB (List.take (k + 1) (SReq.tag r)))), (.o 2, .flat (SReq.c r))] 3 [], [decide ((↑k : Int) < (16 : Int)) = true, (0 : Int) ≤ (↑k : Int) ∧ (↑k : Int) < (16 : Int), (0 : Nat) + Int.toNat (↑k : Int) < (16 : Nat), q (List.length (reqH l r ++ segB (List.take k (SReq.tag r)))), nat_lit 1 ≤ (1 : Nat), ∀ (k_1 : Nat), k_1 < (1 : Nat) → solid (getL [[V.int IntKind.u8 (List.getD (SReq.tag r) ((0 : Nat) + Int.toNat (↑k : Int)) (0 : Int))]] ((0 : Nat) + k_1)) = true, (List.length (reqH l r ++ segB (List.take k (SReq.tag r))) + (1 : Nat)) * (1 : Nat) ≤ (140737488355328 : Nat), InR IntKind.i64 ((↑k : Int) + (1 : Int)), List.length (reqH l r ++ segB (List.take k (SReq.tag r))) + (1 : Nat) = List.length (reqH l r ++ segB (List.take (k + (1 : Nat)) (SReq.tag r))), ∀ (k_1 : Nat), k_1 < List.length (reqH l r ++ segB (List.take k (SReq.tag r))) + (1 : Nat) → catF (List.length (reqH l r ++ segB (List.take k (SReq.tag r)))) (bl (reqH l r ++ segB (List.take k (SReq.tag r)))) (fun k_2 => getL [[V.int IntKind.u8 (List.getD (SReq.tag r) ((0 : Nat) + Int.toNat (↑k : Int)) (0 : Int))]] ((0 : Nat) + k_2)) k_1 = bl (reqH l r ++ segB (List.take (k + (1 : Nat)) (SReq.tag r))) k_1, true = false → true = false, q (SReq.client r), q (SReq.num r), q (SReq.data r), q (16 : Nat), q (SReq.tag r), q0, q0, q0, List.length (reqH l r ++ segB (List.take k (SReq.tag r))) + (1 : Nat) = List.length (reqH l r ++ segB (List.take (k + (1 : Nat)) (SReq.tag r))), (none : Option Nat) = none ∨ (none : Option Nat) = none, q0, q0, q0, (↑k : Int) + (1 : Int) = (↑(k + (1 : Nat)) : Int)]) : Option (Exit × St × List Prop)) := by kernel_rfl
theorem pcRr_p0 (l : List UInt8) (r : SReq) (k : Nat) :
  alongPc Tryz.prog (pcRr l r k) [false] = (some (.exit 0, St.mk [.sl (.o 1) 1 0 0 0 (List.length (reqH l r ++ segB (List.take k (SReq.tag r)))) none, .any, .any, .ptr (.o 2) 0 0 0 0, .any, .int .i64 ↑k, .any, .any, .any, .any, .any, .any, .any, .any, .any, .any, .any, .any, .any, .any, .any, .any, .any, .any, .any, .any, .any, .any] [(.o 1, bs (reqH l r ++ segB (List.take k (SReq.tag r)))), (.o 2, .flat (SReq.c r))] 3 [], [decide ((↑k : Int) < (16 : Int)) = false, q (List.length (reqH l r ++ segB (List.take k (SReq.tag r)))), ∀ (k_1 : Nat), k_1 < List.length (reqH l r ++ segB (List.take k (SReq.tag r))) → bl (reqH l r ++ segB (List.take k (SReq.tag r))) k_1 = bl (reqH l r ++ segB (List.take k (SReq.tag r))) k_1, true = false → true = false, q (SReq.client r), q (SReq.num r), q (SReq.data r), q (16 : Nat), q (SReq.tag r), q0, q0, q0, q (List.length (reqH l r ++ segB (List.take k (SReq.tag r)))), (none : Option Nat) = none ∨ (none : Option Nat) = none, q0, q0, q0, q (↑k : Int)]) : Option (Exit × St × List Prop)) := by kernel_rfl

theorem bdPn2_p110 (l : List UInt8) (a : Int) (b : Int) :
  along Tryz.prog (bdPn2 l a b) [true, true, false] = (some (.sl (.o 63) 1 0 0 0 (List.length (l ++ numsB [a, b])) none, [(.o 63, bs (l ++ numsB [a, b])), (.o 2, .rows 1 2 (getL [[.int .i64 a], [.int .i64 b]]) false)], [q2, (0 : Int) ≤ (0 : Int) ∧ (0 : Int) < (2 : Int), nat_lit 0 < nat_lit 2, T Tryz.prog 78 [.sl (.o 0) 1 0 0 0 (List.length l) none, .int .i64 a] [(.o 0, bs l)] (sb (.o 707) (l ++ putZ a)) [(.o 707, bs (l ++ putZ a))], InR IntKind.i64 (1 : Int), q2, (0 : Int) ≤ (1 : Int) ∧ (1 : Int) < (2 : Int), nat_lit 1 < nat_lit 2, T Tryz.prog 78 [.sl (.o 707) 1 0 0 0 (List.length (l ++ putZ a)) none, .int .i64 b] [(.o 707, bs (l ++ putZ a))] (sb (.o 1603) (l ++ putZ a ++ putZ b)) [(.o 1603, bs (l ++ putZ a ++ putZ b))], InR IntKind.i64 (2 : Int), q false, List.length (l ++ putZ a ++ putZ b) = List.length (l ++ numsB [a, b]), ∀ (k : Nat), k < List.length (l ++ putZ a ++ putZ b) → bl (l ++ putZ a ++ putZ b) k = bl (l ++ numsB [a, b]) k, true = false → true = false, q (nat_lit 2), ∀ (k : Nat), k < nat_lit 2 → getL [[V.int IntKind.i64 a], [V.int IntKind.i64 b]] k = getL [[V.int IntKind.i64 a], [V.int IntKind.i64 b]] k, false = false → false = false, q0, q0, q0, List.length (l ++ putZ a ++ putZ b) = List.length (l ++ numsB [a, b]), (none : Option Nat) = none ∨ (none : Option Nat) = none]) : Option (V × Heap × List Prop)) := by kernel_rfl

theorem bdPn4_p11110 (l : List UInt8) (a : Int) (b : Int) (c : Int) (d : Int) :
  along Tryz.prog (bdPn4 l a b c d) [true, true, true, true, false] = (some (.sl (.o 63) 1 0 0 0 (List.length (l ++ numsB [a, b, c, d])) none, [(.o 63, bs (l ++ numsB [a, b, c, d])), (.o 2, .rows 1 4 (getL [[.int .i64 a], [.int .i64 b], [.int .i64 c], [.int .i64 d]]) false)], [q2, (0 : Int) ≤ (0 : Int) ∧ (0 : Int) < (4 : Int), nat_lit 0 < nat_lit 4, T Tryz.prog 78 [.sl (.o 0) 1 0 0 0 (List.length l) none, .int .i64 a] [(.o 0, bs l)] (sb (.o 707) (l ++ putZ a)) [(.o 707, bs (l ++ putZ a))], InR IntKind.i64 (1 : Int), q2, (0 : Int) ≤ (1 : Int) ∧ (1 : Int) < (4 : Int), nat_lit 1 < nat_lit 4, T Tryz.prog 78 [.sl (.o 707) 1 0 0 0 (List.length (l ++ putZ a)) none, .int .i64 b] [(.o 707, bs (l ++ putZ a))] (sb (.o 1603) (l ++ putZ a ++ putZ b)) [(.o 1603, bs (l ++ putZ a ++ putZ b))], InR IntKind.i64 (2 : Int), q2, (0 : Int) ≤ (2 : Int) ∧ (2 : Int) < (4 : Int), nat_lit 2 < nat_lit 4, T Tryz.prog 78 [.sl (.o 1603) 1 0 0 0 (List.length (l ++ putZ a ++ putZ b)) none, .int .i64 c] [(.o 1603, bs (l ++ putZ a ++ putZ b))] (sb (.o 2499) (l ++ putZ a ++ putZ b ++ putZ c)) [(.o 2499, bs (l ++ putZ a ++ putZ b ++ putZ c))], InR IntKind.i64 (3 : Int), q2, (0 : Int) ≤ (3 : Int) ∧ (3 : Int) < (4 : Int), nat_lit 3 < nat_lit 4, T Tryz.prog 78 [.sl (.o 2499) 1 0 0 0 (List.length (l ++ putZ a ++ putZ b ++ putZ c)) none, .int .i64 d] [(.o 2499, bs (l ++ putZ a ++ putZ b ++ putZ c))] (sb (.o 3395) (l ++ putZ a ++ putZ b ++ putZ c ++ putZ d)) [(.o 3395, bs (l ++ putZ a ++ putZ b ++ putZ c ++ putZ d))], InR IntKind.i64 (4 : Int), q false, List.length (l ++ putZ a ++ putZ b ++ putZ c ++ putZ d) = List.length (l ++ numsB [a, b, c, d]), ∀ (k : Nat), k < List.length (l ++ putZ a ++ putZ b ++ putZ c ++ putZ d) → bl (l ++ putZ a ++ putZ b ++ putZ c ++ putZ d) k = bl (l ++ numsB [a, b, c, d]) k, true = false → true = false, q (nat_lit 4), ∀ (k : Nat), k < nat_lit 4 → getL [[V.int IntKind.i64 a], [V.int IntKind.i64 b], [V.int IntKind.i64 c], [V.int IntKind.i64 d]] k = getL [[V.int IntKind.i64 a], [V.int IntKind.i64 b], [V.int IntKind.i64 c], [V.int IntKind.i64 d]] k, false = false → false = false, q0, q0, q0, List.length (l ++ putZ a ++ putZ b ++ putZ c ++ putZ d) = List.length (l ++ numsB [a, b, c, d]), (none : Option Nat) = none ∨ (none : Option Nat) = none]) : Option (V × Heap × List Prop)) := by kernel_rfl

theorem T_rr1 {l : List UInt8} {r : SReq} (hl : l.length ≤ 8796093022208) (h : ReqOk r) : T Tryz.prog 109 [sb (.o 0) l, .agg r.c] [(.o 0, bs l)] (sb (.o 63) (l ++ reqB r)) [(.o 63, bs (l ++ reqB r))] := by
 have h1 := putZ_len h.client
 have h2 := putZ_len h.num
 have h3 := textB_len h.data
 have hd := h.data
 have h4 := h.tag.len
 have ht : r.tag.take 16 = r.tag := List.take_of_length_le (by omega)
 have e : l ++ reqB r = reqH l r ++ segB r.tag := by simp [reqB, reqH]
 have l1 : (l ++ putZ r.client).length ≤ l.length + 9 := by simp only [List.length_append]; omega
 have l2 : (l ++ putZ r.client ++ putZ r.num).length ≤ l.length + 18 := by simp only [List.length_append]; omega
 have l3 : (reqH l r).length ≤ l.length + 27 + r.data.size := by simp only [reqH, List.length_append]; omega
 have hL : RLoop Tryz.prog none 1 (cB (cB (cR (cL (cR (cR (bodyOf Tryz.f109))))))) 17 (rrI l r 0) (.exit 0) (rrI l r 16) := by
  refine RLoop.inv (rrI l r) 16 (fun k hk => ?_) ?_ (by simp)
  ·have e := segB_takeS (xs := r.tag) (k := k) (by omega)
   have hv := seg_byte h.tag (k := k) (by omega)
   have hc := catF_bl1 (reqH l r ++ segB (r.tag.take k)) _ _ hv
   have hn : (reqH l r ++ segB (r.tag.take k)).length ≤ (reqH l r).length + 16 := by
    rw [List.length_append, segB_len, List.length_take]; omega
   refine R_alongPc NG MO _ (pcRr_p1 l r k) ?_ (show 1 ≤ 3 by decide)
   simp only [All, e, Int.toNat_natCast, Nat.zero_add, ← List.append_assoc]
   and_intros
   all_goals first
    | (rw [decide_eq_true_eq]; omega)
    | (simp only [Nat.zero_add] at hc; exact hc)
    | omega
    | (intro j hj; rw [show j = 0 by omega]; rfl)
    | (simp [IntKind.min, IntKind.max, IntKind.signed, IntKind.bits] <;> omega)
  ·refine R_alongPc NG MO _ (pcRr_p0 l r 16) ?_ (show 1 ≤ 3 by decide)
   simp [All]
 refine T_al (bdRr_p l r) Tryz.func109 ?_
 simp only [All]
 and_intros
 all_goals first
  | exact T_rp h.client (by omega) (by decide)
  | exact T_rp h.num (by omega) (by decide)
  | exact T_rt (by omega) h.data (by decide)
  | exact hL
  | trivial
  | rfl
  | (intro _ _; rfl)
  | (rw [ht, e]; done)
  | (rw [ht, e]; intro _ _; rfl)
  | (rw [reqH, show segB [] = [] from rfl, List.append_nil]; done)
  | (rw [reqH, show segB [] = [] from rfl, List.append_nil]; intro _ _; rfl)
  | (simp; done)
theorem T_rr {l : List UInt8} {r : SReq} (hl : l.length ≤ 8796093022208) (h : ReqOk r) {a m : Nat} (hne : a ≠ m) : T Tryz.prog 109 [sb (.o a) l, .agg r.c] [(.o a, bs l)] (sb (.o m) (l ++ reqB r)) [(.o m, bs (l ++ reqB r))] := by
 obtain ⟨σ, hσ, h1⟩ := T.at (T_rr1 hl h) [.o 0, .o 63] [.o a, .o m] (by simp) (by simp [hne]) rfl
 simp only [List.map_cons, List.map_nil, List.cons.injEq, and_true] at hσ
 simpa [V.rens, V.ren, sb, bs, Heap.ren, B.ren, SReq.c, hσ.1, hσ.2] using h1
theorem T_pn2' {l : List UInt8} {a : Int} {b : Int} (hl : l.length ≤ 17592186044416) (ha : num63 a) (hb : num63 b) : T Tryz.prog 91 [sb (.o 0) l, nsA 2 [a, b]] ([(.o 0, bs l)] ++ nsHq 2 [a, b]) (sb (.o 63) (l ++ numsB [a, b])) ([(.o 63, bs (l ++ numsB [a, b]))] ++ nsHq 2 [a, b]) := by
 have la := putZ_len ha
 have lb := putZ_len hb
 refine T_al (bdPn2_p110 l a b) Tryz.func91 ?_
 simp only [All]
 and_intros
 all_goals first
  | exact T_rp ha (by first | omega | (simp only [List.length_append]; omega)) (by decide)
  | exact T_rp hb (by first | omega | (simp only [List.length_append]; omega)) (by decide)
  | (simp [numsB, IntKind.min, IntKind.max, IntKind.signed, IntKind.bits]; done)
theorem T_pn2 {l : List UInt8} {a : Int} {b : Int} (hl : l.length ≤ 17592186044416) (ha : num63 a) (hb : num63 b) {x q m : Nat} (hn : [Nm.o x, Nm.o q, Nm.o m].Nodup) : T Tryz.prog 91 [sb (.o x) l, nsA q [a, b]] ([(.o x, bs l)] ++ nsHq q [a, b]) (sb (.o m) (l ++ numsB [a, b])) ([(.o m, bs (l ++ numsB [a, b]))] ++ nsHq q [a, b]) := by
 obtain ⟨σ, hσ, h1⟩ := T.at (T_pn2' hl ha hb) [.o 0, .o 2, .o 63] [.o x, .o q, .o m] (by simp) hn rfl
 simp only [List.map_cons, List.map_nil, List.cons.injEq, and_true] at hσ
 simpa [V.rens, V.ren, sb, bs, nsA, nsHq, Heap.ren, B.ren, hσ.1, hσ.2.1, hσ.2.2] using h1
theorem T_pn4' {l : List UInt8} {a : Int} {b : Int} {c : Int} {d : Int} (hl : l.length ≤ 17592186044416) (ha : num63 a) (hb : num63 b) (hc : num63 c) (hd : num63 d) : T Tryz.prog 91 [sb (.o 0) l, nsA 2 [a, b, c, d]] ([(.o 0, bs l)] ++ nsHq 2 [a, b, c, d]) (sb (.o 63) (l ++ numsB [a, b, c, d])) ([(.o 63, bs (l ++ numsB [a, b, c, d]))] ++ nsHq 2 [a, b, c, d]) := by
 have la := putZ_len ha
 have lb := putZ_len hb
 have lc := putZ_len hc
 have ld := putZ_len hd
 refine T_al (bdPn4_p11110 l a b c d) Tryz.func91 ?_
 simp only [All]
 and_intros
 all_goals first
  | exact T_rp ha (by first | omega | (simp only [List.length_append]; omega)) (by decide)
  | exact T_rp hb (by first | omega | (simp only [List.length_append]; omega)) (by decide)
  | exact T_rp hc (by first | omega | (simp only [List.length_append]; omega)) (by decide)
  | exact T_rp hd (by first | omega | (simp only [List.length_append]; omega)) (by decide)
  | (simp [numsB, IntKind.min, IntKind.max, IntKind.signed, IntKind.bits]; done)
theorem T_pn4 {l : List UInt8} {a : Int} {b : Int} {c : Int} {d : Int} (hl : l.length ≤ 17592186044416) (ha : num63 a) (hb : num63 b) (hc : num63 c) (hd : num63 d) {x q m : Nat} (hn : [Nm.o x, Nm.o q, Nm.o m].Nodup) : T Tryz.prog 91 [sb (.o x) l, nsA q [a, b, c, d]] ([(.o x, bs l)] ++ nsHq q [a, b, c, d]) (sb (.o m) (l ++ numsB [a, b, c, d])) ([(.o m, bs (l ++ numsB [a, b, c, d]))] ++ nsHq q [a, b, c, d]) := by
 obtain ⟨σ, hσ, h1⟩ := T.at (T_pn4' hl ha hb hc hd) [.o 0, .o 2, .o 63] [.o x, .o q, .o m] (by simp) hn rfl
 simp only [List.map_cons, List.map_nil, List.cons.injEq, and_true] at hσ
 simpa [V.rens, V.ren, sb, bs, nsA, nsHq, Heap.ren, B.ren, hσ.1, hσ.2.1, hσ.2.2] using h1
end Go.Proofs.YthifjamdfpjilaaGreat
namespace Go.Proofs.YthifjamdfpjilaaGreat
open Go Sy Go.Proofs
def cN (l : List UInt8) : List V → Heap → Nat → List Cl := fun args _ lo => cNew l args lo
/-- A slice goes, another one comes: with these bytes; a second slice stays. -/
def cNs (l : List UInt8) : List V → Nat → List Cl := fun args lo => match args with
 | .sl a _ _ _ _ _ _ :: .sl q _ _ _ _ _ _ :: _ => [{ rd := [q], pre := [a], val := sb (.o lo) l, post := [(.o lo, bs l)] }]
 | _ => []
/-- Calls by their callee. -/
def dbQ (l : List (Nat × (List V → Heap → Nat → List Cl))) : Nat → List V → Heap → Nat → List Cl := fun k args h lo => match lookS l k with
 | some f => f args h lo
 | none => []
def rbI (l : List UInt8) (b : SBatch) (k : Nat) : St := ⟨mkT 31 [(0, sb (.o 1) (l ++ (putZ ((b.n + 1 : Nat) : Int) ++ reqsB b.req k))), (3, .ptr (.o 2) 0 0 0 0), (5, .int .i64 (k : Nat))], [(.o 1, bs (l ++ (putZ ((b.n + 1 : Nat) : Int) ++ reqsB b.req k))), (.o 2, .flat b.c)], 3, []⟩
noncomputable def bdPB (l : List UInt8) (b : SBatch) : Bd := { f := Tryz.f79, args := [sb (.o 0) l, .agg b.c], pre := [(.o 0, bs l)], base := 1, kb := { db := dbSeq 1 [(5, cNew (l ++ putZ 0)), (9, cNew (l ++ putZ ((b.n + 1 : Nat) : Int)))], lp := fun _ t => match getV t.tmps 0, getV t.tmps 3 with | .sl a _ _ _ _ _ _, .ptr p _ _ _ _ => [(True, .loop (b.n + 1) (wToS [(.o 1, a), (.o 2, p)] (rbI l b 0)) (.exit 0) (rbI l b b.n))] | _, _ => [] }, names := fun _ => [.o 63], k := kSb 4 63 (l ++ batchB b) }
noncomputable def pcPB (l : List UInt8) (b : SBatch) (k : Nat) : Pc := { c := cB (cB (cR (cL (cR (cR (cR (bodyOf Tryz.f79))))))), st := rbI l b k, p := 1, kb := { db := dbQ [(109, cN (l ++ (putZ ((b.n + 1 : Nat) : Int) ++ reqsB b.req (k + 1))))] }, k := fun e t => match e with
 | .normal => match getV t.tmps 0 with
  | .sl a _ _ _ _ _ _ => some (wToS [(.o 1, a)] (rbI l b (k + 1)))
  | _ => none
 | _ => some (wTo (rbI l b k)) }
def psI (l : List UInt8) (n : Nat) (s : Nat → SSign) (k : Nat) : St := ⟨mkT 30 [(0, sb (.o 1) (l ++ (numsB [(n : Int)] ++ signsB s k))), (1, sg n s), (5, .int .i64 (k : Nat))], [(.o 1, bs (l ++ (numsB [(n : Int)] ++ signsB s k)))], 2, []⟩
noncomputable def bdPs (l : List UInt8) (n : Nat) (s : Nat → SSign) : Bd := { f := Tryz.f96, args := [sb (.o 0) l, sg n s], pre := [(.o 0, bs l)], base := 1, kb := { db := dbQ [(78, cN (l ++ numsB [(n : Int)]))], lp := fun _ t => match getV t.tmps 0 with | .sl a _ _ _ _ _ _ => [(True, .loop (n + 1) (wToS [(.o 1, a)] (psI l n s 0)) (.exit 0) (psI l n s n))] | _ => [] }, names := fun _ => [.o 63], k := kSb 4 63 (l ++ (numsB [(n : Int)] ++ signsB s n)) }
noncomputable def pcPs (l : List UInt8) (n : Nat) (s : Nat → SSign) (k : Nat) : Pc := { c := cB (cB (cR (cL (cR (cR (bodyOf Tryz.f96)))))), st := psI l n s k, p := 1, kb := { db := dbQ [(78, cN (l ++ (numsB [(n : Int)] ++ signsB s k) ++ numsB [(s k).node])), (94, cN (l ++ (numsB [(n : Int)] ++ signsB s (k + 1))))] }, k := fun e t => match e with
 | .normal => match getV t.tmps 0 with
  | .sl a _ _ _ _ _ _ => some (wToS [(.o 1, a)] (psI l n s (k + 1)))
  | _ => none
 | _ => some (wTo (psI l n s k)) }
noncomputable def bdPv (l : List UInt8) (v : SVote) : Bd := { f := Tryz.f92, args := [sb (.o 0) l, .agg v.c], pre := [(.o 0, bs l)], base := 1, kb := { db := dbQ [(91, fun args _ lo => cNs (l ++ numsB [v.kind, v.epoch, v.view, v.slot]) args lo), (95, cN (l ++ voteB v))] }, names := fun _ => [.o 63], k := kSb 4 63 (l ++ voteB v) }
noncomputable def bdPc (l : List UInt8) (c : SCert) : Bd := { f := Tryz.f93, args := [sb (.o 0) l, .agg c.c], pre := [(.o 0, bs l)], base := 1, kb := { db := dbQ [(92, cN (l ++ voteB c.vote)), (96, cN (l ++ certB c))] }, names := fun _ => [.o 63], k := kSb 4 63 (l ++ certB c) }
end Go.Proofs.YthifjamdfpjilaaGreat
