/-
  Contracts and laws that the claim's theorem leans on, joined out of the texts Ta7 Ta8D Ta8 Ta5D (own work of this seat): Contracts: what is the same; Contracts: which messages may be; Contracts: which messages may be; Contracts: a message's bytes.
-/
import Derived.Test.YtnmccoincblecaaGreatC05
set_option linter.unusedVariables false
set_option linter.unusedSimpArgs false
set_option maxHeartbeats 1000000
namespace Go.Proofs.YtnmccoincblecaaGreat
open Go Sy Go.Proofs
theorem bT2 (n : Nat) (n' : Nat) (a : Nat → SReq) (b : Nat → SReq) (m : Nat) :
  f4 zp (aP9 n n' a b m) [true] = (some (.bool false, [], [(!decide ((↑n : Int) = (↑n' : Int))) = true]) : Option (V × c5 × List Prop)) := by kernel_rfl
theorem bB1 (n : Nat) (n' : Nat) (a : Nat → SReq) (b : Nat → SReq) (m : Nat) :
  f4 zp (aP9 n n' a b m) [false, true] = (some (.bool true, [], [(!decide ((↑n : Int) = (↑n' : Int))) = false, i5 zp none 0 (cB (cB (cR (cL (cR (cR (f8 (Bd.f (aP9 n n' a b m))))))))) (n + 1) (St.mk (mkT 26 [(0, .ros 19 n (fun i => SReq.c (a i)) false), (1, .ros 19 n' (fun i => SReq.c (b i)) false), (12, .int .i64 ↑n), (13, .int .i64 0)]) [] 0 []) (.exit 0) (St.mk (mkT 26 [(0, .ros 19 n (fun i => SReq.c (a i)) false), (1, .ros 19 n' (fun i => SReq.c (b i)) false), (12, .int .i64 ↑n), (13, .int .i64 ↑n)]) [] 0 []), q n, ∀ (k : Nat), k < n → SReq.c (a k) = SReq.c (a k), false = true → false = true, q (n'), ∀ (k : Nat), k < n' → SReq.c (b k) = SReq.c (b k), false = true → false = true, q (↑n : Int), q1]) : Option (V × c5 × List Prop)) := by kernel_rfl
theorem bB0 (n : Nat) (n' : Nat) (a : Nat → SReq) (b : Nat → SReq) (m : Nat) :
  f4 zp (aP9 n n' a b m) [false, false] = (some (.bool false, [], [(!decide ((↑n : Int) = (↑n' : Int))) = false, i5 zp none 0 (cB (cB (cR (cL (cR (cR (f8 (Bd.f (aP9 n n' a b m))))))))) (m + 1) (St.mk (mkT 26 [(0, .ros 19 n (fun i => SReq.c (a i)) false), (1, .ros 19 n' (fun i => SReq.c (b i)) false), (12, .int .i64 ↑n), (13, .int .i64 0)]) [] 0 []) .ret (St.mk (mkT 26 [(4, .bool false)]) [] 0 []), q n, ∀ (k : Nat), k < n → SReq.c (a k) = SReq.c (a k), false = true → false = true, q (n'), ∀ (k : Nat), k < n' → SReq.c (b k) = SReq.c (b k), false = true → false = true, q (↑n : Int), q1]) : Option (V × c5 × List Prop)) := by kernel_rfl
theorem bH6 (n : Nat) (n' : Nat) (a : Nat → SReq) (b : Nat → SReq) (k : Nat) :
  i6 zp (bH4 n n' a b k) [true, true] = (some (.ret, St.mk (mkT 26 [(4, .bool false)]) [] 0 [], [decide ((↑k : Int) < (↑n : Int)) = true, (0 : Int) ≤ (↑k : Int) ∧ (↑k : Int) < (↑n : Int), (0 : Int) ≤ (↑k : Int) ∧ (↑k : Int) < (↑n' : Int), (!(decide (SReq.client (a (Int.toNat (↑k : Int))) = SReq.client (b (Int.toNat (↑k : Int)))) && (decide (SReq.num (a (Int.toNat (↑k : Int))) = SReq.num (b (Int.toNat (↑k : Int)))) && (decide (SReq.data (a (Int.toNat (↑k : Int))) = SReq.data (b (Int.toNat (↑k : Int)))) && (decide (SReq.tag (a (Int.toNat (↑k : Int))) = SReq.tag (b (Int.toNat (↑k : Int)))) && true))))) = true, q false]) : Option (Exit × St × List Prop)) := by kernel_rfl
theorem bH5 (n : Nat) (n' : Nat) (a : Nat → SReq) (b : Nat → SReq) (k : Nat) :
  i6 zp (bH4 n n' a b k) [true, false] = (some (.normal, St.mk (mkT 26 [(0, .ros 19 n (fun i => SReq.c (a i)) false), (1, .ros 19 n' (fun i => SReq.c (b i)) false), (12, .int .i64 ↑n), (13, .int .i64 (↑(k + 1) : Int))]) [] 0 [], [decide ((↑k : Int) < (↑n : Int)) = true, (0 : Int) ≤ (↑k : Int) ∧ (↑k : Int) < (↑n : Int), (0 : Int) ≤ (↑k : Int) ∧ (↑k : Int) < (↑n' : Int), (!(decide (SReq.client (a (Int.toNat (↑k : Int))) = SReq.client (b (Int.toNat (↑k : Int)))) && (decide (SReq.num (a (Int.toNat (↑k : Int))) = SReq.num (b (Int.toNat (↑k : Int)))) && (decide (SReq.data (a (Int.toNat (↑k : Int))) = SReq.data (b (Int.toNat (↑k : Int)))) && (decide (SReq.tag (a (Int.toNat (↑k : Int))) = SReq.tag (b (Int.toNat (↑k : Int)))) && true))))) = false, InR .i64 ((↑k : Int) + (1 : Int)), q n, ∀ (k : Nat), k < n → SReq.c (a k) = SReq.c (a k), false = true → false = true, q (n'), ∀ (k : Nat), k < n' → SReq.c (b k) = SReq.c (b k), false = true → false = true, q (↑n : Int), (↑k : Int) + (1 : Int) = (↑(k + (1 : Nat)) : Int)]) : Option (Exit × St × List Prop)) := by kernel_rfl
theorem bZ8 (n : Nat) (n' : Nat) (a : Nat → SReq) (b : Nat → SReq) (k : Nat) :
  i6 zp (bH4 n n' a b k) [false] = (some (.exit 0, St.mk (mkT 26 [(0, .ros 19 n (fun i => SReq.c (a i)) false), (1, .ros 19 n' (fun i => SReq.c (b i)) false), (12, .int .i64 ↑n), (13, .int .i64 ↑n)]) [] 0 [], [decide ((↑k : Int) < (↑n : Int)) = false, q n, ∀ (k : Nat), k < n → SReq.c (a k) = SReq.c (a k), false = true → false = true, q (n'), ∀ (k : Nat), k < n' → SReq.c (b k) = SReq.c (b k), false = true → false = true, q (↑n : Int), (↑k : Int) = (↑n : Int)]) : Option (Exit × St × List Prop)) := by kernel_rfl
theorem bQ6 (a : SSign) (b : SSign) :
  f4 zp (cu8 a b) [] = (some (.bool (decide (SSign.node a = SSign.node b) && (decide (SSign.tag a = SSign.tag b) && true)), [], []) : Option (V × c5 × List Prop)) := by kernel_rfl
theorem bQ5 (a : SEnv) (b : SEnv) :
  f4 zp (cu7 a b) [] = (some (.bool (decide (SEnv.src a = SEnv.src b) && (decide (SEnv.body a = SEnv.body b) && (decide (SEnv.tag a = SEnv.tag b) && true))), [], []) : Option (V × c5 × List Prop)) := by kernel_rfl
theorem bP1 (a : SBatch) (b : SBatch) :
  f4 zp (cf2 a b) [true] = (some (.bool (z0 (SBatch.n a) (SBatch.n b) fun i => Q6 (SBatch.req a i) (SBatch.req b i)), [], [(SBatch.noop a == SBatch.noop b) = true, T zp 143 [.ros 19 (SBatch.n a) (fun i => SReq.c (SBatch.req a i)) false, .ros 19 (SBatch.n b) (fun i => SReq.c (SBatch.req b i)) false] [] (.bool (z0 (SBatch.n a) (SBatch.n b) fun i => Q6 (SBatch.req a i) (SBatch.req b i))) []]) : Option (V × c5 × List Prop)) := by kernel_rfl
theorem bP0 (a : SBatch) (b : SBatch) :
  f4 zp (cf2 a b) [false] = (some (.bool false, [], [(SBatch.noop a == SBatch.noop b) = false]) : Option (V × c5 × List Prop)) := by kernel_rfl
theorem bP9 (a : SCert) (b : SCert) :
  f4 zp (cg6 a b) [true] = (some (.bool (z0 (SCert.n a) (SCert.n b) fun i => D5 (SCert.sig a i) (SCert.sig b i)), [], [(decide (SVote.kind (SCert.vote a) = SVote.kind (SCert.vote b)) && (decide (SVote.epoch (SCert.vote a) = SVote.epoch (SCert.vote b)) && (decide (SVote.view (SCert.vote a) = SVote.view (SCert.vote b)) && (decide (SVote.slot (SCert.vote a) = SVote.slot (SCert.vote b)) && (decide (SVote.digest (SCert.vote a) = SVote.digest (SCert.vote b)) && true))))) = true, T zp 129 [.ros 17 (SCert.n a) (fun i => SSign.c (SCert.sig a i)) false, .ros 17 (SCert.n b) (fun i => SSign.c (SCert.sig b i)) false, .fn (.func 130) [] []] [] (.bool (z0 (SCert.n a) (SCert.n b) fun i => D5 (SCert.sig a i) (SCert.sig b i))) []]) : Option (V × c5 × List Prop)) := by kernel_rfl
theorem bP8 (a : SCert) (b : SCert) :
  f4 zp (cg6 a b) [false] = (some (.bool false, [], [(decide (SVote.kind (SCert.vote a) = SVote.kind (SCert.vote b)) && (decide (SVote.epoch (SCert.vote a) = SVote.epoch (SCert.vote b)) && (decide (SVote.view (SCert.vote a) = SVote.view (SCert.vote b)) && (decide (SVote.slot (SCert.vote a) = SVote.slot (SCert.vote b)) && (decide (SVote.digest (SCert.vote a) = SVote.digest (SCert.vote b)) && true))))) = false]) : Option (V × c5 × List Prop)) := by kernel_rfl
theorem bQ_ (a : SHeld) (b : SHeld) :
  f4 zp (ch1 a b) [true] = (some (.bool (v9 (SHeld.cert a) (SHeld.cert b)), [], [T zp 124 [.agg (SBatch.c (SHeld.batch a)), .agg (SBatch.c (SHeld.batch b))] [] (.bool (q9 (SHeld.batch a) (SHeld.batch b))) [], q9 (SHeld.batch a) (SHeld.batch b) = true, T zp 128 [.agg [.int .i64 (SVote.kind (SCert.vote (SHeld.cert a))), .int .i64 (SVote.epoch (SCert.vote (SHeld.cert a))), .int .i64 (SVote.view (SCert.vote (SHeld.cert a))), .int .i64 (SVote.slot (SCert.vote (SHeld.cert a))), .seg .u8 32 (SVote.digest (SCert.vote (SHeld.cert a))), sg (SCert.n (SHeld.cert a)) (SCert.sig (SHeld.cert a))], .agg [.int .i64 (SVote.kind (SCert.vote (SHeld.cert b))), .int .i64 (SVote.epoch (SCert.vote (SHeld.cert b))), .int .i64 (SVote.view (SCert.vote (SHeld.cert b))), .int .i64 (SVote.slot (SCert.vote (SHeld.cert b))), .seg .u8 32 (SVote.digest (SCert.vote (SHeld.cert b))), sg (SCert.n (SHeld.cert b)) (SCert.sig (SHeld.cert b))]] [] (.bool (v9 (SHeld.cert a) (SHeld.cert b))) []]) : Option (V × c5 × List Prop)) := by kernel_rfl
theorem bQ9 (a : SHeld) (b : SHeld) :
  f4 zp (ch1 a b) [false] = (some (.bool false, [], [T zp 124 [.agg (SBatch.c (SHeld.batch a)), .agg (SBatch.c (SHeld.batch b))] [] (.bool (q9 (SHeld.batch a) (SHeld.batch b))) [], q9 (SHeld.batch a) (SHeld.batch b) = false]) : Option (V × c5 × List Prop)) := by kernel_rfl
theorem bk0 (a : SMsg) (b : SMsg) :
  f4 zp (bb2 a b) [true, true, true] = (some (.bool (z0 (SMsg.nheld a) (SMsg.nheld b) fun i => u6 (SMsg.held a i) (SMsg.held b i)), [], [decide (SMsg.cepoch a = SMsg.cepoch b) = true, decide (SMsg.cleader a = SMsg.cleader b) = true, decide (SMsg.cview a = SMsg.cview b) = true, T zp 144 [.ros 39 (SMsg.nheld a) (fun i => SHeld.c (SMsg.held a i)) false, .ros 39 (SMsg.nheld b) (fun i => SHeld.c (SMsg.held b i)) false, .fn (.func 145) [] []] [] (.bool (z0 (SMsg.nheld a) (SMsg.nheld b) fun i => u6 (SMsg.held a i) (SMsg.held b i))) []]) : Option (V × c5 × List Prop)) := by kernel_rfl
theorem bj_ (a : SMsg) (b : SMsg) :
  f4 zp (bb2 a b) [true, true, false] = (some (.bool false, [], [decide (SMsg.cepoch a = SMsg.cepoch b) = true, decide (SMsg.cleader a = SMsg.cleader b) = true, decide (SMsg.cview a = SMsg.cview b) = false]) : Option (V × c5 × List Prop)) := by kernel_rfl
theorem bj9 (a : SMsg) (b : SMsg) :
  f4 zp (bb2 a b) [true, false, false] = (some (.bool false, [], [decide (SMsg.cepoch a = SMsg.cepoch b) = true, decide (SMsg.cleader a = SMsg.cleader b) = false, q false]) : Option (V × c5 × List Prop)) := by kernel_rfl
theorem bj8 (a : SMsg) (b : SMsg) :
  f4 zp (bb2 a b) [false, false, false] = (some (.bool false, [], [decide (SMsg.cepoch a = SMsg.cepoch b) = false, q false, q false]) : Option (V × c5 × List Prop)) := by kernel_rfl
noncomputable def u2 (a : SMsg) (b : SMsg) : Nat → List Prop
 | 0 => [decide (SMsg.slot a = SMsg.slot b) = true, T zp 124 [.agg (SBatch.c (SMsg.batch a)), .agg (SBatch.c (SMsg.batch b))] [] (.bool (q9 (SMsg.batch a) (SMsg.batch b))) []]
 | 1 => [(decide (SVote.kind (SMsg.vote a) = SVote.kind (SMsg.vote b)) && (decide (SVote.epoch (SMsg.vote a) = SVote.epoch (SMsg.vote b)) && (decide (SVote.view (SMsg.vote a) = SVote.view (SMsg.vote b)) && (decide (SVote.slot (SMsg.vote a) = SVote.slot (SMsg.vote b)) && (decide (SVote.digest (SMsg.vote a) = SVote.digest (SMsg.vote b)) && true))))) = true, T zp 125 [.agg [.int .i64 (SMsg.cepoch a), .int .i64 (SMsg.cleader a), .int .i64 (SMsg.cview a), hl (SMsg.nheld a) (SMsg.held a)], .agg [.int .i64 (SMsg.cepoch b), .int .i64 (SMsg.cleader b), .int .i64 (SMsg.cview b), hl (SMsg.nheld b) (SMsg.held b)]] [] (.bool (C3 a b)) []]
 | 2 => [C3 a b = true, T zp 126 [.ros 18 (SMsg.nnews a) (fun i => SEnv.c (SMsg.news a i)) false, .ros 18 (SMsg.nnews b) (fun i => SEnv.c (SMsg.news b i)) false, .fn (.func 127) [] []] [] (.bool (z0 (SMsg.nnews a) (SMsg.nnews b) fun i => H9 (SMsg.news a i) (SMsg.news b i))) []]
 | 3 => [(z0 (SMsg.nnews a) (SMsg.nnews b) fun i => H9 (SMsg.news a i) (SMsg.news b i)) = true]
 | 4 => [decide (SMsg.digest a = SMsg.digest b) = true, T zp 128 [.agg [.int .i64 (SVote.kind (SCert.vote (SMsg.cert a))), .int .i64 (SVote.epoch (SCert.vote (SMsg.cert a))), .int .i64 (SVote.view (SCert.vote (SMsg.cert a))), .int .i64 (SVote.slot (SCert.vote (SMsg.cert a))), .seg .u8 32 (SVote.digest (SCert.vote (SMsg.cert a))), sg (SCert.n (SMsg.cert a)) (SCert.sig (SMsg.cert a))], .agg [.int .i64 (SVote.kind (SCert.vote (SMsg.cert b))), .int .i64 (SVote.epoch (SCert.vote (SMsg.cert b))), .int .i64 (SVote.view (SCert.vote (SMsg.cert b))), .int .i64 (SVote.slot (SCert.vote (SMsg.cert b))), .seg .u8 32 (SVote.digest (SCert.vote (SMsg.cert b))), sg (SCert.n (SMsg.cert b)) (SCert.sig (SMsg.cert b))]] [] (.bool (v9 (SMsg.cert a) (SMsg.cert b))) []]
 | _ => []
theorem ao4 (a : SMsg) (b : SMsg) :
 f4 zp (V6 a b) [true, true, true, true, true, true, true, true, true, true, true, true] = (some (.bool (z0 (SMsg.n a) (SMsg.n b) fun i => D5 (SMsg.sig a i) (SMsg.sig b i)), [], [decide (SMsg.kind a = SMsg.kind b) = true, decide (SMsg.epoch a = SMsg.epoch b) = true, decide (SMsg.leader a = SMsg.leader b) = true, decide (SMsg.view a = SMsg.view b) = true] ++ (u2 a b 0 ++ ([q9 (SMsg.batch a) (SMsg.batch b) = true] ++ (u2 a b 1 ++ (u2 a b 2 ++ (u2 a b 3 ++ (u2 a b 4 ++ [v9 (SMsg.cert a) (SMsg.cert b) = true, decide (SMsg.state a = SMsg.state b) = true, T zp 129 [.ros 17 (SMsg.n a) (fun i => SSign.c (SMsg.sig a i)) false, .ros 17 (SMsg.n b) (fun i => SSign.c (SMsg.sig b i)) false, .fn (.func 130) [] []] [] (.bool (z0 (SMsg.n a) (SMsg.n b) fun i => D5 (SMsg.sig a i) (SMsg.sig b i))) []]))))))) : Option (V × c5 × List Prop)) := by kernel_rfl
theorem ao3 (a : SMsg) (b : SMsg) :
 f4 zp (V6 a b) [true, true, true, true, true, true, true, true, true, true, true, false] = (some (.bool false, [], [decide (SMsg.kind a = SMsg.kind b) = true, decide (SMsg.epoch a = SMsg.epoch b) = true, decide (SMsg.leader a = SMsg.leader b) = true, decide (SMsg.view a = SMsg.view b) = true] ++ (u2 a b 0 ++ ([q9 (SMsg.batch a) (SMsg.batch b) = true] ++ (u2 a b 1 ++ (u2 a b 2 ++ (u2 a b 3 ++ (u2 a b 4 ++ [v9 (SMsg.cert a) (SMsg.cert b) = true, decide (SMsg.state a = SMsg.state b) = false]))))))) : Option (V × c5 × List Prop)) := by kernel_rfl
theorem ao2 (a : SMsg) (b : SMsg) :
 f4 zp (V6 a b) [true, true, true, true, true, true, true, true, true, true, false, false] = (some (.bool false, [], [decide (SMsg.kind a = SMsg.kind b) = true, decide (SMsg.epoch a = SMsg.epoch b) = true, decide (SMsg.leader a = SMsg.leader b) = true, decide (SMsg.view a = SMsg.view b) = true] ++ (u2 a b 0 ++ ([q9 (SMsg.batch a) (SMsg.batch b) = true] ++ (u2 a b 1 ++ (u2 a b 2 ++ (u2 a b 3 ++ (u2 a b 4 ++ [v9 (SMsg.cert a) (SMsg.cert b) = false, q false]))))))) : Option (V × c5 × List Prop)) := by kernel_rfl
theorem ao1 (a : SMsg) (b : SMsg) :
 f4 zp (V6 a b) [true, true, true, true, true, true, true, true, true, false, false, false] = (some (.bool false, [], [decide (SMsg.kind a = SMsg.kind b) = true, decide (SMsg.epoch a = SMsg.epoch b) = true, decide (SMsg.leader a = SMsg.leader b) = true, decide (SMsg.view a = SMsg.view b) = true] ++ (u2 a b 0 ++ ([q9 (SMsg.batch a) (SMsg.batch b) = true] ++ (u2 a b 1 ++ (u2 a b 2 ++ (u2 a b 3 ++ [decide (SMsg.digest a = SMsg.digest b) = false, q false, q false])))))) : Option (V × c5 × List Prop)) := by kernel_rfl
theorem ao0 (a : SMsg) (b : SMsg) :
 f4 zp (V6 a b) [true, true, true, true, true, true, true, true, false, false, false, false] = (some (.bool false, [], [decide (SMsg.kind a = SMsg.kind b) = true, decide (SMsg.epoch a = SMsg.epoch b) = true, decide (SMsg.leader a = SMsg.leader b) = true, decide (SMsg.view a = SMsg.view b) = true] ++ (u2 a b 0 ++ ([q9 (SMsg.batch a) (SMsg.batch b) = true] ++ (u2 a b 1 ++ (u2 a b 2 ++ [(z0 (SMsg.nnews a) (SMsg.nnews b) fun i => H9 (SMsg.news a i) (SMsg.news b i)) = false, q false, q false, q false]))))) : Option (V × c5 × List Prop)) := by kernel_rfl
theorem an_ (a : SMsg) (b : SMsg) :
 f4 zp (V6 a b) [true, true, true, true, true, true, true, false, false, false, false, false] = (some (.bool false, [], [decide (SMsg.kind a = SMsg.kind b) = true, decide (SMsg.epoch a = SMsg.epoch b) = true, decide (SMsg.leader a = SMsg.leader b) = true, decide (SMsg.view a = SMsg.view b) = true] ++ (u2 a b 0 ++ ([q9 (SMsg.batch a) (SMsg.batch b) = true] ++ (u2 a b 1 ++ [C3 a b = false, q false, q false, q false, q false])))) : Option (V × c5 × List Prop)) := by kernel_rfl
theorem an9 (a : SMsg) (b : SMsg) :
 f4 zp (V6 a b) [true, true, true, true, true, true, false, false, false, false, false, false] = (some (.bool false, [], [decide (SMsg.kind a = SMsg.kind b) = true, decide (SMsg.epoch a = SMsg.epoch b) = true, decide (SMsg.leader a = SMsg.leader b) = true, decide (SMsg.view a = SMsg.view b) = true] ++ (u2 a b 0 ++ [q9 (SMsg.batch a) (SMsg.batch b) = true, (decide (SVote.kind (SMsg.vote a) = SVote.kind (SMsg.vote b)) && (decide (SVote.epoch (SMsg.vote a) = SVote.epoch (SMsg.vote b)) && (decide (SVote.view (SMsg.vote a) = SVote.view (SMsg.vote b)) && (decide (SVote.slot (SMsg.vote a) = SVote.slot (SMsg.vote b)) && (decide (SVote.digest (SMsg.vote a) = SVote.digest (SMsg.vote b)) && true))))) = false, q false, q false, q false, q false, q false])) : Option (V × c5 × List Prop)) := by kernel_rfl
theorem an8 (a : SMsg) (b : SMsg) :
 f4 zp (V6 a b) [true, true, true, true, true, false, false, false, false, false, false, false] = (some (.bool false, [], [decide (SMsg.kind a = SMsg.kind b) = true, decide (SMsg.epoch a = SMsg.epoch b) = true, decide (SMsg.leader a = SMsg.leader b) = true, decide (SMsg.view a = SMsg.view b) = true] ++ (u2 a b 0 ++ [q9 (SMsg.batch a) (SMsg.batch b) = false, q false, q false, q false, q false, q false, q false])) : Option (V × c5 × List Prop)) := by kernel_rfl
theorem an7 (a : SMsg) (b : SMsg) :
 f4 zp (V6 a b) [true, true, true, true, false, false, false, false, false, false, false, false] = (some (.bool false, [], [decide (SMsg.kind a = SMsg.kind b) = true, decide (SMsg.epoch a = SMsg.epoch b) = true, decide (SMsg.leader a = SMsg.leader b) = true, decide (SMsg.view a = SMsg.view b) = true, decide (SMsg.slot a = SMsg.slot b) = false, q false, q false, q false, q false, q false, q false, q false]) : Option (V × c5 × List Prop)) := by kernel_rfl
theorem an6 (a : SMsg) (b : SMsg) :
 f4 zp (V6 a b) [true, true, true, false, false, false, false, false, false, false, false, false] = (some (.bool false, [], [decide (SMsg.kind a = SMsg.kind b) = true, decide (SMsg.epoch a = SMsg.epoch b) = true, decide (SMsg.leader a = SMsg.leader b) = true, decide (SMsg.view a = SMsg.view b) = false, q false, q false, q false, q false, q false, q false, q false, q false]) : Option (V × c5 × List Prop)) := by kernel_rfl
theorem an5 (a : SMsg) (b : SMsg) :
 f4 zp (V6 a b) [true, true, false, false, false, false, false, false, false, false, false, false] = (some (.bool false, [], [decide (SMsg.kind a = SMsg.kind b) = true, decide (SMsg.epoch a = SMsg.epoch b) = true, decide (SMsg.leader a = SMsg.leader b) = false, q false, q false, q false, q false, q false, q false, q false, q false, q false]) : Option (V × c5 × List Prop)) := by kernel_rfl
theorem an4 (a : SMsg) (b : SMsg) :
 f4 zp (V6 a b) [true, false, false, false, false, false, false, false, false, false, false, false] = (some (.bool false, [], [decide (SMsg.kind a = SMsg.kind b) = true, decide (SMsg.epoch a = SMsg.epoch b) = false, q false, q false, q false, q false, q false, q false, q false, q false, q false, q false]) : Option (V × c5 × List Prop)) := by kernel_rfl
theorem an3 (a : SMsg) (b : SMsg) :
 f4 zp (V6 a b) [false, false, false, false, false, false, false, false, false, false, false, false] = (some (.bool false, [], [decide (SMsg.kind a = SMsg.kind b) = false, q false, q false, q false, q false, q false, q false, q false, q false, q false, q false, q false]) : Option (V × c5 × List Prop)) := by kernel_rfl
theorem bA_ (n : Nat) (n' : Nat) (a : Nat → SSign) (b : Nat → SSign) (m : Nat) :
  f4 zp (aA1 n n' a b m) [true] = (some (.bool false, [], [(!decide ((↑n : Int) = (↑n' : Int))) = true]) : Option (V × c5 × List Prop)) := by kernel_rfl
theorem bm9 (n : Nat) (n' : Nat) (a : Nat → SSign) (b : Nat → SSign) (m : Nat) :
  f4 zp (aA1 n n' a b m) [false, true] = (some (.bool true, [], [(!decide ((↑n : Int) = (↑n' : Int))) = false, i5 zp none 0 (cB (cB (cR (cL (cR (cR (f8 (Bd.f (aA1 n n' a b m))))))))) (n + 1) (St.mk (mkT 30 [(0, .ros 17 n (fun i => SSign.c (a i)) false), (1, .ros 17 n' (fun i => SSign.c (b i)) false), (2, .fn (.func 130) [] []), (14, .int .i64 ↑n), (15, .int .i64 0)]) [] 0 []) (.exit 0) (St.mk (mkT 30 [(0, .ros 17 n (fun i => SSign.c (a i)) false), (1, .ros 17 n' (fun i => SSign.c (b i)) false), (2, .fn (.func 130) [] []), (14, .int .i64 ↑n), (15, .int .i64 ↑n)]) [] 0 []), q n, ∀ (k : Nat), k < n → SSign.c (a k) = SSign.c (a k), false = true → false = true, q (n'), ∀ (k : Nat), k < n' → SSign.c (b k) = SSign.c (b k), false = true → false = true, q (↑n : Int), q1]) : Option (V × c5 × List Prop)) := by kernel_rfl
theorem bm8 (n : Nat) (n' : Nat) (a : Nat → SSign) (b : Nat → SSign) (m : Nat) :
  f4 zp (aA1 n n' a b m) [false, false] = (some (.bool false, [], [(!decide ((↑n : Int) = (↑n' : Int))) = false, i5 zp none 0 (cB (cB (cR (cL (cR (cR (f8 (Bd.f (aA1 n n' a b m))))))))) (m + 1) (St.mk (mkT 30 [(0, .ros 17 n (fun i => SSign.c (a i)) false), (1, .ros 17 n' (fun i => SSign.c (b i)) false), (2, .fn (.func 130) [] []), (14, .int .i64 ↑n), (15, .int .i64 0)]) [] 0 []) .ret (St.mk (mkT 30 [(6, .bool false)]) [] 0 []), q n, ∀ (k : Nat), k < n → SSign.c (a k) = SSign.c (a k), false = true → false = true, q (n'), ∀ (k : Nat), k < n' → SSign.c (b k) = SSign.c (b k), false = true → false = true, q (↑n : Int), q1]) : Option (V × c5 × List Prop)) := by kernel_rfl
theorem bt8 (n : Nat) (n' : Nat) (a : Nat → SSign) (b : Nat → SSign) (k : Nat) :
  i6 zp (bg3 n n' a b k) [true, true] = (some (.ret, St.mk (mkT 30 [(6, .bool false)]) [] 0 [], [decide ((↑k : Int) < (↑n : Int)) = true, (0 : Int) ≤ (↑k : Int) ∧ (↑k : Int) < (↑n : Int), (0 : Int) ≤ (↑k : Int) ∧ (↑k : Int) < (↑n' : Int), T zp 130 [.agg (SSign.c (a (Int.toNat (↑k : Int)))), .agg (SSign.c (b (Int.toNat (↑k : Int))))] [] (.bool (D5 (a k) (b k))) [], (!D5 (a k) (b k)) = true, q false]) : Option (Exit × St × List Prop)) := by kernel_rfl
theorem bt7 (n : Nat) (n' : Nat) (a : Nat → SSign) (b : Nat → SSign) (k : Nat) :
  i6 zp (bg3 n n' a b k) [true, false] = (some (.normal, St.mk (mkT 30 [(0, .ros 17 n (fun i => SSign.c (a i)) false), (1, .ros 17 n' (fun i => SSign.c (b i)) false), (2, .fn (.func 130) [] []), (14, .int .i64 ↑n), (15, .int .i64 (↑(k + 1) : Int))]) [] 0 [], [decide ((↑k : Int) < (↑n : Int)) = true, (0 : Int) ≤ (↑k : Int) ∧ (↑k : Int) < (↑n : Int), (0 : Int) ≤ (↑k : Int) ∧ (↑k : Int) < (↑n' : Int), T zp 130 [.agg (SSign.c (a (Int.toNat (↑k : Int)))), .agg (SSign.c (b (Int.toNat (↑k : Int))))] [] (.bool (D5 (a k) (b k))) [], (!D5 (a k) (b k)) = false, InR .i64 ((↑k : Int) + (1 : Int)), q n, ∀ (k : Nat), k < n → SSign.c (a k) = SSign.c (a k), false = true → false = true, q (n'), ∀ (k : Nat), k < n' → SSign.c (b k) = SSign.c (b k), false = true → false = true, q (↑n : Int), (↑k : Int) + (1 : Int) = (↑(k + (1 : Nat)) : Int)]) : Option (Exit × St × List Prop)) := by kernel_rfl
theorem bH3 (n : Nat) (n' : Nat) (a : Nat → SSign) (b : Nat → SSign) (k : Nat) :
  i6 zp (bg3 n n' a b k) [false] = (some (.exit 0, St.mk (mkT 30 [(0, .ros 17 n (fun i => SSign.c (a i)) false), (1, .ros 17 n' (fun i => SSign.c (b i)) false), (2, .fn (.func 130) [] []), (14, .int .i64 ↑n), (15, .int .i64 ↑n)]) [] 0 [], [decide ((↑k : Int) < (↑n : Int)) = false, q n, ∀ (k : Nat), k < n → SSign.c (a k) = SSign.c (a k), false = true → false = true, q (n'), ∀ (k : Nat), k < n' → SSign.c (b k) = SSign.c (b k), false = true → false = true, q (↑n : Int), (↑k : Int) = (↑n : Int)]) : Option (Exit × St × List Prop)) := by kernel_rfl
theorem bA8 (n : Nat) (n' : Nat) (a : Nat → SEnv) (b : Nat → SEnv) (m : Nat) :
  f4 zp (az_ n n' a b m) [true] = (some (.bool false, [], [(!decide ((↑n : Int) = (↑n' : Int))) = true]) : Option (V × c5 × List Prop)) := by kernel_rfl
theorem bm5 (n : Nat) (n' : Nat) (a : Nat → SEnv) (b : Nat → SEnv) (m : Nat) :
  f4 zp (az_ n n' a b m) [false, true] = (some (.bool true, [], [(!decide ((↑n : Int) = (↑n' : Int))) = false, i5 zp none 0 (cB (cB (cR (cL (cR (cR (f8 (Bd.f (az_ n n' a b m))))))))) (n + 1) (St.mk (mkT 30 [(0, .ros 18 n (fun i => SEnv.c (a i)) false), (1, .ros 18 n' (fun i => SEnv.c (b i)) false), (2, .fn (.func 127) [] []), (14, .int .i64 ↑n), (15, .int .i64 0)]) [] 0 []) (.exit 0) (St.mk (mkT 30 [(0, .ros 18 n (fun i => SEnv.c (a i)) false), (1, .ros 18 n' (fun i => SEnv.c (b i)) false), (2, .fn (.func 127) [] []), (14, .int .i64 ↑n), (15, .int .i64 ↑n)]) [] 0 []), q n, ∀ (k : Nat), k < n → SEnv.c (a k) = SEnv.c (a k), false = true → false = true, q (n'), ∀ (k : Nat), k < n' → SEnv.c (b k) = SEnv.c (b k), false = true → false = true, q (↑n : Int), q1]) : Option (V × c5 × List Prop)) := by kernel_rfl
theorem bm4 (n : Nat) (n' : Nat) (a : Nat → SEnv) (b : Nat → SEnv) (m : Nat) :
  f4 zp (az_ n n' a b m) [false, false] = (some (.bool false, [], [(!decide ((↑n : Int) = (↑n' : Int))) = false, i5 zp none 0 (cB (cB (cR (cL (cR (cR (f8 (Bd.f (az_ n n' a b m))))))))) (m + 1) (St.mk (mkT 30 [(0, .ros 18 n (fun i => SEnv.c (a i)) false), (1, .ros 18 n' (fun i => SEnv.c (b i)) false), (2, .fn (.func 127) [] []), (14, .int .i64 ↑n), (15, .int .i64 0)]) [] 0 []) .ret (St.mk (mkT 30 [(6, .bool false)]) [] 0 []), q n, ∀ (k : Nat), k < n → SEnv.c (a k) = SEnv.c (a k), false = true → false = true, q (n'), ∀ (k : Nat), k < n' → SEnv.c (b k) = SEnv.c (b k), false = true → false = true, q (↑n : Int), q1]) : Option (V × c5 × List Prop)) := by kernel_rfl
theorem bt4 (n : Nat) (n' : Nat) (a : Nat → SEnv) (b : Nat → SEnv) (k : Nat) :
  i6 zp (bg1 n n' a b k) [true, true] = (some (.ret, St.mk (mkT 30 [(6, .bool false)]) [] 0 [], [decide ((↑k : Int) < (↑n : Int)) = true, (0 : Int) ≤ (↑k : Int) ∧ (↑k : Int) < (↑n : Int), (0 : Int) ≤ (↑k : Int) ∧ (↑k : Int) < (↑n' : Int), T zp 127 [.agg (SEnv.c (a (Int.toNat (↑k : Int)))), .agg (SEnv.c (b (Int.toNat (↑k : Int))))] [] (.bool (H9 (a k) (b k))) [], (!H9 (a k) (b k)) = true, q false]) : Option (Exit × St × List Prop)) := by kernel_rfl
theorem bt3 (n : Nat) (n' : Nat) (a : Nat → SEnv) (b : Nat → SEnv) (k : Nat) :
  i6 zp (bg1 n n' a b k) [true, false] = (some (.normal, St.mk (mkT 30 [(0, .ros 18 n (fun i => SEnv.c (a i)) false), (1, .ros 18 n' (fun i => SEnv.c (b i)) false), (2, .fn (.func 127) [] []), (14, .int .i64 ↑n), (15, .int .i64 (↑(k + 1) : Int))]) [] 0 [], [decide ((↑k : Int) < (↑n : Int)) = true, (0 : Int) ≤ (↑k : Int) ∧ (↑k : Int) < (↑n : Int), (0 : Int) ≤ (↑k : Int) ∧ (↑k : Int) < (↑n' : Int), T zp 127 [.agg (SEnv.c (a (Int.toNat (↑k : Int)))), .agg (SEnv.c (b (Int.toNat (↑k : Int))))] [] (.bool (H9 (a k) (b k))) [], (!H9 (a k) (b k)) = false, InR .i64 ((↑k : Int) + (1 : Int)), q n, ∀ (k : Nat), k < n → SEnv.c (a k) = SEnv.c (a k), false = true → false = true, q (n'), ∀ (k : Nat), k < n' → SEnv.c (b k) = SEnv.c (b k), false = true → false = true, q (↑n : Int), (↑k : Int) + (1 : Int) = (↑(k + (1 : Nat)) : Int)]) : Option (Exit × St × List Prop)) := by kernel_rfl
theorem bH1 (n : Nat) (n' : Nat) (a : Nat → SEnv) (b : Nat → SEnv) (k : Nat) :
  i6 zp (bg1 n n' a b k) [false] = (some (.exit 0, St.mk (mkT 30 [(0, .ros 18 n (fun i => SEnv.c (a i)) false), (1, .ros 18 n' (fun i => SEnv.c (b i)) false), (2, .fn (.func 127) [] []), (14, .int .i64 ↑n), (15, .int .i64 ↑n)]) [] 0 [], [decide ((↑k : Int) < (↑n : Int)) = false, q n, ∀ (k : Nat), k < n → SEnv.c (a k) = SEnv.c (a k), false = true → false = true, q (n'), ∀ (k : Nat), k < n' → SEnv.c (b k) = SEnv.c (b k), false = true → false = true, q (↑n : Int), (↑k : Int) = (↑n : Int)]) : Option (Exit × St × List Prop)) := by kernel_rfl
theorem bA9 (n : Nat) (n' : Nat) (a : Nat → SHeld) (b : Nat → SHeld) (m : Nat) :
  f4 zp (aA0 n n' a b m) [true] = (some (.bool false, [], [(!decide ((↑n : Int) = (↑n' : Int))) = true]) : Option (V × c5 × List Prop)) := by kernel_rfl
theorem bm7 (n : Nat) (n' : Nat) (a : Nat → SHeld) (b : Nat → SHeld) (m : Nat) :
  f4 zp (aA0 n n' a b m) [false, true] = (some (.bool true, [], [(!decide ((↑n : Int) = (↑n' : Int))) = false, i5 zp none 0 (cB (cB (cR (cL (cR (cR (f8 (Bd.f (aA0 n n' a b m))))))))) (n + 1) (St.mk (mkT 30 [(0, .ros 39 n (fun i => SHeld.c (a i)) false), (1, .ros 39 n' (fun i => SHeld.c (b i)) false), (2, .fn (.func 145) [] []), (14, .int .i64 ↑n), (15, .int .i64 0)]) [] 0 []) (.exit 0) (St.mk (mkT 30 [(0, .ros 39 n (fun i => SHeld.c (a i)) false), (1, .ros 39 n' (fun i => SHeld.c (b i)) false), (2, .fn (.func 145) [] []), (14, .int .i64 ↑n), (15, .int .i64 ↑n)]) [] 0 []), q n, ∀ (k : Nat), k < n → SHeld.c (a k) = SHeld.c (a k), false = true → false = true, q (n'), ∀ (k : Nat), k < n' → SHeld.c (b k) = SHeld.c (b k), false = true → false = true, q (↑n : Int), q1]) : Option (V × c5 × List Prop)) := by kernel_rfl
theorem bm6 (n : Nat) (n' : Nat) (a : Nat → SHeld) (b : Nat → SHeld) (m : Nat) :
  f4 zp (aA0 n n' a b m) [false, false] = (some (.bool false, [], [(!decide ((↑n : Int) = (↑n' : Int))) = false, i5 zp none 0 (cB (cB (cR (cL (cR (cR (f8 (Bd.f (aA0 n n' a b m))))))))) (m + 1) (St.mk (mkT 30 [(0, .ros 39 n (fun i => SHeld.c (a i)) false), (1, .ros 39 n' (fun i => SHeld.c (b i)) false), (2, .fn (.func 145) [] []), (14, .int .i64 ↑n), (15, .int .i64 0)]) [] 0 []) .ret (St.mk (mkT 30 [(6, .bool false)]) [] 0 []), q n, ∀ (k : Nat), k < n → SHeld.c (a k) = SHeld.c (a k), false = true → false = true, q (n'), ∀ (k : Nat), k < n' → SHeld.c (b k) = SHeld.c (b k), false = true → false = true, q (↑n : Int), q1]) : Option (V × c5 × List Prop)) := by kernel_rfl
noncomputable def aa7 (n : Nat) (n' : Nat) (a : Nat → SHeld) (b : Nat → SHeld) (k : Nat) : Nat → List Prop
 | 0 => [decide ((↑k : Int) < (↑n : Int)) = true, (0 : Int) ≤ (↑k : Int) ∧ (↑k : Int) < (↑n : Int), (0 : Int) ≤ (↑k : Int) ∧ (↑k : Int) < (↑n' : Int), T zp 145 [.agg [.bool (SBatch.noop (SHeld.batch (a (Int.toNat (↑k : Int))))), rq (SBatch.n (SHeld.batch (a (Int.toNat (↑k : Int))))) (SBatch.req (SHeld.batch (a (Int.toNat (↑k : Int))))), .int .i64 (SVote.kind (SCert.vote (SHeld.cert (a (Int.toNat (↑k : Int)))))), .int .i64 (SVote.epoch (SCert.vote (SHeld.cert (a (Int.toNat (↑k : Int)))))), .int .i64 (SVote.view (SCert.vote (SHeld.cert (a (Int.toNat (↑k : Int)))))), .int .i64 (SVote.slot (SCert.vote (SHeld.cert (a (Int.toNat (↑k : Int)))))), .seg .u8 32 (SVote.digest (SCert.vote (SHeld.cert (a (Int.toNat (↑k : Int)))))), sg (SCert.n (SHeld.cert (a (Int.toNat (↑k : Int))))) (SCert.sig (SHeld.cert (a (Int.toNat (↑k : Int)))))], .agg [.bool (SBatch.noop (SHeld.batch (b (Int.toNat (↑k : Int))))), rq (SBatch.n (SHeld.batch (b (Int.toNat (↑k : Int))))) (SBatch.req (SHeld.batch (b (Int.toNat (↑k : Int))))), .int .i64 (SVote.kind (SCert.vote (SHeld.cert (b (Int.toNat (↑k : Int)))))), .int .i64 (SVote.epoch (SCert.vote (SHeld.cert (b (Int.toNat (↑k : Int)))))), .int .i64 (SVote.view (SCert.vote (SHeld.cert (b (Int.toNat (↑k : Int)))))), .int .i64 (SVote.slot (SCert.vote (SHeld.cert (b (Int.toNat (↑k : Int)))))), .seg .u8 32 (SVote.digest (SCert.vote (SHeld.cert (b (Int.toNat (↑k : Int)))))), sg (SCert.n (SHeld.cert (b (Int.toNat (↑k : Int))))) (SCert.sig (SHeld.cert (b (Int.toNat (↑k : Int)))))]] [] (.bool (u6 (a k) (b k))) []]
 | _ => []
theorem bt6 (n : Nat) (n' : Nat) (a : Nat → SHeld) (b : Nat → SHeld) (k : Nat) :
 i6 zp (bg2 n n' a b k) [true, true] = (some (.ret, St.mk (mkT 30 [(6, .bool false)]) [] 0 [], aa7 n n' a b k 0 ++ [(!u6 (a k) (b k)) = true, q false]) : Option (Exit × St × List Prop)) := by kernel_rfl
theorem bt5 (n : Nat) (n' : Nat) (a : Nat → SHeld) (b : Nat → SHeld) (k : Nat) :
 i6 zp (bg2 n n' a b k) [true, false] = (some (.normal, St.mk (mkT 30 [(0, .ros 39 n (fun i => SHeld.c (a i)) false), (1, .ros 39 n' (fun i => SHeld.c (b i)) false), (2, .fn (.func 145) [] []), (14, .int .i64 ↑n), (15, .int .i64 (↑(k + 1) : Int))]) [] 0 [], aa7 n n' a b k 0 ++ [(!u6 (a k) (b k)) = false, InR .i64 ((↑k : Int) + (1 : Int)), q n, ∀ (k : Nat), k < n → SHeld.c (a k) = SHeld.c (a k), false = true → false = true, q (n'), ∀ (k : Nat), k < n' → SHeld.c (b k) = SHeld.c (b k), false = true → false = true, q (↑n : Int), (↑k : Int) + (1 : Int) = (↑(k + (1 : Nat)) : Int)]) : Option (Exit × St × List Prop)) := by kernel_rfl
theorem bH2 (n : Nat) (n' : Nat) (a : Nat → SHeld) (b : Nat → SHeld) (k : Nat) :
 i6 zp (bg2 n n' a b k) [false] = (some (.exit 0, St.mk (mkT 30 [(0, .ros 39 n (fun i => SHeld.c (a i)) false), (1, .ros 39 n' (fun i => SHeld.c (b i)) false), (2, .fn (.func 145) [] []), (14, .int .i64 ↑n), (15, .int .i64 ↑n)]) [] 0 [], [decide ((↑k : Int) < (↑n : Int)) = false, q n, ∀ (k : Nat), k < n → SHeld.c (a k) = SHeld.c (a k), false = true → false = true, q (n'), ∀ (k : Nat), k < n' → SHeld.c (b k) = SHeld.c (b k), false = true → false = true, q (↑n : Int), (↑k : Int) = (↑n : Int)]) : Option (Exit × St × List Prop)) := by kernel_rfl
theorem aI_ {a b : SReq} (h : Q6 a b = true) : a.client = b.client ∧ a.num = b.num ∧ a.data = b.data ∧ a.tag = b.tag := by
 simpa [Q6] using h
theorem bg5 {a b : SReq} (h : ¬ Q6 a b = true) : (!(decide (a.client = b.client) && (decide (a.num = b.num) && (decide (a.data = b.data) && (decide (a.tag = b.tag) && true))))) = true := by
 rw [Bool.not_eq_true']; exact Bool.eq_false_iff.mpr h
theorem T_sq {n n' : Nat} (a b : Nat → SReq) (hn : n ≤ 1000000) : T Tryz.prog 143 [rq n a, rq n' b] [] (.bool (z0 n n' (fun i => Q6 (a i) (b i)))) [] := by
 by_cases hnn : n = n'
 ·subst hnn
  have step : ∀ k, k < n → Q6 (a k) (b k) = true → R Tryz.prog none 0 (cB (cB (cR (cL (cR (cR (f8 Tryz.f143))))))) (sqI (rq n a) (rq n b) n k) .normal (sqI (rq n a) (rq n b) n (k + 1)) := fun k hk hp => by
   refine f9 NG MO _ (bH5 n n a b k) ?_ (Nat.zero_le _)
   simp only [All, Int.toNat_natCast]
   and_intros
   all_goals first | (simp [hk, aI_ hp, IntKind.min, IntKind.max, IntKind.signed, IntKind.bits] <;> omega)
  obtain ⟨m, h1, h2, h3⟩ := Q8 (fun k => Q6 (a k) (b k) = true) n
  by_cases hmn : m = n
  ·subst hmn
   refine T.bool (f5 (bB1 m m a b m) Tryz.func143 ⟨by simp, i5.inv (sqI (rq m a) (rq m b) m) m (fun k hk => step k hk (h2 k hk)) (f9 NG MO _ (bZ8 m m a b m) (by simp [All]) (Nat.zero_le _)) (by simp), ?_⟩) (by simp [z0]; exact h2)
   simp [All]
  ·have hm' : m < n := by omega
   have h3 := h3.resolve_left hmn
   have bad : R Tryz.prog none 0 (cB (cB (cR (cL (cR (cR (f8 Tryz.f143))))))) (sqI (rq n a) (rq n b) n m) .ret (smF 4 26) := by
    refine f9 NG MO _ (bH6 n n a b m) ?_ (Nat.zero_le _)
    simp only [All, Int.toNat_natCast]
    and_intros
    all_goals first | exact bg5 h3 | (simp [hm'] <;> omega)
   refine T.bool (f5 (bB0 n n a b m) Tryz.func143 ⟨by simp, i5.inv (sqI (rq n a) (rq n b) n) m (fun k hk => step k (by omega) (h2 k hk)) bad (by simp), ?_⟩) (by
    have : ¬ ∀ i, i < n → Q6 (a i) (b i) = true := fun h => h3 (h m hm')
    simp only [z0, this, decide_false, Bool.and_false])
   simp [All]
 ·exact T.bool (f5 (bT2 n n' a b 0) Tryz.func143 ⟨by simp <;> omega, trivial⟩) (by simp [z0, hnn])
theorem bK0 (a b : SSign) : T Tryz.prog 130 [.agg a.c, .agg b.c] [] (.bool (D5 a b)) [] :=
 T5 NG MO _ (bQ6 a b) Tryz.func130 (by kernel_rfl) trivial (O1 (by kernel_rfl)) (by kernel_rfl)
theorem bJ_ (a b : SEnv) : T Tryz.prog 127 [.agg a.c, .agg b.c] [] (.bool (H9 a b)) [] :=
 T5 NG MO _ (bQ5 a b) Tryz.func127 (by kernel_rfl) trivial (O1 (by kernel_rfl)) (by kernel_rfl)
theorem bK7 {n n' : Nat} (a b : Nat → SSign) (hn : n ≤ 1000000) : T Tryz.prog 129 [sg n a, sg n' b, .fn (.func 130) [] []] [] (.bool (z0 n n' (fun i => D5 (a i) (b i)))) [] := by
 by_cases hnn : n = n'
 ·subst hnn
  have step : ∀ k, k < n → D5 (a k) (b k) = true → R Tryz.prog none 0 (cB (cB (cR (cL (cR (cR (f8 Tryz.f129))))))) (smI (sg n a) (sg n b) n 130 k) .normal (smI (sg n a) (sg n b) n 130 (k + 1)) := fun k hk hp => by
   refine f9 NG MO _ (bt7 n n a b k) ?_ (Nat.zero_le _)
   simp only [All, Int.toNat_natCast]
   and_intros
   all_goals first | exact bK0 (a k) (b k) | (simp [hk, hp, IntKind.min, IntKind.max, IntKind.signed, IntKind.bits] <;> omega)
  obtain ⟨m, h1, h2, h3⟩ := Q8 (fun k => D5 (a k) (b k) = true) n
  by_cases hmn : m = n
  ·subst hmn
   refine T.bool (f5 (bm9 m m a b m) Tryz.func129 ⟨by simp, i5.inv (smI (sg m a) (sg m b) m 130) m (fun k hk => step k hk (h2 k hk)) (f9 NG MO _ (bH3 m m a b m) (by simp [All]) (Nat.zero_le _)) (by simp), ?_⟩) (by simp [z0]; exact h2)
   simp [All]
  ·have hm' : m < n := by omega
   have h3 := h3.resolve_left hmn
   have bad : R Tryz.prog none 0 (cB (cB (cR (cL (cR (cR (f8 Tryz.f129))))))) (smI (sg n a) (sg n b) n 130 m) .ret (smF 6 30) := by
    refine f9 NG MO _ (bt8 n n a b m) ?_ (Nat.zero_le _)
    simp only [All, Int.toNat_natCast]
    and_intros
    all_goals first | exact bK0 (a m) (b m) | (simp [hm', h3] <;> omega)
   refine T.bool (f5 (bm8 n n a b m) Tryz.func129 ⟨by simp, i5.inv (smI (sg n a) (sg n b) n 130) m (fun k hk => step k (by omega) (h2 k hk)) bad (by simp), ?_⟩) (by
    have : ¬ ∀ i, i < n → D5 (a i) (b i) = true := fun h => h3 (h m hm')
    simp only [z0, this, decide_false, Bool.and_false])
   simp [All]
 ·exact T.bool (f5 (bA_ n n' a b 0) Tryz.func129 ⟨by simp <;> omega, trivial⟩) (by simp [z0, hnn])
theorem ay4 {n n' : Nat} (a b : Nat → SEnv) (hn : n ≤ 1000000) : T Tryz.prog 126 [nw n a, nw n' b, .fn (.func 127) [] []] [] (.bool (z0 n n' (fun i => H9 (a i) (b i)))) [] := by
 by_cases hnn : n = n'
 ·subst hnn
  have step : ∀ k, k < n → H9 (a k) (b k) = true → R Tryz.prog none 0 (cB (cB (cR (cL (cR (cR (f8 Tryz.f126))))))) (smI (nw n a) (nw n b) n 127 k) .normal (smI (nw n a) (nw n b) n 127 (k + 1)) := fun k hk hp => by
   refine f9 NG MO _ (bt3 n n a b k) ?_ (Nat.zero_le _)
   simp only [All, Int.toNat_natCast]
   and_intros
   all_goals first | exact bJ_ (a k) (b k) | (simp [hk, hp, IntKind.min, IntKind.max, IntKind.signed, IntKind.bits] <;> omega)
  obtain ⟨m, h1, h2, h3⟩ := Q8 (fun k => H9 (a k) (b k) = true) n
  by_cases hmn : m = n
  ·subst hmn
   refine T.bool (f5 (bm5 m m a b m) Tryz.func126 ⟨by simp, i5.inv (smI (nw m a) (nw m b) m 127) m (fun k hk => step k hk (h2 k hk)) (f9 NG MO _ (bH1 m m a b m) (by simp [All]) (Nat.zero_le _)) (by simp), ?_⟩) (by simp [z0]; exact h2)
   simp [All]
  ·have hm' : m < n := by omega
   have h3 := h3.resolve_left hmn
   have bad : R Tryz.prog none 0 (cB (cB (cR (cL (cR (cR (f8 Tryz.f126))))))) (smI (nw n a) (nw n b) n 127 m) .ret (smF 6 30) := by
    refine f9 NG MO _ (bt4 n n a b m) ?_ (Nat.zero_le _)
    simp only [All, Int.toNat_natCast]
    and_intros
    all_goals first | exact bJ_ (a m) (b m) | (simp [hm', h3] <;> omega)
   refine T.bool (f5 (bm4 n n a b m) Tryz.func126 ⟨by simp, i5.inv (smI (nw n a) (nw n b) n 127) m (fun k hk => step k (by omega) (h2 k hk)) bad (by simp), ?_⟩) (by
    have : ¬ ∀ i, i < n → H9 (a i) (b i) = true := fun h => h3 (h m hm')
    simp only [z0, this, decide_false, Bool.and_false])
   simp [All]
 ·exact T.bool (f5 (bA8 n n' a b 0) Tryz.func126 ⟨by simp <;> omega, trivial⟩) (by simp [z0, hnn])
theorem ag9 (a b : SBatch) (hn : a.n ≤ 1000000) : T Tryz.prog 124 [.agg a.c, .agg b.c] [] (.bool (q9 a b)) [] := by
 by_cases h1 : (a.noop == b.noop) = true
 ·refine T.bool (f5 (bP1 a b) Tryz.func124 ?_) (by simp [q9, h1] <;> omega)
  simp only [All]
  and_intros
  all_goals first | exact T_sq a.req b.req hn | (simp [h1]; done)
 ·refine T.bool (f5 (bP0 a b) Tryz.func124 ?_) (by simp [q9, h1] <;> omega)
  simp only [All]
  and_intros
  all_goals first | (simp [h1]; done)
theorem a_3 (a b : SCert) (hn : a.n ≤ 1000000) : T Tryz.prog 128 [.agg a.c, .agg b.c] [] (.bool (v9 a b)) [] := by
 by_cases h1 : ac7 a.vote b.vote = true
 ·refine T.bool (f5 (bP9 a b) Tryz.func128 ?_) (by simp [v9, h1] <;> omega)
  simp only [All]
  and_intros
  all_goals first | exact bK7 a.sig b.sig hn | (simp [h1]; done) | exact h1
 ·refine T.bool (f5 (bP8 a b) Tryz.func128 ?_) (by simp [v9, h1] <;> omega)
  simp only [All]
  and_intros
  all_goals first | (simp [h1]; done) | exact Bool.eq_false_iff.mpr h1
theorem cc8 (a b : SHeld) (h1n : a.batch.n ≤ 1000000) (h2n : a.cert.n ≤ 1000000) : T Tryz.prog 145 [.agg a.c, .agg b.c] [] (.bool (u6 a b)) [] := by
 by_cases h1 : q9 a.batch b.batch = true
 ·refine T.bool (f5 (bQ_ a b) Tryz.func145 ?_) (by simp [u6, h1] <;> omega)
  simp only [All]
  and_intros
  all_goals first | exact ag9 a.batch b.batch h1n | exact a_3 a.cert b.cert h2n | (simp [h1]; done)
 ·refine T.bool (f5 (bQ9 a b) Tryz.func145 ?_) (by simp [u6, h1] <;> omega)
  simp only [All]
  and_intros
  all_goals first | exact ag9 a.batch b.batch h1n | (simp [h1]; done)
theorem ct7 {n n' : Nat} (a b : Nat → SHeld) (hn : n ≤ 1000000) (hb : ∀ k, k < n → (a k).batch.n ≤ 1000000 ∧ (a k).cert.n ≤ 1000000) : T Tryz.prog 144 [hl n a, hl n' b, .fn (.func 145) [] []] [] (.bool (z0 n n' (fun i => u6 (a i) (b i)))) [] := by
 by_cases hnn : n = n'
 ·subst hnn
  have step : ∀ k, k < n → u6 (a k) (b k) = true → R Tryz.prog none 0 (cB (cB (cR (cL (cR (cR (f8 Tryz.f144))))))) (smI (hl n a) (hl n b) n 145 k) .normal (smI (hl n a) (hl n b) n 145 (k + 1)) := fun k hk hp => by
   refine f9 NG MO _ (bt5 n n a b k) ?_ (Nat.zero_le _)
   simp only [All, f3, aa7, Int.toNat_natCast]
   and_intros
   all_goals first | exact cc8 (a k) (b k) (hb k hk).1 (hb k hk).2 | (simp [hk, hp, IntKind.min, IntKind.max, IntKind.signed, IntKind.bits] <;> omega)
  obtain ⟨m, h1, h2, h3⟩ := Q8 (fun k => u6 (a k) (b k) = true) n
  by_cases hmn : m = n
  ·subst hmn
   refine T.bool (f5 (bm7 m m a b m) Tryz.func144 ⟨by simp, i5.inv (smI (hl m a) (hl m b) m 145) m (fun k hk => step k hk (h2 k hk)) (f9 NG MO _ (bH2 m m a b m) (by simp [All, f3, aa7]) (Nat.zero_le _)) (by simp), ?_⟩) (by simp [z0]; exact h2)
   simp [All, f3, aa7]
  ·have hm' : m < n := by omega
   have h3 := h3.resolve_left hmn
   have bad : R Tryz.prog none 0 (cB (cB (cR (cL (cR (cR (f8 Tryz.f144))))))) (smI (hl n a) (hl n b) n 145 m) .ret (smF 6 30) := by
    refine f9 NG MO _ (bt6 n n a b m) ?_ (Nat.zero_le _)
    simp only [All, f3, aa7, Int.toNat_natCast]
    and_intros
    all_goals first | exact cc8 (a m) (b m) (hb m hm').1 (hb m hm').2 | (simp [hm', h3] <;> omega)
   refine T.bool (f5 (bm6 n n a b m) Tryz.func144 ⟨by simp, i5.inv (smI (hl n a) (hl n b) n 145) m (fun k hk => step k (by omega) (h2 k hk)) bad (by simp), ?_⟩) (by
    have : ¬ ∀ i, i < n → u6 (a i) (b i) = true := fun h => h3 (h m hm')
    simp only [z0, this, decide_false, Bool.and_false])
   simp [All]
 ·exact T.bool (f5 (bA9 n n' a b 0) Tryz.func144 ⟨by simp <;> omega, trivial⟩) (by simp [z0, hnn])
theorem aD7 (a b : SMsg) (hn : a.nheld ≤ 1000000) (hb : ∀ k, k < a.nheld → (a.held k).batch.n ≤ 1000000 ∧ (a.held k).cert.n ≤ 1000000) : T Tryz.prog 125 [.agg (chC a), .agg (chC b)] [] (.bool (C3 a b)) [] := by
 by_cases h1 : a.cepoch = b.cepoch
 ·by_cases h2 : a.cleader = b.cleader
  ·by_cases h3 : a.cview = b.cview
   ·refine T.bool (f5 (bk0 a b) Tryz.func125 ?_) (by simp [C3, h1, h2, h3] <;> omega)
    simp only [All]
    and_intros
    all_goals first | exact ct7 a.held b.held hn hb | (simp [h1, h2, h3]; done)
   ·refine T.bool (f5 (bj_ a b) Tryz.func125 ?_) (by simp [C3, h1, h2, h3] <;> omega)
    simp only [All]
    and_intros
    all_goals first | (simp [h1, h2, h3]; done)
  ·refine T.bool (f5 (bj9 a b) Tryz.func125 ?_) (by simp [C3, h1, h2] <;> omega)
   simp only [All]
   and_intros
   all_goals first | (simp [h1, h2]; done)
 ·refine T.bool (f5 (bj8 a b) Tryz.func125 ?_) (by simp [C3, h1] <;> omega)
  simp only [All]
  and_intros
  all_goals first | (simp [h1]; done)
structure FitM (a : SMsg) : Prop where
 batch : a.batch.n ≤ 1000000
 nheld : a.nheld ≤ 1000000
 held : ∀ k, k < a.nheld → (a.held k).batch.n ≤ 1000000 ∧ (a.held k).cert.n ≤ 1000000
 nnews : a.nnews ≤ 1000000
 cert : a.cert.n ≤ 1000000
 n : a.n ≤ 1000000
theorem D9 (a b : SMsg) (h : FitM a) : T Tryz.prog 86 [.agg a.c, .agg b.c] [] (.bool (m7 a b)) [] := by
 by_cases h1 : a.kind = b.kind
 ·by_cases h2 : a.epoch = b.epoch
  ·by_cases h3 : a.leader = b.leader
   ·by_cases h4 : a.view = b.view
    ·by_cases h5 : a.slot = b.slot
     ·by_cases h6 : q9 a.batch b.batch = true
      ·by_cases h7 : ac7 a.vote b.vote = true
       ·by_cases h8 : C3 a b = true
        ·by_cases h9 : z0 a.nnews b.nnews (fun i => H9 (a.news i) (b.news i)) = true
         ·by_cases h10 : a.digest = b.digest
          ·by_cases h11 : v9 a.cert b.cert = true
           ·by_cases h12 : a.state = b.state
            ·refine T.bool (f5 (ao4 a b) Tryz.func86 ?_) (by simp [m7, h1, h2, h3, h4, h5, h6, h7, h8, h9, h10, h11, h12] <;> omega)
             simp only [All, f3, u2]
             and_intros
             all_goals first | exact ag9 a.batch b.batch h.batch | exact aD7 a b h.nheld h.held | exact ay4 a.news b.news h.nnews | exact a_3 a.cert b.cert h.cert | exact bK7 a.sig b.sig h.n | (simp [h1, h2, h3, h4, h5, h6, h7, h8, h9, h10, h11, h12]; done) | exact h7
            ·refine T.bool (f5 (ao3 a b) Tryz.func86 ?_) (by simp [m7, h1, h2, h3, h4, h5, h6, h7, h8, h9, h10, h11, h12] <;> omega)
             simp only [All, f3, u2]
             and_intros
             all_goals first | exact ag9 a.batch b.batch h.batch | exact aD7 a b h.nheld h.held | exact ay4 a.news b.news h.nnews | exact a_3 a.cert b.cert h.cert | (simp [h1, h2, h3, h4, h5, h6, h7, h8, h9, h10, h11, h12]; done) | exact h7
           ·refine T.bool (f5 (ao2 a b) Tryz.func86 ?_) (by simp [m7, h1, h2, h3, h4, h5, h6, h7, h8, h9, h10, h11] <;> omega)
            simp only [All, f3, u2]
            and_intros
            all_goals first | exact ag9 a.batch b.batch h.batch | exact aD7 a b h.nheld h.held | exact ay4 a.news b.news h.nnews | exact a_3 a.cert b.cert h.cert | (simp [h1, h2, h3, h4, h5, h6, h7, h8, h9, h10, h11]; done) | exact h7
          ·refine T.bool (f5 (ao1 a b) Tryz.func86 ?_) (by simp [m7, h1, h2, h3, h4, h5, h6, h7, h8, h9, h10] <;> omega)
           simp only [All, f3, u2]
           and_intros
           all_goals first | exact ag9 a.batch b.batch h.batch | exact aD7 a b h.nheld h.held | exact ay4 a.news b.news h.nnews | (simp [h1, h2, h3, h4, h5, h6, h7, h8, h9, h10]; done) | exact h7
         ·refine T.bool (f5 (ao0 a b) Tryz.func86 ?_) (by simp [m7, h1, h2, h3, h4, h5, h6, h7, h8, h9] <;> omega)
          simp only [All, f3, u2]
          and_intros
          all_goals first | exact ag9 a.batch b.batch h.batch | exact aD7 a b h.nheld h.held | exact ay4 a.news b.news h.nnews | (simp [h1, h2, h3, h4, h5, h6, h7, h8, h9]; done) | exact h7
        ·refine T.bool (f5 (an_ a b) Tryz.func86 ?_) (by simp [m7, h1, h2, h3, h4, h5, h6, h7, h8] <;> omega)
         simp only [All, f3, u2]
         and_intros
         all_goals first | exact ag9 a.batch b.batch h.batch | exact aD7 a b h.nheld h.held | (simp [h1, h2, h3, h4, h5, h6, h7, h8]; done) | exact h7
       ·refine T.bool (f5 (an9 a b) Tryz.func86 ?_) (by simp [m7, h1, h2, h3, h4, h5, h6, h7] <;> omega)
        simp only [All, f3, u2]
        and_intros
        all_goals first | exact ag9 a.batch b.batch h.batch | (simp [h1, h2, h3, h4, h5, h6, h7]; done) | exact Bool.eq_false_iff.mpr h7
      ·refine T.bool (f5 (an8 a b) Tryz.func86 ?_) (by simp [m7, h1, h2, h3, h4, h5, h6] <;> omega)
       simp only [All, f3, u2]
       and_intros
       all_goals first | exact ag9 a.batch b.batch h.batch | (simp [h1, h2, h3, h4, h5, h6]; done)
     ·refine T.bool (f5 (an7 a b) Tryz.func86 ?_) (by simp [m7, h1, h2, h3, h4, h5] <;> omega)
      simp only [All, f3, u2]
      and_intros
      all_goals first | (simp [h1, h2, h3, h4, h5]; done)
    ·refine T.bool (f5 (an6 a b) Tryz.func86 ?_) (by simp [m7, h1, h2, h3, h4] <;> omega)
     simp only [All, f3, u2]
     and_intros
     all_goals first | (simp [h1, h2, h3, h4]; done)
   ·refine T.bool (f5 (an5 a b) Tryz.func86 ?_) (by simp [m7, h1, h2, h3] <;> omega)
    simp only [All, f3, u2]
    and_intros
    all_goals first | (simp [h1, h2, h3]; done)
  ·refine T.bool (f5 (an4 a b) Tryz.func86 ?_) (by simp [m7, h1, h2] <;> omega)
   simp only [All, f3, u2]
   and_intros
   all_goals first | (simp [h1, h2]; done)
 ·refine T.bool (f5 (an3 a b) Tryz.func86 ?_) (by simp [m7, h1] <;> omega)
  simp only [All, f3, u2]
  and_intros
  all_goals first | (simp [h1]; done)
def L4 : SVote := { digest := z32 }
def j2 (k : Int) : SMsg := { kind := k, vote := L4, digest := z32, cert := { vote := L4 } }
def cw7 (r : SMsg) : Exit → St → Option W := fun _ st => some ⟨[], [(2, .set (.ptr (.o 64) 0 0 0 0))], [(.o 64, .set (.flat r.c))], none, st.next⟩
def o1 (m : SMsg) : SMsg := { j2 m.kind with epoch := m.epoch, slot := m.slot, batch := m.batch }
def o2 (m : SMsg) : SMsg := { j2 m.kind with vote := m.vote }
def o3 (m : SMsg) : SMsg := { j2 m.kind with cepoch := m.cepoch, cleader := m.cleader, cview := m.cview, nheld := m.nheld, held := m.held }
def o4 (m : SMsg) : SMsg := { j2 m.kind with epoch := m.epoch, leader := m.leader, view := m.view, nnews := m.nnews, news := m.news }
def o5 (m : SMsg) : SMsg := { j2 m.kind with epoch := m.epoch, digest := m.digest }
def o6 (m : SMsg) : SMsg := { j2 m.kind with epoch := m.epoch, slot := m.slot }
def o7 (m : SMsg) : SMsg := { j2 m.kind with batch := m.batch, cert := m.cert }
def o8 (m : SMsg) : SMsg := { j2 m.kind with state := m.state, n := m.n, sig := m.sig }
def o9 (m : SMsg) : SMsg := j2 m.kind
def m5 (m : SMsg) : SMsg :=
 if m.kind = 2 then o2 m else if m.kind = 3 then o3 m else if m.kind = 4 then o4 m else if m.kind = 5 then o5 m else
 if m.kind = 1 then o1 m else if m.kind = 6 then o6 m else if m.kind = 7 then o7 m else if m.kind = 8 then o8 m else o9 m
noncomputable def U7 (m r : SMsg) : Bd := { f := Tryz.f87, args := [.agg m.c], kb := kb0, k := cw7 r }
noncomputable def bdO1 (m : SMsg) : Bd := U7 m (o1 m)
noncomputable def bdO2 (m : SMsg) : Bd := U7 m (o2 m)
noncomputable def bdO3 (m : SMsg) : Bd := U7 m (o3 m)
noncomputable def bdO4 (m : SMsg) : Bd := U7 m (o4 m)
noncomputable def bdO5 (m : SMsg) : Bd := U7 m (o5 m)
noncomputable def bdO6 (m : SMsg) : Bd := U7 m (o6 m)
noncomputable def bdO7 (m : SMsg) : Bd := U7 m (o7 m)
noncomputable def bdO8 (m : SMsg) : Bd := U7 m (o8 m)
noncomputable def bdO9 (m : SMsg) : Bd := U7 m (o9 m)
noncomputable def z4 (m o : SMsg) : Bd := { f := Tryz.f52, args := [.agg m.c], kb := { db := dbV [(87, .agg o.c), (86, .bool (m7 m o)), (88, .bool (u7 m.vote)), (89, .bool (A2 m.cert)), (91, .bool (p8 m.batch)), (92, .bool (w9 m)), (93, .bool (u0 m.nnews 64 (fun i => u4 (m.news i)))), (95, .bool (u0 m.n 64 (fun i => r8 (m.sig i))))] } }
def v5 (m : SMsg) : Bool := decide (1 ≤ m.kind) && (decide (m.kind ≤ 8) && (m7 m (m5 m) && ((!decide (m.kind = 2) || u7 m.vote) && ((!decide (m.kind = 7) || A2 m.cert) && (j5 m.epoch 1048576 && (j5 m.slot 1099511627776 && (j5 m.view 1099511627776 && (j5 m.leader 64 && (p8 m.batch && (w9 m && (u0 m.nnews 64 (fun i => u4 (m.news i)) && (u0 m.n 64 (fun i => r8 (m.sig i)) && decide ((m.state.size : Int) ≤ 4194304)))))))))))))
theorem bR_ (m : SMsg) :
  f4 zp (bdO2 m) [true] = (some (.agg [.int .i64 (SMsg.kind m), .int .i64 0, .int .i64 0, .int .i64 0, .int .i64 0, .bool false, rq 0 fun x => SReq.mk (0 : Int) (0 : Int) ByteArray.empty [], .int .i64 (SVote.kind (SMsg.vote m)), .int .i64 (SVote.epoch (SMsg.vote m)), .int .i64 (SVote.view (SMsg.vote m)), .int .i64 (SVote.slot (SMsg.vote m)), .seg .u8 32 (SVote.digest (SMsg.vote m)), .int .i64 0, .int .i64 0, .int .i64 0, hl 0 fun x => SHeld.mk (SBatch.mk false 0 fun x => SReq.mk (0 : Int) (0 : Int) ByteArray.empty []) (SCert.mk (SVote.mk (0 : Int) (0 : Int) (0 : Int) (0 : Int) []) 0 fun x => SSign.mk (0 : Int) []), nw 0 fun x => SEnv.mk (0 : Int) ByteArray.empty [], .seg .u8 32 z32, .int .i64 0, .int .i64 0, .int .i64 0, .int .i64 0, .seg .u8 32 z32, sg 0 fun x => SSign.mk (0 : Int) [], .str ByteArray.empty, sg 0 fun x => SSign.mk (0 : Int) []], [], [decide (SMsg.kind m = (2 : Int)) = true, q (SMsg.kind m), q1, q1, q1, q1, q false, q0, q (SVote.kind (SMsg.vote m)), q (SVote.epoch (SMsg.vote m)), q (SVote.view (SMsg.vote m)), q (SVote.slot (SMsg.vote m)), q (32 : Nat), q (SVote.digest (SMsg.vote m)), q1, q1, q1, q0, q0, q (32 : Nat), q z32, q1, q1, q1, q1, q (32 : Nat), q z32, q0, q ByteArray.empty, q0, q0, q0, q0]) : Option (V × c5 × List Prop)) := by kernel_rfl
theorem bz0 (m : SMsg) :
  f4 zp (bdO3 m) [false, true] = (some (.agg [.int .i64 (SMsg.kind m), .int .i64 0, .int .i64 0, .int .i64 0, .int .i64 0, .bool false, rq 0 fun x => SReq.mk (0 : Int) (0 : Int) ByteArray.empty [], .int .i64 0, .int .i64 0, .int .i64 0, .int .i64 0, .seg .u8 32 z32, .int .i64 (SMsg.cepoch m), .int .i64 (SMsg.cleader m), .int .i64 (SMsg.cview m), hl (SMsg.nheld m) (SMsg.held m), nw 0 fun x => SEnv.mk (0 : Int) ByteArray.empty [], .seg .u8 32 z32, .int .i64 0, .int .i64 0, .int .i64 0, .int .i64 0, .seg .u8 32 z32, sg 0 fun x => SSign.mk (0 : Int) [], .str ByteArray.empty, sg 0 fun x => SSign.mk (0 : Int) []], [], [decide (SMsg.kind m = (2 : Int)) = false, decide (SMsg.kind m = (3 : Int)) = true, q (SMsg.kind m), q1, q1, q1, q1, q false, q0, q1, q1, q1, q1, q (32 : Nat), q z32, q (SMsg.cepoch m), q (SMsg.cleader m), q (SMsg.cview m), q (SMsg.nheld m), ∀ (k : Nat), k < SMsg.nheld m → SHeld.c (SMsg.held m k) = SHeld.c (SMsg.held (SMsg.mk (SMsg.kind m) (0 : Int) (0 : Int) (0 : Int) (0 : Int) (SBatch.mk false (0 : Nat) fun x => SReq.mk (0 : Int) (0 : Int) ByteArray.empty []) L4 (SMsg.cepoch m) (SMsg.cleader m) (SMsg.cview m) (SMsg.nheld m) (SMsg.held m) (0 : Nat) (fun x => SEnv.mk (0 : Int) ByteArray.empty []) z32 (SCert.mk L4 (0 : Nat) fun x => SSign.mk (0 : Int) []) ByteArray.empty (0 : Nat) fun x => SSign.mk (0 : Int) []) k), false = true → false = true, q0, q (32 : Nat), q z32, q1, q1, q1, q1, q (32 : Nat), q z32, q0, q ByteArray.empty, q0, q0, q0, q0]) : Option (V × c5 × List Prop)) := by kernel_rfl
theorem bk_ (m : SMsg) :
  f4 zp (bdO4 m) [false, false, true] = (some (.agg [.int .i64 (SMsg.kind m), .int .i64 (SMsg.epoch m), .int .i64 (SMsg.leader m), .int .i64 (SMsg.view m), .int .i64 0, .bool false, rq 0 fun x => SReq.mk (0 : Int) (0 : Int) ByteArray.empty [], .int .i64 0, .int .i64 0, .int .i64 0, .int .i64 0, .seg .u8 32 z32, .int .i64 0, .int .i64 0, .int .i64 0, hl 0 fun x => SHeld.mk (SBatch.mk false 0 fun x => SReq.mk (0 : Int) (0 : Int) ByteArray.empty []) (SCert.mk (SVote.mk (0 : Int) (0 : Int) (0 : Int) (0 : Int) []) 0 fun x => SSign.mk (0 : Int) []), nw (SMsg.nnews m) (SMsg.news m), .seg .u8 32 z32, .int .i64 0, .int .i64 0, .int .i64 0, .int .i64 0, .seg .u8 32 z32, sg 0 fun x => SSign.mk (0 : Int) [], .str ByteArray.empty, sg 0 fun x => SSign.mk (0 : Int) []], [], [decide (SMsg.kind m = (2 : Int)) = false, decide (SMsg.kind m = (3 : Int)) = false, decide (SMsg.kind m = (4 : Int)) = true, q (SMsg.kind m), q (SMsg.epoch m), q (SMsg.leader m), q (SMsg.view m), q1, q false, q0, q1, q1, q1, q1, q (32 : Nat), q z32, q1, q1, q1, q0, q (SMsg.nnews m), ∀ (k : Nat), k < SMsg.nnews m → SEnv.c (SMsg.news m k) = SEnv.c (SMsg.news (SMsg.mk (SMsg.kind m) (SMsg.epoch m) (SMsg.leader m) (SMsg.view m) (0 : Int) (SBatch.mk false (0 : Nat) fun x => SReq.mk (0 : Int) (0 : Int) ByteArray.empty []) L4 (0 : Int) (0 : Int) (0 : Int) (0 : Nat) (fun x => SHeld.mk (SBatch.mk false (0 : Nat) fun x => SReq.mk (0 : Int) (0 : Int) ByteArray.empty []) (SCert.mk (SVote.mk (0 : Int) (0 : Int) (0 : Int) (0 : Int) []) (0 : Nat) fun x => SSign.mk (0 : Int) [])) (SMsg.nnews m) (SMsg.news m) z32 (SCert.mk L4 (0 : Nat) fun x => SSign.mk (0 : Int) []) ByteArray.empty (0 : Nat) fun x => SSign.mk (0 : Int) []) k), false = true → false = true, q (32 : Nat), q z32, q1, q1, q1, q1, q (32 : Nat), q z32, q0, q ByteArray.empty, q0, q0, q0, q0]) : Option (V × c5 × List Prop)) := by kernel_rfl
theorem bc4 (m : SMsg) :
  f4 zp (bdO5 m) [false, false, false, true] = (some (.agg [.int .i64 (SMsg.kind m), .int .i64 (SMsg.epoch m), .int .i64 0, .int .i64 0, .int .i64 0, .bool false, rq 0 fun x => SReq.mk (0 : Int) (0 : Int) ByteArray.empty [], .int .i64 0, .int .i64 0, .int .i64 0, .int .i64 0, .seg .u8 32 z32, .int .i64 0, .int .i64 0, .int .i64 0, hl 0 fun x => SHeld.mk (SBatch.mk false 0 fun x => SReq.mk (0 : Int) (0 : Int) ByteArray.empty []) (SCert.mk (SVote.mk (0 : Int) (0 : Int) (0 : Int) (0 : Int) []) 0 fun x => SSign.mk (0 : Int) []), nw 0 fun x => SEnv.mk (0 : Int) ByteArray.empty [], .seg .u8 32 (SMsg.digest m), .int .i64 0, .int .i64 0, .int .i64 0, .int .i64 0, .seg .u8 32 z32, sg 0 fun x => SSign.mk (0 : Int) [], .str ByteArray.empty, sg 0 fun x => SSign.mk (0 : Int) []], [], [decide (SMsg.kind m = (2 : Int)) = false, decide (SMsg.kind m = (3 : Int)) = false, decide (SMsg.kind m = (4 : Int)) = false, decide (SMsg.kind m = (5 : Int)) = true, q (SMsg.kind m), q (SMsg.epoch m), q1, q1, q1, q false, q0, q1, q1, q1, q1, q (32 : Nat), q z32, q1, q1, q1, q0, q0, q (32 : Nat), q (SMsg.digest m), q1, q1, q1, q1, q (32 : Nat), q z32, q0, q ByteArray.empty, q0, q0, q0, q0]) : Option (V × c5 × List Prop)) := by kernel_rfl
theorem aX0 (m : SMsg) :
  f4 zp (bdO1 m) [false, false, false, false, true] = (some (.agg [.int .i64 (SMsg.kind m), .int .i64 (SMsg.epoch m), .int .i64 0, .int .i64 0, .int .i64 (SMsg.slot m), .bool (SBatch.noop (SMsg.batch m)), rq (SBatch.n (SMsg.batch m)) (SBatch.req (SMsg.batch m)), .int .i64 0, .int .i64 0, .int .i64 0, .int .i64 0, .seg .u8 32 z32, .int .i64 0, .int .i64 0, .int .i64 0, hl 0 fun x => SHeld.mk (SBatch.mk false 0 fun x => SReq.mk (0 : Int) (0 : Int) ByteArray.empty []) (SCert.mk (SVote.mk (0 : Int) (0 : Int) (0 : Int) (0 : Int) []) 0 fun x => SSign.mk (0 : Int) []), nw 0 fun x => SEnv.mk (0 : Int) ByteArray.empty [], .seg .u8 32 z32, .int .i64 0, .int .i64 0, .int .i64 0, .int .i64 0, .seg .u8 32 z32, sg 0 fun x => SSign.mk (0 : Int) [], .str ByteArray.empty, sg 0 fun x => SSign.mk (0 : Int) []], [], [decide (SMsg.kind m = (2 : Int)) = false, decide (SMsg.kind m = (3 : Int)) = false, decide (SMsg.kind m = (4 : Int)) = false, decide (SMsg.kind m = (5 : Int)) = false, decide (SMsg.kind m = (1 : Int)) = true, q (SMsg.kind m), q (SMsg.epoch m), q1, q1, q (SMsg.slot m), q (SBatch.noop (SMsg.batch m)), q (SBatch.n (SMsg.batch m)), ∀ (k : Nat), k < SBatch.n (SMsg.batch m) → SReq.c (SBatch.req (SMsg.batch m) k) = SReq.c (SBatch.req (SMsg.batch m) k), false = true → false = true, q1, q1, q1, q1, q (32 : Nat), q z32, q1, q1, q1, q0, q0, q (32 : Nat), q z32, q1, q1, q1, q1, q (32 : Nat), q z32, q0, q ByteArray.empty, q0, q0, q0, q0]) : Option (V × c5 × List Prop)) := by kernel_rfl
theorem aP7 (m : SMsg) :
  f4 zp (bdO6 m) [false, false, false, false, false, true] = (some (.agg [.int .i64 (SMsg.kind m), .int .i64 (SMsg.epoch m), .int .i64 0, .int .i64 0, .int .i64 (SMsg.slot m), .bool false, rq 0 fun x => SReq.mk (0 : Int) (0 : Int) ByteArray.empty [], .int .i64 0, .int .i64 0, .int .i64 0, .int .i64 0, .seg .u8 32 z32, .int .i64 0, .int .i64 0, .int .i64 0, hl 0 fun x => SHeld.mk (SBatch.mk false 0 fun x => SReq.mk (0 : Int) (0 : Int) ByteArray.empty []) (SCert.mk (SVote.mk (0 : Int) (0 : Int) (0 : Int) (0 : Int) []) 0 fun x => SSign.mk (0 : Int) []), nw 0 fun x => SEnv.mk (0 : Int) ByteArray.empty [], .seg .u8 32 z32, .int .i64 0, .int .i64 0, .int .i64 0, .int .i64 0, .seg .u8 32 z32, sg 0 fun x => SSign.mk (0 : Int) [], .str ByteArray.empty, sg 0 fun x => SSign.mk (0 : Int) []], [], [decide (SMsg.kind m = (2 : Int)) = false, decide (SMsg.kind m = (3 : Int)) = false, decide (SMsg.kind m = (4 : Int)) = false, decide (SMsg.kind m = (5 : Int)) = false, decide (SMsg.kind m = (1 : Int)) = false, decide (SMsg.kind m = (6 : Int)) = true, q (SMsg.kind m), q (SMsg.epoch m), q1, q1, q (SMsg.slot m), q false, q0, q1, q1, q1, q1, q (32 : Nat), q z32, q1, q1, q1, q0, q0, q (32 : Nat), q z32, q1, q1, q1, q1, q (32 : Nat), q z32, q0, q ByteArray.empty, q0, q0, q0, q0]) : Option (V × c5 × List Prop)) := by kernel_rfl
theorem aK9 (m : SMsg) :
  f4 zp (bdO7 m) [false, false, false, false, false, false, true] = (some (.agg [.int .i64 (SMsg.kind m), .int .i64 0, .int .i64 0, .int .i64 0, .int .i64 0, .bool (SBatch.noop (SMsg.batch m)), rq (SBatch.n (SMsg.batch m)) (SBatch.req (SMsg.batch m)), .int .i64 0, .int .i64 0, .int .i64 0, .int .i64 0, .seg .u8 32 z32, .int .i64 0, .int .i64 0, .int .i64 0, hl 0 fun x => SHeld.mk (SBatch.mk false 0 fun x => SReq.mk (0 : Int) (0 : Int) ByteArray.empty []) (SCert.mk (SVote.mk (0 : Int) (0 : Int) (0 : Int) (0 : Int) []) 0 fun x => SSign.mk (0 : Int) []), nw 0 fun x => SEnv.mk (0 : Int) ByteArray.empty [], .seg .u8 32 z32, .int .i64 (SVote.kind (SCert.vote (SMsg.cert m))), .int .i64 (SVote.epoch (SCert.vote (SMsg.cert m))), .int .i64 (SVote.view (SCert.vote (SMsg.cert m))), .int .i64 (SVote.slot (SCert.vote (SMsg.cert m))), .seg .u8 32 (SVote.digest (SCert.vote (SMsg.cert m))), sg (SCert.n (SMsg.cert m)) (SCert.sig (SMsg.cert m)), .str ByteArray.empty, sg 0 fun x => SSign.mk (0 : Int) []], [], [decide (SMsg.kind m = (2 : Int)) = false, decide (SMsg.kind m = (3 : Int)) = false, decide (SMsg.kind m = (4 : Int)) = false, decide (SMsg.kind m = (5 : Int)) = false, decide (SMsg.kind m = (1 : Int)) = false, decide (SMsg.kind m = (6 : Int)) = false, decide (SMsg.kind m = (7 : Int)) = true, q (SMsg.kind m), q1, q1, q1, q1, q (SBatch.noop (SMsg.batch m)), q (SBatch.n (SMsg.batch m)), ∀ (k : Nat), k < SBatch.n (SMsg.batch m) → SReq.c (SBatch.req (SMsg.batch m) k) = SReq.c (SBatch.req (SMsg.batch m) k), false = true → false = true, q1, q1, q1, q1, q (32 : Nat), q z32, q1, q1, q1, q0, q0, q (32 : Nat), q z32, q (SVote.kind (SCert.vote (SMsg.cert m))), q (SVote.epoch (SCert.vote (SMsg.cert m))), q (SVote.view (SCert.vote (SMsg.cert m))), q (SVote.slot (SCert.vote (SMsg.cert m))), q (32 : Nat), q (SVote.digest (SCert.vote (SMsg.cert m))), q (SCert.n (SMsg.cert m)), ∀ (k : Nat), k < SCert.n (SMsg.cert m) → SSign.c (SCert.sig (SMsg.cert m) k) = SSign.c (SCert.sig (SMsg.cert m) k), false = true → false = true, q ByteArray.empty, q0, q0, q0, q0]) : Option (V × c5 × List Prop)) := by kernel_rfl
theorem aE6 (m : SMsg) :
  f4 zp (bdO8 m) [false, false, false, false, false, false, false, true] = (some (.agg [.int .i64 (SMsg.kind m), .int .i64 0, .int .i64 0, .int .i64 0, .int .i64 0, .bool false, rq 0 fun x => SReq.mk (0 : Int) (0 : Int) ByteArray.empty [], .int .i64 0, .int .i64 0, .int .i64 0, .int .i64 0, .seg .u8 32 z32, .int .i64 0, .int .i64 0, .int .i64 0, hl 0 fun x => SHeld.mk (SBatch.mk false 0 fun x => SReq.mk (0 : Int) (0 : Int) ByteArray.empty []) (SCert.mk (SVote.mk (0 : Int) (0 : Int) (0 : Int) (0 : Int) []) 0 fun x => SSign.mk (0 : Int) []), nw 0 fun x => SEnv.mk (0 : Int) ByteArray.empty [], .seg .u8 32 z32, .int .i64 0, .int .i64 0, .int .i64 0, .int .i64 0, .seg .u8 32 z32, sg 0 fun x => SSign.mk (0 : Int) [], .str (SMsg.state m), sg (SMsg.n m) (SMsg.sig m)], [], [decide (SMsg.kind m = (2 : Int)) = false, decide (SMsg.kind m = (3 : Int)) = false, decide (SMsg.kind m = (4 : Int)) = false, decide (SMsg.kind m = (5 : Int)) = false, decide (SMsg.kind m = (1 : Int)) = false, decide (SMsg.kind m = (6 : Int)) = false, decide (SMsg.kind m = (7 : Int)) = false, decide (SMsg.kind m = (8 : Int)) = true, q (SMsg.kind m), q1, q1, q1, q1, q false, q0, q1, q1, q1, q1, q (32 : Nat), q z32, q1, q1, q1, q0, q0, q (32 : Nat), q z32, q1, q1, q1, q1, q (32 : Nat), q z32, q0, q (SMsg.state m), q (SMsg.n m), ∀ (k : Nat), k < SMsg.n m → SSign.c (SMsg.sig m k) = SSign.c (SMsg.sig (SMsg.mk (SMsg.kind m) (0 : Int) (0 : Int) (0 : Int) (0 : Int) (SBatch.mk false (0 : Nat) fun x => SReq.mk (0 : Int) (0 : Int) ByteArray.empty []) L4 (0 : Int) (0 : Int) (0 : Int) (0 : Nat) (fun x => SHeld.mk (SBatch.mk false (0 : Nat) fun x => SReq.mk (0 : Int) (0 : Int) ByteArray.empty []) (SCert.mk (SVote.mk (0 : Int) (0 : Int) (0 : Int) (0 : Int) []) (0 : Nat) fun x => SSign.mk (0 : Int) [])) (0 : Nat) (fun x => SEnv.mk (0 : Int) ByteArray.empty []) z32 (SCert.mk L4 (0 : Nat) fun x => SSign.mk (0 : Int) []) (SMsg.state m) (SMsg.n m) (SMsg.sig m)) k), false = true → false = true, q0, q0, q0]) : Option (V × c5 × List Prop)) := by kernel_rfl
theorem aE7 (m : SMsg) :
  f4 zp (bdO9 m) [false, false, false, false, false, false, false, false] = (some (.agg [.int .i64 (SMsg.kind m), .int .i64 0, .int .i64 0, .int .i64 0, .int .i64 0, .bool false, rq 0 fun x => SReq.mk (0 : Int) (0 : Int) ByteArray.empty [], .int .i64 0, .int .i64 0, .int .i64 0, .int .i64 0, .seg .u8 32 z32, .int .i64 0, .int .i64 0, .int .i64 0, hl 0 fun x => SHeld.mk (SBatch.mk false 0 fun x => SReq.mk (0 : Int) (0 : Int) ByteArray.empty []) (SCert.mk (SVote.mk (0 : Int) (0 : Int) (0 : Int) (0 : Int) []) 0 fun x => SSign.mk (0 : Int) []), nw 0 fun x => SEnv.mk (0 : Int) ByteArray.empty [], .seg .u8 32 z32, .int .i64 0, .int .i64 0, .int .i64 0, .int .i64 0, .seg .u8 32 z32, sg 0 fun x => SSign.mk (0 : Int) [], .str ByteArray.empty, sg 0 fun x => SSign.mk (0 : Int) []], [], [decide (SMsg.kind m = (2 : Int)) = false, decide (SMsg.kind m = (3 : Int)) = false, decide (SMsg.kind m = (4 : Int)) = false, decide (SMsg.kind m = (5 : Int)) = false, decide (SMsg.kind m = (1 : Int)) = false, decide (SMsg.kind m = (6 : Int)) = false, decide (SMsg.kind m = (7 : Int)) = false, decide (SMsg.kind m = (8 : Int)) = false, q (SMsg.kind m), q1, q1, q1, q1, q false, q0, q1, q1, q1, q1, q (32 : Nat), q z32, q1, q1, q1, q0, q0, q (32 : Nat), q z32, q1, q1, q1, q1, q (32 : Nat), q z32, q0, q ByteArray.empty, q0, q0, q0, q0]) : Option (V × c5 × List Prop)) := by kernel_rfl
noncomputable def f2 (m : SMsg) (o : SMsg) : Nat → List Prop
 | 0 => [decide ((8 : Int) < SMsg.kind m) = false, T zp 87 [.agg (SMsg.c m)] [] (.agg (SMsg.c o)) [], T zp 86 [.agg (SMsg.c m), .agg (SMsg.c o)] [] (.bool (m7 m o)) []]
 | 1 => [decide (SMsg.kind m = (2 : Int)) = true, T zp 88 [.agg (SVote.c (SMsg.vote m))] [] (.bool (u7 (SMsg.vote m))) []]
 | 2 => [(!u7 (SMsg.vote m)) = false, decide (SMsg.kind m = (7 : Int)) = false, q false, T zp 90 [.int .i64 (SMsg.epoch m), .int .i64 1048576] [] (.bool (j5 (SMsg.epoch m) (1048576 : Int))) []]
 | 3 => [j5 (SMsg.epoch m) (1048576 : Int) = true, T zp 90 [.int .i64 (SMsg.slot m), .int .i64 1099511627776] [] (.bool (j5 (SMsg.slot m) (1099511627776 : Int))) []]
 | 4 => [j5 (SMsg.slot m) (1099511627776 : Int) = true, T zp 90 [.int .i64 (SMsg.view m), .int .i64 1099511627776] [] (.bool (j5 (SMsg.view m) (1099511627776 : Int))) []]
 | 5 => [j5 (SMsg.view m) (1099511627776 : Int) = true, T zp 90 [.int .i64 (SMsg.leader m), .int .i64 64] [] (.bool (j5 (SMsg.leader m) (64 : Int))) []]
 | 6 => [j5 (SMsg.leader m) (64 : Int) = true, T zp 91 [.agg (SBatch.c (SMsg.batch m))] [] (.bool (p8 (SMsg.batch m))) []]
 | 7 => [p8 (SMsg.batch m) = true, T zp 92 [.agg [.int .i64 (SMsg.cepoch m), .int .i64 (SMsg.cleader m), .int .i64 (SMsg.cview m), hl (SMsg.nheld m) (SMsg.held m)]] [] (.bool (w9 m)) []]
 | 8 => [w9 m = true, T zp 93 [.ros 18 (SMsg.nnews m) (fun i => SEnv.c (SMsg.news m i)) false, .int .i64 64, .fn (.func 94) [] []] [] (.bool (u0 (SMsg.nnews m) 64 fun i => u4 (SMsg.news m i))) []]
 | 9 => [(u0 (SMsg.nnews m) (64 : Nat) fun i => u4 (SMsg.news m i)) = true, T zp 95 [.ros 17 (SMsg.n m) (fun i => SSign.c (SMsg.sig m i)) false, .int .i64 64, .fn (.func 96) [] []] [] (.bool (u0 (SMsg.n m) 64 fun i => r8 (SMsg.sig m i))) []]
 | 10 => [decide (SMsg.kind m = (7 : Int)) = true, T zp 89 [.agg [.int .i64 (SVote.kind (SCert.vote (SMsg.cert m))), .int .i64 (SVote.epoch (SCert.vote (SMsg.cert m))), .int .i64 (SVote.view (SCert.vote (SMsg.cert m))), .int .i64 (SVote.slot (SCert.vote (SMsg.cert m))), .seg .u8 32 (SVote.digest (SCert.vote (SMsg.cert m))), sg (SCert.n (SMsg.cert m)) (SCert.sig (SMsg.cert m))]] [] (.bool (A2 (SMsg.cert m))) []]
 | 11 => [(!A2 (SMsg.cert m)) = false, T zp 90 [.int .i64 (SMsg.epoch m), .int .i64 1048576] [] (.bool (j5 (SMsg.epoch m) (1048576 : Int))) []]
 | 12 => [j5 (SMsg.epoch m) (1048576 : Int) = true, T zp 90 [.int .i64 (SMsg.slot m), .int .i64 1099511627776] [] (.bool (j5 (SMsg.slot m) (1099511627776 : Int))) []]
 | 13 => [j5 (SMsg.slot m) (1099511627776 : Int) = true, T zp 90 [.int .i64 (SMsg.view m), .int .i64 1099511627776] [] (.bool (j5 (SMsg.view m) (1099511627776 : Int))) []]
 | 14 => [j5 (SMsg.view m) (1099511627776 : Int) = true, T zp 90 [.int .i64 (SMsg.leader m), .int .i64 64] [] (.bool (j5 (SMsg.leader m) (64 : Int))) []]
 | 15 => [j5 (SMsg.leader m) (64 : Int) = true, T zp 91 [.agg (SBatch.c (SMsg.batch m))] [] (.bool (p8 (SMsg.batch m))) []]
 | 16 => [p8 (SMsg.batch m) = true, T zp 92 [.agg [.int .i64 (SMsg.cepoch m), .int .i64 (SMsg.cleader m), .int .i64 (SMsg.cview m), hl (SMsg.nheld m) (SMsg.held m)]] [] (.bool (w9 m)) []]
 | 17 => [w9 m = true, T zp 93 [.ros 18 (SMsg.nnews m) (fun i => SEnv.c (SMsg.news m i)) false, .int .i64 64, .fn (.func 94) [] []] [] (.bool (u0 (SMsg.nnews m) 64 fun i => u4 (SMsg.news m i))) []]
 | 18 => [(u0 (SMsg.nnews m) (64 : Nat) fun i => u4 (SMsg.news m i)) = true, T zp 95 [.ros 17 (SMsg.n m) (fun i => SSign.c (SMsg.sig m i)) false, .int .i64 64, .fn (.func 96) [] []] [] (.bool (u0 (SMsg.n m) 64 fun i => r8 (SMsg.sig m i))) []]
 | 19 => [decide (SMsg.kind m = (7 : Int)) = false, q false, T zp 90 [.int .i64 (SMsg.epoch m), .int .i64 1048576] [] (.bool (j5 (SMsg.epoch m) (1048576 : Int))) []]
 | 20 => [j5 (SMsg.epoch m) (1048576 : Int) = true, T zp 90 [.int .i64 (SMsg.slot m), .int .i64 1099511627776] [] (.bool (j5 (SMsg.slot m) (1099511627776 : Int))) []]
 | 21 => [j5 (SMsg.slot m) (1099511627776 : Int) = true, T zp 90 [.int .i64 (SMsg.view m), .int .i64 1099511627776] [] (.bool (j5 (SMsg.view m) (1099511627776 : Int))) []]
 | 22 => [j5 (SMsg.view m) (1099511627776 : Int) = true, T zp 90 [.int .i64 (SMsg.leader m), .int .i64 64] [] (.bool (j5 (SMsg.leader m) (64 : Int))) []]
 | 23 => [j5 (SMsg.leader m) (64 : Int) = true, T zp 91 [.agg (SBatch.c (SMsg.batch m))] [] (.bool (p8 (SMsg.batch m))) []]
 | 24 => [p8 (SMsg.batch m) = true, T zp 92 [.agg [.int .i64 (SMsg.cepoch m), .int .i64 (SMsg.cleader m), .int .i64 (SMsg.cview m), hl (SMsg.nheld m) (SMsg.held m)]] [] (.bool (w9 m)) []]
 | 25 => [w9 m = true, T zp 93 [.ros 18 (SMsg.nnews m) (fun i => SEnv.c (SMsg.news m i)) false, .int .i64 64, .fn (.func 94) [] []] [] (.bool (u0 (SMsg.nnews m) 64 fun i => u4 (SMsg.news m i))) []]
 | 26 => [(u0 (SMsg.nnews m) (64 : Nat) fun i => u4 (SMsg.news m i)) = true, T zp 95 [.ros 17 (SMsg.n m) (fun i => SSign.c (SMsg.sig m i)) false, .int .i64 64, .fn (.func 96) [] []] [] (.bool (u0 (SMsg.n m) 64 fun i => r8 (SMsg.sig m i))) []]
 | _ => []
theorem aW4 (m : SMsg) (o : SMsg) :
 f4 zp (z4 m o) [true, true, true] = (some (.bool false, [], [decide (SMsg.kind m < (1 : Int)) = true, q2, q2]) : Option (V × c5 × List Prop)) := by kernel_rfl
theorem aW3 (m : SMsg) (o : SMsg) :
 f4 zp (z4 m o) [false, true, true] = (some (.bool false, [], [decide (SMsg.kind m < (1 : Int)) = false, decide ((8 : Int) < SMsg.kind m) = true, q2]) : Option (V × c5 × List Prop)) := by kernel_rfl
theorem aW2 (m : SMsg) (o : SMsg) :
 f4 zp (z4 m o) [false, false, true] = (some (.bool false, [], [decide (SMsg.kind m < (1 : Int)) = false] ++ (f2 m o 0 ++ [(!m7 m o) = true])) : Option (V × c5 × List Prop)) := by kernel_rfl
theorem aE3 (m : SMsg) (o : SMsg) :
 f4 zp (z4 m o) [false, false, false, true, true, true] = (some (.bool false, [], [decide (SMsg.kind m < (1 : Int)) = false] ++ (f2 m o 0 ++ ([(!m7 m o) = false] ++ (f2 m o 1 ++ [(!u7 (SMsg.vote m)) = true, q2])))) : Option (V × c5 × List Prop)) := by kernel_rfl
theorem az8 (m : SMsg) (o : SMsg) :
 f4 zp (z4 m o) [false, false, false, false, false, true, true] = (some (.bool false, [], [decide (SMsg.kind m < (1 : Int)) = false] ++ (f2 m o 0 ++ ([(!m7 m o) = false, decide (SMsg.kind m = (2 : Int)) = false, q false] ++ (f2 m o 10 ++ [(!A2 (SMsg.cert m)) = true])))) : Option (V × c5 × List Prop)) := by kernel_rfl
theorem ae7 (m : SMsg) (o : SMsg) :
 f4 zp (z4 m o) [false, false, false, true, false, false, false, false, false, false, false, false, false, false, false] = (some (.bool false, [], [decide (SMsg.kind m < (1 : Int)) = false] ++ (f2 m o 0 ++ ([(!m7 m o) = false] ++ (f2 m o 1 ++ (f2 m o 2 ++ [j5 (SMsg.epoch m) (1048576 : Int) = false, q false, q false, q false, q false, q false, q false, q false]))))) : Option (V × c5 × List Prop)) := by kernel_rfl
theorem ae8 (m : SMsg) (o : SMsg) :
 f4 zp (z4 m o) [false, false, false, true, false, false, false, true, false, false, false, false, false, false, false] = (some (.bool false, [], [decide (SMsg.kind m < (1 : Int)) = false] ++ (f2 m o 0 ++ ([(!m7 m o) = false] ++ (f2 m o 1 ++ (f2 m o 2 ++ (f2 m o 3 ++ [j5 (SMsg.slot m) (1099511627776 : Int) = false, q false, q false, q false, q false, q false, q false])))))) : Option (V × c5 × List Prop)) := by kernel_rfl
theorem ae9 (m : SMsg) (o : SMsg) :
 f4 zp (z4 m o) [false, false, false, true, false, false, false, true, true, false, false, false, false, false, false] = (some (.bool false, [], [decide (SMsg.kind m < (1 : Int)) = false] ++ (f2 m o 0 ++ ([(!m7 m o) = false] ++ (f2 m o 1 ++ (f2 m o 2 ++ (f2 m o 3 ++ (f2 m o 4 ++ [j5 (SMsg.view m) (1099511627776 : Int) = false, q false, q false, q false, q false, q false]))))))) : Option (V × c5 × List Prop)) := by kernel_rfl
theorem ae_ (m : SMsg) (o : SMsg) :
 f4 zp (z4 m o) [false, false, false, true, false, false, false, true, true, true, false, false, false, false, false] = (some (.bool false, [], [decide (SMsg.kind m < (1 : Int)) = false] ++ (f2 m o 0 ++ ([(!m7 m o) = false] ++ (f2 m o 1 ++ (f2 m o 2 ++ (f2 m o 3 ++ (f2 m o 4 ++ (f2 m o 5 ++ [j5 (SMsg.leader m) (64 : Int) = false, q false, q false, q false, q false])))))))) : Option (V × c5 × List Prop)) := by kernel_rfl
theorem af0 (m : SMsg) (o : SMsg) :
 f4 zp (z4 m o) [false, false, false, true, false, false, false, true, true, true, true, false, false, false, false] = (some (.bool false, [], [decide (SMsg.kind m < (1 : Int)) = false] ++ (f2 m o 0 ++ ([(!m7 m o) = false] ++ (f2 m o 1 ++ (f2 m o 2 ++ (f2 m o 3 ++ (f2 m o 4 ++ (f2 m o 5 ++ (f2 m o 6 ++ [p8 (SMsg.batch m) = false, q false, q false, q false]))))))))) : Option (V × c5 × List Prop)) := by kernel_rfl
theorem af1 (m : SMsg) (o : SMsg) :
 f4 zp (z4 m o) [false, false, false, true, false, false, false, true, true, true, true, true, false, false, false] = (some (.bool false, [], [decide (SMsg.kind m < (1 : Int)) = false] ++ (f2 m o 0 ++ ([(!m7 m o) = false] ++ (f2 m o 1 ++ (f2 m o 2 ++ (f2 m o 3 ++ (f2 m o 4 ++ (f2 m o 5 ++ (f2 m o 6 ++ (f2 m o 7 ++ [w9 m = false, q false, q false])))))))))) : Option (V × c5 × List Prop)) := by kernel_rfl
theorem af2 (m : SMsg) (o : SMsg) :
 f4 zp (z4 m o) [false, false, false, true, false, false, false, true, true, true, true, true, true, false, false] = (some (.bool false, [], [decide (SMsg.kind m < (1 : Int)) = false] ++ (f2 m o 0 ++ ([(!m7 m o) = false] ++ (f2 m o 1 ++ (f2 m o 2 ++ (f2 m o 3 ++ (f2 m o 4 ++ (f2 m o 5 ++ (f2 m o 6 ++ (f2 m o 7 ++ (f2 m o 8 ++ [(u0 (SMsg.nnews m) (64 : Nat) fun i => u4 (SMsg.news m i)) = false, q false]))))))))))) : Option (V × c5 × List Prop)) := by kernel_rfl
theorem af3 (m : SMsg) (o : SMsg) :
 f4 zp (z4 m o) [false, false, false, true, false, false, false, true, true, true, true, true, true, true, false] = (some (.bool false, [], [decide (SMsg.kind m < (1 : Int)) = false] ++ (f2 m o 0 ++ ([(!m7 m o) = false] ++ (f2 m o 1 ++ (f2 m o 2 ++ (f2 m o 3 ++ (f2 m o 4 ++ (f2 m o 5 ++ (f2 m o 6 ++ (f2 m o 7 ++ (f2 m o 8 ++ (f2 m o 9 ++ [(u0 (SMsg.n m) (64 : Nat) fun i => r8 (SMsg.sig m i)) = false])))))))))))) : Option (V × c5 × List Prop)) := by kernel_rfl
theorem af4 (m : SMsg) (o : SMsg) :
 f4 zp (z4 m o) [false, false, false, true, false, false, false, true, true, true, true, true, true, true, true] = (some (.bool (decide ((↑(ByteArray.size (SMsg.state m)) : Int) ≤ (4194304 : Int))), [], [decide (SMsg.kind m < (1 : Int)) = false] ++ (f2 m o 0 ++ ([(!m7 m o) = false] ++ (f2 m o 1 ++ (f2 m o 2 ++ (f2 m o 3 ++ (f2 m o 4 ++ (f2 m o 5 ++ (f2 m o 6 ++ (f2 m o 7 ++ (f2 m o 8 ++ (f2 m o 9 ++ [(u0 (SMsg.n m) (64 : Nat) fun i => r8 (SMsg.sig m i)) = true])))))))))))) : Option (V × c5 × List Prop)) := by kernel_rfl
theorem ad9 (m : SMsg) (o : SMsg) :
 f4 zp (z4 m o) [false, false, false, false, false, true, false, false, false, false, false, false, false, false, false] = (some (.bool false, [], [decide (SMsg.kind m < (1 : Int)) = false] ++ (f2 m o 0 ++ ([(!m7 m o) = false, decide (SMsg.kind m = (2 : Int)) = false, q false] ++ (f2 m o 10 ++ (f2 m o 11 ++ [j5 (SMsg.epoch m) (1048576 : Int) = false, q false, q false, q false, q false, q false, q false, q false]))))) : Option (V × c5 × List Prop)) := by kernel_rfl
theorem ad_ (m : SMsg) (o : SMsg) :
 f4 zp (z4 m o) [false, false, false, false, false, true, false, true, false, false, false, false, false, false, false] = (some (.bool false, [], [decide (SMsg.kind m < (1 : Int)) = false] ++ (f2 m o 0 ++ ([(!m7 m o) = false, decide (SMsg.kind m = (2 : Int)) = false, q false] ++ (f2 m o 10 ++ (f2 m o 11 ++ (f2 m o 12 ++ [j5 (SMsg.slot m) (1099511627776 : Int) = false, q false, q false, q false, q false, q false, q false])))))) : Option (V × c5 × List Prop)) := by kernel_rfl
theorem ae0 (m : SMsg) (o : SMsg) :
 f4 zp (z4 m o) [false, false, false, false, false, true, false, true, true, false, false, false, false, false, false] = (some (.bool false, [], [decide (SMsg.kind m < (1 : Int)) = false] ++ (f2 m o 0 ++ ([(!m7 m o) = false, decide (SMsg.kind m = (2 : Int)) = false, q false] ++ (f2 m o 10 ++ (f2 m o 11 ++ (f2 m o 12 ++ (f2 m o 13 ++ [j5 (SMsg.view m) (1099511627776 : Int) = false, q false, q false, q false, q false, q false]))))))) : Option (V × c5 × List Prop)) := by kernel_rfl
theorem ae1 (m : SMsg) (o : SMsg) :
 f4 zp (z4 m o) [false, false, false, false, false, true, false, true, true, true, false, false, false, false, false] = (some (.bool false, [], [decide (SMsg.kind m < (1 : Int)) = false] ++ (f2 m o 0 ++ ([(!m7 m o) = false, decide (SMsg.kind m = (2 : Int)) = false, q false] ++ (f2 m o 10 ++ (f2 m o 11 ++ (f2 m o 12 ++ (f2 m o 13 ++ (f2 m o 14 ++ [j5 (SMsg.leader m) (64 : Int) = false, q false, q false, q false, q false])))))))) : Option (V × c5 × List Prop)) := by kernel_rfl
theorem ae2 (m : SMsg) (o : SMsg) :
 f4 zp (z4 m o) [false, false, false, false, false, true, false, true, true, true, true, false, false, false, false] = (some (.bool false, [], [decide (SMsg.kind m < (1 : Int)) = false] ++ (f2 m o 0 ++ ([(!m7 m o) = false, decide (SMsg.kind m = (2 : Int)) = false, q false] ++ (f2 m o 10 ++ (f2 m o 11 ++ (f2 m o 12 ++ (f2 m o 13 ++ (f2 m o 14 ++ (f2 m o 15 ++ [p8 (SMsg.batch m) = false, q false, q false, q false]))))))))) : Option (V × c5 × List Prop)) := by kernel_rfl
theorem ae3 (m : SMsg) (o : SMsg) :
 f4 zp (z4 m o) [false, false, false, false, false, true, false, true, true, true, true, true, false, false, false] = (some (.bool false, [], [decide (SMsg.kind m < (1 : Int)) = false] ++ (f2 m o 0 ++ ([(!m7 m o) = false, decide (SMsg.kind m = (2 : Int)) = false, q false] ++ (f2 m o 10 ++ (f2 m o 11 ++ (f2 m o 12 ++ (f2 m o 13 ++ (f2 m o 14 ++ (f2 m o 15 ++ (f2 m o 16 ++ [w9 m = false, q false, q false])))))))))) : Option (V × c5 × List Prop)) := by kernel_rfl
theorem ae4 (m : SMsg) (o : SMsg) :
 f4 zp (z4 m o) [false, false, false, false, false, true, false, true, true, true, true, true, true, false, false] = (some (.bool false, [], [decide (SMsg.kind m < (1 : Int)) = false] ++ (f2 m o 0 ++ ([(!m7 m o) = false, decide (SMsg.kind m = (2 : Int)) = false, q false] ++ (f2 m o 10 ++ (f2 m o 11 ++ (f2 m o 12 ++ (f2 m o 13 ++ (f2 m o 14 ++ (f2 m o 15 ++ (f2 m o 16 ++ (f2 m o 17 ++ [(u0 (SMsg.nnews m) (64 : Nat) fun i => u4 (SMsg.news m i)) = false, q false]))))))))))) : Option (V × c5 × List Prop)) := by kernel_rfl
theorem ae5 (m : SMsg) (o : SMsg) :
 f4 zp (z4 m o) [false, false, false, false, false, true, false, true, true, true, true, true, true, true, false] = (some (.bool false, [], [decide (SMsg.kind m < (1 : Int)) = false] ++ (f2 m o 0 ++ ([(!m7 m o) = false, decide (SMsg.kind m = (2 : Int)) = false, q false] ++ (f2 m o 10 ++ (f2 m o 11 ++ (f2 m o 12 ++ (f2 m o 13 ++ (f2 m o 14 ++ (f2 m o 15 ++ (f2 m o 16 ++ (f2 m o 17 ++ (f2 m o 18 ++ [(u0 (SMsg.n m) (64 : Nat) fun i => r8 (SMsg.sig m i)) = false])))))))))))) : Option (V × c5 × List Prop)) := by kernel_rfl
theorem ae6 (m : SMsg) (o : SMsg) :
 f4 zp (z4 m o) [false, false, false, false, false, true, false, true, true, true, true, true, true, true, true] = (some (.bool (decide ((↑(ByteArray.size (SMsg.state m)) : Int) ≤ (4194304 : Int))), [], [decide (SMsg.kind m < (1 : Int)) = false] ++ (f2 m o 0 ++ ([(!m7 m o) = false, decide (SMsg.kind m = (2 : Int)) = false, q false] ++ (f2 m o 10 ++ (f2 m o 11 ++ (f2 m o 12 ++ (f2 m o 13 ++ (f2 m o 14 ++ (f2 m o 15 ++ (f2 m o 16 ++ (f2 m o 17 ++ (f2 m o 18 ++ [(u0 (SMsg.n m) (64 : Nat) fun i => r8 (SMsg.sig m i)) = true])))))))))))) : Option (V × c5 × List Prop)) := by kernel_rfl
theorem ad0 (m : SMsg) (o : SMsg) :
 f4 zp (z4 m o) [false, false, false, false, false, false, false, false, false, false, false, false, false, false, false] = (some (.bool false, [], [decide (SMsg.kind m < (1 : Int)) = false] ++ (f2 m o 0 ++ ([(!m7 m o) = false, decide (SMsg.kind m = (2 : Int)) = false, q false] ++ (f2 m o 19 ++ [j5 (SMsg.epoch m) (1048576 : Int) = false, q false, q false, q false, q false, q false, q false, q false])))) : Option (V × c5 × List Prop)) := by kernel_rfl
theorem ad1 (m : SMsg) (o : SMsg) :
 f4 zp (z4 m o) [false, false, false, false, false, false, false, true, false, false, false, false, false, false, false] = (some (.bool false, [], [decide (SMsg.kind m < (1 : Int)) = false] ++ (f2 m o 0 ++ ([(!m7 m o) = false, decide (SMsg.kind m = (2 : Int)) = false, q false] ++ (f2 m o 19 ++ (f2 m o 20 ++ [j5 (SMsg.slot m) (1099511627776 : Int) = false, q false, q false, q false, q false, q false, q false]))))) : Option (V × c5 × List Prop)) := by kernel_rfl
theorem ad2 (m : SMsg) (o : SMsg) :
 f4 zp (z4 m o) [false, false, false, false, false, false, false, true, true, false, false, false, false, false, false] = (some (.bool false, [], [decide (SMsg.kind m < (1 : Int)) = false] ++ (f2 m o 0 ++ ([(!m7 m o) = false, decide (SMsg.kind m = (2 : Int)) = false, q false] ++ (f2 m o 19 ++ (f2 m o 20 ++ (f2 m o 21 ++ [j5 (SMsg.view m) (1099511627776 : Int) = false, q false, q false, q false, q false, q false])))))) : Option (V × c5 × List Prop)) := by kernel_rfl
theorem ad3 (m : SMsg) (o : SMsg) :
 f4 zp (z4 m o) [false, false, false, false, false, false, false, true, true, true, false, false, false, false, false] = (some (.bool false, [], [decide (SMsg.kind m < (1 : Int)) = false] ++ (f2 m o 0 ++ ([(!m7 m o) = false, decide (SMsg.kind m = (2 : Int)) = false, q false] ++ (f2 m o 19 ++ (f2 m o 20 ++ (f2 m o 21 ++ (f2 m o 22 ++ [j5 (SMsg.leader m) (64 : Int) = false, q false, q false, q false, q false]))))))) : Option (V × c5 × List Prop)) := by kernel_rfl
theorem ad4 (m : SMsg) (o : SMsg) :
 f4 zp (z4 m o) [false, false, false, false, false, false, false, true, true, true, true, false, false, false, false] = (some (.bool false, [], [decide (SMsg.kind m < (1 : Int)) = false] ++ (f2 m o 0 ++ ([(!m7 m o) = false, decide (SMsg.kind m = (2 : Int)) = false, q false] ++ (f2 m o 19 ++ (f2 m o 20 ++ (f2 m o 21 ++ (f2 m o 22 ++ (f2 m o 23 ++ [p8 (SMsg.batch m) = false, q false, q false, q false])))))))) : Option (V × c5 × List Prop)) := by kernel_rfl
theorem ad5 (m : SMsg) (o : SMsg) :
 f4 zp (z4 m o) [false, false, false, false, false, false, false, true, true, true, true, true, false, false, false] = (some (.bool false, [], [decide (SMsg.kind m < (1 : Int)) = false] ++ (f2 m o 0 ++ ([(!m7 m o) = false, decide (SMsg.kind m = (2 : Int)) = false, q false] ++ (f2 m o 19 ++ (f2 m o 20 ++ (f2 m o 21 ++ (f2 m o 22 ++ (f2 m o 23 ++ (f2 m o 24 ++ [w9 m = false, q false, q false]))))))))) : Option (V × c5 × List Prop)) := by kernel_rfl
theorem ad6 (m : SMsg) (o : SMsg) :
 f4 zp (z4 m o) [false, false, false, false, false, false, false, true, true, true, true, true, true, false, false] = (some (.bool false, [], [decide (SMsg.kind m < (1 : Int)) = false] ++ (f2 m o 0 ++ ([(!m7 m o) = false, decide (SMsg.kind m = (2 : Int)) = false, q false] ++ (f2 m o 19 ++ (f2 m o 20 ++ (f2 m o 21 ++ (f2 m o 22 ++ (f2 m o 23 ++ (f2 m o 24 ++ (f2 m o 25 ++ [(u0 (SMsg.nnews m) (64 : Nat) fun i => u4 (SMsg.news m i)) = false, q false])))))))))) : Option (V × c5 × List Prop)) := by kernel_rfl
theorem ad7 (m : SMsg) (o : SMsg) :
 f4 zp (z4 m o) [false, false, false, false, false, false, false, true, true, true, true, true, true, true, false] = (some (.bool false, [], [decide (SMsg.kind m < (1 : Int)) = false] ++ (f2 m o 0 ++ ([(!m7 m o) = false, decide (SMsg.kind m = (2 : Int)) = false, q false] ++ (f2 m o 19 ++ (f2 m o 20 ++ (f2 m o 21 ++ (f2 m o 22 ++ (f2 m o 23 ++ (f2 m o 24 ++ (f2 m o 25 ++ (f2 m o 26 ++ [(u0 (SMsg.n m) (64 : Nat) fun i => r8 (SMsg.sig m i)) = false]))))))))))) : Option (V × c5 × List Prop)) := by kernel_rfl
theorem ad8 (m : SMsg) (o : SMsg) :
 f4 zp (z4 m o) [false, false, false, false, false, false, false, true, true, true, true, true, true, true, true] = (some (.bool (decide ((↑(ByteArray.size (SMsg.state m)) : Int) ≤ (4194304 : Int))), [], [decide (SMsg.kind m < (1 : Int)) = false] ++ (f2 m o 0 ++ ([(!m7 m o) = false, decide (SMsg.kind m = (2 : Int)) = false, q false] ++ (f2 m o 19 ++ (f2 m o 20 ++ (f2 m o 21 ++ (f2 m o 22 ++ (f2 m o 23 ++ (f2 m o 24 ++ (f2 m o 25 ++ (f2 m o 26 ++ [(u0 (SMsg.n m) (64 : Nat) fun i => r8 (SMsg.sig m i)) = true]))))))))))) : Option (V × c5 × List Prop)) := by kernel_rfl
theorem A1 (m : SMsg) : T Tryz.prog 87 [.agg m.c] [] (.agg (m5 m).c) [] := by
 by_cases h1 : m.kind = 2
 ·refine T.val (f5 (bR_ m) Tryz.func87 ?_) (by simp only [m5, if_pos h1]; rfl)
  simp [All, h1]
 ·by_cases h2 : m.kind = 3
  ·refine T.val (f5 (bz0 m) Tryz.func87 ?_) (by simp only [m5, if_neg h1, if_pos h2]; rfl)
   simp [All, h1, h2]
  ·by_cases h3 : m.kind = 4
   ·refine T.val (f5 (bk_ m) Tryz.func87 ?_) (by simp only [m5, if_neg h1, if_neg h2, if_pos h3]; rfl)
    simp [All, h1, h2, h3]
   ·by_cases h4 : m.kind = 5
    ·refine T.val (f5 (bc4 m) Tryz.func87 ?_) (by simp only [m5, if_neg h1, if_neg h2, if_neg h3, if_pos h4]; rfl)
     simp [All, h1, h2, h3, h4]
    ·by_cases h5 : m.kind = 1
     ·refine T.val (f5 (aX0 m) Tryz.func87 ?_) (by simp only [m5, if_neg h1, if_neg h2, if_neg h3, if_neg h4, if_pos h5]; rfl)
      simp [All, h1, h2, h3, h4, h5]
     ·by_cases h6 : m.kind = 6
      ·refine T.val (f5 (aP7 m) Tryz.func87 ?_) (by simp only [m5, if_neg h1, if_neg h2, if_neg h3, if_neg h4, if_neg h5, if_pos h6]; rfl)
       simp [All, h1, h2, h3, h4, h5, h6]
      ·by_cases h7 : m.kind = 7
       ·refine T.val (f5 (aK9 m) Tryz.func87 ?_) (by simp only [m5, if_neg h1, if_neg h2, if_neg h3, if_neg h4, if_neg h5, if_neg h6, if_pos h7]; rfl)
        simp [All, h1, h2, h3, h4, h5, h6, h7]
       ·by_cases h8 : m.kind = 8
        ·refine T.val (f5 (aE6 m) Tryz.func87 ?_) (by simp only [m5, if_neg h1, if_neg h2, if_neg h3, if_neg h4, if_neg h5, if_neg h6, if_neg h7, if_pos h8]; rfl)
         simp [All, h1, h2, h3, h4, h5, h6, h7, h8]
        ·refine T.val (f5 (aE7 m) Tryz.func87 ?_) (by simp only [m5, if_neg h1, if_neg h2, if_neg h3, if_neg h4, if_neg h5, if_neg h6, if_neg h7, if_neg h8]; rfl)
         simp [All, h1, h2, h3, h4, h5, h6, h7, h8]
theorem cc4 {m : SMsg} (hf : FitM m) : T Tryz.prog 52 [.agg m.c] [] (.bool (v5 m)) [] := by
 by_cases h1 : m.kind < 1
 ·refine T.bool (f5 (aW4 m (m5 m)) Tryz.func52 ?_) (by simp [v5, h1] <;> omega)
  simp only [All, f3, f2]
  and_intros
  all_goals first | (simp [h1]; done)
 ·by_cases h2 : 8 < m.kind
  ·refine T.bool (f5 (aW3 m (m5 m)) Tryz.func52 ?_) (by simp [v5, h1, h2] <;> omega)
   simp only [All, f3, f2]
   and_intros
   all_goals first | (simp [h1, h2]; done)
  ·by_cases h3 : m7 m (m5 m) = false
   ·refine T.bool (f5 (aW2 m (m5 m)) Tryz.func52 ?_) (by simp [v5, h1, h2, h3] <;> omega)
    simp only [All, f3, f2]
    and_intros
    all_goals first | exact A1 m | exact D9 m (m5 m) hf | (simp [h1, h2, h3]; done)
   ·by_cases h4 : m.kind = 2
    ·by_cases h5 : u7 m.vote = false
     ·refine T.bool (f5 (aE3 m (m5 m)) Tryz.func52 ?_) (by simp [v5, h1, h2, h3, h4, h5] <;> omega)
      simp only [All, f3, f2]
      and_intros
      all_goals first | exact A1 m | exact D9 m (m5 m) hf | exact Y9 m.vote | (simp [h1, h2, h3, h4, h5]; done)
     ·by_cases h6 : j5 m.epoch 1048576 = true
      ·by_cases h7 : j5 m.slot 1099511627776 = true
       ·by_cases h8 : j5 m.view 1099511627776 = true
        ·by_cases h9 : j5 m.leader 64 = true
         ·by_cases h10 : p8 m.batch = true
          ·by_cases h11 : w9 m = true
           ·by_cases h12 : (u0 m.nnews 64 fun i => u4 (m.news i)) = true
            ·by_cases h13 : (u0 m.n 64 fun i => r8 (m.sig i)) = true
             ·refine T.bool (f5 (af4 m (m5 m)) Tryz.func52 ?_) (by simp [v5, h1, h2, h3, h4, h5, h6, h7, h8, h9, h10, h11, h12, h13] <;> omega)
              simp only [All, f3, f2]
              and_intros
              all_goals first | exact A1 m | exact D9 m (m5 m) hf | exact Y9 m.vote | exact s7 _ _ | exact P2 m.batch | exact Y8 m | exact Z5 m.news (by decide) | exact aj3 m.sig (by decide) | (simp [h1, h2, h3, h4, h5, h6, h7, h8, h9, h10, h11, h12, h13]; done)
             ·refine T.bool (f5 (af3 m (m5 m)) Tryz.func52 ?_) (by simp [v5, h1, h2, h3, h4, h5, h6, h7, h8, h9, h10, h11, h12, h13] <;> omega)
              simp only [All, f3, f2]
              and_intros
              all_goals first | exact A1 m | exact D9 m (m5 m) hf | exact Y9 m.vote | exact s7 _ _ | exact P2 m.batch | exact Y8 m | exact Z5 m.news (by decide) | exact aj3 m.sig (by decide) | (simp [h1, h2, h3, h4, h5, h6, h7, h8, h9, h10, h11, h12, h13]; done)
            ·refine T.bool (f5 (af2 m (m5 m)) Tryz.func52 ?_) (by simp [v5, h1, h2, h3, h4, h5, h6, h7, h8, h9, h10, h11, h12] <;> omega)
             simp only [All, f3, f2]
             and_intros
             all_goals first | exact A1 m | exact D9 m (m5 m) hf | exact Y9 m.vote | exact s7 _ _ | exact P2 m.batch | exact Y8 m | exact Z5 m.news (by decide) | (simp [h1, h2, h3, h4, h5, h6, h7, h8, h9, h10, h11, h12]; done)
           ·refine T.bool (f5 (af1 m (m5 m)) Tryz.func52 ?_) (by simp [v5, h1, h2, h3, h4, h5, h6, h7, h8, h9, h10, h11] <;> omega)
            simp only [All, f3, f2]
            and_intros
            all_goals first | exact A1 m | exact D9 m (m5 m) hf | exact Y9 m.vote | exact s7 _ _ | exact P2 m.batch | exact Y8 m | (simp [h1, h2, h3, h4, h5, h6, h7, h8, h9, h10, h11]; done)
          ·refine T.bool (f5 (af0 m (m5 m)) Tryz.func52 ?_) (by simp [v5, h1, h2, h3, h4, h5, h6, h7, h8, h9, h10] <;> omega)
           simp only [All, f3, f2]
           and_intros
           all_goals first | exact A1 m | exact D9 m (m5 m) hf | exact Y9 m.vote | exact s7 _ _ | exact P2 m.batch | (simp [h1, h2, h3, h4, h5, h6, h7, h8, h9, h10]; done)
         ·refine T.bool (f5 (ae_ m (m5 m)) Tryz.func52 ?_) (by simp [v5, h1, h2, h3, h4, h5, h6, h7, h8, h9] <;> omega)
          simp only [All, f3, f2]
          and_intros
          all_goals first | exact A1 m | exact D9 m (m5 m) hf | exact Y9 m.vote | exact s7 _ _ | (simp [h1, h2, h3, h4, h5, h6, h7, h8, h9]; done)
        ·refine T.bool (f5 (ae9 m (m5 m)) Tryz.func52 ?_) (by simp [v5, h1, h2, h3, h4, h5, h6, h7, h8] <;> omega)
         simp only [All, f3, f2]
         and_intros
         all_goals first | exact A1 m | exact D9 m (m5 m) hf | exact Y9 m.vote | exact s7 _ _ | (simp [h1, h2, h3, h4, h5, h6, h7, h8]; done)
       ·refine T.bool (f5 (ae8 m (m5 m)) Tryz.func52 ?_) (by simp [v5, h1, h2, h3, h4, h5, h6, h7] <;> omega)
        simp only [All, f3, f2]
        and_intros
        all_goals first | exact A1 m | exact D9 m (m5 m) hf | exact Y9 m.vote | exact s7 _ _ | (simp [h1, h2, h3, h4, h5, h6, h7]; done)
      ·refine T.bool (f5 (ae7 m (m5 m)) Tryz.func52 ?_) (by simp [v5, h1, h2, h3, h4, h5, h6] <;> omega)
       simp only [All, f3, f2]
       and_intros
       all_goals first | exact A1 m | exact D9 m (m5 m) hf | exact Y9 m.vote | exact s7 _ _ | (simp [h1, h2, h3, h4, h5, h6]; done)
    ·by_cases h5 : m.kind = 7
     ·by_cases h6 : A2 m.cert = false
      ·refine T.bool (f5 (az8 m (m5 m)) Tryz.func52 ?_) (by simp [v5, h1, h2, h3, h4, h5, h6] <;> omega)
       simp only [All, f3, f2]
       and_intros
       all_goals first | exact A1 m | exact D9 m (m5 m) hf | exact ab0 m.cert | (simp [h1, h2, h3, h4, h5, h6]; done)
      ·by_cases h7 : j5 m.epoch 1048576 = true
       ·by_cases h8 : j5 m.slot 1099511627776 = true
        ·by_cases h9 : j5 m.view 1099511627776 = true
         ·by_cases h10 : j5 m.leader 64 = true
          ·by_cases h11 : p8 m.batch = true
           ·by_cases h12 : w9 m = true
            ·by_cases h13 : (u0 m.nnews 64 fun i => u4 (m.news i)) = true
             ·by_cases h14 : (u0 m.n 64 fun i => r8 (m.sig i)) = true
              ·refine T.bool (f5 (ae6 m (m5 m)) Tryz.func52 ?_) (by simp [v5, h1, h2, h3, h4, h5, h6, h7, h8, h9, h10, h11, h12, h13, h14] <;> omega)
               simp only [All, f3, f2]
               and_intros
               all_goals first | exact A1 m | exact D9 m (m5 m) hf | exact ab0 m.cert | exact s7 _ _ | exact P2 m.batch | exact Y8 m | exact Z5 m.news (by decide) | exact aj3 m.sig (by decide) | (simp [h1, h2, h3, h4, h5, h6, h7, h8, h9, h10, h11, h12, h13, h14]; done)
              ·refine T.bool (f5 (ae5 m (m5 m)) Tryz.func52 ?_) (by simp [v5, h1, h2, h3, h4, h5, h6, h7, h8, h9, h10, h11, h12, h13, h14] <;> omega)
               simp only [All, f3, f2]
               and_intros
               all_goals first | exact A1 m | exact D9 m (m5 m) hf | exact ab0 m.cert | exact s7 _ _ | exact P2 m.batch | exact Y8 m | exact Z5 m.news (by decide) | exact aj3 m.sig (by decide) | (simp [h1, h2, h3, h4, h5, h6, h7, h8, h9, h10, h11, h12, h13, h14]; done)
             ·refine T.bool (f5 (ae4 m (m5 m)) Tryz.func52 ?_) (by simp [v5, h1, h2, h3, h4, h5, h6, h7, h8, h9, h10, h11, h12, h13] <;> omega)
              simp only [All, f3, f2]
              and_intros
              all_goals first | exact A1 m | exact D9 m (m5 m) hf | exact ab0 m.cert | exact s7 _ _ | exact P2 m.batch | exact Y8 m | exact Z5 m.news (by decide) | (simp [h1, h2, h3, h4, h5, h6, h7, h8, h9, h10, h11, h12, h13]; done)
            ·refine T.bool (f5 (ae3 m (m5 m)) Tryz.func52 ?_) (by simp [v5, h1, h2, h3, h4, h5, h6, h7, h8, h9, h10, h11, h12] <;> omega)
             simp only [All, f3, f2]
             and_intros
             all_goals first | exact A1 m | exact D9 m (m5 m) hf | exact ab0 m.cert | exact s7 _ _ | exact P2 m.batch | exact Y8 m | (simp [h1, h2, h3, h4, h5, h6, h7, h8, h9, h10, h11, h12]; done)
           ·refine T.bool (f5 (ae2 m (m5 m)) Tryz.func52 ?_) (by simp [v5, h1, h2, h3, h4, h5, h6, h7, h8, h9, h10, h11] <;> omega)
            simp only [All, f3, f2]
            and_intros
            all_goals first | exact A1 m | exact D9 m (m5 m) hf | exact ab0 m.cert | exact s7 _ _ | exact P2 m.batch | (simp [h1, h2, h3, h4, h5, h6, h7, h8, h9, h10, h11]; done)
          ·refine T.bool (f5 (ae1 m (m5 m)) Tryz.func52 ?_) (by simp [v5, h1, h2, h3, h4, h5, h6, h7, h8, h9, h10] <;> omega)
           simp only [All, f3, f2]
           and_intros
           all_goals first | exact A1 m | exact D9 m (m5 m) hf | exact ab0 m.cert | exact s7 _ _ | (simp [h1, h2, h3, h4, h5, h6, h7, h8, h9, h10]; done)
         ·refine T.bool (f5 (ae0 m (m5 m)) Tryz.func52 ?_) (by simp [v5, h1, h2, h3, h4, h5, h6, h7, h8, h9] <;> omega)
          simp only [All, f3, f2]
          and_intros
          all_goals first | exact A1 m | exact D9 m (m5 m) hf | exact ab0 m.cert | exact s7 _ _ | (simp [h1, h2, h3, h4, h5, h6, h7, h8, h9]; done)
        ·refine T.bool (f5 (ad_ m (m5 m)) Tryz.func52 ?_) (by simp [v5, h1, h2, h3, h4, h5, h6, h7, h8] <;> omega)
         simp only [All, f3, f2]
         and_intros
         all_goals first | exact A1 m | exact D9 m (m5 m) hf | exact ab0 m.cert | exact s7 _ _ | (simp [h1, h2, h3, h4, h5, h6, h7, h8]; done)
       ·refine T.bool (f5 (ad9 m (m5 m)) Tryz.func52 ?_) (by simp [v5, h1, h2, h3, h4, h5, h6, h7] <;> omega)
        simp only [All, f3, f2]
        and_intros
        all_goals first | exact A1 m | exact D9 m (m5 m) hf | exact ab0 m.cert | exact s7 _ _ | (simp [h1, h2, h3, h4, h5, h6, h7]; done)
     ·by_cases h6 : j5 m.epoch 1048576 = true
      ·by_cases h7 : j5 m.slot 1099511627776 = true
       ·by_cases h8 : j5 m.view 1099511627776 = true
        ·by_cases h9 : j5 m.leader 64 = true
         ·by_cases h10 : p8 m.batch = true
          ·by_cases h11 : w9 m = true
           ·by_cases h12 : (u0 m.nnews 64 fun i => u4 (m.news i)) = true
            ·by_cases h13 : (u0 m.n 64 fun i => r8 (m.sig i)) = true
             ·refine T.bool (f5 (ad8 m (m5 m)) Tryz.func52 ?_) (by
  have e1 : 1 ≤ m.kind := by omega
  have e2 : m.kind ≤ 8 := by omega
  simp [v5, e1, e2, h1, h2, h3, h4, h5, h6, h7, h8, h9, h10, h11, h12, h13] <;> omega)
              simp only [All, f3, f2]
              and_intros
              all_goals first | exact A1 m | exact D9 m (m5 m) hf | exact s7 _ _ | exact P2 m.batch | exact Y8 m | exact Z5 m.news (by decide) | exact aj3 m.sig (by decide) | (simp [h1, h2, h3, h4, h5, h6, h7, h8, h9, h10, h11, h12, h13]; done)
             ·refine T.bool (f5 (ad7 m (m5 m)) Tryz.func52 ?_) (by simp [v5, h1, h2, h3, h4, h5, h6, h7, h8, h9, h10, h11, h12, h13] <;> omega)
              simp only [All, f3, f2]
              and_intros
              all_goals first | exact A1 m | exact D9 m (m5 m) hf | exact s7 _ _ | exact P2 m.batch | exact Y8 m | exact Z5 m.news (by decide) | exact aj3 m.sig (by decide) | (simp [h1, h2, h3, h4, h5, h6, h7, h8, h9, h10, h11, h12, h13]; done)
            ·refine T.bool (f5 (ad6 m (m5 m)) Tryz.func52 ?_) (by simp [v5, h1, h2, h3, h4, h5, h6, h7, h8, h9, h10, h11, h12] <;> omega)
             simp only [All, f3, f2]
             and_intros
             all_goals first | exact A1 m | exact D9 m (m5 m) hf | exact s7 _ _ | exact P2 m.batch | exact Y8 m | exact Z5 m.news (by decide) | (simp [h1, h2, h3, h4, h5, h6, h7, h8, h9, h10, h11, h12]; done)
           ·refine T.bool (f5 (ad5 m (m5 m)) Tryz.func52 ?_) (by simp [v5, h1, h2, h3, h4, h5, h6, h7, h8, h9, h10, h11] <;> omega)
            simp only [All, f3, f2]
            and_intros
            all_goals first | exact A1 m | exact D9 m (m5 m) hf | exact s7 _ _ | exact P2 m.batch | exact Y8 m | (simp [h1, h2, h3, h4, h5, h6, h7, h8, h9, h10, h11]; done)
          ·refine T.bool (f5 (ad4 m (m5 m)) Tryz.func52 ?_) (by simp [v5, h1, h2, h3, h4, h5, h6, h7, h8, h9, h10] <;> omega)
           simp only [All, f3, f2]
           and_intros
           all_goals first | exact A1 m | exact D9 m (m5 m) hf | exact s7 _ _ | exact P2 m.batch | (simp [h1, h2, h3, h4, h5, h6, h7, h8, h9, h10]; done)
         ·refine T.bool (f5 (ad3 m (m5 m)) Tryz.func52 ?_) (by simp [v5, h1, h2, h3, h4, h5, h6, h7, h8, h9] <;> omega)
          simp only [All, f3, f2]
          and_intros
          all_goals first | exact A1 m | exact D9 m (m5 m) hf | exact s7 _ _ | (simp [h1, h2, h3, h4, h5, h6, h7, h8, h9]; done)
        ·refine T.bool (f5 (ad2 m (m5 m)) Tryz.func52 ?_) (by simp [v5, h1, h2, h3, h4, h5, h6, h7, h8] <;> omega)
         simp only [All, f3, f2]
         and_intros
         all_goals first | exact A1 m | exact D9 m (m5 m) hf | exact s7 _ _ | (simp [h1, h2, h3, h4, h5, h6, h7, h8]; done)
       ·refine T.bool (f5 (ad1 m (m5 m)) Tryz.func52 ?_) (by simp [v5, h1, h2, h3, h4, h5, h6, h7] <;> omega)
        simp only [All, f3, f2]
        and_intros
        all_goals first | exact A1 m | exact D9 m (m5 m) hf | exact s7 _ _ | (simp [h1, h2, h3, h4, h5, h6, h7]; done)
      ·refine T.bool (f5 (ad0 m (m5 m)) Tryz.func52 ?_) (by simp [v5, h1, h2, h3, h4, h5, h6] <;> omega)
       simp only [All, f3, f2]
       and_intros
       all_goals first | exact A1 m | exact D9 m (m5 m) hf | exact s7 _ _ | (simp [h1, h2, h3, h4, h5, h6]; done)
def u3 (m : SMsg) : List UInt8 :=
 if m.kind = 1 then c9 [m.epoch, m.slot] ++ j6 m.batch else
 if m.kind = 2 then r7 m.vote else
 if m.kind = 3 then c9 [m.cepoch, m.cleader, m.cview] ++ (c9 [(m.nheld : Int)] ++ m6 m.held m.nheld) else
 if m.kind = 4 then c9 [m.epoch, m.leader, m.view] ++ (c9 [(m.nnews : Int)] ++ n9 m.news m.nnews) else
 if m.kind = 5 then c9 [m.epoch] ++ l9 m.digest else
 if m.kind = 6 then c9 [m.epoch, m.slot] else
 if m.kind = 7 then j6 m.batch ++ u9 m.cert else
 if m.kind = 8 then j3 m.state ++ (c9 [(m.n : Int)] ++ l8 m.sig m.n) else []
def p7 (m : SMsg) : List UInt8 := c6 m.kind ++ u3 m
def baL (l : List UInt8) : ByteArray := ⟨l.toArray⟩
def bL9 {α : Type} : List (Nat × Nat × α) → Nat → Nat → Option α
 | [], _, _ => none
 | p :: r, k, n => bif Nat.beq p.1 k && Nat.beq p.2.1 n then some p.2.2 else bL9 r k n
def ai4 (base : Nat) (l : List (Nat × Nat × (List V → c5 → Nat → List Cl))) : Nat → List V → c5 → Nat → List Cl := fun k args h lo => match bL9 l k ((lo - base) / 64) with
 | some f => f args h lo
 | none => []
def cw5 (m : SMsg) (g : Bool) : List (Nat × Nat × (List V → c5 → Nat → List Cl)) := [
 (52, 4, O3 (.bool g)),
 (53, 13, cW (c6 m.kind)),
 (53, 24, cW (c6 m.kind ++ c9 [m.epoch, m.slot])), (54, 28, cW (c6 m.kind ++ c9 [m.epoch, m.slot] ++ j6 m.batch)),
 (55, 23, cW (c6 m.kind ++ r7 m.vote)),
 (53, 33, cW (c6 m.kind ++ c9 [m.cepoch, m.cleader, m.cview])), (56, 40, cW (c6 m.kind ++ c9 [m.cepoch, m.cleader, m.cview] ++ (c9 [(m.nheld : Int)] ++ m6 m.held m.nheld))),
 (53, 32, cW (c6 m.kind ++ c9 [m.epoch, m.leader, m.view])), (58, 38, cW (c6 m.kind ++ c9 [m.epoch, m.leader, m.view] ++ (c9 [(m.nnews : Int)] ++ n9 m.news m.nnews))),
 (53, 30, cW (c6 m.kind ++ c9 [m.epoch])), (60, 34, cW (c6 m.kind ++ c9 [m.epoch] ++ l9 m.digest)),
 (53, 34, cW (c6 m.kind ++ c9 [m.epoch, m.slot])),
 (54, 33, cW (c6 m.kind ++ j6 m.batch)), (61, 37, cW (c6 m.kind ++ j6 m.batch ++ u9 m.cert)),
 (62, 35, cW (c6 m.kind ++ j3 m.state)), (63, 41, cW (c6 m.kind ++ j3 m.state ++ (c9 [(m.n : Int)] ++ l8 m.sig m.n)))]
noncomputable def J7 (m : SMsg) (g : Bool) : Bd := { f := Tryz.f19, args := [.agg m.c], kb := { db := ai4 0 (cw5 m g) } }
end Go.Proofs.YtnmccoincblecaaGreat
