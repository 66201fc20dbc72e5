/-
  Contracts and laws that the claim's theorem leans on, joined out of the texts Td0 Tc2D Tc2 Qe0D Qe0 Qg1 (own work of this seat): Contracts: is a message not more than is looked at; Contracts: messages that are the same are told so by the document's answer; Contracts: messages that are the same are told so by the document's answer; Contracts: a message is sealed, and opened; Contracts: a message is sealed, and opened; The shapes of messages and records that are handed in.
-/
import Derived.Test.YtnmccoincblecaaGreatC04
import Derived.Test.YtnmccoincblecaaGreatC10
import Derived.Test.YtnmccoincblecaaGreatC12
set_option linter.unusedVariables false
set_option linter.unusedSimpArgs false
set_option maxHeartbeats 1000000
namespace Go.Proofs.YtnmccoincblecaaGreat
open Go Sy Go.Proofs
noncomputable def B0 (m : SMsg) (j : Nat) : Nat → List Prop
 | 0 => [T zp 50 [.sl (.o 256) 2 0 0 0 1 (some 1)] [(.o 256, .rows 2 1 (j4 [(SBatch.c (SMsg.batch m))]) false)] (.bool (B7 (SMsg.batch m))) [(.o 256, .rows 2 1 (j4 [(SBatch.c (SMsg.batch m))]) false)]]
 | 1 => [decide ((6000 : Int) < (↑(ByteArray.size (SMsg.state m)) : Int)) = false]
 | 2 => [i5 zp none 0 (cB (cB (cR (cL (cR (cR (cR (f8 (Bd.f (V5 m j)))))))))) (SMsg.nheld m + 1) (St.mk (mkT 81 [(1, .ptr (.o 0) 0 0 0 0), (3, .int .i64 0), (47, .ros 39 (SMsg.nheld m) (fun i => SHeld.c (SMsg.held m i)) false), (48, .int .i64 (↑(SMsg.nheld m) : Int)), (49, .int .i64 0)]) [(.o 0, .flat (SMsg.c m))] 1 []) (.exit 0) (St.mk (mkT 81 [(1, .ptr (.o 0) 0 0 0 0), (3, .int .i64 0), (47, .ros 39 (SMsg.nheld m) (fun i => SHeld.c (SMsg.held m i)) false), (48, .int .i64 (↑(SMsg.nheld m) : Int)), (49, .int .i64 (↑(SMsg.nheld m) : Int))]) [(.o 0, .flat (SMsg.c m))] 1 []), q (SMsg.kind m), q (SMsg.epoch m), q (SMsg.leader m), q (SMsg.view m), q (SMsg.slot m), q (SBatch.noop (SMsg.batch m)), q (SBatch.n (SMsg.batch m)), ∀ (k : Nat), k < SBatch.n (SMsg.batch m) → SReq.c (SBatch.req (SMsg.batch m) k) = SReq.c (SBatch.req (SMsg.batch m) k), false = true → false = true, q (SVote.kind (SMsg.vote m)), q (SVote.epoch (SMsg.vote m)), q (SVote.view (SMsg.vote m)), q (SVote.slot (SMsg.vote m)), q (32 : Nat), q (SVote.digest (SMsg.vote m)), q (SMsg.cepoch m), q (SMsg.cleader m), q (SMsg.cview m), q (SMsg.nheld m), ∀ (k : Nat), k < SMsg.nheld m → SHeld.c (SMsg.held m k) = SHeld.c (SMsg.held m k), false = true → false = true, q (SMsg.nnews m), ∀ (k : Nat), k < SMsg.nnews m → SEnv.c (SMsg.news m k) = SEnv.c (SMsg.news m k), false = true → false = true, q (32 : Nat), q (SMsg.digest m), q (SVote.kind (SCert.vote (SMsg.cert m))), q (SVote.epoch (SCert.vote (SMsg.cert m))), q (SVote.view (SCert.vote (SMsg.cert m))), q (SVote.slot (SCert.vote (SMsg.cert m))), q (32 : Nat), q (SVote.digest (SCert.vote (SMsg.cert m))), q (SCert.n (SMsg.cert m)), ∀ (k : Nat), k < SCert.n (SMsg.cert m) → SSign.c (SCert.sig (SMsg.cert m) k) = SSign.c (SCert.sig (SMsg.cert m) k), false = true → false = true, q (SMsg.state m), q (SMsg.n m), ∀ (k : Nat), k < SMsg.n m → SSign.c (SMsg.sig m k) = SSign.c (SMsg.sig m k), false = true → false = true, q0, q0, q0, q1, q (SMsg.nheld m), ∀ (k : Nat), k < SMsg.nheld m → SHeld.c (SMsg.held m k) = SHeld.c (SMsg.held m k), false = true → false = true, q (↑(SMsg.nheld m) : Int), q1]
 | _ => []
theorem aP4 (m : SMsg) (j : Nat) :
 f4 zp (V5 m j) [true, true, true, true, true, true] = (some (.bool false, [], B0 m j 0 ++ [(!B7 (SMsg.batch m)) = true, q2, q2, q2, q2, q2]) : Option (V × c5 × List Prop)) := by kernel_rfl
theorem aP3 (m : SMsg) (j : Nat) :
 f4 zp (V5 m j) [false, true, true, true, true, true] = (some (.bool false, [], B0 m j 0 ++ [(!B7 (SMsg.batch m)) = false, decide ((6000 : Int) < (↑(ByteArray.size (SMsg.state m)) : Int)) = true, q2, q2, q2, q2]) : Option (V × c5 × List Prop)) := by kernel_rfl
theorem aP2 (m : SMsg) (j : Nat) :
 f4 zp (V5 m j) [false, false, true, true, true, true] = (some (.bool false, [], B0 m j 0 ++ ([(!B7 (SMsg.batch m)) = false] ++ (B0 m j 1 ++ [decide ((100 : Int) < (↑(SMsg.n m) : Int)) = true, q2, q2, q2]))) : Option (V × c5 × List Prop)) := by kernel_rfl
theorem aP1 (m : SMsg) (j : Nat) :
 f4 zp (V5 m j) [false, false, false, true, true, true] = (some (.bool false, [], B0 m j 0 ++ ([(!B7 (SMsg.batch m)) = false] ++ (B0 m j 1 ++ [decide ((100 : Int) < (↑(SMsg.n m) : Int)) = false, decide ((100 : Int) < (↑(SCert.n (SMsg.cert m)) : Int)) = true, q2, q2]))) : Option (V × c5 × List Prop)) := by kernel_rfl
theorem aP0 (m : SMsg) (j : Nat) :
 f4 zp (V5 m j) [false, false, false, false, true, true] = (some (.bool false, [], B0 m j 0 ++ ([(!B7 (SMsg.batch m)) = false] ++ (B0 m j 1 ++ [decide ((100 : Int) < (↑(SMsg.n m) : Int)) = false, decide ((100 : Int) < (↑(SCert.n (SMsg.cert m)) : Int)) = false, decide ((20 : Int) < (↑(SMsg.nheld m) : Int)) = true, q2]))) : Option (V × c5 × List Prop)) := by kernel_rfl
theorem aO_ (m : SMsg) (j : Nat) :
 f4 zp (V5 m j) [false, false, false, false, false, true] = (some (.bool false, [], B0 m j 0 ++ ([(!B7 (SMsg.batch m)) = false] ++ (B0 m j 1 ++ [decide ((100 : Int) < (↑(SMsg.n m) : Int)) = false, decide ((100 : Int) < (↑(SCert.n (SMsg.cert m)) : Int)) = false, decide ((20 : Int) < (↑(SMsg.nheld m) : Int)) = false, decide ((100 : Int) < (↑(SMsg.nnews m) : Int)) = true]))) : Option (V × c5 × List Prop)) := by kernel_rfl
theorem aE5 (m : SMsg) (j : Nat) :
 f4 zp (V5 m j) [false, false, false, false, false, false, true, true] = (some (.bool true, [], B0 m j 0 ++ ([(!B7 (SMsg.batch m)) = false] ++ (B0 m j 1 ++ ([decide ((100 : Int) < (↑(SMsg.n m) : Int)) = false, decide ((100 : Int) < (↑(SCert.n (SMsg.cert m)) : Int)) = false, decide ((20 : Int) < (↑(SMsg.nheld m) : Int)) = false, decide ((100 : Int) < (↑(SMsg.nnews m) : Int)) = false] ++ (B0 m j 2 ++ [i5 zp none 0 (cB (cB (cR (cL (cR (cR (cR (cR (f8 (Bd.f (V5 m j))))))))))) (SMsg.nnews m + 1) (St.mk (mkT 81 [(1, .ptr (.o 0) 0 0 0 0), (3, .int .i64 0), (67, .ros 18 (SMsg.nnews m) (fun i => SEnv.c (SMsg.news m i)) false), (68, .int .i64 (↑(SMsg.nnews m) : Int)), (69, .int .i64 0)]) [(.o 0, .flat (SMsg.c m))] 1 []) (.exit 2) (St.mk (mkT 81 [(1, .ptr (.o 0) 0 0 0 0), (3, .int .i64 (A8 (SMsg.news m) (SMsg.nnews m))), (67, .ros 18 (SMsg.nnews m) (fun i => SEnv.c (SMsg.news m i)) false), (68, .int .i64 (↑(SMsg.nnews m) : Int)), (69, .int .i64 (↑(SMsg.nnews m) : Int))]) [(.o 0, .flat (SMsg.c m))] 1 []), q (SMsg.kind m), q (SMsg.epoch m), q (SMsg.leader m), q (SMsg.view m), q (SMsg.slot m), q (SBatch.noop (SMsg.batch m)), q (SBatch.n (SMsg.batch m)), ∀ (k : Nat), k < SBatch.n (SMsg.batch m) → SReq.c (SBatch.req (SMsg.batch m) k) = SReq.c (SBatch.req (SMsg.batch m) k), false = true → false = true, q (SVote.kind (SMsg.vote m)), q (SVote.epoch (SMsg.vote m)), q (SVote.view (SMsg.vote m)), q (SVote.slot (SMsg.vote m)), q (32 : Nat), q (SVote.digest (SMsg.vote m)), q (SMsg.cepoch m), q (SMsg.cleader m), q (SMsg.cview m), q (SMsg.nheld m), ∀ (k : Nat), k < SMsg.nheld m → SHeld.c (SMsg.held m k) = SHeld.c (SMsg.held m k), false = true → false = true, q (SMsg.nnews m), ∀ (k : Nat), k < SMsg.nnews m → SEnv.c (SMsg.news m k) = SEnv.c (SMsg.news m k), false = true → false = true, q (32 : Nat), q (SMsg.digest m), q (SVote.kind (SCert.vote (SMsg.cert m))), q (SVote.epoch (SCert.vote (SMsg.cert m))), q (SVote.view (SCert.vote (SMsg.cert m))), q (SVote.slot (SCert.vote (SMsg.cert m))), q (32 : Nat), q (SVote.digest (SCert.vote (SMsg.cert m))), q (SCert.n (SMsg.cert m)), ∀ (k : Nat), k < SCert.n (SMsg.cert m) → SSign.c (SCert.sig (SMsg.cert m) k) = SSign.c (SCert.sig (SMsg.cert m) k), false = true → false = true, q (SMsg.state m), q (SMsg.n m), ∀ (k : Nat), k < SMsg.n m → SSign.c (SMsg.sig m k) = SSign.c (SMsg.sig m k), false = true → false = true, q0, q0, q0, q1, q (SMsg.nnews m), ∀ (k : Nat), k < SMsg.nnews m → SEnv.c (SMsg.news m k) = SEnv.c (SMsg.news m k), false = true → false = true, q (↑(SMsg.nnews m) : Int), q1]))))) : Option (V × c5 × List Prop)) := by kernel_rfl
theorem aE4 (m : SMsg) (j : Nat) :
 f4 zp (V5 m j) [false, false, false, false, false, false, true, false] = (some (.bool false, [], B0 m j 0 ++ ([(!B7 (SMsg.batch m)) = false] ++ (B0 m j 1 ++ ([decide ((100 : Int) < (↑(SMsg.n m) : Int)) = false, decide ((100 : Int) < (↑(SCert.n (SMsg.cert m)) : Int)) = false, decide ((20 : Int) < (↑(SMsg.nheld m) : Int)) = false, decide ((100 : Int) < (↑(SMsg.nnews m) : Int)) = false] ++ (B0 m j 2 ++ [i5 zp none 0 (cB (cB (cR (cL (cR (cR (cR (cR (f8 (Bd.f (V5 m j))))))))))) (j + 1) (St.mk (mkT 81 [(1, .ptr (.o 0) 0 0 0 0), (3, .int .i64 0), (67, .ros 18 (SMsg.nnews m) (fun i => SEnv.c (SMsg.news m i)) false), (68, .int .i64 (↑(SMsg.nnews m) : Int)), (69, .int .i64 0)]) [(.o 0, .flat (SMsg.c m))] 1 []) .ret (St.mk (mkT 81 [(2, .bool false)]) [] 0 []), q (SMsg.kind m), q (SMsg.epoch m), q (SMsg.leader m), q (SMsg.view m), q (SMsg.slot m), q (SBatch.noop (SMsg.batch m)), q (SBatch.n (SMsg.batch m)), ∀ (k : Nat), k < SBatch.n (SMsg.batch m) → SReq.c (SBatch.req (SMsg.batch m) k) = SReq.c (SBatch.req (SMsg.batch m) k), false = true → false = true, q (SVote.kind (SMsg.vote m)), q (SVote.epoch (SMsg.vote m)), q (SVote.view (SMsg.vote m)), q (SVote.slot (SMsg.vote m)), q (32 : Nat), q (SVote.digest (SMsg.vote m)), q (SMsg.cepoch m), q (SMsg.cleader m), q (SMsg.cview m), q (SMsg.nheld m), ∀ (k : Nat), k < SMsg.nheld m → SHeld.c (SMsg.held m k) = SHeld.c (SMsg.held m k), false = true → false = true, q (SMsg.nnews m), ∀ (k : Nat), k < SMsg.nnews m → SEnv.c (SMsg.news m k) = SEnv.c (SMsg.news m k), false = true → false = true, q (32 : Nat), q (SMsg.digest m), q (SVote.kind (SCert.vote (SMsg.cert m))), q (SVote.epoch (SCert.vote (SMsg.cert m))), q (SVote.view (SCert.vote (SMsg.cert m))), q (SVote.slot (SCert.vote (SMsg.cert m))), q (32 : Nat), q (SVote.digest (SCert.vote (SMsg.cert m))), q (SCert.n (SMsg.cert m)), ∀ (k : Nat), k < SCert.n (SMsg.cert m) → SSign.c (SCert.sig (SMsg.cert m) k) = SSign.c (SCert.sig (SMsg.cert m) k), false = true → false = true, q (SMsg.state m), q (SMsg.n m), ∀ (k : Nat), k < SMsg.n m → SSign.c (SMsg.sig m k) = SSign.c (SMsg.sig m k), false = true → false = true, q0, q0, q0, q1, q (SMsg.nnews m), ∀ (k : Nat), k < SMsg.nnews m → SEnv.c (SMsg.news m k) = SEnv.c (SMsg.news m k), false = true → false = true, q (↑(SMsg.nnews m) : Int), q1]))))) : Option (V × c5 × List Prop)) := by kernel_rfl
theorem aK6 (m : SMsg) (j : Nat) :
 f4 zp (V5 m j) [false, false, false, false, false, false, false] = (some (.bool false, [], B0 m j 0 ++ ([(!B7 (SMsg.batch m)) = false] ++ (B0 m j 1 ++ [decide ((100 : Int) < (↑(SMsg.n m) : Int)) = false, decide ((100 : Int) < (↑(SCert.n (SMsg.cert m)) : Int)) = false, decide ((20 : Int) < (↑(SMsg.nheld m) : Int)) = false, decide ((100 : Int) < (↑(SMsg.nnews m) : Int)) = false, i5 zp none 0 (cB (cB (cR (cL (cR (cR (cR (f8 (Bd.f (V5 m j)))))))))) (j + 1) (St.mk (mkT 81 [(1, .ptr (.o 0) 0 0 0 0), (3, .int .i64 0), (47, .ros 39 (SMsg.nheld m) (fun i => SHeld.c (SMsg.held m i)) false), (48, .int .i64 (↑(SMsg.nheld m) : Int)), (49, .int .i64 0)]) [(.o 0, .flat (SMsg.c m))] 1 []) .ret (St.mk (mkT 81 [(2, .bool false)]) [] 0 []), q (SMsg.kind m), q (SMsg.epoch m), q (SMsg.leader m), q (SMsg.view m), q (SMsg.slot m), q (SBatch.noop (SMsg.batch m)), q (SBatch.n (SMsg.batch m)), ∀ (k : Nat), k < SBatch.n (SMsg.batch m) → SReq.c (SBatch.req (SMsg.batch m) k) = SReq.c (SBatch.req (SMsg.batch m) k), false = true → false = true, q (SVote.kind (SMsg.vote m)), q (SVote.epoch (SMsg.vote m)), q (SVote.view (SMsg.vote m)), q (SVote.slot (SMsg.vote m)), q (32 : Nat), q (SVote.digest (SMsg.vote m)), q (SMsg.cepoch m), q (SMsg.cleader m), q (SMsg.cview m), q (SMsg.nheld m), ∀ (k : Nat), k < SMsg.nheld m → SHeld.c (SMsg.held m k) = SHeld.c (SMsg.held m k), false = true → false = true, q (SMsg.nnews m), ∀ (k : Nat), k < SMsg.nnews m → SEnv.c (SMsg.news m k) = SEnv.c (SMsg.news m k), false = true → false = true, q (32 : Nat), q (SMsg.digest m), q (SVote.kind (SCert.vote (SMsg.cert m))), q (SVote.epoch (SCert.vote (SMsg.cert m))), q (SVote.view (SCert.vote (SMsg.cert m))), q (SVote.slot (SCert.vote (SMsg.cert m))), q (32 : Nat), q (SVote.digest (SCert.vote (SMsg.cert m))), q (SCert.n (SMsg.cert m)), ∀ (k : Nat), k < SCert.n (SMsg.cert m) → SSign.c (SCert.sig (SMsg.cert m) k) = SSign.c (SCert.sig (SMsg.cert m) k), false = true → false = true, q (SMsg.state m), q (SMsg.n m), ∀ (k : Nat), k < SMsg.n m → SSign.c (SMsg.sig m k) = SSign.c (SMsg.sig m k), false = true → false = true, q0, q0, q0, q1, q (SMsg.nheld m), ∀ (k : Nat), k < SMsg.nheld m → SHeld.c (SMsg.held m k) = SHeld.c (SMsg.held m k), false = true → false = true, q (↑(SMsg.nheld m) : Int), q1]))) : Option (V × c5 × List Prop)) := by kernel_rfl
noncomputable def W9 (m : SMsg) (k : Nat) : Nat → List Prop
 | 0 => [decide ((↑k : Int) < (↑(SMsg.nheld m) : Int)) = true, (0 : Int) ≤ (↑k : Int) ∧ (↑k : Int) < (↑(SMsg.nheld m) : Int), T zp 50 [.sl (.o 449) 2 0 0 0 1 (some 1)] [(.o 449, .rows 2 1 (j4 [[.bool (SBatch.noop (SHeld.batch (SMsg.held m (Int.toNat (↑k : Int))))), rq (SBatch.n (SHeld.batch (SMsg.held m (Int.toNat (↑k : Int))))) (SBatch.req (SHeld.batch (SMsg.held m (Int.toNat (↑k : Int)))))]]) false)] (.bool (B7 (SHeld.batch (SMsg.held m k)))) [(.o 449, .rows 2 1 (j4 [[.bool (SBatch.noop (SHeld.batch (SMsg.held m (Int.toNat (↑k : Int))))), rq (SBatch.n (SHeld.batch (SMsg.held m (Int.toNat (↑k : Int))))) (SBatch.req (SHeld.batch (SMsg.held m (Int.toNat (↑k : Int)))))]]) false)]]
 | _ => []
theorem bf_ (m : SMsg) (k : Nat) :
 i6 zp (aM4 m k) [true, true, true] = (some (.ret, St.mk (mkT 81 [(2, .bool false)]) [] 0 [], W9 m k 0 ++ [(!B7 (SHeld.batch (SMsg.held m k))) = true, q2, q false]) : Option (Exit × St × List Prop)) := by kernel_rfl
theorem bf9 (m : SMsg) (k : Nat) :
 i6 zp (aM4 m k) [true, false, true] = (some (.ret, St.mk (mkT 81 [(2, .bool false)]) [] 0 [], W9 m k 0 ++ [(!B7 (SHeld.batch (SMsg.held m k))) = false, decide ((100 : Int) < (↑(SCert.n (SHeld.cert (SMsg.held m (Int.toNat (↑k : Int))))) : Int)) = true, q false]) : Option (Exit × St × List Prop)) := by kernel_rfl
theorem bf8 (m : SMsg) (k : Nat) :
 i6 zp (aM4 m k) [true, false, false] = (some (.normal, St.mk (mkT 81 [(1, .ptr (.o 0) 0 0 0 0), (3, .int .i64 0), (47, .ros 39 (SMsg.nheld m) (fun i => SHeld.c (SMsg.held m i)) false), (48, .int .i64 (↑(SMsg.nheld m) : Int)), (49, .int .i64 (↑(k + 1) : Int))]) [(.o 0, .flat (SMsg.c m))] 1 [], W9 m k 0 ++ [(!B7 (SHeld.batch (SMsg.held m k))) = false, decide ((100 : Int) < (↑(SCert.n (SHeld.cert (SMsg.held m (Int.toNat (↑k : Int))))) : Int)) = false, InR .i64 ((↑k : Int) + (1 : Int)), q (SMsg.kind m), q (SMsg.epoch m), q (SMsg.leader m), q (SMsg.view m), q (SMsg.slot m), q (SBatch.noop (SMsg.batch m)), q (SBatch.n (SMsg.batch m)), ∀ (k : Nat), k < SBatch.n (SMsg.batch m) → SReq.c (SBatch.req (SMsg.batch m) k) = SReq.c (SBatch.req (SMsg.batch m) k), false = true → false = true, q (SVote.kind (SMsg.vote m)), q (SVote.epoch (SMsg.vote m)), q (SVote.view (SMsg.vote m)), q (SVote.slot (SMsg.vote m)), q (32 : Nat), q (SVote.digest (SMsg.vote m)), q (SMsg.cepoch m), q (SMsg.cleader m), q (SMsg.cview m), q (SMsg.nheld m), ∀ (k : Nat), k < SMsg.nheld m → SHeld.c (SMsg.held m k) = SHeld.c (SMsg.held m k), false = true → false = true, q (SMsg.nnews m), ∀ (k : Nat), k < SMsg.nnews m → SEnv.c (SMsg.news m k) = SEnv.c (SMsg.news m k), false = true → false = true, q (32 : Nat), q (SMsg.digest m), q (SVote.kind (SCert.vote (SMsg.cert m))), q (SVote.epoch (SCert.vote (SMsg.cert m))), q (SVote.view (SCert.vote (SMsg.cert m))), q (SVote.slot (SCert.vote (SMsg.cert m))), q (32 : Nat), q (SVote.digest (SCert.vote (SMsg.cert m))), q (SCert.n (SMsg.cert m)), ∀ (k : Nat), k < SCert.n (SMsg.cert m) → SSign.c (SCert.sig (SMsg.cert m) k) = SSign.c (SCert.sig (SMsg.cert m) k), false = true → false = true, q (SMsg.state m), q (SMsg.n m), ∀ (k : Nat), k < SMsg.n m → SSign.c (SMsg.sig m k) = SSign.c (SMsg.sig m k), false = true → false = true, q0, q0, q0, q1, q (SMsg.nheld m), ∀ (k : Nat), k < SMsg.nheld m → SHeld.c (SMsg.held m k) = SHeld.c (SMsg.held m k), false = true → false = true, q (↑(SMsg.nheld m) : Int), (↑k : Int) + (1 : Int) = (↑(k + (1 : Nat)) : Int)]) : Option (Exit × St × List Prop)) := by kernel_rfl
theorem bF4 (m : SMsg) (k : Nat) :
 i6 zp (aM4 m k) [false] = (some (.exit 0, St.mk (mkT 81 [(1, .ptr (.o 0) 0 0 0 0), (3, .int .i64 0), (47, .ros 39 (SMsg.nheld m) (fun i => SHeld.c (SMsg.held m i)) false), (48, .int .i64 (↑(SMsg.nheld m) : Int)), (49, .int .i64 (↑(SMsg.nheld m) : Int))]) [(.o 0, .flat (SMsg.c m))] 1 [], [decide ((↑k : Int) < (↑(SMsg.nheld m) : Int)) = false, q (SMsg.kind m), q (SMsg.epoch m), q (SMsg.leader m), q (SMsg.view m), q (SMsg.slot m), q (SBatch.noop (SMsg.batch m)), q (SBatch.n (SMsg.batch m)), ∀ (k : Nat), k < SBatch.n (SMsg.batch m) → SReq.c (SBatch.req (SMsg.batch m) k) = SReq.c (SBatch.req (SMsg.batch m) k), false = true → false = true, q (SVote.kind (SMsg.vote m)), q (SVote.epoch (SMsg.vote m)), q (SVote.view (SMsg.vote m)), q (SVote.slot (SMsg.vote m)), q (32 : Nat), q (SVote.digest (SMsg.vote m)), q (SMsg.cepoch m), q (SMsg.cleader m), q (SMsg.cview m), q (SMsg.nheld m), ∀ (k : Nat), k < SMsg.nheld m → SHeld.c (SMsg.held m k) = SHeld.c (SMsg.held m k), false = true → false = true, q (SMsg.nnews m), ∀ (k : Nat), k < SMsg.nnews m → SEnv.c (SMsg.news m k) = SEnv.c (SMsg.news m k), false = true → false = true, q (32 : Nat), q (SMsg.digest m), q (SVote.kind (SCert.vote (SMsg.cert m))), q (SVote.epoch (SCert.vote (SMsg.cert m))), q (SVote.view (SCert.vote (SMsg.cert m))), q (SVote.slot (SCert.vote (SMsg.cert m))), q (32 : Nat), q (SVote.digest (SCert.vote (SMsg.cert m))), q (SCert.n (SMsg.cert m)), ∀ (k : Nat), k < SCert.n (SMsg.cert m) → SSign.c (SCert.sig (SMsg.cert m) k) = SSign.c (SCert.sig (SMsg.cert m) k), false = true → false = true, q (SMsg.state m), q (SMsg.n m), ∀ (k : Nat), k < SMsg.n m → SSign.c (SMsg.sig m k) = SSign.c (SMsg.sig m k), false = true → false = true, q0, q0, q0, q1, q (SMsg.nheld m), ∀ (k : Nat), k < SMsg.nheld m → SHeld.c (SMsg.held m k) = SHeld.c (SMsg.held m k), false = true → false = true, q (↑(SMsg.nheld m) : Int), (↑k : Int) = (↑(SMsg.nheld m) : Int)]) : Option (Exit × St × List Prop)) := by kernel_rfl
theorem bs6 (m : SMsg) (k : Nat) :
  i6 zp (bg0 m k) [true, true] = (some (.ret, St.mk (mkT 81 [(2, .bool false)]) [] 0 [], [decide ((↑k : Int) < (↑(SMsg.nnews m) : Int)) = true, (0 : Int) ≤ (↑k : Int) ∧ (↑k : Int) < (↑(SMsg.nnews m) : Int), T zp 51 [.int .i64 (A8 (SMsg.news m) k), .int .i64 (↑(ByteArray.size (SEnv.body (SMsg.news m (Int.toNat (↑k : Int))))) : Int), .int .i64 6000] [] (.int .i64 (A8 (SMsg.news m) (k + 1))) [], decide ((6000 : Int) < A8 (SMsg.news m) (k + (1 : Nat))) = true, q false]) : Option (Exit × St × List Prop)) := by kernel_rfl
theorem bs5 (m : SMsg) (k : Nat) :
  i6 zp (bg0 m k) [true, false] = (some (.normal, St.mk (mkT 81 [(1, .ptr (.o 0) 0 0 0 0), (3, .int .i64 (A8 (SMsg.news m) (k + 1))), (67, .ros 18 (SMsg.nnews m) (fun i => SEnv.c (SMsg.news m i)) false), (68, .int .i64 (↑(SMsg.nnews m) : Int)), (69, .int .i64 (↑(k + 1) : Int))]) [(.o 0, .flat (SMsg.c m))] 1 [], [decide ((↑k : Int) < (↑(SMsg.nnews m) : Int)) = true, (0 : Int) ≤ (↑k : Int) ∧ (↑k : Int) < (↑(SMsg.nnews m) : Int), T zp 51 [.int .i64 (A8 (SMsg.news m) k), .int .i64 (↑(ByteArray.size (SEnv.body (SMsg.news m (Int.toNat (↑k : Int))))) : Int), .int .i64 6000] [] (.int .i64 (A8 (SMsg.news m) (k + 1))) [], decide ((6000 : Int) < A8 (SMsg.news m) (k + (1 : Nat))) = false, InR .i64 ((↑k : Int) + (1 : Int)), q (SMsg.kind m), q (SMsg.epoch m), q (SMsg.leader m), q (SMsg.view m), q (SMsg.slot m), q (SBatch.noop (SMsg.batch m)), q (SBatch.n (SMsg.batch m)), ∀ (k : Nat), k < SBatch.n (SMsg.batch m) → SReq.c (SBatch.req (SMsg.batch m) k) = SReq.c (SBatch.req (SMsg.batch m) k), false = true → false = true, q (SVote.kind (SMsg.vote m)), q (SVote.epoch (SMsg.vote m)), q (SVote.view (SMsg.vote m)), q (SVote.slot (SMsg.vote m)), q (32 : Nat), q (SVote.digest (SMsg.vote m)), q (SMsg.cepoch m), q (SMsg.cleader m), q (SMsg.cview m), q (SMsg.nheld m), ∀ (k : Nat), k < SMsg.nheld m → SHeld.c (SMsg.held m k) = SHeld.c (SMsg.held m k), false = true → false = true, q (SMsg.nnews m), ∀ (k : Nat), k < SMsg.nnews m → SEnv.c (SMsg.news m k) = SEnv.c (SMsg.news m k), false = true → false = true, q (32 : Nat), q (SMsg.digest m), q (SVote.kind (SCert.vote (SMsg.cert m))), q (SVote.epoch (SCert.vote (SMsg.cert m))), q (SVote.view (SCert.vote (SMsg.cert m))), q (SVote.slot (SCert.vote (SMsg.cert m))), q (32 : Nat), q (SVote.digest (SCert.vote (SMsg.cert m))), q (SCert.n (SMsg.cert m)), ∀ (k : Nat), k < SCert.n (SMsg.cert m) → SSign.c (SCert.sig (SMsg.cert m) k) = SSign.c (SCert.sig (SMsg.cert m) k), false = true → false = true, q (SMsg.state m), q (SMsg.n m), ∀ (k : Nat), k < SMsg.n m → SSign.c (SMsg.sig m k) = SSign.c (SMsg.sig m k), false = true → false = true, q0, q0, q0, q (A8 (SMsg.news m) (k + (1 : Nat))), q (SMsg.nnews m), ∀ (k : Nat), k < SMsg.nnews m → SEnv.c (SMsg.news m k) = SEnv.c (SMsg.news m k), false = true → false = true, q (↑(SMsg.nnews m) : Int), (↑k : Int) + (1 : Int) = (↑(k + (1 : Nat)) : Int)]) : Option (Exit × St × List Prop)) := by kernel_rfl
theorem bF5 (m : SMsg) (k : Nat) :
  i6 zp (bg0 m k) [false] = (some (.exit 2, St.mk (mkT 81 [(1, .ptr (.o 0) 0 0 0 0), (3, .int .i64 (A8 (SMsg.news m) (SMsg.nnews m))), (67, .ros 18 (SMsg.nnews m) (fun i => SEnv.c (SMsg.news m i)) false), (68, .int .i64 (↑(SMsg.nnews m) : Int)), (69, .int .i64 (↑(SMsg.nnews m) : Int))]) [(.o 0, .flat (SMsg.c m))] 1 [], [decide ((↑k : Int) < (↑(SMsg.nnews m) : Int)) = false, q (SMsg.kind m), q (SMsg.epoch m), q (SMsg.leader m), q (SMsg.view m), q (SMsg.slot m), q (SBatch.noop (SMsg.batch m)), q (SBatch.n (SMsg.batch m)), ∀ (k : Nat), k < SBatch.n (SMsg.batch m) → SReq.c (SBatch.req (SMsg.batch m) k) = SReq.c (SBatch.req (SMsg.batch m) k), false = true → false = true, q (SVote.kind (SMsg.vote m)), q (SVote.epoch (SMsg.vote m)), q (SVote.view (SMsg.vote m)), q (SVote.slot (SMsg.vote m)), q (32 : Nat), q (SVote.digest (SMsg.vote m)), q (SMsg.cepoch m), q (SMsg.cleader m), q (SMsg.cview m), q (SMsg.nheld m), ∀ (k : Nat), k < SMsg.nheld m → SHeld.c (SMsg.held m k) = SHeld.c (SMsg.held m k), false = true → false = true, q (SMsg.nnews m), ∀ (k : Nat), k < SMsg.nnews m → SEnv.c (SMsg.news m k) = SEnv.c (SMsg.news m k), false = true → false = true, q (32 : Nat), q (SMsg.digest m), q (SVote.kind (SCert.vote (SMsg.cert m))), q (SVote.epoch (SCert.vote (SMsg.cert m))), q (SVote.view (SCert.vote (SMsg.cert m))), q (SVote.slot (SCert.vote (SMsg.cert m))), q (32 : Nat), q (SVote.digest (SCert.vote (SMsg.cert m))), q (SCert.n (SMsg.cert m)), ∀ (k : Nat), k < SCert.n (SMsg.cert m) → SSign.c (SCert.sig (SMsg.cert m) k) = SSign.c (SCert.sig (SMsg.cert m) k), false = true → false = true, q (SMsg.state m), q (SMsg.n m), ∀ (k : Nat), k < SMsg.n m → SSign.c (SMsg.sig m k) = SSign.c (SMsg.sig m k), false = true → false = true, q0, q0, q0, A8 (SMsg.news m) k = A8 (SMsg.news m) (SMsg.nnews m), q (SMsg.nnews m), ∀ (k : Nat), k < SMsg.nnews m → SEnv.c (SMsg.news m k) = SEnv.c (SMsg.news m k), false = true → false = true, q (↑(SMsg.nnews m) : Int), (↑k : Int) = (↑(SMsg.nnews m) : Int)]) : Option (Exit × St × List Prop)) := by kernel_rfl
theorem bh4 {n more most : Int} (h1 : 0 ≤ n) (h2 : 0 ≤ more) (h3 : more ≤ 9223372036854775807) (h4 : 0 ≤ most) (h5 : most ≤ 1000000000000) : T Tryz.prog 51 [.int .i64 n, .int .i64 more, .int .i64 most] [] (.int .i64 (E7 n more most)) [] := by
 by_cases a : most < n
 ·exact T.val (f5 (az1 n more most) Tryz.func51 (by simp [All, M5, a] <;> omega)) (by simp [E7, a])
 by_cases b : most < more
 ·exact T.val (f5 (az0 n more most) Tryz.func51 (by simp [All, M5, a, b] <;> omega)) (by simp [E7, b])
 by_cases c : most - more < n
 ·exact T.val (f5 (ay_ n more most) Tryz.func51 (by simp [All, M5, a, b, c] <;> omega)) (by simp [E7, c])
 ·exact T.val (f5 (ay9 n more most) Tryz.func51 (by simp [All, M5, a, b, c] <;> omega)) (by simp [E7, a, b, c])
theorem aV5 {n more most : Int} (h1 : 0 ≤ n) (h2 : 0 ≤ more) (h3 : 0 ≤ most) : 0 ≤ E7 n more most := by
 unfold E7; split <;> omega
theorem ah9 (e : Nat → SEnv) : ∀ k, 0 ≤ A8 e k
 | 0 => by simp [A8]
 | k + 1 => aV5 (ah9 e k) (by omega) (by omega)
structure FitB (b : SBatch) : Prop where
 n : b.n ≤ 9223372036854775807
 data : ∀ k, k < b.n → (b.req k).data.size ≤ 9223372036854775807
structure FitMsg (m : SMsg) : Prop where
 batch : FitB m.batch
 held : ∀ k, k < m.nheld → FitB (m.held k).batch
 news : ∀ k, k < m.nnews → (m.news k).body.size ≤ 9223372036854775807
 nheld : m.nheld ≤ 9223372036854775807
 nnews : m.nnews ≤ 9223372036854775807
theorem bM4 {h : SHeld} (h1 : F9 h = true) : B7 h.batch = true ∧ h.cert.n ≤ 100 := by simpa [F9] using h1
def HL1 (m : SMsg) : Prop := ((∀ k, k < m.nheld → F9 (m.held k) = true) ∧ i5 Tryz.prog none 0 (cB (cB (cR (cL (cR (cR (cR (f8 Tryz.f18)))))))) (m.nheld + 1) (ah4 m 0) (.exit 0) (ah4 m m.nheld)) ∨ ∃ j, j < m.nheld ∧ (∀ k, k < j → F9 (m.held k) = true) ∧ ¬ F9 (m.held j) = true ∧ i5 Tryz.prog none 0 (cB (cB (cR (cL (cR (cR (cR (f8 Tryz.f18)))))))) (j + 1) (ah4 m 0) .ret (smF 2 81)
def HL2 (m : SMsg) : Prop := ((∀ k, k < m.nnews → A8 m.news (k + 1) ≤ 6000) ∧ i5 Tryz.prog none 0 (cB (cB (cR (cL (cR (cR (cR (cR (f8 Tryz.f18))))))))) (m.nnews + 1) (ah5 m 0) (.exit 2) (ah5 m m.nnews)) ∨ ∃ j, j < m.nnews ∧ (∀ k, k < j → A8 m.news (k + 1) ≤ 6000) ∧ ¬ A8 m.news (j + 1) ≤ 6000 ∧ i5 Tryz.prog none 0 (cB (cB (cR (cL (cR (cR (cR (cR (f8 Tryz.f18))))))))) (j + 1) (ah5 m 0) .ret (smF 2 81)
theorem bh8 (m : SMsg) (hf : FitMsg m) (hL1 : HL1 m) (hL2 : HL2 m) : T Tryz.prog 18 [.agg m.c] [] (.bool (n8 m)) [] := by
 rcases Bool.eq_false_or_eq_true ((!B7 (SMsg.batch m))) with h1 | h1
 ·refine T.conv (f5 (aP4 m 0) Tryz.func18 ?_) rfl rfl ?_ ?_
  ·simp only [All, f3, B0]; and_intros
   all_goals first | assumption | exact L7 m.batch hf.batch.data hf.batch.n _ | trivial
  ·(try simp only [Bool.not_eq_true', Bool.not_eq_false', decide_eq_true_eq, decide_eq_false_iff_not, Int.not_lt] at *); (congr 1; first
    | (have : ¬ ∀ i, i < m.nheld → F9 (m.held i) = true := fun h => gq (h j hj)
       simp only [n8, this, decide_false, Bool.false_and, Bool.and_false]; done)
    | (have : ¬ ∀ i, i < m.nnews → A8 m.news (i + 1) ≤ 6000 := fun h => gq2 (h j hj)
       simp only [n8, this, decide_false, Bool.false_and, Bool.and_false]; done)
    | (simp only [n8, h1, Bool.false_and]; done)
    | (have a2 : m.state.size ≤ 6000 := by omega
       have a3 : m.n ≤ 100 := by omega
       have a4 : m.cert.n ≤ 100 := by omega
       have a5 : m.nheld ≤ 20 := by omega
       have a6 : m.nnews ≤ 100 := by omega
       have b1 : decide (∀ i, i < m.nheld → F9 (m.held i) = true) = true := decide_eq_true g
       have b2 : decide (∀ i, i < m.nnews → A8 m.news (i + 1) ≤ 6000) = true := decide_eq_true g2
       simp only [n8, h1, a2, a3, a4, a5, a6, b1, b2, decide_true, Bool.and_self]; done)
    | (rw [eq_comm, Bool.eq_false_iff]; intro hh; simp only [n8, Bool.and_eq_true, decide_eq_true_eq] at hh; omega))
  ·rfl
 ·rcases Bool.eq_false_or_eq_true (decide ((6000 : Int) < (↑(ByteArray.size (SMsg.state m)) : Int))) with h2 | h2
  ·refine T.conv (f5 (aP3 m 0) Tryz.func18 ?_) rfl rfl ?_ ?_
   ·simp only [All, f3, B0]; and_intros
    all_goals first | assumption | exact L7 m.batch hf.batch.data hf.batch.n _ | trivial
   ·(try simp only [Bool.not_eq_true', Bool.not_eq_false', decide_eq_true_eq, decide_eq_false_iff_not, Int.not_lt] at *); (congr 1; first
     | (have : ¬ ∀ i, i < m.nheld → F9 (m.held i) = true := fun h => gq (h j hj)
        simp only [n8, this, decide_false, Bool.false_and, Bool.and_false]; done)
     | (have : ¬ ∀ i, i < m.nnews → A8 m.news (i + 1) ≤ 6000 := fun h => gq2 (h j hj)
        simp only [n8, this, decide_false, Bool.false_and, Bool.and_false]; done)
     | (simp only [n8, h1, Bool.false_and]; done)
     | (have a2 : m.state.size ≤ 6000 := by omega
        have a3 : m.n ≤ 100 := by omega
        have a4 : m.cert.n ≤ 100 := by omega
        have a5 : m.nheld ≤ 20 := by omega
        have a6 : m.nnews ≤ 100 := by omega
        have b1 : decide (∀ i, i < m.nheld → F9 (m.held i) = true) = true := decide_eq_true g
        have b2 : decide (∀ i, i < m.nnews → A8 m.news (i + 1) ≤ 6000) = true := decide_eq_true g2
        simp only [n8, h1, a2, a3, a4, a5, a6, b1, b2, decide_true, Bool.and_self]; done)
     | (rw [eq_comm, Bool.eq_false_iff]; intro hh; simp only [n8, Bool.and_eq_true, decide_eq_true_eq] at hh; omega))
   ·rfl
  ·rcases Bool.eq_false_or_eq_true (decide ((100 : Int) < (↑(SMsg.n m) : Int))) with h3 | h3
   ·refine T.conv (f5 (aP2 m 0) Tryz.func18 ?_) rfl rfl ?_ ?_
    ·simp only [All, f3, B0]; and_intros
     all_goals first | assumption | exact L7 m.batch hf.batch.data hf.batch.n _ | trivial
    ·(try simp only [Bool.not_eq_true', Bool.not_eq_false', decide_eq_true_eq, decide_eq_false_iff_not, Int.not_lt] at *); (congr 1; first
      | (have : ¬ ∀ i, i < m.nheld → F9 (m.held i) = true := fun h => gq (h j hj)
         simp only [n8, this, decide_false, Bool.false_and, Bool.and_false]; done)
      | (have : ¬ ∀ i, i < m.nnews → A8 m.news (i + 1) ≤ 6000 := fun h => gq2 (h j hj)
         simp only [n8, this, decide_false, Bool.false_and, Bool.and_false]; done)
      | (simp only [n8, h1, Bool.false_and]; done)
      | (have a2 : m.state.size ≤ 6000 := by omega
         have a3 : m.n ≤ 100 := by omega
         have a4 : m.cert.n ≤ 100 := by omega
         have a5 : m.nheld ≤ 20 := by omega
         have a6 : m.nnews ≤ 100 := by omega
         have b1 : decide (∀ i, i < m.nheld → F9 (m.held i) = true) = true := decide_eq_true g
         have b2 : decide (∀ i, i < m.nnews → A8 m.news (i + 1) ≤ 6000) = true := decide_eq_true g2
         simp only [n8, h1, a2, a3, a4, a5, a6, b1, b2, decide_true, Bool.and_self]; done)
      | (rw [eq_comm, Bool.eq_false_iff]; intro hh; simp only [n8, Bool.and_eq_true, decide_eq_true_eq] at hh; omega))
    ·rfl
   ·rcases Bool.eq_false_or_eq_true (decide ((100 : Int) < (↑(SCert.n (SMsg.cert m)) : Int))) with h4 | h4
    ·refine T.conv (f5 (aP1 m 0) Tryz.func18 ?_) rfl rfl ?_ ?_
     ·simp only [All, f3, B0]; and_intros
      all_goals first | assumption | exact L7 m.batch hf.batch.data hf.batch.n _ | trivial
     ·(try simp only [Bool.not_eq_true', Bool.not_eq_false', decide_eq_true_eq, decide_eq_false_iff_not, Int.not_lt] at *); (congr 1; first
       | (have : ¬ ∀ i, i < m.nheld → F9 (m.held i) = true := fun h => gq (h j hj)
          simp only [n8, this, decide_false, Bool.false_and, Bool.and_false]; done)
       | (have : ¬ ∀ i, i < m.nnews → A8 m.news (i + 1) ≤ 6000 := fun h => gq2 (h j hj)
          simp only [n8, this, decide_false, Bool.false_and, Bool.and_false]; done)
       | (simp only [n8, h1, Bool.false_and]; done)
       | (have a2 : m.state.size ≤ 6000 := by omega
          have a3 : m.n ≤ 100 := by omega
          have a4 : m.cert.n ≤ 100 := by omega
          have a5 : m.nheld ≤ 20 := by omega
          have a6 : m.nnews ≤ 100 := by omega
          have b1 : decide (∀ i, i < m.nheld → F9 (m.held i) = true) = true := decide_eq_true g
          have b2 : decide (∀ i, i < m.nnews → A8 m.news (i + 1) ≤ 6000) = true := decide_eq_true g2
          simp only [n8, h1, a2, a3, a4, a5, a6, b1, b2, decide_true, Bool.and_self]; done)
       | (rw [eq_comm, Bool.eq_false_iff]; intro hh; simp only [n8, Bool.and_eq_true, decide_eq_true_eq] at hh; omega))
     ·rfl
    ·rcases Bool.eq_false_or_eq_true (decide ((20 : Int) < (↑(SMsg.nheld m) : Int))) with h5 | h5
     ·refine T.conv (f5 (aP0 m 0) Tryz.func18 ?_) rfl rfl ?_ ?_
      ·simp only [All, f3, B0]; and_intros
       all_goals first | assumption | exact L7 m.batch hf.batch.data hf.batch.n _ | trivial
      ·(try simp only [Bool.not_eq_true', Bool.not_eq_false', decide_eq_true_eq, decide_eq_false_iff_not, Int.not_lt] at *); (congr 1; first
        | (have : ¬ ∀ i, i < m.nheld → F9 (m.held i) = true := fun h => gq (h j hj)
           simp only [n8, this, decide_false, Bool.false_and, Bool.and_false]; done)
        | (have : ¬ ∀ i, i < m.nnews → A8 m.news (i + 1) ≤ 6000 := fun h => gq2 (h j hj)
           simp only [n8, this, decide_false, Bool.false_and, Bool.and_false]; done)
        | (simp only [n8, h1, Bool.false_and]; done)
        | (have a2 : m.state.size ≤ 6000 := by omega
           have a3 : m.n ≤ 100 := by omega
           have a4 : m.cert.n ≤ 100 := by omega
           have a5 : m.nheld ≤ 20 := by omega
           have a6 : m.nnews ≤ 100 := by omega
           have b1 : decide (∀ i, i < m.nheld → F9 (m.held i) = true) = true := decide_eq_true g
           have b2 : decide (∀ i, i < m.nnews → A8 m.news (i + 1) ≤ 6000) = true := decide_eq_true g2
           simp only [n8, h1, a2, a3, a4, a5, a6, b1, b2, decide_true, Bool.and_self]; done)
        | (rw [eq_comm, Bool.eq_false_iff]; intro hh; simp only [n8, Bool.and_eq_true, decide_eq_true_eq] at hh; omega))
      ·rfl
     ·rcases Bool.eq_false_or_eq_true (decide ((100 : Int) < (↑(SMsg.nnews m) : Int))) with h6 | h6
      ·refine T.conv (f5 (aO_ m 0) Tryz.func18 ?_) rfl rfl ?_ ?_
       ·simp only [All, f3, B0]; and_intros
        all_goals first | assumption | exact L7 m.batch hf.batch.data hf.batch.n _ | trivial
       ·(try simp only [Bool.not_eq_true', Bool.not_eq_false', decide_eq_true_eq, decide_eq_false_iff_not, Int.not_lt] at *); (congr 1; first
         | (have : ¬ ∀ i, i < m.nheld → F9 (m.held i) = true := fun h => gq (h j hj)
            simp only [n8, this, decide_false, Bool.false_and, Bool.and_false]; done)
         | (have : ¬ ∀ i, i < m.nnews → A8 m.news (i + 1) ≤ 6000 := fun h => gq2 (h j hj)
            simp only [n8, this, decide_false, Bool.false_and, Bool.and_false]; done)
         | (simp only [n8, h1, Bool.false_and]; done)
         | (have a2 : m.state.size ≤ 6000 := by omega
            have a3 : m.n ≤ 100 := by omega
            have a4 : m.cert.n ≤ 100 := by omega
            have a5 : m.nheld ≤ 20 := by omega
            have a6 : m.nnews ≤ 100 := by omega
            have b1 : decide (∀ i, i < m.nheld → F9 (m.held i) = true) = true := decide_eq_true g
            have b2 : decide (∀ i, i < m.nnews → A8 m.news (i + 1) ≤ 6000) = true := decide_eq_true g2
            simp only [n8, h1, a2, a3, a4, a5, a6, b1, b2, decide_true, Bool.and_self]; done)
         | (rw [eq_comm, Bool.eq_false_iff]; intro hh; simp only [n8, Bool.and_eq_true, decide_eq_true_eq] at hh; omega))
       ·rfl
      ·rcases hL1 with ⟨g, gL⟩ | ⟨j, hj, _, gq, gL⟩
       ·rcases hL2 with ⟨g2, gL2⟩ | ⟨j, hj, _, gq2, gL2⟩
        ·refine T.conv (f5 (aE5 m 0) Tryz.func18 ?_) rfl rfl ?_ ?_
         ·simp only [All, f3, B0]; and_intros
          all_goals first | assumption | exact L7 m.batch hf.batch.data hf.batch.n _ | trivial | (intro _ _; trivial)
         ·(try simp only [Bool.not_eq_true', Bool.not_eq_false', decide_eq_true_eq, decide_eq_false_iff_not, Int.not_lt] at *); (congr 1; first
           | (have : ¬ ∀ i, i < m.nheld → F9 (m.held i) = true := fun h => gq (h j hj)
              simp only [n8, this, decide_false, Bool.false_and, Bool.and_false]; done)
           | (have : ¬ ∀ i, i < m.nnews → A8 m.news (i + 1) ≤ 6000 := fun h => gq2 (h j hj)
              simp only [n8, this, decide_false, Bool.false_and, Bool.and_false]; done)
           | (simp only [n8, h1, Bool.false_and]; done)
           | (have a2 : m.state.size ≤ 6000 := by omega
              have a3 : m.n ≤ 100 := by omega
              have a4 : m.cert.n ≤ 100 := by omega
              have a5 : m.nheld ≤ 20 := by omega
              have a6 : m.nnews ≤ 100 := by omega
              have b1 : decide (∀ i, i < m.nheld → F9 (m.held i) = true) = true := decide_eq_true g
              have b2 : decide (∀ i, i < m.nnews → A8 m.news (i + 1) ≤ 6000) = true := decide_eq_true g2
              simp only [n8, h1, a2, a3, a4, a5, a6, b1, b2, decide_true, Bool.and_self]; done)
           | (rw [eq_comm, Bool.eq_false_iff]; intro hh; simp only [n8, Bool.and_eq_true, decide_eq_true_eq] at hh; omega))
         ·rfl
        ·refine T.conv (f5 (aE4 m j) Tryz.func18 ?_) rfl rfl ?_ ?_
         ·simp only [All, f3, B0]; and_intros
          all_goals first | assumption | exact L7 m.batch hf.batch.data hf.batch.n _ | trivial | (intro _ _; trivial)
         ·(try simp only [Bool.not_eq_true', Bool.not_eq_false', decide_eq_true_eq, decide_eq_false_iff_not, Int.not_lt] at *); (congr 1; first
           | (have : ¬ ∀ i, i < m.nheld → F9 (m.held i) = true := fun h => gq (h j hj)
              simp only [n8, this, decide_false, Bool.false_and, Bool.and_false]; done)
           | (have : ¬ ∀ i, i < m.nnews → A8 m.news (i + 1) ≤ 6000 := fun h => gq2 (h j hj)
              simp only [n8, this, decide_false, Bool.false_and, Bool.and_false]; done)
           | (simp only [n8, h1, Bool.false_and]; done)
           | (have a2 : m.state.size ≤ 6000 := by omega
              have a3 : m.n ≤ 100 := by omega
              have a4 : m.cert.n ≤ 100 := by omega
              have a5 : m.nheld ≤ 20 := by omega
              have a6 : m.nnews ≤ 100 := by omega
              have b1 : decide (∀ i, i < m.nheld → F9 (m.held i) = true) = true := decide_eq_true g
              have b2 : decide (∀ i, i < m.nnews → A8 m.news (i + 1) ≤ 6000) = true := decide_eq_true g2
              simp only [n8, h1, a2, a3, a4, a5, a6, b1, b2, decide_true, Bool.and_self]; done)
           | (rw [eq_comm, Bool.eq_false_iff]; intro hh; simp only [n8, Bool.and_eq_true, decide_eq_true_eq] at hh; omega))
         ·rfl
       ·refine T.conv (f5 (aK6 m j) Tryz.func18 ?_) rfl rfl ?_ ?_
        ·simp only [All, f3, B0]; and_intros
         all_goals first | assumption | exact L7 m.batch hf.batch.data hf.batch.n _ | trivial | (intro _ _; trivial)
        ·(try simp only [Bool.not_eq_true', Bool.not_eq_false', decide_eq_true_eq, decide_eq_false_iff_not, Int.not_lt] at *); (congr 1; first
          | (have : ¬ ∀ i, i < m.nheld → F9 (m.held i) = true := fun h => gq (h j hj)
             simp only [n8, this, decide_false, Bool.false_and, Bool.and_false]; done)
          | (have : ¬ ∀ i, i < m.nnews → A8 m.news (i + 1) ≤ 6000 := fun h => gq2 (h j hj)
             simp only [n8, this, decide_false, Bool.false_and, Bool.and_false]; done)
          | (simp only [n8, h1, Bool.false_and]; done)
          | (have a2 : m.state.size ≤ 6000 := by omega
             have a3 : m.n ≤ 100 := by omega
             have a4 : m.cert.n ≤ 100 := by omega
             have a5 : m.nheld ≤ 20 := by omega
             have a6 : m.nnews ≤ 100 := by omega
             have b1 : decide (∀ i, i < m.nheld → F9 (m.held i) = true) = true := decide_eq_true g
             have b2 : decide (∀ i, i < m.nnews → A8 m.news (i + 1) ≤ 6000) = true := decide_eq_true g2
             simp only [n8, h1, a2, a3, a4, a5, a6, b1, b2, decide_true, Bool.and_self]; done)
          | (rw [eq_comm, Bool.eq_false_iff]; intro hh; simp only [n8, Bool.and_eq_true, decide_eq_true_eq] at hh; omega))
        ·rfl
theorem bv_ (m : SMsg) (hf : FitMsg m) : T Tryz.prog 18 [.agg m.c] [] (.bool (n8 m)) [] := by
 have hL1 := aS3 (P := Tryz.prog) (ro := none) (p := 0) (c := cB (cB (cR (cL (cR (cR (cR (f8 Tryz.f18)))))))) (I := ah4 m) (F := fun _ => smF 2 81) (e := fun _ => .ret) (q := fun k => F9 (m.held k) = true) (n := m.nheld)
   (fun k hk hq => by
    have hT := L7 (m.held k).batch (hf.held k hk).data (hf.held k hk).n 449
    obtain ⟨g1, g2⟩ := bM4 hq
    have hn := hf.nheld
    refine f9 NG MO _ (bf8 m k) ?_ (Nat.zero_le _)
    simp only [All, f3, W9, Int.toNat_natCast]; and_intros
    all_goals first | exact hT | exact bM3 g1 | (rw [decide_eq_false_iff_not]; omega) | (simp [hk, IntKind.min, IntKind.max, IntKind.signed, IntKind.bits] <;> omega))
   (fun k hk hq => by
    have hT := L7 (m.held k).batch (hf.held k hk).data (hf.held k hk).n 449
    by_cases g1 : B7 (m.held k).batch = true
    ·have g2 : ¬ (m.held k).cert.n ≤ 100 := fun g2 => hq (by simp [F9, g1, g2])
     refine f9 NG MO _ (bf9 m k) ?_ (Nat.zero_le _)
     simp only [All, f3, W9, Int.toNat_natCast]; and_intros
     all_goals first | exact hT | exact bM3 g1 | (rw [decide_eq_true_eq]; omega) | (simp [hk, IntKind.min, IntKind.max, IntKind.signed, IntKind.bits] <;> omega)
    ·refine f9 NG MO _ (bf_ m k) ?_ (Nat.zero_le _)
     simp only [All, f3, W9, Int.toNat_natCast]; and_intros
     all_goals first | exact hT | exact cw9 g1 | (simp [hk, IntKind.min, IntKind.max, IntKind.signed, IntKind.bits] <;> omega))
   (by simp) (f9 NG MO _ (bF4 m m.nheld) (by simp [All, f3, W9]) (Nat.zero_le _)) (by simp)
 have hL2 := aS3 (P := Tryz.prog) (ro := none) (p := 0) (c := cB (cB (cR (cL (cR (cR (cR (cR (f8 Tryz.f18))))))))) (I := ah5 m) (F := fun _ => smF 2 81) (e := fun _ => .ret) (q := fun k => A8 m.news (k + 1) ≤ 6000) (n := m.nnews)
   (fun k hk hq => by
    have hT := bh4 (n := A8 m.news k) (more := (m.news k).body.size) (most := 6000) (ah9 _ _) (by omega) (by have := hf.news k hk; omega) (by decide) (by decide)
    have hn := hf.nnews
    refine f9 NG MO _ (bs5 m k) ?_ (Nat.zero_le _)
    simp only [All, Int.toNat_natCast]; and_intros
    all_goals first | exact hT | (rw [decide_eq_false_iff_not]; omega) | (simp [hk, IntKind.min, IntKind.max, IntKind.signed, IntKind.bits] <;> omega))
   (fun k hk hq => by
    have hT := bh4 (n := A8 m.news k) (more := (m.news k).body.size) (most := 6000) (ah9 _ _) (by omega) (by have := hf.news k hk; omega) (by decide) (by decide)
    refine f9 NG MO _ (bs6 m k) ?_ (Nat.zero_le _)
    simp only [All, Int.toNat_natCast]; and_intros
    all_goals first | exact hT | (rw [decide_eq_true_eq]; omega) | (simp [hk, IntKind.min, IntKind.max, IntKind.signed, IntKind.bits] <;> omega))
   (by simp) (f9 NG MO _ (bF5 m m.nnews) (by simp [All]) (Nat.zero_le _)) (by simp)
 exact bh8 m hf hL1 hL2
def s5I (a b : V) (nt k : Nat) : St := ⟨mkT nt [(0, a), (1, b), (5, .int .i64 k)], [], 0, []⟩
noncomputable def bA1 (f : Func) (nt : Nat) (a b : V) (n : Nat) : Bd := { f := f, args := [a, b], kb := { db := fun _ _ _ _ => [], lp := fun _ _ => [(True, .loop (n + 1) (wTo (s5I a b nt 0)) (.exit 0) (s5I a b nt n))] } }
noncomputable def bG_ (f : Func) (nt : Nat) (db : Nat → List V → c5 → Nat → List Cl) (a b : V) (n k : Nat) : Pc := { c := cB (cB (cR (cL (cR (cR (f8 f)))))), st := s5I a b nt k, kb := { db := db }, k := fun e _ => match e with
 | .normal => some (wTo (s5I a b nt (k + 1)))
 | _ => some (wTo (s5I a b nt n)) }
noncomputable def cj7 (n : Nat) (a b : Nat → SSign) : Bd := bA1 Tryz.f49 26 (sg n a) (sg n b) n
noncomputable def cn6 (n : Nat) (a b : Nat → SSign) (k : Nat) : Pc := bG_ Tryz.f49 26 (fun _ _ _ _ => []) (sg n a) (sg n b) n k
def r7I (a b : SBatch) (k : Nat) : St := ⟨mkT 38 [(2, .ptr (.o 0) 0 0 0 0), (3, .ptr (.o 1) 0 0 0 0), (5, .int .i64 k)], [(.o 0, .flat a.c), (.o 1, .flat b.c)], 256, []⟩
noncomputable def ci_ (a b : SBatch) : Bd := { f := Tryz.f46, args := [.agg a.c, .agg b.c], kb := { db := fun _ _ _ _ => [], lp := fun _ _ => [(True, .loop (a.n + 1) (B6 [(.o 1, .o 64)] (r7I a b 0)) (.exit 0) (r7I a b a.n))] } }
noncomputable def cn2 (a b : SBatch) (k : Nat) : Pc := { c := cB (cB (cR (cL (cR (cR (f8 Tryz.f46)))))), st := r7I a b k, kb := kb0, k := fun e _ => match e with
 | .normal => some (wTo (r7I a b (k + 1)))
 | _ => some (wTo (r7I a b a.n)) }
def tV (l : List Nat) : Nat → List V → c5 → Nat → List Cl := fun k _ _ _ => bif l.contains k then [{ val := .bool true }] else []
noncomputable def bdRc (a b : SCert) : Bd := { f := Tryz.f48, args := [.agg a.c, .agg b.c], kb := { db := tV [49] } }
noncomputable def cj5 (n : Nat) (a b : Nat → SEnv) : Bd := bA1 Tryz.f47 26 (nw n a) (nw n b) n
noncomputable def cn5 (n : Nat) (a b : Nat → SEnv) (k : Nat) : Pc := bG_ Tryz.f47 26 (fun _ _ _ _ => []) (nw n a) (nw n b) n k
noncomputable def cj3 (n : Nat) (a b : Nat → SHeld) : Bd := bA1 Tryz.f45 43 (hl n a) (hl n b) n
noncomputable def cn4 (n : Nat) (a b : Nat → SHeld) (k : Nat) : Pc := bG_ Tryz.f45 43 (tV [46, 48]) (hl n a) (hl n b) n k
noncomputable def bdRm (a b : SMsg) : Bd := { f := Tryz.f17, args := [.agg a.c, .agg b.c], kb := { db := tV [45, 46, 47, 48, 49] } }
theorem bS_ (n : Nat) (a : Nat → SSign) (b : Nat → SSign) :
  f4 zp (cj7 n a b) [false] = (some (.bool true, [], [(!decide ((↑n : Int) = (↑n : Int))) = false, i5 zp none 0 (cB (cB (cR (cL (cR (cR (f8 (Bd.f (cj7 n a b))))))))) (n + 1) (St.mk (mkT 26 [(0, .ros 17 n (fun i => SSign.c (a i)) false), (1, .ros 17 n (fun i => SSign.c (b i)) false), (5, .int .i64 0)]) [] 0 []) (.exit 0) (St.mk (mkT 26 [(0, .ros 17 n (fun i => SSign.c (a i)) false), (1, .ros 17 n (fun i => SSign.c (b i)) false), (5, .int .i64 ↑n)]) [] 0 []), q n, ∀ (k : Nat), k < n → SSign.c (a k) = SSign.c (a k), false = true → false = true, q n, ∀ (k : Nat), k < n → SSign.c (b k) = SSign.c (b k), false = true → false = true, q1]) : Option (V × c5 × List Prop)) := by kernel_rfl
theorem bG9 (n : Nat) (a : Nat → SSign) (b : Nat → SSign) (k : Nat) :
  i6 zp (cn6 n a b k) [true, false] = (some (.normal, St.mk (mkT 26 [(0, .ros 17 n (fun i => SSign.c (a i)) false), (1, .ros 17 n (fun i => SSign.c (b i)) false), (5, .int .i64 (↑(k + 1) : Int))]) [] 0 [], [decide ((↑k : Int) < (↑n : Int)) = true, (0 : Int) ≤ (↑k : Int) ∧ (↑k : Int) < (↑n : Int), (0 : Int) ≤ (↑k : Int) ∧ (↑k : Int) < (↑n : Int), (!(decide (SSign.node (a (Int.toNat (↑k : Int))) = SSign.node (b (Int.toNat (↑k : Int)))) && (decide (SSign.tag (a (Int.toNat (↑k : Int))) = SSign.tag (b (Int.toNat (↑k : Int)))) && true))) = false, InR .i64 ((↑k : Int) + (1 : Int)), q n, ∀ (k : Nat), k < n → SSign.c (a k) = SSign.c (a k), false = true → false = true, q n, ∀ (k : Nat), k < n → SSign.c (b k) = SSign.c (b k), false = true → false = true, (↑k : Int) + (1 : Int) = (↑(k + (1 : Nat)) : Int)]) : Option (Exit × St × List Prop)) := by kernel_rfl
theorem bZ7 (n : Nat) (a : Nat → SSign) (b : Nat → SSign) (k : Nat) :
  i6 zp (cn6 n a b k) [false] = (some (.exit 0, St.mk (mkT 26 [(0, .ros 17 n (fun i => SSign.c (a i)) false), (1, .ros 17 n (fun i => SSign.c (b i)) false), (5, .int .i64 ↑n)]) [] 0 [], [decide ((↑k : Int) < (↑n : Int)) = false, q n, ∀ (k : Nat), k < n → SSign.c (a k) = SSign.c (a k), false = true → false = true, q n, ∀ (k : Nat), k < n → SSign.c (b k) = SSign.c (b k), false = true → false = true, (↑k : Int) = (↑n : Int)]) : Option (Exit × St × List Prop)) := by kernel_rfl
theorem bz6 (a : SBatch) (b : SBatch) :
  f4 zp (ci_ a b) [false, false] = (some (.bool true, [], [(!SBatch.noop a == SBatch.noop b) = false, (!decide ((↑(SBatch.n a) : Int) = (↑(SBatch.n b) : Int))) = false, i5 zp none 0 (cB (cB (cR (cL (cR (cR (f8 (Bd.f (ci_ a b))))))))) (SBatch.n a + 1) (St.mk (mkT 38 [(2, .ptr (.o 0) 0 0 0 0), (3, .ptr (.o 1) 0 0 0 0), (5, .int .i64 0)]) [(.o 0, .flat (SBatch.c a)), (.o 1, .flat (SBatch.c b))] 256 []) (.exit 0) (St.mk (mkT 38 [(2, .ptr (.o 0) 0 0 0 0), (3, .ptr (.o 1) 0 0 0 0), (5, .int .i64 (↑(SBatch.n a) : Int))]) [(.o 0, .flat (SBatch.c a)), (.o 1, .flat (SBatch.c b))] 256 []), q (SBatch.noop a), q (SBatch.n a), ∀ (k : Nat), k < SBatch.n a → SReq.c (SBatch.req a k) = SReq.c (SBatch.req a k), false = true → false = true, q (SBatch.noop b), q (SBatch.n b), ∀ (k : Nat), k < SBatch.n b → SReq.c (SBatch.req b k) = SReq.c (SBatch.req b k), false = true → false = true, q0, q0, q0, q0, q0, q0, q1]) : Option (V × c5 × List Prop)) := by kernel_rfl
theorem bG7 (a : SBatch) (b : SBatch) (k : Nat) :
  i6 zp (cn2 a b k) [true, false] = (some (.normal, St.mk (mkT 38 [(2, .ptr (.o 0) 0 0 0 0), (3, .ptr (.o 1) 0 0 0 0), (5, .int .i64 (↑(k + 1) : Int))]) [(.o 0, .flat (SBatch.c a)), (.o 1, .flat (SBatch.c b))] 256 [], [decide ((↑k : Int) < (↑(SBatch.n a) : Int)) = true, (0 : Int) ≤ (↑k : Int) ∧ (↑k : Int) < (↑(SBatch.n a) : Int), (0 : Int) ≤ (↑k : Int) ∧ (↑k : Int) < (↑(SBatch.n b) : Int), (!(decide (SReq.client (SBatch.req a (Int.toNat (↑k : Int))) = SReq.client (SBatch.req b (Int.toNat (↑k : Int)))) && (decide (SReq.num (SBatch.req a (Int.toNat (↑k : Int))) = SReq.num (SBatch.req b (Int.toNat (↑k : Int)))) && (decide (SReq.data (SBatch.req a (Int.toNat (↑k : Int))) = SReq.data (SBatch.req b (Int.toNat (↑k : Int)))) && (decide (SReq.tag (SBatch.req a (Int.toNat (↑k : Int))) = SReq.tag (SBatch.req b (Int.toNat (↑k : Int)))) && true))))) = false, InR .i64 ((↑k : Int) + (1 : Int)), q (SBatch.noop a), q (SBatch.n a), ∀ (k : Nat), k < SBatch.n a → SReq.c (SBatch.req a k) = SReq.c (SBatch.req a k), false = true → false = true, q (SBatch.noop b), q (SBatch.n b), ∀ (k : Nat), k < SBatch.n b → SReq.c (SBatch.req b k) = SReq.c (SBatch.req b k), false = true → false = true, q0, q0, q0, q0, q0, q0, (↑k : Int) + (1 : Int) = (↑(k + (1 : Nat)) : Int)]) : Option (Exit × St × List Prop)) := by kernel_rfl
theorem bZ2 (a : SBatch) (b : SBatch) (k : Nat) :
  i6 zp (cn2 a b k) [false] = (some (.exit 0, St.mk (mkT 38 [(2, .ptr (.o 0) 0 0 0 0), (3, .ptr (.o 1) 0 0 0 0), (5, .int .i64 (↑(SBatch.n a) : Int))]) [(.o 0, .flat (SBatch.c a)), (.o 1, .flat (SBatch.c b))] 256 [], [decide ((↑k : Int) < (↑(SBatch.n a) : Int)) = false, q (SBatch.noop a), q (SBatch.n a), ∀ (k : Nat), k < SBatch.n a → SReq.c (SBatch.req a k) = SReq.c (SBatch.req a k), false = true → false = true, q (SBatch.noop b), q (SBatch.n b), ∀ (k : Nat), k < SBatch.n b → SReq.c (SBatch.req b k) = SReq.c (SBatch.req b k), false = true → false = true, q0, q0, q0, q0, q0, q0, (↑k : Int) = (↑(SBatch.n a) : Int)]) : Option (Exit × St × List Prop)) := by kernel_rfl
theorem bS5 (a : SCert) (b : SCert) :
  f4 zp (bdRc a b) [true] = (some (.bool true, [], [(decide (SVote.kind (SCert.vote a) = SVote.kind (SCert.vote b)) && (decide (SVote.epoch (SCert.vote a) = SVote.epoch (SCert.vote b)) && (decide (SVote.view (SCert.vote a) = SVote.view (SCert.vote b)) && (decide (SVote.slot (SCert.vote a) = SVote.slot (SCert.vote b)) && (decide (SVote.digest (SCert.vote a) = SVote.digest (SCert.vote b)) && true))))) = true, T zp 49 [.ros 17 (SCert.n a) (fun i => SSign.c (SCert.sig a i)) false, .ros 17 (SCert.n b) (fun i => SSign.c (SCert.sig b i)) false] [] (.bool true) []]) : Option (V × c5 × List Prop)) := by kernel_rfl
theorem bS8 (n : Nat) (a : Nat → SEnv) (b : Nat → SEnv) :
  f4 zp (cj5 n a b) [false] = (some (.bool true, [], [(!decide ((↑n : Int) = (↑n : Int))) = false, i5 zp none 0 (cB (cB (cR (cL (cR (cR (f8 (Bd.f (cj5 n a b))))))))) (n + 1) (St.mk (mkT 26 [(0, .ros 18 n (fun i => SEnv.c (a i)) false), (1, .ros 18 n (fun i => SEnv.c (b i)) false), (5, .int .i64 0)]) [] 0 []) (.exit 0) (St.mk (mkT 26 [(0, .ros 18 n (fun i => SEnv.c (a i)) false), (1, .ros 18 n (fun i => SEnv.c (b i)) false), (5, .int .i64 ↑n)]) [] 0 []), q n, ∀ (k : Nat), k < n → SEnv.c (a k) = SEnv.c (a k), false = true → false = true, q n, ∀ (k : Nat), k < n → SEnv.c (b k) = SEnv.c (b k), false = true → false = true, q1]) : Option (V × c5 × List Prop)) := by kernel_rfl
theorem bG8 (n : Nat) (a : Nat → SEnv) (b : Nat → SEnv) (k : Nat) :
  i6 zp (cn5 n a b k) [true, false] = (some (.normal, St.mk (mkT 26 [(0, .ros 18 n (fun i => SEnv.c (a i)) false), (1, .ros 18 n (fun i => SEnv.c (b i)) false), (5, .int .i64 (↑(k + 1) : Int))]) [] 0 [], [decide ((↑k : Int) < (↑n : Int)) = true, (0 : Int) ≤ (↑k : Int) ∧ (↑k : Int) < (↑n : Int), (0 : Int) ≤ (↑k : Int) ∧ (↑k : Int) < (↑n : Int), (!(decide (SEnv.src (a (Int.toNat (↑k : Int))) = SEnv.src (b (Int.toNat (↑k : Int)))) && (decide (SEnv.body (a (Int.toNat (↑k : Int))) = SEnv.body (b (Int.toNat (↑k : Int)))) && (decide (SEnv.tag (a (Int.toNat (↑k : Int))) = SEnv.tag (b (Int.toNat (↑k : Int)))) && true)))) = false, InR .i64 ((↑k : Int) + (1 : Int)), q n, ∀ (k : Nat), k < n → SEnv.c (a k) = SEnv.c (a k), false = true → false = true, q n, ∀ (k : Nat), k < n → SEnv.c (b k) = SEnv.c (b k), false = true → false = true, (↑k : Int) + (1 : Int) = (↑(k + (1 : Nat)) : Int)]) : Option (Exit × St × List Prop)) := by kernel_rfl
theorem bZ6 (n : Nat) (a : Nat → SEnv) (b : Nat → SEnv) (k : Nat) :
  i6 zp (cn5 n a b k) [false] = (some (.exit 0, St.mk (mkT 26 [(0, .ros 18 n (fun i => SEnv.c (a i)) false), (1, .ros 18 n (fun i => SEnv.c (b i)) false), (5, .int .i64 ↑n)]) [] 0 [], [decide ((↑k : Int) < (↑n : Int)) = false, q n, ∀ (k : Nat), k < n → SEnv.c (a k) = SEnv.c (a k), false = true → false = true, q n, ∀ (k : Nat), k < n → SEnv.c (b k) = SEnv.c (b k), false = true → false = true, (↑k : Int) = (↑n : Int)]) : Option (Exit × St × List Prop)) := by kernel_rfl
theorem bS7 (n : Nat) (a : Nat → SHeld) (b : Nat → SHeld) :
  f4 zp (cj3 n a b) [false] = (some (.bool true, [], [(!decide ((↑n : Int) = (↑n : Int))) = false, i5 zp none 0 (cB (cB (cR (cL (cR (cR (f8 (Bd.f (cj3 n a b))))))))) (n + 1) (St.mk (mkT 43 [(0, .ros 39 n (fun i => SHeld.c (a i)) false), (1, .ros 39 n (fun i => SHeld.c (b i)) false), (5, .int .i64 0)]) [] 0 []) (.exit 0) (St.mk (mkT 43 [(0, .ros 39 n (fun i => SHeld.c (a i)) false), (1, .ros 39 n (fun i => SHeld.c (b i)) false), (5, .int .i64 ↑n)]) [] 0 []), q n, ∀ (k : Nat), k < n → SHeld.c (a k) = SHeld.c (a k), false = true → false = true, q n, ∀ (k : Nat), k < n → SHeld.c (b k) = SHeld.c (b k), false = true → false = true, q1]) : Option (V × c5 × List Prop)) := by kernel_rfl
theorem bs_ (n : Nat) (a : Nat → SHeld) (b : Nat → SHeld) (k : Nat) :
  i6 zp (cn4 n a b k) [true, false, false] = (some (.normal, St.mk (mkT 43 [(0, .ros 39 n (fun i => SHeld.c (a i)) false), (1, .ros 39 n (fun i => SHeld.c (b i)) false), (5, .int .i64 (↑(k + 1) : Int))]) [] 0 [], [decide ((↑k : Int) < (↑n : Int)) = true, (0 : Int) ≤ (↑k : Int) ∧ (↑k : Int) < (↑n : Int), (0 : Int) ≤ (↑k : Int) ∧ (↑k : Int) < (↑n : Int), T zp 46 [.agg [.bool (SBatch.noop (SHeld.batch (a (Int.toNat (↑k : Int))))), rq (SBatch.n (SHeld.batch (a (Int.toNat (↑k : Int))))) (SBatch.req (SHeld.batch (a (Int.toNat (↑k : Int)))))], .agg [.bool (SBatch.noop (SHeld.batch (b (Int.toNat (↑k : Int))))), rq (SBatch.n (SHeld.batch (b (Int.toNat (↑k : Int))))) (SBatch.req (SHeld.batch (b (Int.toNat (↑k : Int)))))]] [] (.bool true) [], q false, (0 : Int) ≤ (↑k : Int) ∧ (↑k : Int) < (↑n : Int), (0 : Int) ≤ (↑k : Int) ∧ (↑k : Int) < (↑n : Int), T zp 48 [.agg [.int .i64 (SVote.kind (SCert.vote (SHeld.cert (a (Int.toNat (↑k : Int)))))), .int .i64 (SVote.epoch (SCert.vote (SHeld.cert (a (Int.toNat (↑k : Int)))))), .int .i64 (SVote.view (SCert.vote (SHeld.cert (a (Int.toNat (↑k : Int)))))), .int .i64 (SVote.slot (SCert.vote (SHeld.cert (a (Int.toNat (↑k : Int)))))), .seg .u8 32 (SVote.digest (SCert.vote (SHeld.cert (a (Int.toNat (↑k : Int)))))), sg (SCert.n (SHeld.cert (a (Int.toNat (↑k : Int))))) (SCert.sig (SHeld.cert (a (Int.toNat (↑k : Int)))))], .agg [.int .i64 (SVote.kind (SCert.vote (SHeld.cert (b (Int.toNat (↑k : Int)))))), .int .i64 (SVote.epoch (SCert.vote (SHeld.cert (b (Int.toNat (↑k : Int)))))), .int .i64 (SVote.view (SCert.vote (SHeld.cert (b (Int.toNat (↑k : Int)))))), .int .i64 (SVote.slot (SCert.vote (SHeld.cert (b (Int.toNat (↑k : Int)))))), .seg .u8 32 (SVote.digest (SCert.vote (SHeld.cert (b (Int.toNat (↑k : Int)))))), sg (SCert.n (SHeld.cert (b (Int.toNat (↑k : Int))))) (SCert.sig (SHeld.cert (b (Int.toNat (↑k : Int)))))]] [] (.bool true) [], q false, InR .i64 ((↑k : Int) + (1 : Int)), q n, ∀ (k : Nat), k < n → SHeld.c (a k) = SHeld.c (a k), false = true → false = true, q n, ∀ (k : Nat), k < n → SHeld.c (b k) = SHeld.c (b k), false = true → false = true, (↑k : Int) + (1 : Int) = (↑(k + (1 : Nat)) : Int)]) : Option (Exit × St × List Prop)) := by kernel_rfl
theorem bZ5 (n : Nat) (a : Nat → SHeld) (b : Nat → SHeld) (k : Nat) :
  i6 zp (cn4 n a b k) [false] = (some (.exit 0, St.mk (mkT 43 [(0, .ros 39 n (fun i => SHeld.c (a i)) false), (1, .ros 39 n (fun i => SHeld.c (b i)) false), (5, .int .i64 ↑n)]) [] 0 [], [decide ((↑k : Int) < (↑n : Int)) = false, q n, ∀ (k : Nat), k < n → SHeld.c (a k) = SHeld.c (a k), false = true → false = true, q n, ∀ (k : Nat), k < n → SHeld.c (b k) = SHeld.c (b k), false = true → false = true, (↑k : Int) = (↑n : Int)]) : Option (Exit × St × List Prop)) := by kernel_rfl
theorem ai2 (a : SMsg) (b : SMsg) :
  f4 zp (bdRm a b) [false, false, false, false, false, false, false, false, false, false, false, false, true, true, true] = (some (.bool true, [], [(!decide (SMsg.kind a = SMsg.kind b)) = false, (!decide (SMsg.epoch a = SMsg.epoch b)) = false, (!decide (SMsg.leader a = SMsg.leader b)) = false, (!decide (SMsg.view a = SMsg.view b)) = false, (!decide (SMsg.slot a = SMsg.slot b)) = false, (!(decide (SVote.kind (SMsg.vote a) = SVote.kind (SMsg.vote b)) && (decide (SVote.epoch (SMsg.vote a) = SVote.epoch (SMsg.vote b)) && (decide (SVote.view (SMsg.vote a) = SVote.view (SMsg.vote b)) && (decide (SVote.slot (SMsg.vote a) = SVote.slot (SMsg.vote b)) && (decide (SVote.digest (SMsg.vote a) = SVote.digest (SMsg.vote b)) && true)))))) = false, (!decide (SMsg.digest a = SMsg.digest b)) = false, (!decide (SMsg.state a = SMsg.state b)) = false, (!decide (SMsg.cepoch a = SMsg.cepoch b)) = false, (!decide (SMsg.cleader a = SMsg.cleader b)) = false, (!decide (SMsg.cview a = SMsg.cview b)) = false, T zp 45 [.ros 39 (SMsg.nheld a) (fun i => SHeld.c (SMsg.held a i)) false, .ros 39 (SMsg.nheld b) (fun i => SHeld.c (SMsg.held b i)) false] [] (.bool true) [], q false, T zp 46 [.agg (SBatch.c (SMsg.batch a)), .agg (SBatch.c (SMsg.batch b))] [] (.bool true) [], q2, T zp 47 [.ros 18 (SMsg.nnews a) (fun i => SEnv.c (SMsg.news a i)) false, .ros 18 (SMsg.nnews b) (fun i => SEnv.c (SMsg.news b i)) false] [] (.bool true) [], q2, T zp 48 [.agg [.int .i64 (SVote.kind (SCert.vote (SMsg.cert a))), .int .i64 (SVote.epoch (SCert.vote (SMsg.cert a))), .int .i64 (SVote.view (SCert.vote (SMsg.cert a))), .int .i64 (SVote.slot (SCert.vote (SMsg.cert a))), .seg .u8 32 (SVote.digest (SCert.vote (SMsg.cert a))), sg (SCert.n (SMsg.cert a)) (SCert.sig (SMsg.cert a))], .agg [.int .i64 (SVote.kind (SCert.vote (SMsg.cert b))), .int .i64 (SVote.epoch (SCert.vote (SMsg.cert b))), .int .i64 (SVote.view (SCert.vote (SMsg.cert b))), .int .i64 (SVote.slot (SCert.vote (SMsg.cert b))), .seg .u8 32 (SVote.digest (SCert.vote (SMsg.cert b))), sg (SCert.n (SMsg.cert b)) (SCert.sig (SMsg.cert b))]] [] (.bool true) [], q2, T zp 49 [.ros 17 (SMsg.n a) (fun i => SSign.c (SMsg.sig a i)) false, .ros 17 (SMsg.n b) (fun i => SSign.c (SMsg.sig b i)) false] [] (.bool true) []]) : Option (V × c5 × List Prop)) := by kernel_rfl
theorem bK6 {n : Nat} {a b : Nat → SSign} (hn : n ≤ 1000000) (h : ∀ k, k < n → a k = b k) : T Tryz.prog 49 [sg n a, sg n b] [] (.bool true) [] := by
 have hL : i5 Tryz.prog none 0 (cB (cB (cR (cL (cR (cR (f8 Tryz.f49))))))) (n + 1) (s5I (sg n a) (sg n b) 26 0) (.exit 0) (s5I (sg n a) (sg n b) 26 n) := by
  refine i5.inv (s5I (sg n a) (sg n b) 26) n (fun k hk => ?_) ?_ (by simp)
  ·refine f9 NG MO _ (bG9 n a b k) ?_ (Nat.zero_le _)
   simp only [All, Int.toNat_natCast]; and_intros
   all_goals first | exact True.intro | (simp [h k hk]; done) | (rw [decide_eq_true_eq]; omega) | (simp only [IntKind.min, IntKind.max, IntKind.signed, IntKind.bits, if_true]; omega) | omega
  ·refine f9 NG MO _ (bZ7 n a b n) ?_ (Nat.zero_le _)
   simp only [All]; and_intros
   all_goals first | exact True.intro | (rw [decide_eq_false_iff_not]; omega) | (intro _ _; exact True.intro) | (intro h; exact h)
 refine f5 (bS_ n a b) Tryz.func49 ?_
 simp only [All]; and_intros
 all_goals first | exact True.intro | exact hL | (intro _ _; exact True.intro) | (intro h; exact h) | (simp; done)
theorem ct3 {n : Nat} {a b : Nat → SEnv} (hn : n ≤ 1000000) (h : ∀ k, k < n → a k = b k) : T Tryz.prog 47 [nw n a, nw n b] [] (.bool true) [] := by
 have hL : i5 Tryz.prog none 0 (cB (cB (cR (cL (cR (cR (f8 Tryz.f47))))))) (n + 1) (s5I (nw n a) (nw n b) 26 0) (.exit 0) (s5I (nw n a) (nw n b) 26 n) := by
  refine i5.inv (s5I (nw n a) (nw n b) 26) n (fun k hk => ?_) ?_ (by simp)
  ·refine f9 NG MO _ (bG8 n a b k) ?_ (Nat.zero_le _)
   simp only [All, Int.toNat_natCast]; and_intros
   all_goals first | exact True.intro | (simp [h k hk]; done) | (rw [decide_eq_true_eq]; omega) | (simp only [IntKind.min, IntKind.max, IntKind.signed, IntKind.bits, if_true]; omega) | omega
  ·refine f9 NG MO _ (bZ6 n a b n) ?_ (Nat.zero_le _)
   simp only [All]; and_intros
   all_goals first | exact True.intro | (rw [decide_eq_false_iff_not]; omega) | (intro _ _; exact True.intro) | (intro h; exact h)
 refine f5 (bS8 n a b) Tryz.func47 ?_
 simp only [All]; and_intros
 all_goals first | exact True.intro | exact hL | (intro _ _; exact True.intro) | (intro h; exact h) | (simp; done)
theorem bK4 {a b : SBatch} (hn : a.n ≤ 1000000) (h : q9 a b = true) : T Tryz.prog 46 [.agg a.c, .agg b.c] [] (.bool true) [] := by
 obtain ⟨h1, h2, h3⟩ := H5.1 h
 have hL : i5 Tryz.prog none 0 (cB (cB (cR (cL (cR (cR (f8 Tryz.f46))))))) (a.n + 1) (r7I a b 0) (.exit 0) (r7I a b a.n) := by
  refine i5.inv (r7I a b) a.n (fun k hk => ?_) ?_ (by simp)
  ·refine f9 NG MO _ (bG7 a b k) ?_ (Nat.zero_le _)
   simp only [All, Int.toNat_natCast]; and_intros
   all_goals first | exact True.intro | (simp [h3 k hk]; done) | (rw [decide_eq_true_eq]; omega) | (simp only [IntKind.min, IntKind.max, IntKind.signed, IntKind.bits, if_true]; omega) | omega
  ·refine f9 NG MO _ (bZ2 a b a.n) ?_ (Nat.zero_le _)
   simp only [All]; and_intros
   all_goals first | exact True.intro | (rw [decide_eq_false_iff_not]; omega) | (intro _ _; exact True.intro) | (intro h; exact h)
 refine f5 (bz6 a b) Tryz.func46 ?_
 simp only [All]; and_intros
 all_goals first | exact True.intro | exact hL | (rw [h1]; simp; done) | (rw [h2]; simp; done) | (intro _ _; exact True.intro) | (intro h; exact h)
theorem bK5 {a b : SCert} (hn : a.n ≤ 1000000) (h : v9 a b = true) : T Tryz.prog 48 [.agg a.c, .agg b.c] [] (.bool true) [] := by
 obtain ⟨h1, h2, h3⟩ := I9.1 h
 have hS := bK6 hn h3
 rw [show sg a.n b.sig = sg b.n b.sig by rw [h2]] at hS
 refine f5 (bS5 a b) Tryz.func48 ?_
 simp only [All]; and_intros
 all_goals first | exact True.intro | exact hS | (rw [h1]; simp; done)
theorem ct1 {n : Nat} {a b : Nat → SHeld} (hn : n ≤ 1000000) (hb : ∀ k, k < n → (a k).batch.n ≤ 1000000 ∧ (a k).cert.n ≤ 1000000) (h : ∀ k, k < n → u6 (a k) (b k) = true) : T Tryz.prog 45 [hl n a, hl n b] [] (.bool true) [] := by
 have hL : i5 Tryz.prog none 0 (cB (cB (cR (cL (cR (cR (f8 Tryz.f45))))))) (n + 1) (s5I (hl n a) (hl n b) 43 0) (.exit 0) (s5I (hl n a) (hl n b) 43 n) := by
  refine i5.inv (s5I (hl n a) (hl n b) 43) n (fun k hk => ?_) ?_ (by simp)
  ·obtain ⟨g1, g2⟩ := Q0.1 (h k hk)
   have t1 := bK4 (hb k hk).1 g1
   have t2 := bK5 (hb k hk).2 g2
   refine f9 NG MO _ (bs_ n a b k) ?_ (Nat.zero_le _)
   simp only [All, Int.toNat_natCast]; and_intros
   all_goals first | exact True.intro | exact t1 | exact t2 | (rw [decide_eq_true_eq]; omega) | (intro _ _; exact True.intro) | (simp only [IntKind.min, IntKind.max, IntKind.signed, IntKind.bits, if_true]; omega) | omega | (intro h; exact h)
  ·refine f9 NG MO _ (bZ5 n a b n) ?_ (Nat.zero_le _)
   simp only [All]; and_intros
   all_goals first | exact True.intro | (rw [decide_eq_false_iff_not]; omega) | (intro _ _; exact True.intro) | (intro h; exact h)
 refine f5 (bS7 n a b) Tryz.func45 ?_
 simp only [All]; and_intros
 all_goals first | exact True.intro | exact hL | (intro _ _; exact True.intro) | (intro h; exact h) | (simp; done)
theorem ct2 {a b : SMsg} (hf : FitM a) (h : SameM a b) : T Tryz.prog 17 [.agg a.c, .agg b.c] [] (.bool true) [] := by
 have t1 := ct1 hf.nheld hf.held h.held.2
 have t2 := bK4 hf.batch h.batch
 have t3 := ct3 hf.nnews h.news.2
 have t4 := bK5 hf.cert h.cert
 have t5 := bK6 hf.n h.sig.2
 rw [show hl a.nheld b.held = hl b.nheld b.held by rw [h.held.1]] at t1
 rw [show nw a.nnews b.news = nw b.nnews b.news by rw [h.news.1]] at t3
 rw [show sg a.n b.sig = sg b.n b.sig by rw [h.sig.1]] at t5
 refine f5 (ai2 a b) Tryz.func17 ?_
 simp only [All]; and_intros
 all_goals first | exact True.intro | exact t1 | exact t2 | exact t3 | exact t4 | exact t5 | (rw [h.vote]; simp; done) | (simp [h.kind, h.epoch, h.leader, h.view, h.slot, h.digest, h.state, h.cepoch, h.cleader, h.cview]; done)
def S6 (src : Int) (b : ByteArray) : SEnv × Int := if 4194304 < b.size then (av1, 3) else if 0 ≤ src ∧ src < 72 then ({ src := src, body := b, tag := C2 rS 72 src b }, 0) else (av1, 2)
def G6 (nodes : Int) (e : SEnv) : SMsg × Int := if 0 ≤ e.src ∧ e.src < nodes ∧ e.body.size ≤ 4194304 ∧ V7 rS 72 e.src e.body e.tag = true then D4 (m4 e.body) else (j2 0, 140)
noncomputable def bA4 (src : Int) (b : ByteArray) (t : List Int) (e : Int) : Bd := { f := Tryz.f13, args := [p0K 0, .int .i64 src, .str b], pre := [(.o 0, kyB rS 72)], base := 1, kb := { db := dbQ [(40, rdK (.int .i64 72)), (41, rdK (.tup [.agg [.seg .u8 16 t], .int .i64 e]))] }, names := fun _ => [.o 0] }
noncomputable def aP8 (nodes : Int) (x : SEnv) (c : Bool) (y : SMsg) (d : Int) : Bd := { f := Tryz.f15, args := [p0K 0, .int .i64 nodes, .agg x.c], pre := [(.o 0, kyB rS 72)], base := 1, kb := { db := dbQ [(40, rdK (.int .i64 72)), (23, rdK (.bool c)), (42, O3 (.tup [.agg y.c, .int .i64 d]))] }, names := fun _ => [.o 0] }
noncomputable def bc_ (m : SMsg) (src other : Int) (b : ByteArray) (l : Bool) (s : ByteArray) (e : Int) (x : SEnv) (y : SMsg) (t u : List Int) (ga gb : SMsg × Int) (r1 r2 : Int) : Bd := { f := Tryz.f6, args := [.agg m.c, .int .i64 src, .int .i64 other, .str b], kb := { db := fun k a h lo => match dbQ [(18, O3 (.bool l)), (7, O3 (.bool true)), (12, ksC), (19, O3 (.tup [.str s, .int .i64 e])), (13, rdK (.tup [.agg x.c, .int .i64 0])), (17, O3 (.bool true))] k a h lo with
 | [] => ai4 0 [(15, 48, rdK (.tup [.agg y.c, .int .i64 0])), (20, 70, O3 (.tup [.agg [.seg .u8 16 t], .int .i64 r1])), (20, 80, O3 (.tup [.agg [.seg .u8 16 u], .int .i64 r2])), (15, 101, rdK (.tup [.agg ga.1.c, .int .i64 ga.2])), (15, 110, rdK (.tup [.agg gb.1.c, .int .i64 gb.2]))] k a h lo
 | r => r } }
theorem bA5 (src : Int) (b : ByteArray) (t : List Int) (e : Int) :
  f4 zp (bA4 src b t e) [true, true] = (some (.tup [.agg [.int .i64 0, .str ByteArray.empty, .seg .u8 16 z16], .int .i64 3], [(.o 0, .flat [.str rS, .int .i64 72])], [T zp 40 [.ptr (.o 0) 0 0 0 0] [(.o 0, .flat [.str rS, .int .i64 72])] (.int .i64 72) [(.o 0, .flat [.str rS, .int .i64 72])], q2, decide ((4194304 : Int) < (↑(ByteArray.size b) : Int)) = true]) : Option (V × c5 × List Prop)) := by kernel_rfl
theorem bl9 (src : Int) (b : ByteArray) (t : List Int) (e : Int) :
  f4 zp (bA4 src b t e) [true, false, true] = (some (.tup [.agg [.int .i64 0, .str ByteArray.empty, .seg .u8 16 z16], .int .i64 e], [(.o 0, .flat [.str rS, .int .i64 72])], [T zp 40 [.ptr (.o 0) 0 0 0 0] [(.o 0, .flat [.str rS, .int .i64 72])] (.int .i64 72) [(.o 0, .flat [.str rS, .int .i64 72])], q2, decide ((4194304 : Int) < (↑(ByteArray.size b) : Int)) = false, T zp 41 [.ptr (.o 0) 0 0 0 0, .int .i64 src, .str b] [(.o 0, .flat [.str rS, .int .i64 72])] (.tup [.agg [.seg .u8 16 t], .int .i64 e]) [(.o 0, .flat [.str rS, .int .i64 72])], (!decide (e = (0 : Int))) = true]) : Option (V × c5 × List Prop)) := by kernel_rfl
theorem bl8 (src : Int) (b : ByteArray) (t : List Int) (e : Int) :
  f4 zp (bA4 src b t e) [true, false, false] = (some (.tup [.agg [.int .i64 src, .str b, .seg .u8 16 t], .int .i64 0], [(.o 0, .flat [.str rS, .int .i64 72])], [T zp 40 [.ptr (.o 0) 0 0 0 0] [(.o 0, .flat [.str rS, .int .i64 72])] (.int .i64 72) [(.o 0, .flat [.str rS, .int .i64 72])], q2, decide ((4194304 : Int) < (↑(ByteArray.size b) : Int)) = false, T zp 41 [.ptr (.o 0) 0 0 0 0, .int .i64 src, .str b] [(.o 0, .flat [.str rS, .int .i64 72])] (.tup [.agg [.seg .u8 16 t], .int .i64 e]) [(.o 0, .flat [.str rS, .int .i64 72])], (!decide (e = (0 : Int))) = false]) : Option (V × c5 × List Prop)) := by kernel_rfl
noncomputable def H7 (nodes : Int) (x : SEnv) (c : Bool) (y : SMsg) (d : Int) : Nat → List Prop
 | 0 => [T zp 40 [.ptr (.o 0) 0 0 0 0] [(.o 0, .flat [.str rS, .int .i64 72])] (.int .i64 72) [(.o 0, .flat [.str rS, .int .i64 72])], q false]
 | 1 => [decide ((4194304 : Int) < (↑(ByteArray.size (SEnv.body x)) : Int)) = false, T zp 23 [.ptr (.o 0) 0 0 0 0, .int .i64 (SEnv.src x), .str (SEnv.body x), .agg [.seg .u8 16 (SEnv.tag x)]] [(.o 0, .flat [.str rS, .int .i64 72])] (.bool c) [(.o 0, .flat [.str rS, .int .i64 72])]]
 | _ => []
theorem aX5 (nodes : Int) (x : SEnv) (c : Bool) (y : SMsg) (d : Int) :
 f4 zp (aP8 nodes x c y d) [false, true, true, true, true] = (some (.tup [.agg [.int .i64 0, .int .i64 0, .int .i64 0, .int .i64 0, .int .i64 0, .bool false, .snil, .int .i64 0, .int .i64 0, .int .i64 0, .int .i64 0, .seg .u8 32 z32, .int .i64 0, .int .i64 0, .int .i64 0, .snil, .snil, .seg .u8 32 z32, .int .i64 0, .int .i64 0, .int .i64 0, .int .i64 0, .seg .u8 32 z32, .snil, .str ByteArray.empty, .snil], .int .i64 140], [(.o 0, .flat [.str rS, .int .i64 72])], H7 nodes x c y d 0 ++ [decide (SEnv.src x < (0 : Int)) = true, q2, q2, q2]) : Option (V × c5 × List Prop)) := by kernel_rfl
theorem aX4 (nodes : Int) (x : SEnv) (c : Bool) (y : SMsg) (d : Int) :
 f4 zp (aP8 nodes x c y d) [false, false, true, true, true] = (some (.tup [.agg [.int .i64 0, .int .i64 0, .int .i64 0, .int .i64 0, .int .i64 0, .bool false, .snil, .int .i64 0, .int .i64 0, .int .i64 0, .int .i64 0, .seg .u8 32 z32, .int .i64 0, .int .i64 0, .int .i64 0, .snil, .snil, .seg .u8 32 z32, .int .i64 0, .int .i64 0, .int .i64 0, .int .i64 0, .seg .u8 32 z32, .snil, .str ByteArray.empty, .snil], .int .i64 140], [(.o 0, .flat [.str rS, .int .i64 72])], H7 nodes x c y d 0 ++ [decide (SEnv.src x < (0 : Int)) = false, decide (nodes ≤ SEnv.src x) = true, q2, q2]) : Option (V × c5 × List Prop)) := by kernel_rfl
theorem aX3 (nodes : Int) (x : SEnv) (c : Bool) (y : SMsg) (d : Int) :
 f4 zp (aP8 nodes x c y d) [false, false, false, true, true] = (some (.tup [.agg [.int .i64 0, .int .i64 0, .int .i64 0, .int .i64 0, .int .i64 0, .bool false, .snil, .int .i64 0, .int .i64 0, .int .i64 0, .int .i64 0, .seg .u8 32 z32, .int .i64 0, .int .i64 0, .int .i64 0, .snil, .snil, .seg .u8 32 z32, .int .i64 0, .int .i64 0, .int .i64 0, .int .i64 0, .seg .u8 32 z32, .snil, .str ByteArray.empty, .snil], .int .i64 140], [(.o 0, .flat [.str rS, .int .i64 72])], H7 nodes x c y d 0 ++ [decide (SEnv.src x < (0 : Int)) = false, decide (nodes ≤ SEnv.src x) = false, decide ((4194304 : Int) < (↑(ByteArray.size (SEnv.body x)) : Int)) = true, q2]) : Option (V × c5 × List Prop)) := by kernel_rfl
theorem aX2 (nodes : Int) (x : SEnv) (c : Bool) (y : SMsg) (d : Int) :
 f4 zp (aP8 nodes x c y d) [false, false, false, false, true] = (some (.tup [.agg [.int .i64 0, .int .i64 0, .int .i64 0, .int .i64 0, .int .i64 0, .bool false, .snil, .int .i64 0, .int .i64 0, .int .i64 0, .int .i64 0, .seg .u8 32 z32, .int .i64 0, .int .i64 0, .int .i64 0, .snil, .snil, .seg .u8 32 z32, .int .i64 0, .int .i64 0, .int .i64 0, .int .i64 0, .seg .u8 32 z32, .snil, .str ByteArray.empty, .snil], .int .i64 140], [(.o 0, .flat [.str rS, .int .i64 72])], H7 nodes x c y d 0 ++ ([decide (SEnv.src x < (0 : Int)) = false, decide (nodes ≤ SEnv.src x) = false] ++ (H7 nodes x c y d 1 ++ [(!c) = true]))) : Option (V × c5 × List Prop)) := by kernel_rfl
theorem aX1 (nodes : Int) (x : SEnv) (c : Bool) (y : SMsg) (d : Int) :
 f4 zp (aP8 nodes x c y d) [false, false, false, false, false] = (some (.tup [.agg (SMsg.c y), .int .i64 d], [(.o 0, .flat [.str rS, .int .i64 72])], H7 nodes x c y d 0 ++ ([decide (SEnv.src x < (0 : Int)) = false, decide (nodes ≤ SEnv.src x) = false] ++ (H7 nodes x c y d 1 ++ [(!c) = false, T zp 42 [.str (SEnv.body x)] [] (.tup [.agg (SMsg.c y), .int .i64 d]) []]))) : Option (V × c5 × List Prop)) := by kernel_rfl
theorem bA3 (m : SMsg) (src : Int) (other : Int) (b : ByteArray) (l : Bool) (s : ByteArray) (e : Int) (x : SEnv) (y : SMsg) (t : List Int) (u : List Int) (ga : SMsg × Int) (gb : SMsg × Int) (r1 : Int) (r2 : Int) :
  f4 zp (bc_ m src other b l s e x y t u ga gb r1 r2) [true, true] = (some (.bool true, [], [T zp 18 [.agg (SMsg.c m)] [] (.bool l) [], (!l) = true, q2, T zp 7 [] [] (.bool true) []]) : Option (V × c5 × List Prop)) := by kernel_rfl
theorem bA2 (m : SMsg) (src : Int) (other : Int) (b : ByteArray) (l : Bool) (s : ByteArray) (e : Int) (x : SEnv) (y : SMsg) (t : List Int) (u : List Int) (ga : SMsg × Int) (gb : SMsg × Int) (r1 : Int) (r2 : Int) :
  f4 zp (bc_ m src other b l s e x y t u ga gb r1 r2) [false, true] = (some (.bool true, [], [T zp 18 [.agg (SMsg.c m)] [] (.bool l) [], (!l) = false, decide ((20000 : Int) < (↑(ByteArray.size b) : Int)) = true, T zp 7 [] [] (.bool true) []]) : Option (V × c5 × List Prop)) := by kernel_rfl
theorem bl7 (m : SMsg) (src : Int) (other : Int) (b : ByteArray) (l : Bool) (s : ByteArray) (e : Int) (x : SEnv) (y : SMsg) (t : List Int) (u : List Int) (ga : SMsg × Int) (gb : SMsg × Int) (r1 : Int) (r2 : Int) :
  f4 zp (bc_ m src other b l s e x y t u ga gb r1 r2) [false, false, true] = (some (.bool true, [], [T zp 18 [.agg (SMsg.c m)] [] (.bool l) [], (!l) = false, decide ((20000 : Int) < (↑(ByteArray.size b) : Int)) = false, T zp 12 [] [] (.tup [.ptr (.o 640) 0 0 0 0, .agg [.str rS, .int .i64 72]]) [(.o 640, .flat [.str rS, .int .i64 72])], T zp 19 [.agg (SMsg.c m)] [] (.tup [.str s, .int .i64 e]) [], (!decide (e = (0 : Int))) = true, T zp 7 [] [] (.bool true) []]) : Option (V × c5 × List Prop)) := by kernel_rfl
theorem aE8 (m : SMsg) (src : Int) (other : Int) (b : ByteArray) (l : Bool) (s : ByteArray) (e : Int) (x : SEnv) (y : SMsg) (t : List Int) (u : List Int) (ga : SMsg × Int) (gb : SMsg × Int) (r1 : Int) (r2 : Int) :
  f4 zp (bc_ m src other b l s e x y t u ga gb r1 r2) [false, false, false, false, false, false, true, true] = (some (.bool true, [], [T zp 18 [.agg (SMsg.c m)] [] (.bool l) [], (!l) = false, decide ((20000 : Int) < (↑(ByteArray.size b) : Int)) = false, T zp 12 [] [] (.tup [.ptr (.o 640) 0 0 0 0, .agg [.str rS, .int .i64 72]]) [(.o 640, .flat [.str rS, .int .i64 72])], T zp 19 [.agg (SMsg.c m)] [] (.tup [.str s, .int .i64 e]) [], (!decide (e = (0 : Int))) = false, (0 : Int) ≤ IntKind.wrap .u64 src ∧ (0 : Int) < (64 : Int), InR .i64 (IntKind.wrap .u64 src % (64 : Int)), (0 : Int) ≤ IntKind.wrap .u64 other ∧ (0 : Int) < (64 : Int), InR .i64 (IntKind.wrap .u64 other % (64 : Int)), T zp 13 [.ptr (.o 640) 0 0 0 0, .int .i64 (IntKind.wrap .u64 src % (64 : Int)), .str s] [(.o 640, .flat [.str rS, .int .i64 72])] (.tup [.agg (SEnv.c x), .int .i64 0]) [(.o 640, .flat [.str rS, .int .i64 72])], T zp 15 [.ptr (.o 640) 0 0 0 0, .int .i64 64, .agg (SEnv.c x)] [(.o 640, .flat [.str rS, .int .i64 72])] (.tup [.agg (SMsg.c y), .int .i64 0]) [(.o 640, .flat [.str rS, .int .i64 72])], q false, q false, T zp 17 [.agg (SMsg.c y), .agg (SMsg.c m)] [] (.bool true) [], q false, T zp 20 [.agg [.str rS, .int .i64 72], .int .i64 (IntKind.wrap .u64 other % (64 : Int)), .str s] [] (.tup [.agg [.seg .u8 16 t], .int .i64 r1]) [], T zp 20 [.agg [.str rS, .int .i64 72], .int .i64 (IntKind.wrap .u64 src % (64 : Int)), .str b] [] (.tup [.agg [.seg .u8 16 u], .int .i64 r2]) [], T zp 15 [.ptr (.o 640) 0 0 0 0, .int .i64 64, .agg [.int .i64 (IntKind.wrap .u64 other % (64 : Int)), .str (SEnv.body x), .seg .u8 16 (SEnv.tag x)]] [(.o 640, .flat [.str rS, .int .i64 72])] (.tup [.agg (SMsg.c ga.1), .int .i64 ga.2]) [(.o 640, .flat [.str rS, .int .i64 72])], T zp 15 [.ptr (.o 640) 0 0 0 0, .int .i64 64, .agg [.int .i64 (SEnv.src x), .str b, .seg .u8 16 (SEnv.tag x)]] [(.o 640, .flat [.str rS, .int .i64 72])] (.tup [.agg (SMsg.c gb.1), .int .i64 gb.2]) [(.o 640, .flat [.str rS, .int .i64 72])], (decide (ga.2 = (140 : Int)) == !decide (t = SEnv.tag x)) = true, (decide (gb.2 = (140 : Int)) == !decide (u = SEnv.tag x)) = true, T zp 7 [] [] (.bool true) []]) : Option (V × c5 × List Prop)) := by kernel_rfl
theorem bO7 {src : Int} {b : ByteArray} (hs : src < 9223372036854775808) (hb : b.size ≤ 1000000000) : T Tryz.prog 13 [p0K 0, .int .i64 src, .str b] [(.o 0, kyB rS 72)] (.tup [.agg (S6 src b).1.c, .int .i64 (S6 src b).2]) [(.o 0, kyB rS 72)] := by
 have hL := a_7 rS 72
 have hS := bw1 (s := rS) (by rw [U5]; decide) (n := 72) (id := src) (by decide) hs (b := b) hb
 by_cases h1 : 4194304 < b.size
 ·have e : S6 src b = (av1, 3) := by rw [S6, if_pos h1]
  rw [e]
  refine f5 (bA5 src b [] 0) Tryz.func13 ?_
  simp only [All]; and_intros
  all_goals first | exact True.intro | exact hL | (rw [decide_eq_true_eq]; omega)
 ·by_cases h2 : 0 ≤ src ∧ src < 72
  ·have e : S6 src b = ({ src := src, body := b, tag := C2 rS 72 src b }, 0) := by rw [S6, if_neg h1, if_pos h2]
   have e2 : K3 72 src = 0 := by rw [K3, if_pos h2]
   rw [e]
   rw [e2] at hS
   generalize C2 rS 72 src b = t at *
   refine f5 (bl8 src b t 0) Tryz.func13 ?_
   simp only [All]; and_intros
   all_goals first | exact True.intro | exact hL | exact hS | (rw [decide_eq_false_iff_not]; omega) | (simp; done)
  ·have e : S6 src b = (av1, 2) := by rw [S6, if_neg h1, if_neg h2]
   have e2 : K3 72 src = 2 := by rw [K3, if_neg h2]
   rw [e]
   rw [e2] at hS
   generalize C2 rS 72 src b = t at *
   refine f5 (bl9 src b t 2) Tryz.func13 ?_
   simp only [All]; and_intros
   all_goals first | exact True.intro | exact hL | exact hS | (rw [decide_eq_false_iff_not]; omega) | (simp; done)
theorem ce9 (m : Nat) {src : Int} {b : ByteArray} (hs : src < 9223372036854775808) (hb : b.size ≤ 1000000000) : T Tryz.prog 13 [p0K m, .int .i64 src, .str b] [(.o m, kyB rS 72)] (.tup [.agg (S6 src b).1.c, .int .i64 (S6 src b).2]) [(.o m, kyB rS 72)] := by
 obtain ⟨σ, hσ, h5⟩ := T.at (bO7 hs hb) [.o 0] [.o m] (by decide) (by simp) rfl
 simp only [List.map_cons, List.map_nil, List.cons.injEq, and_true] at hσ
 simpa [V.rens, V.ren, c5.ren, Sy.B.ren, kyB, p0K, SEnv.c, hσ] using h5
theorem bO1 {nodes : Int} {x : SEnv} (hs : x.src < 9223372036854775808) : T Tryz.prog 15 [p0K 0, .int .i64 nodes, .agg x.c] [(.o 0, kyB rS 72)] (.tup [.agg (G6 nodes x).1.c, .int .i64 (G6 nodes x).2]) [(.o 0, kyB rS 72)] := by
 have hL := a_7 rS 72
 by_cases h1 : x.src < 0
 ·have e : G6 nodes x = (j2 0, 140) := by rw [G6, if_neg (by omega)]
  rw [e]
  refine T.res (f5 (aX5 nodes x false (j2 0) 0) Tryz.func15 ?_) rfl ?_
  ·simp only [All, f3, H7]; and_intros
   all_goals first | exact True.intro | exact hL | (rw [decide_eq_true_eq]; omega)
  ·simp only [All, f3, H7]; and_intros
   all_goals first | exact True.intro | exact rfl
 by_cases h2 : nodes ≤ x.src
 ·have e : G6 nodes x = (j2 0, 140) := by rw [G6, if_neg (by omega)]
  rw [e]
  refine T.res (f5 (aX4 nodes x false (j2 0) 0) Tryz.func15 ?_) rfl ?_
  ·simp only [All, f3, H7]; and_intros
   all_goals first | exact True.intro | exact hL | (rw [decide_eq_true_eq]; omega) | (rw [decide_eq_false_iff_not]; omega)
  ·simp only [All, f3, H7]; and_intros
   all_goals first | exact True.intro | exact rfl
 by_cases h3 : 4194304 < x.body.size
 ·have e : G6 nodes x = (j2 0, 140) := by rw [G6, if_neg (by omega)]
  rw [e]
  refine T.res (f5 (aX3 nodes x false (j2 0) 0) Tryz.func15 ?_) rfl ?_
  ·simp only [All, f3, H7]; and_intros
   all_goals first | exact True.intro | exact hL | (rw [decide_eq_true_eq]; omega) | (rw [decide_eq_false_iff_not]; omega)
  ·simp only [All, f3, H7]; and_intros
   all_goals first | exact True.intro | exact rfl
 have hC := cb1 (s := rS) (by rw [U5]; decide) (n := 72) (id := x.src) (by decide) hs (b := x.body) (by omega) x.tag
 by_cases h4 : V7 rS 72 x.src x.body x.tag = true
 ·have e : G6 nodes x = D4 (m4 x.body) := by rw [G6, if_pos ⟨by omega, by omega, by omega, h4⟩]
  have hD := bJ9 x.body
  rw [e]
  generalize D4 (m4 x.body) = r at *
  rw [h4] at hC
  refine f5 (aX1 nodes x true r.1 r.2) Tryz.func15 ?_
  simp only [All, f3, H7]; and_intros
  all_goals first | exact True.intro | exact hL | exact hC | exact hD | (rw [decide_eq_false_iff_not]; omega) | (simp; done)
 ·have e : G6 nodes x = (j2 0, 140) := by rw [G6, if_neg (fun h => h4 h.2.2.2)]
  rw [e]
  have h4 := Bool.eq_false_iff.2 h4
  rw [h4] at hC
  refine T.res (f5 (aX2 nodes x false (j2 0) 0) Tryz.func15 ?_) rfl ?_
  ·simp only [All, f3, H7]; and_intros
   all_goals first | exact True.intro | exact hL | exact hC | (rw [decide_eq_false_iff_not]; omega) | (simp; done)
  ·simp only [All, f3, H7]; and_intros
   all_goals first | exact True.intro | exact rfl
theorem aN3 (m : Nat) {nodes : Int} {x : SEnv} (hs : x.src < 9223372036854775808) : T Tryz.prog 15 [p0K m, .int .i64 nodes, .agg x.c] [(.o m, kyB rS 72)] (.tup [.agg (G6 nodes x).1.c, .int .i64 (G6 nodes x).2]) [(.o m, kyB rS 72)] := by
 obtain ⟨σ, hσ, h5⟩ := T.at (bO1 (nodes := nodes) hs) [.o 0] [.o m] (by decide) (by simp) rfl
 simp only [List.map_cons, List.map_nil, List.cons.injEq, and_true] at hσ
 simpa [V.rens, V.ren, c5.ren, Sy.B.ren, kyB, p0K, SEnv.c, SMsg.c, SBatch.c, SVote.c, SCert.c, rq, Sy.hl, nw, sg, hσ] using h5
theorem aT1 {e : SEnv} (h0 : 0 ≤ e.src) (h1 : e.src < 64) (h2 : e.body.size ≤ 4194304) : (decide ((G6 64 e).2 = 140) == !decide (C2 rS 72 e.src e.body = e.tag)) = true := by
 have h3 : 0 ≤ e.src ∧ e.src < 72 := ⟨h0, by omega⟩
 have hv : C2 rS 72 e.src e.body = aq8 (j3 rS ++ c6 e.src) e.body := by rw [C2, if_pos h3]
 have hc : V7 rS 72 e.src e.body e.tag = decide (aq8 (j3 rS ++ c6 e.src) e.body = e.tag) := by rw [V7, decide_eq_true h3, Bool.true_and]
 rw [hv]
 by_cases h : aq8 (j3 rS ++ c6 e.src) e.body = e.tag
 ·rw [G6, if_pos ⟨h0, h1, h2, by rw [hc, decide_eq_true h]⟩, decide_eq_true h, decide_eq_false (bU1 _)]; rfl
 ·rw [G6, if_neg (fun g => h (by have := g.2.2.2; rw [hc] at this; exact of_decide_eq_true this)), decide_eq_false h]; rfl
theorem bd9 {m : SMsg} (h : n8 m = true) : FitM m := by
 simp only [n8, Bool.and_eq_true, decide_eq_true_eq] at h
 obtain ⟨h1, h2, h3, h4, h5, h6, h7, h8⟩ := h
 refine ⟨by have := aS0 h1; omega, by omega, fun k hk => ?_, by omega, by omega, by omega⟩
 have := bM4 (h7 k hk)
 have hb := aS0 this.1
 omega
theorem aZ9 (z : Int) : 0 ≤ IntKind.wrap .u64 z ∧ 0 ≤ IntKind.wrap .u64 z % 64 ∧ IntKind.wrap .u64 z % 64 < 64 := by
 have h : 0 ≤ IntKind.wrap .u64 z := by
  simp only [IntKind.wrap, IntKind.signed, IntKind.bits]
  simp
  omega
 omega
theorem T_sd {m : SMsg} {src other : Int} {b : ByteArray} (hf : FitMsg m) (ht : segMsg m) : T Tryz.prog 6 [.agg m.c, .int .i64 src, .int .i64 other, .str b] [] (.bool true) [] := by
 have hL := bv_ m hf
 have hlv := T_lv
 have hks := cc9
 by_cases h0 : n8 m = true
 ·have hM := bd9 h0
  have hE := aN1 hM ht
  rw [h0] at hL
  by_cases h1 : 20000 < b.size
  ·refine f5 (bA2 m src other b true eB 0 av1 m [] [] (m, 0) (m, 0) 0 0) Tryz.func6 ?_
   simp only [All]; and_intros
   all_goals first | exact True.intro | exact hL | exact hlv | (rw [decide_eq_true_eq]; omega) | (simp; done)
  by_cases h2 : ab_ m = 0
  ·obtain ⟨g1, g2, g3⟩ := bo7 h2
   rw [h2, g3] at hE
   obtain ⟨r0, r1, r2⟩ := aZ9 src
   obtain ⟨o0, o1, o2⟩ := aZ9 other
   have hsz : (baL (p7 m)).size = (p7 m).length := by rw [← K4, ac3]
   have e1 : S6 (IntKind.wrap .u64 src % 64) (baL (p7 m)) = ({ src := IntKind.wrap .u64 src % 64, body := baL (p7 m), tag := C2 rS 72 (IntKind.wrap .u64 src % 64) (baL (p7 m)) }, 0) := by rw [S6, if_neg (by omega), if_pos (by omega)]
   have hSe := ce9 640 (src := IntKind.wrap .u64 src % 64) (b := baL (p7 m)) (by omega) (by omega)
   rw [e1] at hSe
   have hG1 := ce8 (s := rS) (by rw [U5]; decide) (n := 72) (id := IntKind.wrap .u64 other % 64) (by omega) (b := baL (p7 m)) (by omega)
   have hG2 := ce8 (s := rS) (by rw [U5]; decide) (n := 72) (id := IntKind.wrap .u64 src % 64) (by omega) (b := b) (by omega)
   obtain ⟨d1, d2⟩ := aY_ g1 ht g2
   have hx := bU4 (l := p7 m) (x := (D4 (p7 m)).1) (by rw [← d1])
   have hS := ct2 (aH_ hx.1) (X9.1 d2)
   have hck : V7 rS 72 (IntKind.wrap .u64 src % 64) (baL (p7 m)) (C2 rS 72 (IntKind.wrap .u64 src % 64) (baL (p7 m))) = true := by
    have h3 : 0 ≤ (IntKind.wrap .u64 src % 64) ∧ (IntKind.wrap .u64 src % 64) < 72 := ⟨r1, by omega⟩
    rw [V7, C2, if_pos h3, decide_eq_true h3]; simp
   have hO := aN3 640 (nodes := 64) (x := { src := (IntKind.wrap .u64 src % 64), body := baL (p7 m), tag := C2 rS 72 (IntKind.wrap .u64 src % 64) (baL (p7 m)) }) (by show (IntKind.wrap .u64 src % 64) < _; omega)
   rw [G6, if_pos ⟨r1, r2, by show (baL (p7 m)).size ≤ _; omega, hck⟩] at hO
   rw [ac3, d1] at hO
   have hA := aN3 640 (nodes := 64) (x := { src := (IntKind.wrap .u64 other % 64), body := baL (p7 m), tag := C2 rS 72 (IntKind.wrap .u64 src % 64) (baL (p7 m)) }) (by show (IntKind.wrap .u64 other % 64) < _; omega)
   have hB := aN3 640 (nodes := 64) (x := { src := (IntKind.wrap .u64 src % 64), body := b, tag := C2 rS 72 (IntKind.wrap .u64 src % 64) (baL (p7 m)) }) (by show (IntKind.wrap .u64 src % 64) < _; omega)
   have qA := aT1 (e := { src := (IntKind.wrap .u64 other % 64), body := baL (p7 m), tag := C2 rS 72 (IntKind.wrap .u64 src % 64) (baL (p7 m)) }) o1 o2 (by show (baL (p7 m)).size ≤ _; omega)
   have qB := aT1 (e := { src := (IntKind.wrap .u64 src % 64), body := b, tag := C2 rS 72 (IntKind.wrap .u64 src % 64) (baL (p7 m)) }) r1 r2 (by show b.size ≤ _; omega)
   generalize C2 rS 72 (IntKind.wrap .u64 src % 64) (baL (p7 m)) = tg at *
   generalize C2 rS 72 (IntKind.wrap .u64 other % 64) (baL (p7 m)) = t at *
   generalize C2 rS 72 (IntKind.wrap .u64 src % 64) b = u at *
   generalize G6 64 { src := (IntKind.wrap .u64 other % 64), body := baL (p7 m), tag := tg } = ga at *
   generalize G6 64 { src := (IntKind.wrap .u64 src % 64), body := b, tag := tg } = gb at *
   generalize K3 72 (IntKind.wrap .u64 other % 64) = q1 at *
   generalize K3 72 (IntKind.wrap .u64 src % 64) = q2 at *
   generalize (D4 (p7 m)).1 = y at *
   generalize baL (p7 m) = s at *
   refine f5 (aE8 m src other b true s 0 { src := IntKind.wrap .u64 src % 64, body := s, tag := tg } y t u ga gb q1 q2) Tryz.func6 ?_
   simp only [All]; and_intros
   all_goals first | exact True.intro | exact hL | exact hlv | exact hks _ | exact hE | exact hSe | exact hO | exact hS | exact hG1 | exact hG2 | exact hA | exact hB | exact qA | exact qB | (with_reducible assumption) | (rw [decide_eq_false_iff_not]; omega) | (simp only [IntKind.min, IntKind.max, IntKind.signed, IntKind.bits, if_true]; omega) | omega | (simp; done)
  ·refine f5 (bl7 m src other b true (ak3 m) (ab_ m) av1 m [] [] (m, 0) (m, 0) 0 0) Tryz.func6 ?_
   simp only [All]; and_intros
   all_goals first | exact True.intro | exact hL | exact hlv | exact hks _ | exact hE | (simp [h2]; done) | (rw [decide_eq_false_iff_not]; omega)
 ·have h0 := Bool.eq_false_iff.2 h0
  rw [h0] at hL
  refine f5 (bA3 m src other b false eB 0 av1 m [] [] (m, 0) (m, 0) 0 0) Tryz.func6 ?_
  simp only [All]; and_intros
  all_goals first | exact True.intro | exact hL | exact hlv | (simp; done)
theorem bn_ : Tryz.prog.cellsOf 123 = 17 := by kernel_rfl
theorem bB9 : Tryz.prog.cellsOf 73 = 19 := by kernel_rfl
theorem bn9 : Tryz.prog.cellsOf 106 = 39 := by kernel_rfl
theorem bB8 : Tryz.prog.cellsOf 26 = 18 := by kernel_rfl
theorem aC6 {n : Nat} {xs : List Int} (h : xs.length = n) (h2 : ∀ x ∈ xs, InR .u8 x) : SegOk n xs := ⟨h, fun x hx => InR8.1 (h2 x hx)⟩
theorem ca1 {d : Nat} {cs : List V} (h : ShC Tryz.prog d 123 cs) : ∃ s : SSign, cs = s.c ∧ SegOk 16 s.tag := by
 obtain ⟨d, a, _, rfl, ha, b, _, rfl, hb, rfl⟩ := K1 h Tryz.underlying123
 obtain ⟨n, rfl, _⟩ := F0 ha Tryz.underlying3
 obtain ⟨xs, rfl, h1, h2⟩ := aC8 hb Tryz.underlying24 Tryz.underlying5
 exact ⟨⟨n, xs⟩, rfl, aC6 h1 h2⟩
theorem cp1 {d : Nat} {cs : List V} (h : ShC Tryz.prog d 73 cs) : ∃ s : SReq, cs = s.c ∧ s.data.size ≤ 9223372036854775807 ∧ SegOk 16 s.tag := by
 obtain ⟨d, a, _, rfl, ha, b, _, rfl, hb, c, _, rfl, hc, e, _, rfl, he, rfl⟩ := K1 h Tryz.underlying73
 obtain ⟨n, rfl, _⟩ := F0 ha Tryz.underlying3
 obtain ⟨m, rfl, _⟩ := F0 hb Tryz.underlying3
 obtain ⟨s, rfl, hs⟩ := aC9 hc Tryz.underlying9
 obtain ⟨xs, rfl, h1, h2⟩ := aC8 he Tryz.underlying24 Tryz.underlying5
 exact ⟨⟨n, m, s, xs⟩, rfl, hs, aC6 h1 h2⟩
theorem co_ {d : Nat} {cs : List V} (h : ShC Tryz.prog d 26 cs) : ∃ s : SEnv, cs = s.c ∧ s.body.size ≤ 9223372036854775807 ∧ SegOk 16 s.tag := by
 obtain ⟨d, a, _, rfl, ha, c, _, rfl, hc, e, _, rfl, he, rfl⟩ := K1 h Tryz.underlying26
 obtain ⟨n, rfl, _⟩ := F0 ha Tryz.underlying3
 obtain ⟨s, rfl, hs⟩ := aC9 hc Tryz.underlying9
 obtain ⟨xs, rfl, h1, h2⟩ := aC8 he Tryz.underlying24 Tryz.underlying5
 exact ⟨⟨n, s, xs⟩, rfl, hs, aC6 h1 h2⟩
theorem bu4 {d : Nat} {cs : List V} (h : ShC Tryz.prog d 47 cs) : ∃ xs : List Int, cs = [.seg .u8 32 xs] ∧ SegOk 32 xs := by
 obtain ⟨xs, rfl, h1, h2⟩ := aC8 h Tryz.underlying47 Tryz.underlying5
 exact ⟨xs, rfl, aC6 h1 h2⟩
theorem a1_ {d : Nat} {cs : List V} (h : ShC Tryz.prog d 49 cs) : ∃ s : SVote, cs = s.c ∧ SegOk 32 s.digest := by
 obtain ⟨d, a, _, rfl, ha, b, _, rfl, hb, c, _, rfl, hc, e, _, rfl, he, f, _, rfl, hf, rfl⟩ := K1 h Tryz.underlying49
 obtain ⟨n, rfl, _⟩ := F0 ha Tryz.underlying3
 obtain ⟨m, rfl, _⟩ := F0 hb Tryz.underlying3
 obtain ⟨o, rfl, _⟩ := F0 hc Tryz.underlying3
 obtain ⟨p, rfl, _⟩ := F0 he Tryz.underlying3
 obtain ⟨xs, rfl, h1⟩ := bu4 hf
 exact ⟨⟨n, m, o, p, xs⟩, rfl, h1⟩
theorem aU8 (U : Imm) {d : Nat} {cs : List V} (h : ShC Tryz.prog d 54 cs) : ∃ n s, u5 U cs [sg n s] ∧ n ≤ 9223372036854775807 ∧ ∀ i, i < n → SegOk 16 (s i).tag := by
 obtain ⟨d, len, f, rfl, hl, hf⟩ := al_ h Tryz.underlying54
 obtain ⟨s, hs⟩ := af6 fun i hi => ca1 (hf i hi)
 refine ⟨len, s, ?_, hl, fun i hi => (hs i hi).2⟩
 rw [bn_]
 exact u5.ros fun i hi => by rw [(hs i hi).1]; exact u5.refl _ _
theorem aU7 (U : Imm) {d : Nat} {cs : List V} (h : ShC Tryz.prog d 45 cs) : ∃ b : SBatch, u5 U cs b.c ∧ FitB b ∧ X2 b := by
 obtain ⟨d, a, _, rfl, ha, b, _, rfl, hb, rfl⟩ := K1 h Tryz.underlying45
 obtain ⟨n, rfl⟩ := ca3 ha Tryz.underlying4
 obtain ⟨d, len, f, rfl, hl, hf⟩ := al_ hb Tryz.underlying43
 obtain ⟨s, hs⟩ := af6 fun i hi => cp1 (hf i hi)
 refine ⟨⟨n, len, s⟩, ?_, ⟨hl, fun k hk => (hs k hk).2.1⟩, fun k hk => (hs k hk).2.2⟩
 rw [bB9]
 refine u5.app (u5.refl U [.bool n]) ?_
 exact u5.ros fun i hi => by rw [(hs i hi).1]; exact u5.refl _ _
theorem a0_ (U : Imm) {d : Nat} {cs : List V} (h : ShC Tryz.prog d 56 cs) : ∃ c : SCert, u5 U cs c.c ∧ c.n ≤ 9223372036854775807 ∧ segCert c := by
 obtain ⟨d, a, _, rfl, ha, b, _, rfl, hb, rfl⟩ := K1 h Tryz.underlying56
 obtain ⟨v, rfl, hv⟩ := a1_ ha
 obtain ⟨n, s, hs, hn, ht⟩ := aU8 U hb
 refine ⟨⟨v, n, s⟩, ?_, hn, ⟨hv, ht⟩⟩
 refine u5.app (u5.refl U v.c) ?_
 rw [List.append_nil]; exact hs
theorem ca0 (U : Imm) {d : Nat} {cs : List V} (h : ShC Tryz.prog d 106 cs) : ∃ c : SHeld, u5 U cs c.c ∧ FitB c.batch ∧ segHeld c := by
 obtain ⟨d, a, _, rfl, ha, b, _, rfl, hb, rfl⟩ := K1 h Tryz.underlying106
 obtain ⟨b, hb1, hb2, hb3⟩ := aU7 U ha
 obtain ⟨c, hc1, hc2, hc3⟩ := a0_ U hb
 refine ⟨⟨b, c⟩, ?_, hb2, ⟨hb3, hc3⟩⟩
 refine u5.app hb1 ?_
 rw [List.append_nil]; exact hc1
instance : Inhabited SHeld := ⟨{}⟩
theorem bI6 (U : Imm) {d : Nat} {cs : List V} (h : ShC Tryz.prog d 50 cs) : ∃ n s, u5 U cs [Sy.hl n s] ∧ n ≤ 9223372036854775807 ∧ ∀ i, i < n → FitB (s i).batch ∧ segHeld (s i) := by
 obtain ⟨d, len, f, rfl, hl, hf⟩ := al_ h Tryz.underlying50
 obtain ⟨s, hs⟩ := af6 fun i hi => ca0 U (hf i hi)
 refine ⟨len, s, ?_, hl, fun i hi => (hs i hi).2⟩
 rw [bn9]
 exact u5.ros fun i hi => (hs i hi).1
theorem b__ (U : Imm) {d : Nat} {cs : List V} (h : ShC Tryz.prog d 53 cs) : ∃ n s, u5 U cs [nw n s] ∧ n ≤ 9223372036854775807 ∧ ∀ i, i < n → (s i).body.size ≤ 9223372036854775807 ∧ SegOk 16 (s i).tag := by
 obtain ⟨d, len, f, rfl, hl, hf⟩ := al_ h Tryz.underlying53
 obtain ⟨s, hs⟩ := af6 fun i hi => co_ (hf i hi)
 refine ⟨len, s, ?_, hl, fun i hi => (hs i hi).2⟩
 rw [bB8]
 exact u5.ros fun i hi => by rw [(hs i hi).1]; exact u5.refl _ _
theorem cp0 (U : Imm) {d : Nat} {cs : List V} (h : ShC Tryz.prog d 58 cs) : ∃ m : SMsg, u5 U cs m.c ∧ FitMsg m ∧ segMsg m := by
 obtain ⟨d, a1, _, rfl, h1, a2, _, rfl, h2, a3, _, rfl, h3, a4, _, rfl, h4, a5, _, rfl, h5, a6, _, rfl, h6, a7, _, rfl, h7, a8, _, rfl, h8, a9, _, rfl, h9, a10, _, rfl, h10, a11, _, rfl, h11, a12, _, rfl, h12, a13, _, rfl, h13, rfl⟩ := K1 h Tryz.underlying58
 obtain ⟨n1, rfl, _⟩ := F0 h1 Tryz.underlying3
 obtain ⟨n2, rfl, _⟩ := F0 h2 Tryz.underlying3
 obtain ⟨n3, rfl, _⟩ := F0 h3 Tryz.underlying3
 obtain ⟨n4, rfl, _⟩ := F0 h4 Tryz.underlying3
 obtain ⟨n5, rfl, _⟩ := F0 h5 Tryz.underlying3
 obtain ⟨b, hb1, hb2, hb3⟩ := aU7 U h6
 obtain ⟨v, rfl, hv⟩ := a1_ h7
 obtain ⟨d', c1, _, rfl, k1, c2, _, rfl, k2, c3, _, rfl, k3, c4, _, rfl, k4, rfl⟩ := K1 h8 Tryz.underlying52
 obtain ⟨e1, rfl, _⟩ := F0 k1 Tryz.underlying3
 obtain ⟨e2, rfl, _⟩ := F0 k2 Tryz.underlying3
 obtain ⟨e3, rfl, _⟩ := F0 k3 Tryz.underlying3
 obtain ⟨nh, hd, hh1, hh2, hh3⟩ := bI6 U k4
 obtain ⟨nn, nws, hn1, hn2, hn3⟩ := b__ U h9
 obtain ⟨dg, rfl, hdg⟩ := bu4 h10
 obtain ⟨c, hc1, hc2, hc3⟩ := a0_ U h11
 obtain ⟨s, rfl, _⟩ := aC9 h12 Tryz.underlying9
 obtain ⟨n, sgs, hs1, hs2, hs3⟩ := aU8 U h13
 refine ⟨{ kind := n1, epoch := n2, leader := n3, view := n4, slot := n5, batch := b, vote := v, cepoch := e1, cleader := e2, cview := e3, nheld := nh, held := hd, nnews := nn, news := nws, digest := dg, cert := c, state := s, n := n, sig := sgs }, ?_, ⟨hb2, fun k hk => (hh3 k hk).1, fun k hk => (hn3 k hk).1, hh2, hn2⟩, ⟨hb3, hv, fun k hk => (hh3 k hk).2, fun k hk => (hn3 k hk).2, hdg, hc3, hs3⟩⟩
 show u5 U _ ([V.int .i64 n1] ++ ([V.int .i64 n2] ++ ([V.int .i64 n3] ++ ([V.int .i64 n4] ++ ([V.int .i64 n5] ++ (b.c ++ (v.c ++ (([V.int .i64 e1] ++ ([V.int .i64 e2] ++ ([V.int .i64 e3] ++ ([Sy.hl nh hd] ++ [])))) ++ ([nw nn nws] ++ ([V.seg .u8 32 dg] ++ (c.c ++ ([V.str s] ++ [Sy.sg n sgs]))))))))))))
 refine u5.app (u5.refl U [_]) (u5.app (u5.refl U [_]) (u5.app (u5.refl U [_]) (u5.app (u5.refl U [_]) (u5.app (u5.refl U [_]) (u5.app hb1 (u5.app (u5.refl U v.c) (u5.app (u5.app (u5.refl U [_]) (u5.app (u5.refl U [_]) (u5.app (u5.refl U [_]) (u5.app hh1 (u5.refl U []))))) (u5.app hn1 (u5.app (u5.refl U [_]) (u5.app hc1 (u5.app (u5.refl U [_]) ?_)))))))))))
 rw [List.append_nil]; exact hs1
end Go.Proofs.YtnmccoincblecaaGreat
