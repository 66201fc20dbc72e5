/-
  Contracts and laws that the claim's theorem leans on, joined out of the texts Td0 Td1D Td1 Tc1D Tc1 Tf0D (own work of this seat): Contracts: is a message not more than is looked at; The chapter's example of messages; The chapter's example of messages; Contracts: what is the same of messages, as the document's answer has it; Contracts: what is the same of messages, as the document's answer has it; The laws of messages that come back, and of beginnings: the walk.
-/
import Derived.Test.YthifjamdfpjilaaC08
import Derived.Test.YthifjamdfpjilaaC10
import Derived.Test.YthifjamdfpjilaaC11
set_option linter.unusedVariables false
set_option linter.unusedSimpArgs false
namespace Go.Proofs.Ythifjamdfpjilaa
open Go Sy Go.Proofs
theorem bdLg_p111111 (m : SMsg) (j : Nat) :
  along Try.prog (bdLg m j) [true, true, true, true, true, true] = (some (.bool false, [], [T Try.prog 47 [.sl (.o 256) 2 0 0 0 1 (some 1)] [(.o 256, .rows 2 1 (getL [(SBatch.c (SMsg.batch m))]) false)] (.bool (lightB (SMsg.batch m))) [(.o 256, .rows 2 1 (getL [(SBatch.c (SMsg.batch m))]) false)], (!lightB (SMsg.batch m)) = true, q2, q2, q2, q2, q2]) : Option (V × Heap × List Prop)) := by kernel_rfl
theorem bdLg_p011111 (m : SMsg) (j : Nat) :
  along Try.prog (bdLg m j) [false, true, true, true, true, true] = (some (.bool false, [], [T Try.prog 47 [.sl (.o 256) 2 0 0 0 1 (some 1)] [(.o 256, .rows 2 1 (getL [(SBatch.c (SMsg.batch m))]) false)] (.bool (lightB (SMsg.batch m))) [(.o 256, .rows 2 1 (getL [(SBatch.c (SMsg.batch m))]) false)], (!lightB (SMsg.batch m)) = false, decide ((6000 : Int) < (↑(ByteArray.size (SMsg.state m)) : Int)) = true, q2, q2, q2, q2]) : Option (V × Heap × List Prop)) := by kernel_rfl
theorem bdLg_p001111 (m : SMsg) (j : Nat) :
  along Try.prog (bdLg m j) [false, false, true, true, true, true] = (some (.bool false, [], [T Try.prog 47 [.sl (.o 256) 2 0 0 0 1 (some 1)] [(.o 256, .rows 2 1 (getL [(SBatch.c (SMsg.batch m))]) false)] (.bool (lightB (SMsg.batch m))) [(.o 256, .rows 2 1 (getL [(SBatch.c (SMsg.batch m))]) false)], (!lightB (SMsg.batch m)) = false, decide ((6000 : Int) < (↑(ByteArray.size (SMsg.state m)) : Int)) = false, decide ((100 : Int) < (↑(SMsg.n m) : Int)) = true, q2, q2, q2]) : Option (V × Heap × List Prop)) := by kernel_rfl
theorem bdLg_p000111 (m : SMsg) (j : Nat) :
  along Try.prog (bdLg m j) [false, false, false, true, true, true] = (some (.bool false, [], [T Try.prog 47 [.sl (.o 256) 2 0 0 0 1 (some 1)] [(.o 256, .rows 2 1 (getL [(SBatch.c (SMsg.batch m))]) false)] (.bool (lightB (SMsg.batch m))) [(.o 256, .rows 2 1 (getL [(SBatch.c (SMsg.batch m))]) false)], (!lightB (SMsg.batch m)) = false, decide ((6000 : Int) < (↑(ByteArray.size (SMsg.state m)) : Int)) = false, decide ((100 : Int) < (↑(SMsg.n m) : Int)) = false, decide ((100 : Int) < (↑(SCert.n (SMsg.cert m)) : Int)) = true, q2, q2]) : Option (V × Heap × List Prop)) := by kernel_rfl
theorem bdLg_p000011 (m : SMsg) (j : Nat) :
  along Try.prog (bdLg m j) [false, false, false, false, true, true] = (some (.bool false, [], [T Try.prog 47 [.sl (.o 256) 2 0 0 0 1 (some 1)] [(.o 256, .rows 2 1 (getL [(SBatch.c (SMsg.batch m))]) false)] (.bool (lightB (SMsg.batch m))) [(.o 256, .rows 2 1 (getL [(SBatch.c (SMsg.batch m))]) false)], (!lightB (SMsg.batch m)) = false, decide ((6000 : Int) < (↑(ByteArray.size (SMsg.state m)) : Int)) = false, decide ((100 : Int) < (↑(SMsg.n m) : Int)) = false, decide ((100 : Int) < (↑(SCert.n (SMsg.cert m)) : Int)) = false, decide ((20 : Int) < (↑(SMsg.nheld m) : Int)) = true, q2]) : Option (V × Heap × List Prop)) := by kernel_rfl
theorem bdLg_p000001 (m : SMsg) (j : Nat) :
  along Try.prog (bdLg m j) [false, false, false, false, false, true] = (some (.bool false, [], [T Try.prog 47 [.sl (.o 256) 2 0 0 0 1 (some 1)] [(.o 256, .rows 2 1 (getL [(SBatch.c (SMsg.batch m))]) false)] (.bool (lightB (SMsg.batch m))) [(.o 256, .rows 2 1 (getL [(SBatch.c (SMsg.batch m))]) false)], (!lightB (SMsg.batch m)) = false, decide ((6000 : Int) < (↑(ByteArray.size (SMsg.state m)) : Int)) = false, decide ((100 : Int) < (↑(SMsg.n m) : Int)) = false, decide ((100 : Int) < (↑(SCert.n (SMsg.cert m)) : Int)) = false, decide ((20 : Int) < (↑(SMsg.nheld m) : Int)) = false, decide ((100 : Int) < (↑(SMsg.nnews m) : Int)) = true]) : Option (V × Heap × List Prop)) := by kernel_rfl
theorem bdLg_p00000011 (m : SMsg) (j : Nat) :
  along Try.prog (bdLg m j) [false, false, false, false, false, false, true, true] = (some (.bool true, [], [T Try.prog 47 [.sl (.o 256) 2 0 0 0 1 (some 1)] [(.o 256, .rows 2 1 (getL [(SBatch.c (SMsg.batch m))]) false)] (.bool (lightB (SMsg.batch m))) [(.o 256, .rows 2 1 (getL [(SBatch.c (SMsg.batch m))]) false)], (!lightB (SMsg.batch m)) = false, decide ((6000 : Int) < (↑(ByteArray.size (SMsg.state m)) : Int)) = false, decide ((100 : Int) < (↑(SMsg.n m) : Int)) = false, decide ((100 : Int) < (↑(SCert.n (SMsg.cert m)) : Int)) = false, decide ((20 : Int) < (↑(SMsg.nheld m) : Int)) = false, decide ((100 : Int) < (↑(SMsg.nnews m) : Int)) = false, RLoop Try.prog none 0 (cB (cB (cR (cL (cR (cR (cR (bodyOf (Bd.f (bdLg m j)))))))))) (SMsg.nheld m + 1) (St.mk [.any, .ptr (.o 0) 0 0 0 0, .any, .int .i64 0, .any, .any, .any, .any, .any, .any, .any, .any, .any, .any, .any, .any, .any, .any, .any, .any, .any, .any, .any, .any, .any, .any, .any, .any, .any, .any, .any, .any, .any, .any, .any, .any, .any, .any, .any, .any, .any, .any, .any, .any, .any, .any, .any, .ros 39 (SMsg.nheld m) (fun i => SHeld.c (SMsg.held m i)) false, .int .i64 (↑(SMsg.nheld m) : Int), .int .i64 0, .any, .any, .any, .any, .any, .any, .any, .any, .any, .any, .any, .any, .any, .any, .any, .any, .any, .any, .any, .any, .any, .any, .any, .any, .any, .any, .any, .any, .any, .any, .any] [(.o 0, .flat (SMsg.c m))] 1 []) (.exit 0) (St.mk [.any, .ptr (.o 0) 0 0 0 0, .any, .int .i64 0, .any, .any, .any, .any, .any, .any, .any, .any, .any, .any, .any, .any, .any, .any, .any, .any, .any, .any, .any, .any, .any, .any, .any, .any, .any, .any, .any, .any, .any, .any, .any, .any, .any, .any, .any, .any, .any, .any, .any, .any, .any, .any, .any, .ros 39 (SMsg.nheld m) (fun i => SHeld.c (SMsg.held m i)) false, .int .i64 (↑(SMsg.nheld m) : Int), .int .i64 (↑(SMsg.nheld m) : Int), .any, .any, .any, .any, .any, .any, .any, .any, .any, .any, .any, .any, .any, .any, .any, .any, .any, .any, .any, .any, .any, .any, .any, .any, .any, .any, .any, .any, .any, .any, .any] [(.o 0, .flat (SMsg.c m))] 1 []), q (SMsg.kind m), q (SMsg.epoch m), q (SMsg.leader m), q (SMsg.view m), q (SMsg.slot m), q (SBatch.noop (SMsg.batch m)), q (SBatch.n (SMsg.batch m)), ∀ (k : Nat), k < SBatch.n (SMsg.batch m) → SReq.c (SBatch.req (SMsg.batch m) k) = SReq.c (SBatch.req (SMsg.batch m) k), false = true → false = true, q (SVote.kind (SMsg.vote m)), q (SVote.epoch (SMsg.vote m)), q (SVote.view (SMsg.vote m)), q (SVote.slot (SMsg.vote m)), q (32 : Nat), q (SVote.digest (SMsg.vote m)), q (SMsg.cepoch m), q (SMsg.cleader m), q (SMsg.cview m), q (SMsg.nheld m), ∀ (k : Nat), k < SMsg.nheld m → SHeld.c (SMsg.held m k) = SHeld.c (SMsg.held m k), false = true → false = true, q (SMsg.nnews m), ∀ (k : Nat), k < SMsg.nnews m → SEnv.c (SMsg.news m k) = SEnv.c (SMsg.news m k), false = true → false = true, q (32 : Nat), q (SMsg.digest m), q (SVote.kind (SCert.vote (SMsg.cert m))), q (SVote.epoch (SCert.vote (SMsg.cert m))), q (SVote.view (SCert.vote (SMsg.cert m))), q (SVote.slot (SCert.vote (SMsg.cert m))), q (32 : Nat), q (SVote.digest (SCert.vote (SMsg.cert m))), q (SCert.n (SMsg.cert m)), ∀ (k : Nat), k < SCert.n (SMsg.cert m) → SSign.c (SCert.sig (SMsg.cert m) k) = SSign.c (SCert.sig (SMsg.cert m) k), false = true → false = true, q (SMsg.state m), q (SMsg.n m), ∀ (k : Nat), k < SMsg.n m → SSign.c (SMsg.sig m k) = SSign.c (SMsg.sig m k), false = true → false = true, q0, q0, q0, q1, q (SMsg.nheld m), ∀ (k : Nat), k < SMsg.nheld m → SHeld.c (SMsg.held m k) = SHeld.c (SMsg.held m k), false = true → false = true, q (↑(SMsg.nheld m) : Int), q1, RLoop Try.prog none 0 (cB (cB (cR (cL (cR (cR (cR (cR (bodyOf (Bd.f (bdLg m j))))))))))) (SMsg.nnews m + 1) (St.mk [.any, .ptr (.o 0) 0 0 0 0, .any, .int .i64 0, .any, .any, .any, .any, .any, .any, .any, .any, .any, .any, .any, .any, .any, .any, .any, .any, .any, .any, .any, .any, .any, .any, .any, .any, .any, .any, .any, .any, .any, .any, .any, .any, .any, .any, .any, .any, .any, .any, .any, .any, .any, .any, .any, .any, .any, .any, .any, .any, .any, .any, .any, .any, .any, .any, .any, .any, .any, .any, .any, .any, .any, .any, .any, .ros 18 (SMsg.nnews m) (fun i => SEnv.c (SMsg.news m i)) false, .int .i64 (↑(SMsg.nnews m) : Int), .int .i64 0, .any, .any, .any, .any, .any, .any, .any, .any, .any, .any, .any] [(.o 0, .flat (SMsg.c m))] 1 []) (.exit 2) (St.mk [.any, .ptr (.o 0) 0 0 0 0, .any, .int .i64 (sumN (SMsg.news m) (SMsg.nnews m)), .any, .any, .any, .any, .any, .any, .any, .any, .any, .any, .any, .any, .any, .any, .any, .any, .any, .any, .any, .any, .any, .any, .any, .any, .any, .any, .any, .any, .any, .any, .any, .any, .any, .any, .any, .any, .any, .any, .any, .any, .any, .any, .any, .any, .any, .any, .any, .any, .any, .any, .any, .any, .any, .any, .any, .any, .any, .any, .any, .any, .any, .any, .any, .ros 18 (SMsg.nnews m) (fun i => SEnv.c (SMsg.news m i)) false, .int .i64 (↑(SMsg.nnews m) : Int), .int .i64 (↑(SMsg.nnews m) : Int), .any, .any, .any, .any, .any, .any, .any, .any, .any, .any, .any] [(.o 0, .flat (SMsg.c m))] 1 []), q (SMsg.kind m), q (SMsg.epoch m), q (SMsg.leader m), q (SMsg.view m), q (SMsg.slot m), q (SBatch.noop (SMsg.batch m)), q (SBatch.n (SMsg.batch m)), ∀ (k : Nat), k < SBatch.n (SMsg.batch m) → SReq.c (SBatch.req (SMsg.batch m) k) = SReq.c (SBatch.req (SMsg.batch m) k), false = true → false = true, q (SVote.kind (SMsg.vote m)), q (SVote.epoch (SMsg.vote m)), q (SVote.view (SMsg.vote m)), q (SVote.slot (SMsg.vote m)), q (32 : Nat), q (SVote.digest (SMsg.vote m)), q (SMsg.cepoch m), q (SMsg.cleader m), q (SMsg.cview m), q (SMsg.nheld m), ∀ (k : Nat), k < SMsg.nheld m → SHeld.c (SMsg.held m k) = SHeld.c (SMsg.held m k), false = true → false = true, q (SMsg.nnews m), ∀ (k : Nat), k < SMsg.nnews m → SEnv.c (SMsg.news m k) = SEnv.c (SMsg.news m k), false = true → false = true, q (32 : Nat), q (SMsg.digest m), q (SVote.kind (SCert.vote (SMsg.cert m))), q (SVote.epoch (SCert.vote (SMsg.cert m))), q (SVote.view (SCert.vote (SMsg.cert m))), q (SVote.slot (SCert.vote (SMsg.cert m))), q (32 : Nat), q (SVote.digest (SCert.vote (SMsg.cert m))), q (SCert.n (SMsg.cert m)), ∀ (k : Nat), k < SCert.n (SMsg.cert m) → SSign.c (SCert.sig (SMsg.cert m) k) = SSign.c (SCert.sig (SMsg.cert m) k), false = true → false = true, q (SMsg.state m), q (SMsg.n m), ∀ (k : Nat), k < SMsg.n m → SSign.c (SMsg.sig m k) = SSign.c (SMsg.sig m k), false = true → false = true, q0, q0, q0, q1, q (SMsg.nnews m), ∀ (k : Nat), k < SMsg.nnews m → SEnv.c (SMsg.news m k) = SEnv.c (SMsg.news m k), false = true → false = true, q (↑(SMsg.nnews m) : Int), q1]) : Option (V × Heap × List Prop)) := by kernel_rfl
theorem bdLg_p00000010 (m : SMsg) (j : Nat) :
  along Try.prog (bdLg m j) [false, false, false, false, false, false, true, false] = (some (.bool false, [], [T Try.prog 47 [.sl (.o 256) 2 0 0 0 1 (some 1)] [(.o 256, .rows 2 1 (getL [(SBatch.c (SMsg.batch m))]) false)] (.bool (lightB (SMsg.batch m))) [(.o 256, .rows 2 1 (getL [(SBatch.c (SMsg.batch m))]) false)], (!lightB (SMsg.batch m)) = false, decide ((6000 : Int) < (↑(ByteArray.size (SMsg.state m)) : Int)) = false, decide ((100 : Int) < (↑(SMsg.n m) : Int)) = false, decide ((100 : Int) < (↑(SCert.n (SMsg.cert m)) : Int)) = false, decide ((20 : Int) < (↑(SMsg.nheld m) : Int)) = false, decide ((100 : Int) < (↑(SMsg.nnews m) : Int)) = false, RLoop Try.prog none 0 (cB (cB (cR (cL (cR (cR (cR (bodyOf (Bd.f (bdLg m j)))))))))) (SMsg.nheld m + 1) (St.mk [.any, .ptr (.o 0) 0 0 0 0, .any, .int .i64 0, .any, .any, .any, .any, .any, .any, .any, .any, .any, .any, .any, .any, .any, .any, .any, .any, .any, .any, .any, .any, .any, .any, .any, .any, .any, .any, .any, .any, .any, .any, .any, .any, .any, .any, .any, .any, .any, .any, .any, .any, .any, .any, .any, .ros 39 (SMsg.nheld m) (fun i => SHeld.c (SMsg.held m i)) false, .int .i64 (↑(SMsg.nheld m) : Int), .int .i64 0, .any, .any, .any, .any, .any, .any, .any, .any, .any, .any, .any, .any, .any, .any, .any, .any, .any, .any, .any, .any, .any, .any, .any, .any, .any, .any, .any, .any, .any, .any, .any] [(.o 0, .flat (SMsg.c m))] 1 []) (.exit 0) (St.mk [.any, .ptr (.o 0) 0 0 0 0, .any, .int .i64 0, .any, .any, .any, .any, .any, .any, .any, .any, .any, .any, .any, .any, .any, .any, .any, .any, .any, .any, .any, .any, .any, .any, .any, .any, .any, .any, .any, .any, .any, .any, .any, .any, .any, .any, .any, .any, .any, .any, .any, .any, .any, .any, .any, .ros 39 (SMsg.nheld m) (fun i => SHeld.c (SMsg.held m i)) false, .int .i64 (↑(SMsg.nheld m) : Int), .int .i64 (↑(SMsg.nheld m) : Int), .any, .any, .any, .any, .any, .any, .any, .any, .any, .any, .any, .any, .any, .any, .any, .any, .any, .any, .any, .any, .any, .any, .any, .any, .any, .any, .any, .any, .any, .any, .any] [(.o 0, .flat (SMsg.c m))] 1 []), q (SMsg.kind m), q (SMsg.epoch m), q (SMsg.leader m), q (SMsg.view m), q (SMsg.slot m), q (SBatch.noop (SMsg.batch m)), q (SBatch.n (SMsg.batch m)), ∀ (k : Nat), k < SBatch.n (SMsg.batch m) → SReq.c (SBatch.req (SMsg.batch m) k) = SReq.c (SBatch.req (SMsg.batch m) k), false = true → false = true, q (SVote.kind (SMsg.vote m)), q (SVote.epoch (SMsg.vote m)), q (SVote.view (SMsg.vote m)), q (SVote.slot (SMsg.vote m)), q (32 : Nat), q (SVote.digest (SMsg.vote m)), q (SMsg.cepoch m), q (SMsg.cleader m), q (SMsg.cview m), q (SMsg.nheld m), ∀ (k : Nat), k < SMsg.nheld m → SHeld.c (SMsg.held m k) = SHeld.c (SMsg.held m k), false = true → false = true, q (SMsg.nnews m), ∀ (k : Nat), k < SMsg.nnews m → SEnv.c (SMsg.news m k) = SEnv.c (SMsg.news m k), false = true → false = true, q (32 : Nat), q (SMsg.digest m), q (SVote.kind (SCert.vote (SMsg.cert m))), q (SVote.epoch (SCert.vote (SMsg.cert m))), q (SVote.view (SCert.vote (SMsg.cert m))), q (SVote.slot (SCert.vote (SMsg.cert m))), q (32 : Nat), q (SVote.digest (SCert.vote (SMsg.cert m))), q (SCert.n (SMsg.cert m)), ∀ (k : Nat), k < SCert.n (SMsg.cert m) → SSign.c (SCert.sig (SMsg.cert m) k) = SSign.c (SCert.sig (SMsg.cert m) k), false = true → false = true, q (SMsg.state m), q (SMsg.n m), ∀ (k : Nat), k < SMsg.n m → SSign.c (SMsg.sig m k) = SSign.c (SMsg.sig m k), false = true → false = true, q0, q0, q0, q1, q (SMsg.nheld m), ∀ (k : Nat), k < SMsg.nheld m → SHeld.c (SMsg.held m k) = SHeld.c (SMsg.held m k), false = true → false = true, q (↑(SMsg.nheld m) : Int), q1, RLoop Try.prog none 0 (cB (cB (cR (cL (cR (cR (cR (cR (bodyOf (Bd.f (bdLg m j))))))))))) (j + 1) (St.mk [.any, .ptr (.o 0) 0 0 0 0, .any, .int .i64 0, .any, .any, .any, .any, .any, .any, .any, .any, .any, .any, .any, .any, .any, .any, .any, .any, .any, .any, .any, .any, .any, .any, .any, .any, .any, .any, .any, .any, .any, .any, .any, .any, .any, .any, .any, .any, .any, .any, .any, .any, .any, .any, .any, .any, .any, .any, .any, .any, .any, .any, .any, .any, .any, .any, .any, .any, .any, .any, .any, .any, .any, .any, .any, .ros 18 (SMsg.nnews m) (fun i => SEnv.c (SMsg.news m i)) false, .int .i64 (↑(SMsg.nnews m) : Int), .int .i64 0, .any, .any, .any, .any, .any, .any, .any, .any, .any, .any, .any] [(.o 0, .flat (SMsg.c m))] 1 []) .ret (St.mk [.any, .any, .bool false, .any, .any, .any, .any, .any, .any, .any, .any, .any, .any, .any, .any, .any, .any, .any, .any, .any, .any, .any, .any, .any, .any, .any, .any, .any, .any, .any, .any, .any, .any, .any, .any, .any, .any, .any, .any, .any, .any, .any, .any, .any, .any, .any, .any, .any, .any, .any, .any, .any, .any, .any, .any, .any, .any, .any, .any, .any, .any, .any, .any, .any, .any, .any, .any, .any, .any, .any, .any, .any, .any, .any, .any, .any, .any, .any, .any, .any, .any] [] 0 []), q (SMsg.kind m), q (SMsg.epoch m), q (SMsg.leader m), q (SMsg.view m), q (SMsg.slot m), q (SBatch.noop (SMsg.batch m)), q (SBatch.n (SMsg.batch m)), ∀ (k : Nat), k < SBatch.n (SMsg.batch m) → SReq.c (SBatch.req (SMsg.batch m) k) = SReq.c (SBatch.req (SMsg.batch m) k), false = true → false = true, q (SVote.kind (SMsg.vote m)), q (SVote.epoch (SMsg.vote m)), q (SVote.view (SMsg.vote m)), q (SVote.slot (SMsg.vote m)), q (32 : Nat), q (SVote.digest (SMsg.vote m)), q (SMsg.cepoch m), q (SMsg.cleader m), q (SMsg.cview m), q (SMsg.nheld m), ∀ (k : Nat), k < SMsg.nheld m → SHeld.c (SMsg.held m k) = SHeld.c (SMsg.held m k), false = true → false = true, q (SMsg.nnews m), ∀ (k : Nat), k < SMsg.nnews m → SEnv.c (SMsg.news m k) = SEnv.c (SMsg.news m k), false = true → false = true, q (32 : Nat), q (SMsg.digest m), q (SVote.kind (SCert.vote (SMsg.cert m))), q (SVote.epoch (SCert.vote (SMsg.cert m))), q (SVote.view (SCert.vote (SMsg.cert m))), q (SVote.slot (SCert.vote (SMsg.cert m))), q (32 : Nat), q (SVote.digest (SCert.vote (SMsg.cert m))), q (SCert.n (SMsg.cert m)), ∀ (k : Nat), k < SCert.n (SMsg.cert m) → SSign.c (SCert.sig (SMsg.cert m) k) = SSign.c (SCert.sig (SMsg.cert m) k), false = true → false = true, q (SMsg.state m), q (SMsg.n m), ∀ (k : Nat), k < SMsg.n m → SSign.c (SMsg.sig m k) = SSign.c (SMsg.sig m k), false = true → false = true, q0, q0, q0, q1, q (SMsg.nnews m), ∀ (k : Nat), k < SMsg.nnews m → SEnv.c (SMsg.news m k) = SEnv.c (SMsg.news m k), false = true → false = true, q (↑(SMsg.nnews m) : Int), q1]) : Option (V × Heap × List Prop)) := by kernel_rfl
theorem bdLg_p0000000 (m : SMsg) (j : Nat) :
  along Try.prog (bdLg m j) [false, false, false, false, false, false, false] = (some (.bool false, [], [T Try.prog 47 [.sl (.o 256) 2 0 0 0 1 (some 1)] [(.o 256, .rows 2 1 (getL [(SBatch.c (SMsg.batch m))]) false)] (.bool (lightB (SMsg.batch m))) [(.o 256, .rows 2 1 (getL [(SBatch.c (SMsg.batch m))]) false)], (!lightB (SMsg.batch m)) = false, decide ((6000 : Int) < (↑(ByteArray.size (SMsg.state m)) : Int)) = false, decide ((100 : Int) < (↑(SMsg.n m) : Int)) = false, decide ((100 : Int) < (↑(SCert.n (SMsg.cert m)) : Int)) = false, decide ((20 : Int) < (↑(SMsg.nheld m) : Int)) = false, decide ((100 : Int) < (↑(SMsg.nnews m) : Int)) = false, RLoop Try.prog none 0 (cB (cB (cR (cL (cR (cR (cR (bodyOf (Bd.f (bdLg m j)))))))))) (j + 1) (St.mk [.any, .ptr (.o 0) 0 0 0 0, .any, .int .i64 0, .any, .any, .any, .any, .any, .any, .any, .any, .any, .any, .any, .any, .any, .any, .any, .any, .any, .any, .any, .any, .any, .any, .any, .any, .any, .any, .any, .any, .any, .any, .any, .any, .any, .any, .any, .any, .any, .any, .any, .any, .any, .any, .any, .ros 39 (SMsg.nheld m) (fun i => SHeld.c (SMsg.held m i)) false, .int .i64 (↑(SMsg.nheld m) : Int), .int .i64 0, .any, .any, .any, .any, .any, .any, .any, .any, .any, .any, .any, .any, .any, .any, .any, .any, .any, .any, .any, .any, .any, .any, .any, .any, .any, .any, .any, .any, .any, .any, .any] [(.o 0, .flat (SMsg.c m))] 1 []) .ret (St.mk [.any, .any, .bool false, .any, .any, .any, .any, .any, .any, .any, .any, .any, .any, .any, .any, .any, .any, .any, .any, .any, .any, .any, .any, .any, .any, .any, .any, .any, .any, .any, .any, .any, .any, .any, .any, .any, .any, .any, .any, .any, .any, .any, .any, .any, .any, .any, .any, .any, .any, .any, .any, .any, .any, .any, .any, .any, .any, .any, .any, .any, .any, .any, .any, .any, .any, .any, .any, .any, .any, .any, .any, .any, .any, .any, .any, .any, .any, .any, .any, .any, .any] [] 0 []), q (SMsg.kind m), q (SMsg.epoch m), q (SMsg.leader m), q (SMsg.view m), q (SMsg.slot m), q (SBatch.noop (SMsg.batch m)), q (SBatch.n (SMsg.batch m)), ∀ (k : Nat), k < SBatch.n (SMsg.batch m) → SReq.c (SBatch.req (SMsg.batch m) k) = SReq.c (SBatch.req (SMsg.batch m) k), false = true → false = true, q (SVote.kind (SMsg.vote m)), q (SVote.epoch (SMsg.vote m)), q (SVote.view (SMsg.vote m)), q (SVote.slot (SMsg.vote m)), q (32 : Nat), q (SVote.digest (SMsg.vote m)), q (SMsg.cepoch m), q (SMsg.cleader m), q (SMsg.cview m), q (SMsg.nheld m), ∀ (k : Nat), k < SMsg.nheld m → SHeld.c (SMsg.held m k) = SHeld.c (SMsg.held m k), false = true → false = true, q (SMsg.nnews m), ∀ (k : Nat), k < SMsg.nnews m → SEnv.c (SMsg.news m k) = SEnv.c (SMsg.news m k), false = true → false = true, q (32 : Nat), q (SMsg.digest m), q (SVote.kind (SCert.vote (SMsg.cert m))), q (SVote.epoch (SCert.vote (SMsg.cert m))), q (SVote.view (SCert.vote (SMsg.cert m))), q (SVote.slot (SCert.vote (SMsg.cert m))), q (32 : Nat), q (SVote.digest (SCert.vote (SMsg.cert m))), q (SCert.n (SMsg.cert m)), ∀ (k : Nat), k < SCert.n (SMsg.cert m) → SSign.c (SCert.sig (SMsg.cert m) k) = SSign.c (SCert.sig (SMsg.cert m) k), false = true → false = true, q (SMsg.state m), q (SMsg.n m), ∀ (k : Nat), k < SMsg.n m → SSign.c (SMsg.sig m k) = SSign.c (SMsg.sig m k), false = true → false = true, q0, q0, q0, q1, q (SMsg.nheld m), ∀ (k : Nat), k < SMsg.nheld m → SHeld.c (SMsg.held m k) = SHeld.c (SMsg.held m k), false = true → false = true, q (↑(SMsg.nheld m) : Int), q1]) : Option (V × Heap × List Prop)) := by kernel_rfl

theorem pcLg1_p111 (m : SMsg) (k : Nat) :
  alongPc Try.prog (pcLg1 m k) [true, true, true] = (some (.ret, St.mk [.any, .any, .bool false, .any, .any, .any, .any, .any, .any, .any, .any, .any, .any, .any, .any, .any, .any, .any, .any, .any, .any, .any, .any, .any, .any, .any, .any, .any, .any, .any, .any, .any, .any, .any, .any, .any, .any, .any, .any, .any, .any, .any, .any, .any, .any, .any, .any, .any, .any, .any, .any, .any, .any, .any, .any, .any, .any, .any, .any, .any, .any, .any, .any, .any, .any, .any, .any, .any, .any, .any, .any, .any, .any, .any, .any, .any, .any, .any, .any, .any, .any] [] 0 [], [decide ((↑k : Int) < (↑(SMsg.nheld m) : Int)) = true, (0 : Int) ≤ (↑k : Int) ∧ (↑k : Int) < (↑(SMsg.nheld m) : Int), T Try.prog 47 [.sl (.o 449) 2 0 0 0 1 (some 1)] [(.o 449, .rows 2 1 (getL [[.bool (SBatch.noop (SHeld.batch (SMsg.held m (Int.toNat (↑k : Int))))), rq (SBatch.n (SHeld.batch (SMsg.held m (Int.toNat (↑k : Int))))) (SBatch.req (SHeld.batch (SMsg.held m (Int.toNat (↑k : Int)))))]]) false)] (.bool (lightB (SHeld.batch (SMsg.held m k)))) [(.o 449, .rows 2 1 (getL [[.bool (SBatch.noop (SHeld.batch (SMsg.held m (Int.toNat (↑k : Int))))), rq (SBatch.n (SHeld.batch (SMsg.held m (Int.toNat (↑k : Int))))) (SBatch.req (SHeld.batch (SMsg.held m (Int.toNat (↑k : Int)))))]]) false)], (!lightB (SHeld.batch (SMsg.held m k))) = true, q2, q false]) : Option (Exit × St × List Prop)) := by kernel_rfl
theorem pcLg1_p101 (m : SMsg) (k : Nat) :
  alongPc Try.prog (pcLg1 m k) [true, false, true] = (some (.ret, St.mk [.any, .any, .bool false, .any, .any, .any, .any, .any, .any, .any, .any, .any, .any, .any, .any, .any, .any, .any, .any, .any, .any, .any, .any, .any, .any, .any, .any, .any, .any, .any, .any, .any, .any, .any, .any, .any, .any, .any, .any, .any, .any, .any, .any, .any, .any, .any, .any, .any, .any, .any, .any, .any, .any, .any, .any, .any, .any, .any, .any, .any, .any, .any, .any, .any, .any, .any, .any, .any, .any, .any, .any, .any, .any, .any, .any, .any, .any, .any, .any, .any, .any] [] 0 [], [decide ((↑k : Int) < (↑(SMsg.nheld m) : Int)) = true, (0 : Int) ≤ (↑k : Int) ∧ (↑k : Int) < (↑(SMsg.nheld m) : Int), T Try.prog 47 [.sl (.o 449) 2 0 0 0 1 (some 1)] [(.o 449, .rows 2 1 (getL [[.bool (SBatch.noop (SHeld.batch (SMsg.held m (Int.toNat (↑k : Int))))), rq (SBatch.n (SHeld.batch (SMsg.held m (Int.toNat (↑k : Int))))) (SBatch.req (SHeld.batch (SMsg.held m (Int.toNat (↑k : Int)))))]]) false)] (.bool (lightB (SHeld.batch (SMsg.held m k)))) [(.o 449, .rows 2 1 (getL [[.bool (SBatch.noop (SHeld.batch (SMsg.held m (Int.toNat (↑k : Int))))), rq (SBatch.n (SHeld.batch (SMsg.held m (Int.toNat (↑k : Int))))) (SBatch.req (SHeld.batch (SMsg.held m (Int.toNat (↑k : Int)))))]]) false)], (!lightB (SHeld.batch (SMsg.held m k))) = false, decide ((100 : Int) < (↑(SCert.n (SHeld.cert (SMsg.held m (Int.toNat (↑k : Int))))) : Int)) = true, q false]) : Option (Exit × St × List Prop)) := by kernel_rfl
theorem pcLg1_p100 (m : SMsg) (k : Nat) :
  alongPc Try.prog (pcLg1 m k) [true, false, false] = (some (.normal, St.mk [.any, .ptr (.o 0) 0 0 0 0, .any, .int .i64 0, .any, .any, .any, .any, .any, .any, .any, .any, .any, .any, .any, .any, .any, .any, .any, .any, .any, .any, .any, .any, .any, .any, .any, .any, .any, .any, .any, .any, .any, .any, .any, .any, .any, .any, .any, .any, .any, .any, .any, .any, .any, .any, .any, .ros 39 (SMsg.nheld m) (fun i => SHeld.c (SMsg.held m i)) false, .int .i64 (↑(SMsg.nheld m) : Int), .int .i64 (↑(k + 1) : Int), .any, .any, .any, .any, .any, .any, .any, .any, .any, .any, .any, .any, .any, .any, .any, .any, .any, .any, .any, .any, .any, .any, .any, .any, .any, .any, .any, .any, .any, .any, .any] [(.o 0, .flat (SMsg.c m))] 1 [], [decide ((↑k : Int) < (↑(SMsg.nheld m) : Int)) = true, (0 : Int) ≤ (↑k : Int) ∧ (↑k : Int) < (↑(SMsg.nheld m) : Int), T Try.prog 47 [.sl (.o 449) 2 0 0 0 1 (some 1)] [(.o 449, .rows 2 1 (getL [[.bool (SBatch.noop (SHeld.batch (SMsg.held m (Int.toNat (↑k : Int))))), rq (SBatch.n (SHeld.batch (SMsg.held m (Int.toNat (↑k : Int))))) (SBatch.req (SHeld.batch (SMsg.held m (Int.toNat (↑k : Int)))))]]) false)] (.bool (lightB (SHeld.batch (SMsg.held m k)))) [(.o 449, .rows 2 1 (getL [[.bool (SBatch.noop (SHeld.batch (SMsg.held m (Int.toNat (↑k : Int))))), rq (SBatch.n (SHeld.batch (SMsg.held m (Int.toNat (↑k : Int))))) (SBatch.req (SHeld.batch (SMsg.held m (Int.toNat (↑k : Int)))))]]) false)], (!lightB (SHeld.batch (SMsg.held m k))) = false, decide ((100 : Int) < (↑(SCert.n (SHeld.cert (SMsg.held m (Int.toNat (↑k : Int))))) : Int)) = false, InR IntKind.i64 ((↑k : Int) + (1 : Int)), q (SMsg.kind m), q (SMsg.epoch m), q (SMsg.leader m), q (SMsg.view m), q (SMsg.slot m), q (SBatch.noop (SMsg.batch m)), q (SBatch.n (SMsg.batch m)), ∀ (k : Nat), k < SBatch.n (SMsg.batch m) → SReq.c (SBatch.req (SMsg.batch m) k) = SReq.c (SBatch.req (SMsg.batch m) k), false = true → false = true, q (SVote.kind (SMsg.vote m)), q (SVote.epoch (SMsg.vote m)), q (SVote.view (SMsg.vote m)), q (SVote.slot (SMsg.vote m)), q (32 : Nat), q (SVote.digest (SMsg.vote m)), q (SMsg.cepoch m), q (SMsg.cleader m), q (SMsg.cview m), q (SMsg.nheld m), ∀ (k : Nat), k < SMsg.nheld m → SHeld.c (SMsg.held m k) = SHeld.c (SMsg.held m k), false = true → false = true, q (SMsg.nnews m), ∀ (k : Nat), k < SMsg.nnews m → SEnv.c (SMsg.news m k) = SEnv.c (SMsg.news m k), false = true → false = true, q (32 : Nat), q (SMsg.digest m), q (SVote.kind (SCert.vote (SMsg.cert m))), q (SVote.epoch (SCert.vote (SMsg.cert m))), q (SVote.view (SCert.vote (SMsg.cert m))), q (SVote.slot (SCert.vote (SMsg.cert m))), q (32 : Nat), q (SVote.digest (SCert.vote (SMsg.cert m))), q (SCert.n (SMsg.cert m)), ∀ (k : Nat), k < SCert.n (SMsg.cert m) → SSign.c (SCert.sig (SMsg.cert m) k) = SSign.c (SCert.sig (SMsg.cert m) k), false = true → false = true, q (SMsg.state m), q (SMsg.n m), ∀ (k : Nat), k < SMsg.n m → SSign.c (SMsg.sig m k) = SSign.c (SMsg.sig m k), false = true → false = true, q0, q0, q0, q1, q (SMsg.nheld m), ∀ (k : Nat), k < SMsg.nheld m → SHeld.c (SMsg.held m k) = SHeld.c (SMsg.held m k), false = true → false = true, q (↑(SMsg.nheld m) : Int), (↑k : Int) + (1 : Int) = (↑(k + (1 : Nat)) : Int)]) : Option (Exit × St × List Prop)) := by kernel_rfl
theorem pcLg1_p0 (m : SMsg) (k : Nat) :
  alongPc Try.prog (pcLg1 m k) [false] = (some (.exit 0, St.mk [.any, .ptr (.o 0) 0 0 0 0, .any, .int .i64 0, .any, .any, .any, .any, .any, .any, .any, .any, .any, .any, .any, .any, .any, .any, .any, .any, .any, .any, .any, .any, .any, .any, .any, .any, .any, .any, .any, .any, .any, .any, .any, .any, .any, .any, .any, .any, .any, .any, .any, .any, .any, .any, .any, .ros 39 (SMsg.nheld m) (fun i => SHeld.c (SMsg.held m i)) false, .int .i64 (↑(SMsg.nheld m) : Int), .int .i64 (↑(SMsg.nheld m) : Int), .any, .any, .any, .any, .any, .any, .any, .any, .any, .any, .any, .any, .any, .any, .any, .any, .any, .any, .any, .any, .any, .any, .any, .any, .any, .any, .any, .any, .any, .any, .any] [(.o 0, .flat (SMsg.c m))] 1 [], [decide ((↑k : Int) < (↑(SMsg.nheld m) : Int)) = false, q (SMsg.kind m), q (SMsg.epoch m), q (SMsg.leader m), q (SMsg.view m), q (SMsg.slot m), q (SBatch.noop (SMsg.batch m)), q (SBatch.n (SMsg.batch m)), ∀ (k : Nat), k < SBatch.n (SMsg.batch m) → SReq.c (SBatch.req (SMsg.batch m) k) = SReq.c (SBatch.req (SMsg.batch m) k), false = true → false = true, q (SVote.kind (SMsg.vote m)), q (SVote.epoch (SMsg.vote m)), q (SVote.view (SMsg.vote m)), q (SVote.slot (SMsg.vote m)), q (32 : Nat), q (SVote.digest (SMsg.vote m)), q (SMsg.cepoch m), q (SMsg.cleader m), q (SMsg.cview m), q (SMsg.nheld m), ∀ (k : Nat), k < SMsg.nheld m → SHeld.c (SMsg.held m k) = SHeld.c (SMsg.held m k), false = true → false = true, q (SMsg.nnews m), ∀ (k : Nat), k < SMsg.nnews m → SEnv.c (SMsg.news m k) = SEnv.c (SMsg.news m k), false = true → false = true, q (32 : Nat), q (SMsg.digest m), q (SVote.kind (SCert.vote (SMsg.cert m))), q (SVote.epoch (SCert.vote (SMsg.cert m))), q (SVote.view (SCert.vote (SMsg.cert m))), q (SVote.slot (SCert.vote (SMsg.cert m))), q (32 : Nat), q (SVote.digest (SCert.vote (SMsg.cert m))), q (SCert.n (SMsg.cert m)), ∀ (k : Nat), k < SCert.n (SMsg.cert m) → SSign.c (SCert.sig (SMsg.cert m) k) = SSign.c (SCert.sig (SMsg.cert m) k), false = true → false = true, q (SMsg.state m), q (SMsg.n m), ∀ (k : Nat), k < SMsg.n m → SSign.c (SMsg.sig m k) = SSign.c (SMsg.sig m k), false = true → false = true, q0, q0, q0, q1, q (SMsg.nheld m), ∀ (k : Nat), k < SMsg.nheld m → SHeld.c (SMsg.held m k) = SHeld.c (SMsg.held m k), false = true → false = true, q (↑(SMsg.nheld m) : Int), (↑k : Int) = (↑(SMsg.nheld m) : Int)]) : Option (Exit × St × List Prop)) := by kernel_rfl

theorem pcLg2_p11 (m : SMsg) (k : Nat) :
  alongPc Try.prog (pcLg2 m k) [true, true] = (some (.ret, St.mk [.any, .any, .bool false, .any, .any, .any, .any, .any, .any, .any, .any, .any, .any, .any, .any, .any, .any, .any, .any, .any, .any, .any, .any, .any, .any, .any, .any, .any, .any, .any, .any, .any, .any, .any, .any, .any, .any, .any, .any, .any, .any, .any, .any, .any, .any, .any, .any, .any, .any, .any, .any, .any, .any, .any, .any, .any, .any, .any, .any, .any, .any, .any, .any, .any, .any, .any, .any, .any, .any, .any, .any, .any, .any, .any, .any, .any, .any, .any, .any, .any, .any] [] 0 [], [decide ((↑k : Int) < (↑(SMsg.nnews m) : Int)) = true, (0 : Int) ≤ (↑k : Int) ∧ (↑k : Int) < (↑(SMsg.nnews m) : Int), T Try.prog 48 [.int .i64 (sumN (SMsg.news m) k), .int .i64 (↑(ByteArray.size (SEnv.body (SMsg.news m (Int.toNat (↑k : Int))))) : Int), .int .i64 6000] [] (.int .i64 (sumN (SMsg.news m) (k + 1))) [], decide ((6000 : Int) < sumN (SMsg.news m) (k + (1 : Nat))) = true, q false]) : Option (Exit × St × List Prop)) := by kernel_rfl
theorem pcLg2_p10 (m : SMsg) (k : Nat) :
  alongPc Try.prog (pcLg2 m k) [true, false] = (some (.normal, St.mk [.any, .ptr (.o 0) 0 0 0 0, .any, .int .i64 (sumN (SMsg.news m) (k + 1)), .any, .any, .any, .any, .any, .any, .any, .any, .any, .any, .any, .any, .any, .any, .any, .any, .any, .any, .any, .any, .any, .any, .any, .any, .any, .any, .any, .any, .any, .any, .any, .any, .any, .any, .any, .any, .any, .any, .any, .any, .any, .any, .any, .any, .any, .any, .any, .any, .any, .any, .any, .any, .any, .any, .any, .any, .any, .any, .any, .any, .any, .any, .any, .ros 18 (SMsg.nnews m) (fun i => SEnv.c (SMsg.news m i)) false, .int .i64 (↑(SMsg.nnews m) : Int), .int .i64 (↑(k + 1) : Int), .any, .any, .any, .any, .any, .any, .any, .any, .any, .any, .any] [(.o 0, .flat (SMsg.c m))] 1 [], [decide ((↑k : Int) < (↑(SMsg.nnews m) : Int)) = true, (0 : Int) ≤ (↑k : Int) ∧ (↑k : Int) < (↑(SMsg.nnews m) : Int), T Try.prog 48 [.int .i64 (sumN (SMsg.news m) k), .int .i64 (↑(ByteArray.size (SEnv.body (SMsg.news m (Int.toNat (↑k : Int))))) : Int), .int .i64 6000] [] (.int .i64 (sumN (SMsg.news m) (k + 1))) [], decide ((6000 : Int) < sumN (SMsg.news m) (k + (1 : Nat))) = false, InR IntKind.i64 ((↑k : Int) + (1 : Int)), q (SMsg.kind m), q (SMsg.epoch m), q (SMsg.leader m), q (SMsg.view m), q (SMsg.slot m), q (SBatch.noop (SMsg.batch m)), q (SBatch.n (SMsg.batch m)), ∀ (k : Nat), k < SBatch.n (SMsg.batch m) → SReq.c (SBatch.req (SMsg.batch m) k) = SReq.c (SBatch.req (SMsg.batch m) k), false = true → false = true, q (SVote.kind (SMsg.vote m)), q (SVote.epoch (SMsg.vote m)), q (SVote.view (SMsg.vote m)), q (SVote.slot (SMsg.vote m)), q (32 : Nat), q (SVote.digest (SMsg.vote m)), q (SMsg.cepoch m), q (SMsg.cleader m), q (SMsg.cview m), q (SMsg.nheld m), ∀ (k : Nat), k < SMsg.nheld m → SHeld.c (SMsg.held m k) = SHeld.c (SMsg.held m k), false = true → false = true, q (SMsg.nnews m), ∀ (k : Nat), k < SMsg.nnews m → SEnv.c (SMsg.news m k) = SEnv.c (SMsg.news m k), false = true → false = true, q (32 : Nat), q (SMsg.digest m), q (SVote.kind (SCert.vote (SMsg.cert m))), q (SVote.epoch (SCert.vote (SMsg.cert m))), q (SVote.view (SCert.vote (SMsg.cert m))), q (SVote.slot (SCert.vote (SMsg.cert m))), q (32 : Nat), q (SVote.digest (SCert.vote (SMsg.cert m))), q (SCert.n (SMsg.cert m)), ∀ (k : Nat), k < SCert.n (SMsg.cert m) → SSign.c (SCert.sig (SMsg.cert m) k) = SSign.c (SCert.sig (SMsg.cert m) k), false = true → false = true, q (SMsg.state m), q (SMsg.n m), ∀ (k : Nat), k < SMsg.n m → SSign.c (SMsg.sig m k) = SSign.c (SMsg.sig m k), false = true → false = true, q0, q0, q0, q (sumN (SMsg.news m) (k + (1 : Nat))), q (SMsg.nnews m), ∀ (k : Nat), k < SMsg.nnews m → SEnv.c (SMsg.news m k) = SEnv.c (SMsg.news m k), false = true → false = true, q (↑(SMsg.nnews m) : Int), (↑k : Int) + (1 : Int) = (↑(k + (1 : Nat)) : Int)]) : Option (Exit × St × List Prop)) := by kernel_rfl
theorem pcLg2_p0 (m : SMsg) (k : Nat) :
  alongPc Try.prog (pcLg2 m k) [false] = (some (.exit 2, St.mk [.any, .ptr (.o 0) 0 0 0 0, .any, .int .i64 (sumN (SMsg.news m) (SMsg.nnews m)), .any, .any, .any, .any, .any, .any, .any, .any, .any, .any, .any, .any, .any, .any, .any, .any, .any, .any, .any, .any, .any, .any, .any, .any, .any, .any, .any, .any, .any, .any, .any, .any, .any, .any, .any, .any, .any, .any, .any, .any, .any, .any, .any, .any, .any, .any, .any, .any, .any, .any, .any, .any, .any, .any, .any, .any, .any, .any, .any, .any, .any, .any, .any, .ros 18 (SMsg.nnews m) (fun i => SEnv.c (SMsg.news m i)) false, .int .i64 (↑(SMsg.nnews m) : Int), .int .i64 (↑(SMsg.nnews m) : Int), .any, .any, .any, .any, .any, .any, .any, .any, .any, .any, .any] [(.o 0, .flat (SMsg.c m))] 1 [], [decide ((↑k : Int) < (↑(SMsg.nnews m) : Int)) = false, q (SMsg.kind m), q (SMsg.epoch m), q (SMsg.leader m), q (SMsg.view m), q (SMsg.slot m), q (SBatch.noop (SMsg.batch m)), q (SBatch.n (SMsg.batch m)), ∀ (k : Nat), k < SBatch.n (SMsg.batch m) → SReq.c (SBatch.req (SMsg.batch m) k) = SReq.c (SBatch.req (SMsg.batch m) k), false = true → false = true, q (SVote.kind (SMsg.vote m)), q (SVote.epoch (SMsg.vote m)), q (SVote.view (SMsg.vote m)), q (SVote.slot (SMsg.vote m)), q (32 : Nat), q (SVote.digest (SMsg.vote m)), q (SMsg.cepoch m), q (SMsg.cleader m), q (SMsg.cview m), q (SMsg.nheld m), ∀ (k : Nat), k < SMsg.nheld m → SHeld.c (SMsg.held m k) = SHeld.c (SMsg.held m k), false = true → false = true, q (SMsg.nnews m), ∀ (k : Nat), k < SMsg.nnews m → SEnv.c (SMsg.news m k) = SEnv.c (SMsg.news m k), false = true → false = true, q (32 : Nat), q (SMsg.digest m), q (SVote.kind (SCert.vote (SMsg.cert m))), q (SVote.epoch (SCert.vote (SMsg.cert m))), q (SVote.view (SCert.vote (SMsg.cert m))), q (SVote.slot (SCert.vote (SMsg.cert m))), q (32 : Nat), q (SVote.digest (SCert.vote (SMsg.cert m))), q (SCert.n (SMsg.cert m)), ∀ (k : Nat), k < SCert.n (SMsg.cert m) → SSign.c (SCert.sig (SMsg.cert m) k) = SSign.c (SCert.sig (SMsg.cert m) k), false = true → false = true, q (SMsg.state m), q (SMsg.n m), ∀ (k : Nat), k < SMsg.n m → SSign.c (SMsg.sig m k) = SSign.c (SMsg.sig m k), false = true → false = true, q0, q0, q0, sumN (SMsg.news m) k = sumN (SMsg.news m) (SMsg.nnews m), q (SMsg.nnews m), ∀ (k : Nat), k < SMsg.nnews m → SEnv.c (SMsg.news m k) = SEnv.c (SMsg.news m k), false = true → false = true, q (↑(SMsg.nnews m) : Int), (↑k : Int) = (↑(SMsg.nnews m) : Int)]) : Option (Exit × St × List Prop)) := by kernel_rfl

theorem T_addG {n more most : Int} (h1 : 0 ≤ n) (h2 : 0 ≤ more) (h3 : more ≤ 9223372036854775807) (h4 : 0 ≤ most) (h5 : most ≤ 1000000000000) : T Try.prog 48 [.int .i64 n, .int .i64 more, .int .i64 most] [] (.int .i64 (addS n more most)) [] := by
 by_cases a : most < n
 ·exact T.val (T_along NG MO _ (bdAdd_p111 n more most) Try.func48 (by kernel_rfl) (by simp [All, InR64, a] <;> omega) (pinH_ok (by kernel_rfl)) (by kernel_rfl)) (by simp [addS, a])
 by_cases b : most < more
 ·exact T.val (T_along NG MO _ (bdAdd_p011 n more most) Try.func48 (by kernel_rfl) (by simp [All, InR64, a, b] <;> omega) (pinH_ok (by kernel_rfl)) (by kernel_rfl)) (by simp [addS, b])
 by_cases c : most - more < n
 ·exact T.val (T_along NG MO _ (bdAdd_p001 n more most) Try.func48 (by kernel_rfl) (by simp [All, InR64, a, b, c] <;> omega) (pinH_ok (by kernel_rfl)) (by kernel_rfl)) (by simp [addS, c])
 ·exact T.val (T_along NG MO _ (bdAdd_p000 n more most) Try.func48 (by kernel_rfl) (by simp [All, InR64, a, b, c] <;> omega) (pinH_ok (by kernel_rfl)) (by kernel_rfl)) (by simp [addS, a, b, c])
theorem addS_nonneg {n more most : Int} (h1 : 0 ≤ n) (h2 : 0 ≤ more) (h3 : 0 ≤ most) : 0 ≤ addS n more most := by
 unfold addS; split <;> omega
theorem sumN_nonneg (e : Nat → SEnv) : ∀ k, 0 ≤ sumN e k
 | 0 => by simp [sumN]
 | k + 1 => addS_nonneg (sumN_nonneg e k) (by omega) (by omega)
/-- What a machine can have. -/
structure FitB (b : SBatch) : Prop where
 n : b.n ≤ 9223372036854775807
 data : ∀ k, k < b.n → (b.req k).data.size ≤ 9223372036854775807
structure FitMsg (m : SMsg) : Prop where
 batch : FitB m.batch
 held : ∀ k, k < m.nheld → FitB (m.held k).batch
 news : ∀ k, k < m.nnews → (m.news k).body.size ≤ 9223372036854775807
 nheld : m.nheld ≤ 9223372036854775807
 nnews : m.nnews ≤ 9223372036854775807
theorem okHd1 {h : SHeld} (h1 : okHd h = true) : lightB h.batch = true ∧ h.cert.n ≤ 100 := by simpa [okHd] using h1
def HL1 (m : SMsg) : Prop := ((∀ k, k < m.nheld → okHd (m.held k) = true) ∧ RLoop Try.prog none 0 (cB (cB (cR (cL (cR (cR (cR (bodyOf Try.f19)))))))) (m.nheld + 1) (lg1I m 0) (.exit 0) (lg1I m m.nheld)) ∨ ∃ j, j < m.nheld ∧ (∀ k, k < j → okHd (m.held k) = true) ∧ ¬ okHd (m.held j) = true ∧ RLoop Try.prog none 0 (cB (cB (cR (cL (cR (cR (cR (bodyOf Try.f19)))))))) (j + 1) (lg1I m 0) .ret (smF 2 81)
def HL2 (m : SMsg) : Prop := ((∀ k, k < m.nnews → sumN m.news (k + 1) ≤ 6000) ∧ RLoop Try.prog none 0 (cB (cB (cR (cL (cR (cR (cR (cR (bodyOf Try.f19))))))))) (m.nnews + 1) (lg2I m 0) (.exit 2) (lg2I m m.nnews)) ∨ ∃ j, j < m.nnews ∧ (∀ k, k < j → sumN m.news (k + 1) ≤ 6000) ∧ ¬ sumN m.news (j + 1) ≤ 6000 ∧ RLoop Try.prog none 0 (cB (cB (cR (cL (cR (cR (cR (cR (bodyOf Try.f19))))))))) (j + 1) (lg2I m 0) .ret (smF 2 81)
theorem T_lightM1 (m : SMsg) (hf : FitMsg m) (hL1 : HL1 m) (hL2 : HL2 m) : T Try.prog 19 [.agg m.c] [] (.bool (lightMS m)) [] := by
 rcases Bool.eq_false_or_eq_true ((!lightB (SMsg.batch m))) with h1 | h1
 ·
  refine T.conv (T_along NG MO _ (bdLg_p111111 m 0) Try.func19 (by kernel_rfl) ?_ (pinH_ok (by kernel_rfl)) (by kernel_rfl)) rfl rfl ?_ ?_
  ·simp only [All]; and_intros
   all_goals first
    | assumption
    | exact T_light m.batch hf.batch.data hf.batch.n _
    | exact gL
    | exact gL2
    | trivial
    | rfl
    | (intro _ _; trivial)
    | (intro _ _; rfl)
    | (simp; done)
    | omega
  ·(try simp only [Bool.not_eq_true', Bool.not_eq_false', decide_eq_true_eq, decide_eq_false_iff_not, Int.not_lt] at *); (congr 1; first
    | (have : ¬ ∀ i, i < m.nheld → okHd (m.held i) = true := fun h => gq (h j hj)
       simp only [lightMS, this, decide_false, Bool.false_and, Bool.and_false]; done)
    | (have : ¬ ∀ i, i < m.nnews → sumN m.news (i + 1) ≤ 6000 := fun h => gq2 (h j hj)
       simp only [lightMS, this, decide_false, Bool.false_and, Bool.and_false]; done)
    | (simp only [lightMS, h1, Bool.false_and]; done)
    | (have a2 : m.state.size ≤ 6000 := by omega
       have a3 : m.n ≤ 100 := by omega
       have a4 : m.cert.n ≤ 100 := by omega
       have a5 : m.nheld ≤ 20 := by omega
       have a6 : m.nnews ≤ 100 := by omega
       have b1 : decide (∀ i, i < m.nheld → okHd (m.held i) = true) = true := decide_eq_true g
       have b2 : decide (∀ i, i < m.nnews → sumN m.news (i + 1) ≤ 6000) = true := decide_eq_true g2
       simp only [lightMS, h1, a2, a3, a4, a5, a6, b1, b2, decide_true, Bool.and_self]; done)
    | (rw [eq_comm, Bool.eq_false_iff]; intro hh; simp only [lightMS, Bool.and_eq_true, decide_eq_true_eq] at hh; omega))
  ·rfl
 ·
  rcases Bool.eq_false_or_eq_true (decide ((6000 : Int) < (↑(ByteArray.size (SMsg.state m)) : Int))) with h2 | h2
  ·
   refine T.conv (T_along NG MO _ (bdLg_p011111 m 0) Try.func19 (by kernel_rfl) ?_ (pinH_ok (by kernel_rfl)) (by kernel_rfl)) rfl rfl ?_ ?_
   ·simp only [All]; and_intros
    all_goals first
     | assumption
     | exact T_light m.batch hf.batch.data hf.batch.n _
     | exact gL
     | exact gL2
     | trivial
     | rfl
     | (intro _ _; trivial)
     | (intro _ _; rfl)
     | (simp; done)
     | omega
   ·(try simp only [Bool.not_eq_true', Bool.not_eq_false', decide_eq_true_eq, decide_eq_false_iff_not, Int.not_lt] at *); (congr 1; first
     | (have : ¬ ∀ i, i < m.nheld → okHd (m.held i) = true := fun h => gq (h j hj)
        simp only [lightMS, this, decide_false, Bool.false_and, Bool.and_false]; done)
     | (have : ¬ ∀ i, i < m.nnews → sumN m.news (i + 1) ≤ 6000 := fun h => gq2 (h j hj)
        simp only [lightMS, this, decide_false, Bool.false_and, Bool.and_false]; done)
     | (simp only [lightMS, h1, Bool.false_and]; done)
     | (have a2 : m.state.size ≤ 6000 := by omega
        have a3 : m.n ≤ 100 := by omega
        have a4 : m.cert.n ≤ 100 := by omega
        have a5 : m.nheld ≤ 20 := by omega
        have a6 : m.nnews ≤ 100 := by omega
        have b1 : decide (∀ i, i < m.nheld → okHd (m.held i) = true) = true := decide_eq_true g
        have b2 : decide (∀ i, i < m.nnews → sumN m.news (i + 1) ≤ 6000) = true := decide_eq_true g2
        simp only [lightMS, h1, a2, a3, a4, a5, a6, b1, b2, decide_true, Bool.and_self]; done)
     | (rw [eq_comm, Bool.eq_false_iff]; intro hh; simp only [lightMS, Bool.and_eq_true, decide_eq_true_eq] at hh; omega))
   ·rfl
  ·
   rcases Bool.eq_false_or_eq_true (decide ((100 : Int) < (↑(SMsg.n m) : Int))) with h3 | h3
   ·
    refine T.conv (T_along NG MO _ (bdLg_p001111 m 0) Try.func19 (by kernel_rfl) ?_ (pinH_ok (by kernel_rfl)) (by kernel_rfl)) rfl rfl ?_ ?_
    ·simp only [All]; and_intros
     all_goals first
      | assumption
      | exact T_light m.batch hf.batch.data hf.batch.n _
      | exact gL
      | exact gL2
      | trivial
      | rfl
      | (intro _ _; trivial)
      | (intro _ _; rfl)
      | (simp; done)
      | omega
    ·(try simp only [Bool.not_eq_true', Bool.not_eq_false', decide_eq_true_eq, decide_eq_false_iff_not, Int.not_lt] at *); (congr 1; first
      | (have : ¬ ∀ i, i < m.nheld → okHd (m.held i) = true := fun h => gq (h j hj)
         simp only [lightMS, this, decide_false, Bool.false_and, Bool.and_false]; done)
      | (have : ¬ ∀ i, i < m.nnews → sumN m.news (i + 1) ≤ 6000 := fun h => gq2 (h j hj)
         simp only [lightMS, this, decide_false, Bool.false_and, Bool.and_false]; done)
      | (simp only [lightMS, h1, Bool.false_and]; done)
      | (have a2 : m.state.size ≤ 6000 := by omega
         have a3 : m.n ≤ 100 := by omega
         have a4 : m.cert.n ≤ 100 := by omega
         have a5 : m.nheld ≤ 20 := by omega
         have a6 : m.nnews ≤ 100 := by omega
         have b1 : decide (∀ i, i < m.nheld → okHd (m.held i) = true) = true := decide_eq_true g
         have b2 : decide (∀ i, i < m.nnews → sumN m.news (i + 1) ≤ 6000) = true := decide_eq_true g2
         simp only [lightMS, h1, a2, a3, a4, a5, a6, b1, b2, decide_true, Bool.and_self]; done)
      | (rw [eq_comm, Bool.eq_false_iff]; intro hh; simp only [lightMS, Bool.and_eq_true, decide_eq_true_eq] at hh; omega))
    ·rfl
   ·
    rcases Bool.eq_false_or_eq_true (decide ((100 : Int) < (↑(SCert.n (SMsg.cert m)) : Int))) with h4 | h4
    ·
     refine T.conv (T_along NG MO _ (bdLg_p000111 m 0) Try.func19 (by kernel_rfl) ?_ (pinH_ok (by kernel_rfl)) (by kernel_rfl)) rfl rfl ?_ ?_
     ·simp only [All]; and_intros
      all_goals first
       | assumption
       | exact T_light m.batch hf.batch.data hf.batch.n _
       | exact gL
       | exact gL2
       | trivial
       | rfl
       | (intro _ _; trivial)
       | (intro _ _; rfl)
       | (simp; done)
       | omega
     ·(try simp only [Bool.not_eq_true', Bool.not_eq_false', decide_eq_true_eq, decide_eq_false_iff_not, Int.not_lt] at *); (congr 1; first
       | (have : ¬ ∀ i, i < m.nheld → okHd (m.held i) = true := fun h => gq (h j hj)
          simp only [lightMS, this, decide_false, Bool.false_and, Bool.and_false]; done)
       | (have : ¬ ∀ i, i < m.nnews → sumN m.news (i + 1) ≤ 6000 := fun h => gq2 (h j hj)
          simp only [lightMS, this, decide_false, Bool.false_and, Bool.and_false]; done)
       | (simp only [lightMS, h1, Bool.false_and]; done)
       | (have a2 : m.state.size ≤ 6000 := by omega
          have a3 : m.n ≤ 100 := by omega
          have a4 : m.cert.n ≤ 100 := by omega
          have a5 : m.nheld ≤ 20 := by omega
          have a6 : m.nnews ≤ 100 := by omega
          have b1 : decide (∀ i, i < m.nheld → okHd (m.held i) = true) = true := decide_eq_true g
          have b2 : decide (∀ i, i < m.nnews → sumN m.news (i + 1) ≤ 6000) = true := decide_eq_true g2
          simp only [lightMS, h1, a2, a3, a4, a5, a6, b1, b2, decide_true, Bool.and_self]; done)
       | (rw [eq_comm, Bool.eq_false_iff]; intro hh; simp only [lightMS, Bool.and_eq_true, decide_eq_true_eq] at hh; omega))
     ·rfl
    ·
     rcases Bool.eq_false_or_eq_true (decide ((20 : Int) < (↑(SMsg.nheld m) : Int))) with h5 | h5
     ·
      refine T.conv (T_along NG MO _ (bdLg_p000011 m 0) Try.func19 (by kernel_rfl) ?_ (pinH_ok (by kernel_rfl)) (by kernel_rfl)) rfl rfl ?_ ?_
      ·simp only [All]; and_intros
       all_goals first
        | assumption
        | exact T_light m.batch hf.batch.data hf.batch.n _
        | exact gL
        | exact gL2
        | trivial
        | rfl
        | (intro _ _; trivial)
        | (intro _ _; rfl)
        | (simp; done)
        | omega
      ·(try simp only [Bool.not_eq_true', Bool.not_eq_false', decide_eq_true_eq, decide_eq_false_iff_not, Int.not_lt] at *); (congr 1; first
        | (have : ¬ ∀ i, i < m.nheld → okHd (m.held i) = true := fun h => gq (h j hj)
           simp only [lightMS, this, decide_false, Bool.false_and, Bool.and_false]; done)
        | (have : ¬ ∀ i, i < m.nnews → sumN m.news (i + 1) ≤ 6000 := fun h => gq2 (h j hj)
           simp only [lightMS, this, decide_false, Bool.false_and, Bool.and_false]; done)
        | (simp only [lightMS, h1, Bool.false_and]; done)
        | (have a2 : m.state.size ≤ 6000 := by omega
           have a3 : m.n ≤ 100 := by omega
           have a4 : m.cert.n ≤ 100 := by omega
           have a5 : m.nheld ≤ 20 := by omega
           have a6 : m.nnews ≤ 100 := by omega
           have b1 : decide (∀ i, i < m.nheld → okHd (m.held i) = true) = true := decide_eq_true g
           have b2 : decide (∀ i, i < m.nnews → sumN m.news (i + 1) ≤ 6000) = true := decide_eq_true g2
           simp only [lightMS, h1, a2, a3, a4, a5, a6, b1, b2, decide_true, Bool.and_self]; done)
        | (rw [eq_comm, Bool.eq_false_iff]; intro hh; simp only [lightMS, Bool.and_eq_true, decide_eq_true_eq] at hh; omega))
      ·rfl
     ·
      rcases Bool.eq_false_or_eq_true (decide ((100 : Int) < (↑(SMsg.nnews m) : Int))) with h6 | h6
      ·
       refine T.conv (T_along NG MO _ (bdLg_p000001 m 0) Try.func19 (by kernel_rfl) ?_ (pinH_ok (by kernel_rfl)) (by kernel_rfl)) rfl rfl ?_ ?_
       ·simp only [All]; and_intros
        all_goals first
         | assumption
         | exact T_light m.batch hf.batch.data hf.batch.n _
         | exact gL
         | exact gL2
         | trivial
         | rfl
         | (intro _ _; trivial)
         | (intro _ _; rfl)
         | (simp; done)
         | omega
       ·(try simp only [Bool.not_eq_true', Bool.not_eq_false', decide_eq_true_eq, decide_eq_false_iff_not, Int.not_lt] at *); (congr 1; first
         | (have : ¬ ∀ i, i < m.nheld → okHd (m.held i) = true := fun h => gq (h j hj)
            simp only [lightMS, this, decide_false, Bool.false_and, Bool.and_false]; done)
         | (have : ¬ ∀ i, i < m.nnews → sumN m.news (i + 1) ≤ 6000 := fun h => gq2 (h j hj)
            simp only [lightMS, this, decide_false, Bool.false_and, Bool.and_false]; done)
         | (simp only [lightMS, h1, Bool.false_and]; done)
         | (have a2 : m.state.size ≤ 6000 := by omega
            have a3 : m.n ≤ 100 := by omega
            have a4 : m.cert.n ≤ 100 := by omega
            have a5 : m.nheld ≤ 20 := by omega
            have a6 : m.nnews ≤ 100 := by omega
            have b1 : decide (∀ i, i < m.nheld → okHd (m.held i) = true) = true := decide_eq_true g
            have b2 : decide (∀ i, i < m.nnews → sumN m.news (i + 1) ≤ 6000) = true := decide_eq_true g2
            simp only [lightMS, h1, a2, a3, a4, a5, a6, b1, b2, decide_true, Bool.and_self]; done)
         | (rw [eq_comm, Bool.eq_false_iff]; intro hh; simp only [lightMS, Bool.and_eq_true, decide_eq_true_eq] at hh; omega))
       ·rfl
      ·
       rcases hL1 with ⟨g, gL⟩ | ⟨j, hj, _, gq, gL⟩
       ·
        rcases hL2 with ⟨g2, gL2⟩ | ⟨j, hj, _, gq2, gL2⟩
        ·
         refine T.conv (T_along NG MO _ (bdLg_p00000011 m 0) Try.func19 (by kernel_rfl) ?_ (pinH_ok (by kernel_rfl)) (by kernel_rfl)) rfl rfl ?_ ?_
         ·simp only [All]; and_intros
          all_goals first
           | assumption
           | exact T_light m.batch hf.batch.data hf.batch.n _
           | exact gL
           | exact gL2
           | trivial
           | rfl
           | (intro _ _; trivial)
           | (intro _ _; rfl)
           | (simp; done)
           | omega
         ·(try simp only [Bool.not_eq_true', Bool.not_eq_false', decide_eq_true_eq, decide_eq_false_iff_not, Int.not_lt] at *); (congr 1; first
           | (have : ¬ ∀ i, i < m.nheld → okHd (m.held i) = true := fun h => gq (h j hj)
              simp only [lightMS, this, decide_false, Bool.false_and, Bool.and_false]; done)
           | (have : ¬ ∀ i, i < m.nnews → sumN m.news (i + 1) ≤ 6000 := fun h => gq2 (h j hj)
              simp only [lightMS, this, decide_false, Bool.false_and, Bool.and_false]; done)
           | (simp only [lightMS, h1, Bool.false_and]; done)
           | (have a2 : m.state.size ≤ 6000 := by omega
              have a3 : m.n ≤ 100 := by omega
              have a4 : m.cert.n ≤ 100 := by omega
              have a5 : m.nheld ≤ 20 := by omega
              have a6 : m.nnews ≤ 100 := by omega
              have b1 : decide (∀ i, i < m.nheld → okHd (m.held i) = true) = true := decide_eq_true g
              have b2 : decide (∀ i, i < m.nnews → sumN m.news (i + 1) ≤ 6000) = true := decide_eq_true g2
              simp only [lightMS, h1, a2, a3, a4, a5, a6, b1, b2, decide_true, Bool.and_self]; done)
           | (rw [eq_comm, Bool.eq_false_iff]; intro hh; simp only [lightMS, Bool.and_eq_true, decide_eq_true_eq] at hh; omega))
         ·rfl
        ·
         refine T.conv (T_along NG MO _ (bdLg_p00000010 m j) Try.func19 (by kernel_rfl) ?_ (pinH_ok (by kernel_rfl)) (by kernel_rfl)) rfl rfl ?_ ?_
         ·simp only [All]; and_intros
          all_goals first
           | assumption
           | exact T_light m.batch hf.batch.data hf.batch.n _
           | exact gL
           | exact gL2
           | trivial
           | rfl
           | (intro _ _; trivial)
           | (intro _ _; rfl)
           | (simp; done)
           | omega
         ·(try simp only [Bool.not_eq_true', Bool.not_eq_false', decide_eq_true_eq, decide_eq_false_iff_not, Int.not_lt] at *); (congr 1; first
           | (have : ¬ ∀ i, i < m.nheld → okHd (m.held i) = true := fun h => gq (h j hj)
              simp only [lightMS, this, decide_false, Bool.false_and, Bool.and_false]; done)
           | (have : ¬ ∀ i, i < m.nnews → sumN m.news (i + 1) ≤ 6000 := fun h => gq2 (h j hj)
              simp only [lightMS, this, decide_false, Bool.false_and, Bool.and_false]; done)
           | (simp only [lightMS, h1, Bool.false_and]; done)
           | (have a2 : m.state.size ≤ 6000 := by omega
              have a3 : m.n ≤ 100 := by omega
              have a4 : m.cert.n ≤ 100 := by omega
              have a5 : m.nheld ≤ 20 := by omega
              have a6 : m.nnews ≤ 100 := by omega
              have b1 : decide (∀ i, i < m.nheld → okHd (m.held i) = true) = true := decide_eq_true g
              have b2 : decide (∀ i, i < m.nnews → sumN m.news (i + 1) ≤ 6000) = true := decide_eq_true g2
              simp only [lightMS, h1, a2, a3, a4, a5, a6, b1, b2, decide_true, Bool.and_self]; done)
           | (rw [eq_comm, Bool.eq_false_iff]; intro hh; simp only [lightMS, Bool.and_eq_true, decide_eq_true_eq] at hh; omega))
         ·rfl
       ·
        refine T.conv (T_along NG MO _ (bdLg_p0000000 m j) Try.func19 (by kernel_rfl) ?_ (pinH_ok (by kernel_rfl)) (by kernel_rfl)) rfl rfl ?_ ?_
        ·simp only [All]; and_intros
         all_goals first
          | assumption
          | exact T_light m.batch hf.batch.data hf.batch.n _
          | exact gL
          | exact gL2
          | trivial
          | rfl
          | (intro _ _; trivial)
          | (intro _ _; rfl)
          | (simp; done)
          | omega
        ·(try simp only [Bool.not_eq_true', Bool.not_eq_false', decide_eq_true_eq, decide_eq_false_iff_not, Int.not_lt] at *); (congr 1; first
          | (have : ¬ ∀ i, i < m.nheld → okHd (m.held i) = true := fun h => gq (h j hj)
             simp only [lightMS, this, decide_false, Bool.false_and, Bool.and_false]; done)
          | (have : ¬ ∀ i, i < m.nnews → sumN m.news (i + 1) ≤ 6000 := fun h => gq2 (h j hj)
             simp only [lightMS, this, decide_false, Bool.false_and, Bool.and_false]; done)
          | (simp only [lightMS, h1, Bool.false_and]; done)
          | (have a2 : m.state.size ≤ 6000 := by omega
             have a3 : m.n ≤ 100 := by omega
             have a4 : m.cert.n ≤ 100 := by omega
             have a5 : m.nheld ≤ 20 := by omega
             have a6 : m.nnews ≤ 100 := by omega
             have b1 : decide (∀ i, i < m.nheld → okHd (m.held i) = true) = true := decide_eq_true g
             have b2 : decide (∀ i, i < m.nnews → sumN m.news (i + 1) ≤ 6000) = true := decide_eq_true g2
             simp only [lightMS, h1, a2, a3, a4, a5, a6, b1, b2, decide_true, Bool.and_self]; done)
          | (rw [eq_comm, Bool.eq_false_iff]; intro hh; simp only [lightMS, Bool.and_eq_true, decide_eq_true_eq] at hh; omega))
        ·rfl
theorem T_lightM (m : SMsg) (hf : FitMsg m) : T Try.prog 19 [.agg m.c] [] (.bool (lightMS m)) [] := by
 have hL1 := loop_all (P := Try.prog) (ro := none) (p := 0) (c := cB (cB (cR (cL (cR (cR (cR (bodyOf Try.f19)))))))) (I := lg1I m) (F := fun _ => smF 2 81) (e := fun _ => .ret) (q := fun k => okHd (m.held k) = true) (n := m.nheld)
   (fun k hk hq => by
    have hT := T_light (m.held k).batch (hf.held k hk).data (hf.held k hk).n 449
    obtain ⟨g1, g2⟩ := okHd1 hq
    have hn := hf.nheld
    refine R_alongPc NG MO _ (pcLg1_p100 m k) ?_ (Nat.zero_le _)
    simp only [All, Int.toNat_natCast]; and_intros
    all_goals first
     | exact hT
     | exact neg_t g1
     | (rw [decide_eq_false_iff_not]; omega)
     | (simp [hk, IntKind.min, IntKind.max, IntKind.signed, IntKind.bits] <;> omega))
   (fun k hk hq => by
    have hT := T_light (m.held k).batch (hf.held k hk).data (hf.held k hk).n 449
    by_cases g1 : lightB (m.held k).batch = true
    ·have g2 : ¬ (m.held k).cert.n ≤ 100 := fun g2 => hq (by simp [okHd, g1, g2])
     refine R_alongPc NG MO _ (pcLg1_p101 m k) ?_ (Nat.zero_le _)
     simp only [All, Int.toNat_natCast]; and_intros
     all_goals first
      | exact hT
      | exact neg_t g1
      | (rw [decide_eq_true_eq]; omega)
      | (simp [hk, IntKind.min, IntKind.max, IntKind.signed, IntKind.bits] <;> omega)
    ·refine R_alongPc NG MO _ (pcLg1_p111 m k) ?_ (Nat.zero_le _)
     simp only [All, Int.toNat_natCast]; and_intros
     all_goals first
      | exact hT
      | exact neg_f g1
      | (simp [hk, IntKind.min, IntKind.max, IntKind.signed, IntKind.bits] <;> omega))
   (by simp) (R_alongPc NG MO _ (pcLg1_p0 m m.nheld) (by simp [All]) (Nat.zero_le _)) (by simp)
 have hL2 := loop_all (P := Try.prog) (ro := none) (p := 0) (c := cB (cB (cR (cL (cR (cR (cR (cR (bodyOf Try.f19))))))))) (I := lg2I m) (F := fun _ => smF 2 81) (e := fun _ => .ret) (q := fun k => sumN m.news (k + 1) ≤ 6000) (n := m.nnews)
   (fun k hk hq => by
    have hT := T_addG (n := sumN m.news k) (more := (m.news k).body.size) (most := 6000) (sumN_nonneg _ _) (by omega) (by have := hf.news k hk; omega) (by decide) (by decide)
    have hn := hf.nnews
    refine R_alongPc NG MO _ (pcLg2_p10 m k) ?_ (Nat.zero_le _)
    simp only [All, Int.toNat_natCast]; and_intros
    all_goals first
     | exact hT
     | (rw [decide_eq_false_iff_not]; omega)
     | (simp [hk, IntKind.min, IntKind.max, IntKind.signed, IntKind.bits] <;> omega))
   (fun k hk hq => by
    have hT := T_addG (n := sumN m.news k) (more := (m.news k).body.size) (most := 6000) (sumN_nonneg _ _) (by omega) (by have := hf.news k hk; omega) (by decide) (by decide)
    refine R_alongPc NG MO _ (pcLg2_p11 m k) ?_ (Nat.zero_le _)
    simp only [All, Int.toNat_natCast]; and_intros
    all_goals first
     | exact hT
     | (rw [decide_eq_true_eq]; omega)
     | (simp [hk, IntKind.min, IntKind.max, IntKind.signed, IntKind.bits] <;> omega))
   (by simp) (R_alongPc NG MO _ (pcLg2_p0 m m.nnews) (by simp [All]) (Nat.zero_le _)) (by simp)
 exact T_lightM1 m hf hL1 hL2
end Go.Proofs.Ythifjamdfpjilaa
namespace Go.Proofs.Ythifjamdfpjilaa
open Go Sy Go.Proofs
def livB : ByteArray := baL [1, 6, 1, 2, 1, 9]
def livM : SMsg := { msg0 6 with epoch := 2, slot := 9 }
noncomputable def bdLiv : Bd := { f := Try.f20, args := [], kb := kbT [(128, { val := .tup [.str livB, .int .i64 0] }), (576, { val := .tup [.agg livM.c, .int .i64 0] })] }
end Go.Proofs.Ythifjamdfpjilaa
namespace Go.Proofs.Ythifjamdfpjilaa
open Go Sy Go.Proofs
theorem bdLiv_p :
  along Try.prog (bdLiv) [] = (some (.bool true, [], [T Try.prog 21 [.agg [.int .i64 6, .int .i64 2, .int .i64 0, .int .i64 0, .int .i64 9, .bool false, .snil, .int .i64 0, .int .i64 0, .int .i64 0, .int .i64 0, .seg .u8 32 z32, .int .i64 0, .int .i64 0, .int .i64 0, .snil, .snil, .seg .u8 32 z32, .int .i64 0, .int .i64 0, .int .i64 0, .int .i64 0, .seg .u8 32 z32, .snil, .str ByteArray.empty, .snil]] [] (.tup [.str livB, .int .i64 0]) [], T Try.prog 22 [.str livB] [] (.tup [.agg (SMsg.c (SMsg.mk (6 : Int) (2 : Int) (0 : Int) (0 : Int) (9 : Int) (SBatch.mk false 0 fun x => SReq.mk (0 : Int) (0 : Int) ByteArray.empty []) vote0 (0 : Int) (0 : Int) (0 : Int) 0 (fun x => SHeld.mk (SBatch.mk false 0 fun x => SReq.mk (0 : Int) (0 : Int) ByteArray.empty []) (SCert.mk (SVote.mk (0 : Int) (0 : Int) (0 : Int) (0 : Int) []) 0 fun x => SSign.mk (0 : Int) [])) 0 (fun x => SEnv.mk (0 : Int) ByteArray.empty []) z32 (SCert.mk vote0 0 fun x => SSign.mk (0 : Int) []) ByteArray.empty 0 fun x => SSign.mk (0 : Int) [])), .int .i64 0]) [], q2, q2, q2]) : Option (V × Heap × List Prop)) := by kernel_rfl

theorem livDec : decR (strB livB) = (livM, 0) := by kernel_rfl
theorem T_livesE (hE : T Try.prog 21 [.agg livM.c] [] (.tup [.str livB, .int .i64 0]) []) : T Try.prog 20 [] [] (.bool true) [] := by
 have hD := T_dec livB
 rw [livDec] at hD
 refine T_along NG MO _ bdLiv_p Try.func20 (by kernel_rfl) ?_ (pinH_ok (by kernel_rfl)) (by kernel_rfl)
 refine ⟨T.args hE rfl ?_, hD, rfl, rfl, rfl, trivial⟩
 simp [All, livM, msg0, vote0]
end Go.Proofs.Ythifjamdfpjilaa
namespace Go.Proofs.Ythifjamdfpjilaa
open Go Sy Go.Proofs
noncomputable def bdRn (n n' : Nat) (a b : Nat → SEnv) (m : Nat) : Bd := bdS5 Try.f68 26 (fun _ _ _ _ => []) (nw n a) (nw n' b) n m
noncomputable def pcRn (n n' : Nat) (a b : Nat → SEnv) (k : Nat) : Pc := pcS5 Try.f68 26 (fun _ _ _ _ => []) (nw n a) (nw n' b) n k
noncomputable def bdRh (n n' : Nat) (a b : Nat → SHeld) (m : Nat) : Bd := bdS5 Try.f66 43 (fun _ _ _ _ => []) (hl n a) (hl n' b) n m
noncomputable def pcRh (n n' : Nat) (a b : Nat → SHeld) (k : Nat) : Pc := pcS5 Try.f66 43 (dbV [(67, .bool (sameBatchS (a k).batch (b k).batch)), (69, .bool (sameCertS (a k).cert (b k).cert))]) (hl n a) (hl n' b) n k
noncomputable def bdRm (a b : SMsg) : Bd := { f := Try.f23, args := [.agg a.c, .agg b.c], kb := { db := dbV [(66, .bool (sameL a.nheld b.nheld (fun i => sameHeldS (a.held i) (b.held i)))), (67, .bool (sameBatchS a.batch b.batch)), (68, .bool (sameL a.nnews b.nnews (fun i => envEq (a.news i) (b.news i)))), (69, .bool (sameCertS a.cert b.cert)), (70, .bool (sameL a.n b.n (fun i => signEq (a.sig i) (b.sig i))))] } }
end Go.Proofs.Ythifjamdfpjilaa
namespace Go.Proofs.Ythifjamdfpjilaa
open Go Sy Go.Proofs
theorem bdRn_p1 (n : Nat) (n' : Nat) (a : Nat → SEnv) (b : Nat → SEnv) (m : Nat) :
  along Try.prog (bdRn n n' a b m) [true] = (some (.bool false, [], [(!decide ((↑n : Int) = (↑n' : Int))) = true]) : Option (V × Heap × List Prop)) := by kernel_rfl
theorem bdRn_p01 (n : Nat) (n' : Nat) (a : Nat → SEnv) (b : Nat → SEnv) (m : Nat) :
  along Try.prog (bdRn n n' a b m) [false, true] = (some (.bool true, [], [(!decide ((↑n : Int) = (↑n' : Int))) = false, RLoop Try.prog none 0 (cB (cB (cR (cL (cR (cR (bodyOf (Bd.f (bdRn n n' a b m))))))))) (n + 1) (St.mk [.ros 18 n (fun i => SEnv.c (a i)) false, .ros 18 n' (fun i => SEnv.c (b i)) false, .any, .any, .any, .int .i64 0, .any, .any, .any, .any, .any, .any, .any, .any, .any, .any, .any, .any, .any, .any, .any, .any, .any, .any, .any, .any] [] 0 []) (.exit 0) (St.mk [.ros 18 n (fun i => SEnv.c (a i)) false, .ros 18 n' (fun i => SEnv.c (b i)) false, .any, .any, .any, .int .i64 ↑n, .any, .any, .any, .any, .any, .any, .any, .any, .any, .any, .any, .any, .any, .any, .any, .any, .any, .any, .any, .any] [] 0 []), q n, ∀ (k : Nat), k < n → SEnv.c (a k) = SEnv.c (a k), false = true → false = true, q (n'), ∀ (k : Nat), k < n' → SEnv.c (b k) = SEnv.c (b k), false = true → false = true, q1]) : Option (V × Heap × List Prop)) := by kernel_rfl
theorem bdRn_p00 (n : Nat) (n' : Nat) (a : Nat → SEnv) (b : Nat → SEnv) (m : Nat) :
  along Try.prog (bdRn n n' a b m) [false, false] = (some (.bool false, [], [(!decide ((↑n : Int) = (↑n' : Int))) = false, RLoop Try.prog none 0 (cB (cB (cR (cL (cR (cR (bodyOf (Bd.f (bdRn n n' a b m))))))))) (m + 1) (St.mk [.ros 18 n (fun i => SEnv.c (a i)) false, .ros 18 n' (fun i => SEnv.c (b i)) false, .any, .any, .any, .int .i64 0, .any, .any, .any, .any, .any, .any, .any, .any, .any, .any, .any, .any, .any, .any, .any, .any, .any, .any, .any, .any] [] 0 []) .ret (St.mk [.any, .any, .any, .any, .bool false, .any, .any, .any, .any, .any, .any, .any, .any, .any, .any, .any, .any, .any, .any, .any, .any, .any, .any, .any, .any, .any] [] 0 []), q n, ∀ (k : Nat), k < n → SEnv.c (a k) = SEnv.c (a k), false = true → false = true, q (n'), ∀ (k : Nat), k < n' → SEnv.c (b k) = SEnv.c (b k), false = true → false = true, q1]) : Option (V × Heap × List Prop)) := by kernel_rfl

theorem pcRn_p11 (n : Nat) (n' : Nat) (a : Nat → SEnv) (b : Nat → SEnv) (k : Nat) :
  alongPc Try.prog (pcRn n n' a b k) [true, true] = (some (.ret, St.mk [.any, .any, .any, .any, .bool false, .any, .any, .any, .any, .any, .any, .any, .any, .any, .any, .any, .any, .any, .any, .any, .any, .any, .any, .any, .any, .any] [] 0 [], [decide ((↑k : Int) < (↑n : Int)) = true, (0 : Int) ≤ (↑k : Int) ∧ (↑k : Int) < (↑n : Int), (0 : Int) ≤ (↑k : Int) ∧ (↑k : Int) < (↑n' : Int), (!(decide (SEnv.src (a (Int.toNat (↑k : Int))) = SEnv.src (b (Int.toNat (↑k : Int)))) && (decide (SEnv.body (a (Int.toNat (↑k : Int))) = SEnv.body (b (Int.toNat (↑k : Int)))) && (decide (SEnv.tag (a (Int.toNat (↑k : Int))) = SEnv.tag (b (Int.toNat (↑k : Int)))) && true)))) = true, q false]) : Option (Exit × St × List Prop)) := by kernel_rfl
theorem pcRn_p10 (n : Nat) (n' : Nat) (a : Nat → SEnv) (b : Nat → SEnv) (k : Nat) :
  alongPc Try.prog (pcRn n n' a b k) [true, false] = (some (.normal, St.mk [.ros 18 n (fun i => SEnv.c (a i)) false, .ros 18 n' (fun i => SEnv.c (b i)) false, .any, .any, .any, .int .i64 (↑(k + 1) : Int), .any, .any, .any, .any, .any, .any, .any, .any, .any, .any, .any, .any, .any, .any, .any, .any, .any, .any, .any, .any] [] 0 [], [decide ((↑k : Int) < (↑n : Int)) = true, (0 : Int) ≤ (↑k : Int) ∧ (↑k : Int) < (↑n : Int), (0 : Int) ≤ (↑k : Int) ∧ (↑k : Int) < (↑n' : Int), (!(decide (SEnv.src (a (Int.toNat (↑k : Int))) = SEnv.src (b (Int.toNat (↑k : Int)))) && (decide (SEnv.body (a (Int.toNat (↑k : Int))) = SEnv.body (b (Int.toNat (↑k : Int)))) && (decide (SEnv.tag (a (Int.toNat (↑k : Int))) = SEnv.tag (b (Int.toNat (↑k : Int)))) && true)))) = false, InR IntKind.i64 ((↑k : Int) + (1 : Int)), q n, ∀ (k : Nat), k < n → SEnv.c (a k) = SEnv.c (a k), false = true → false = true, q (n'), ∀ (k : Nat), k < n' → SEnv.c (b k) = SEnv.c (b k), false = true → false = true, (↑k : Int) + (1 : Int) = (↑(k + (1 : Nat)) : Int)]) : Option (Exit × St × List Prop)) := by kernel_rfl
theorem pcRn_p0 (n : Nat) (n' : Nat) (a : Nat → SEnv) (b : Nat → SEnv) (k : Nat) :
  alongPc Try.prog (pcRn n n' a b k) [false] = (some (.exit 0, St.mk [.ros 18 n (fun i => SEnv.c (a i)) false, .ros 18 n' (fun i => SEnv.c (b i)) false, .any, .any, .any, .int .i64 ↑n, .any, .any, .any, .any, .any, .any, .any, .any, .any, .any, .any, .any, .any, .any, .any, .any, .any, .any, .any, .any] [] 0 [], [decide ((↑k : Int) < (↑n : Int)) = false, q n, ∀ (k : Nat), k < n → SEnv.c (a k) = SEnv.c (a k), false = true → false = true, q (n'), ∀ (k : Nat), k < n' → SEnv.c (b k) = SEnv.c (b k), false = true → false = true, (↑k : Int) = (↑n : Int)]) : Option (Exit × St × List Prop)) := by kernel_rfl

theorem bdRh_p1 (n : Nat) (n' : Nat) (a : Nat → SHeld) (b : Nat → SHeld) (m : Nat) :
  along Try.prog (bdRh n n' a b m) [true] = (some (.bool false, [], [(!decide ((↑n : Int) = (↑n' : Int))) = true]) : Option (V × Heap × List Prop)) := by kernel_rfl
theorem bdRh_p01 (n : Nat) (n' : Nat) (a : Nat → SHeld) (b : Nat → SHeld) (m : Nat) :
  along Try.prog (bdRh n n' a b m) [false, true] = (some (.bool true, [], [(!decide ((↑n : Int) = (↑n' : Int))) = false, RLoop Try.prog none 0 (cB (cB (cR (cL (cR (cR (bodyOf (Bd.f (bdRh n n' a b m))))))))) (n + 1) (St.mk [.ros 39 n (fun i => SHeld.c (a i)) false, .ros 39 n' (fun i => SHeld.c (b i)) false, .any, .any, .any, .int .i64 0, .any, .any, .any, .any, .any, .any, .any, .any, .any, .any, .any, .any, .any, .any, .any, .any, .any, .any, .any, .any, .any, .any, .any, .any, .any, .any, .any, .any, .any, .any, .any, .any, .any, .any, .any, .any, .any] [] 0 []) (.exit 0) (St.mk [.ros 39 n (fun i => SHeld.c (a i)) false, .ros 39 n' (fun i => SHeld.c (b i)) false, .any, .any, .any, .int .i64 ↑n, .any, .any, .any, .any, .any, .any, .any, .any, .any, .any, .any, .any, .any, .any, .any, .any, .any, .any, .any, .any, .any, .any, .any, .any, .any, .any, .any, .any, .any, .any, .any, .any, .any, .any, .any, .any, .any] [] 0 []), q n, ∀ (k : Nat), k < n → SHeld.c (a k) = SHeld.c (a k), false = true → false = true, q (n'), ∀ (k : Nat), k < n' → SHeld.c (b k) = SHeld.c (b k), false = true → false = true, q1]) : Option (V × Heap × List Prop)) := by kernel_rfl
theorem bdRh_p00 (n : Nat) (n' : Nat) (a : Nat → SHeld) (b : Nat → SHeld) (m : Nat) :
  along Try.prog (bdRh n n' a b m) [false, false] = (some (.bool false, [], [(!decide ((↑n : Int) = (↑n' : Int))) = false, RLoop Try.prog none 0 (cB (cB (cR (cL (cR (cR (bodyOf (Bd.f (bdRh n n' a b m))))))))) (m + 1) (St.mk [.ros 39 n (fun i => SHeld.c (a i)) false, .ros 39 n' (fun i => SHeld.c (b i)) false, .any, .any, .any, .int .i64 0, .any, .any, .any, .any, .any, .any, .any, .any, .any, .any, .any, .any, .any, .any, .any, .any, .any, .any, .any, .any, .any, .any, .any, .any, .any, .any, .any, .any, .any, .any, .any, .any, .any, .any, .any, .any, .any] [] 0 []) .ret (St.mk [.any, .any, .any, .any, .bool false, .any, .any, .any, .any, .any, .any, .any, .any, .any, .any, .any, .any, .any, .any, .any, .any, .any, .any, .any, .any, .any, .any, .any, .any, .any, .any, .any, .any, .any, .any, .any, .any, .any, .any, .any, .any, .any, .any] [] 0 []), q n, ∀ (k : Nat), k < n → SHeld.c (a k) = SHeld.c (a k), false = true → false = true, q (n'), ∀ (k : Nat), k < n' → SHeld.c (b k) = SHeld.c (b k), false = true → false = true, q1]) : Option (V × Heap × List Prop)) := by kernel_rfl

theorem pcRh_p111 (n : Nat) (n' : Nat) (a : Nat → SHeld) (b : Nat → SHeld) (k : Nat) :
  alongPc Try.prog (pcRh n n' a b k) [true, true, true] = (some (.ret, St.mk [.any, .any, .any, .any, .bool false, .any, .any, .any, .any, .any, .any, .any, .any, .any, .any, .any, .any, .any, .any, .any, .any, .any, .any, .any, .any, .any, .any, .any, .any, .any, .any, .any, .any, .any, .any, .any, .any, .any, .any, .any, .any, .any, .any] [] 0 [], [decide ((↑k : Int) < (↑n : Int)) = true, (0 : Int) ≤ (↑k : Int) ∧ (↑k : Int) < (↑n : Int), (0 : Int) ≤ (↑k : Int) ∧ (↑k : Int) < (↑n' : Int), T Try.prog 67 [.agg [.bool (SBatch.noop (SHeld.batch (a (Int.toNat (↑k : Int))))), rq (SBatch.n (SHeld.batch (a (Int.toNat (↑k : Int))))) (SBatch.req (SHeld.batch (a (Int.toNat (↑k : Int)))))], .agg [.bool (SBatch.noop (SHeld.batch (b (Int.toNat (↑k : Int))))), rq (SBatch.n (SHeld.batch (b (Int.toNat (↑k : Int))))) (SBatch.req (SHeld.batch (b (Int.toNat (↑k : Int)))))]] [] (.bool (sameBatchS (SHeld.batch (a k)) (SHeld.batch (b k)))) [], (!sameBatchS (SHeld.batch (a k)) (SHeld.batch (b k))) = true, q2, q false]) : Option (Exit × St × List Prop)) := by kernel_rfl
theorem pcRh_p101 (n : Nat) (n' : Nat) (a : Nat → SHeld) (b : Nat → SHeld) (k : Nat) :
  alongPc Try.prog (pcRh n n' a b k) [true, false, true] = (some (.ret, St.mk [.any, .any, .any, .any, .bool false, .any, .any, .any, .any, .any, .any, .any, .any, .any, .any, .any, .any, .any, .any, .any, .any, .any, .any, .any, .any, .any, .any, .any, .any, .any, .any, .any, .any, .any, .any, .any, .any, .any, .any, .any, .any, .any, .any] [] 0 [], [decide ((↑k : Int) < (↑n : Int)) = true, (0 : Int) ≤ (↑k : Int) ∧ (↑k : Int) < (↑n : Int), (0 : Int) ≤ (↑k : Int) ∧ (↑k : Int) < (↑n' : Int), T Try.prog 67 [.agg [.bool (SBatch.noop (SHeld.batch (a (Int.toNat (↑k : Int))))), rq (SBatch.n (SHeld.batch (a (Int.toNat (↑k : Int))))) (SBatch.req (SHeld.batch (a (Int.toNat (↑k : Int)))))], .agg [.bool (SBatch.noop (SHeld.batch (b (Int.toNat (↑k : Int))))), rq (SBatch.n (SHeld.batch (b (Int.toNat (↑k : Int))))) (SBatch.req (SHeld.batch (b (Int.toNat (↑k : Int)))))]] [] (.bool (sameBatchS (SHeld.batch (a k)) (SHeld.batch (b k)))) [], (!sameBatchS (SHeld.batch (a k)) (SHeld.batch (b k))) = false, (0 : Int) ≤ (↑k : Int) ∧ (↑k : Int) < (↑n : Int), (0 : Int) ≤ (↑k : Int) ∧ (↑k : Int) < (↑n' : Int), T Try.prog 69 [.agg [.int .i64 (SVote.kind (SCert.vote (SHeld.cert (a (Int.toNat (↑k : Int)))))), .int .i64 (SVote.epoch (SCert.vote (SHeld.cert (a (Int.toNat (↑k : Int)))))), .int .i64 (SVote.view (SCert.vote (SHeld.cert (a (Int.toNat (↑k : Int)))))), .int .i64 (SVote.slot (SCert.vote (SHeld.cert (a (Int.toNat (↑k : Int)))))), .seg .u8 32 (SVote.digest (SCert.vote (SHeld.cert (a (Int.toNat (↑k : Int)))))), sg (SCert.n (SHeld.cert (a (Int.toNat (↑k : Int))))) (SCert.sig (SHeld.cert (a (Int.toNat (↑k : Int)))))], .agg [.int .i64 (SVote.kind (SCert.vote (SHeld.cert (b (Int.toNat (↑k : Int)))))), .int .i64 (SVote.epoch (SCert.vote (SHeld.cert (b (Int.toNat (↑k : Int)))))), .int .i64 (SVote.view (SCert.vote (SHeld.cert (b (Int.toNat (↑k : Int)))))), .int .i64 (SVote.slot (SCert.vote (SHeld.cert (b (Int.toNat (↑k : Int)))))), .seg .u8 32 (SVote.digest (SCert.vote (SHeld.cert (b (Int.toNat (↑k : Int)))))), sg (SCert.n (SHeld.cert (b (Int.toNat (↑k : Int))))) (SCert.sig (SHeld.cert (b (Int.toNat (↑k : Int)))))]] [] (.bool (sameCertS (SHeld.cert (a k)) (SHeld.cert (b k)))) [], (!sameCertS (SHeld.cert (a k)) (SHeld.cert (b k))) = true, q false]) : Option (Exit × St × List Prop)) := by kernel_rfl
theorem pcRh_p100 (n : Nat) (n' : Nat) (a : Nat → SHeld) (b : Nat → SHeld) (k : Nat) :
  alongPc Try.prog (pcRh n n' a b k) [true, false, false] = (some (.normal, St.mk [.ros 39 n (fun i => SHeld.c (a i)) false, .ros 39 n' (fun i => SHeld.c (b i)) false, .any, .any, .any, .int .i64 (↑(k + 1) : Int), .any, .any, .any, .any, .any, .any, .any, .any, .any, .any, .any, .any, .any, .any, .any, .any, .any, .any, .any, .any, .any, .any, .any, .any, .any, .any, .any, .any, .any, .any, .any, .any, .any, .any, .any, .any, .any] [] 0 [], [decide ((↑k : Int) < (↑n : Int)) = true, (0 : Int) ≤ (↑k : Int) ∧ (↑k : Int) < (↑n : Int), (0 : Int) ≤ (↑k : Int) ∧ (↑k : Int) < (↑n' : Int), T Try.prog 67 [.agg [.bool (SBatch.noop (SHeld.batch (a (Int.toNat (↑k : Int))))), rq (SBatch.n (SHeld.batch (a (Int.toNat (↑k : Int))))) (SBatch.req (SHeld.batch (a (Int.toNat (↑k : Int)))))], .agg [.bool (SBatch.noop (SHeld.batch (b (Int.toNat (↑k : Int))))), rq (SBatch.n (SHeld.batch (b (Int.toNat (↑k : Int))))) (SBatch.req (SHeld.batch (b (Int.toNat (↑k : Int)))))]] [] (.bool (sameBatchS (SHeld.batch (a k)) (SHeld.batch (b k)))) [], (!sameBatchS (SHeld.batch (a k)) (SHeld.batch (b k))) = false, (0 : Int) ≤ (↑k : Int) ∧ (↑k : Int) < (↑n : Int), (0 : Int) ≤ (↑k : Int) ∧ (↑k : Int) < (↑n' : Int), T Try.prog 69 [.agg [.int .i64 (SVote.kind (SCert.vote (SHeld.cert (a (Int.toNat (↑k : Int)))))), .int .i64 (SVote.epoch (SCert.vote (SHeld.cert (a (Int.toNat (↑k : Int)))))), .int .i64 (SVote.view (SCert.vote (SHeld.cert (a (Int.toNat (↑k : Int)))))), .int .i64 (SVote.slot (SCert.vote (SHeld.cert (a (Int.toNat (↑k : Int)))))), .seg .u8 32 (SVote.digest (SCert.vote (SHeld.cert (a (Int.toNat (↑k : Int)))))), sg (SCert.n (SHeld.cert (a (Int.toNat (↑k : Int))))) (SCert.sig (SHeld.cert (a (Int.toNat (↑k : Int)))))], .agg [.int .i64 (SVote.kind (SCert.vote (SHeld.cert (b (Int.toNat (↑k : Int)))))), .int .i64 (SVote.epoch (SCert.vote (SHeld.cert (b (Int.toNat (↑k : Int)))))), .int .i64 (SVote.view (SCert.vote (SHeld.cert (b (Int.toNat (↑k : Int)))))), .int .i64 (SVote.slot (SCert.vote (SHeld.cert (b (Int.toNat (↑k : Int)))))), .seg .u8 32 (SVote.digest (SCert.vote (SHeld.cert (b (Int.toNat (↑k : Int)))))), sg (SCert.n (SHeld.cert (b (Int.toNat (↑k : Int))))) (SCert.sig (SHeld.cert (b (Int.toNat (↑k : Int)))))]] [] (.bool (sameCertS (SHeld.cert (a k)) (SHeld.cert (b k)))) [], (!sameCertS (SHeld.cert (a k)) (SHeld.cert (b k))) = false, InR IntKind.i64 ((↑k : Int) + (1 : Int)), q n, ∀ (k : Nat), k < n → SHeld.c (a k) = SHeld.c (a k), false = true → false = true, q (n'), ∀ (k : Nat), k < n' → SHeld.c (b k) = SHeld.c (b k), false = true → false = true, (↑k : Int) + (1 : Int) = (↑(k + (1 : Nat)) : Int)]) : Option (Exit × St × List Prop)) := by kernel_rfl
theorem pcRh_p0 (n : Nat) (n' : Nat) (a : Nat → SHeld) (b : Nat → SHeld) (k : Nat) :
  alongPc Try.prog (pcRh n n' a b k) [false] = (some (.exit 0, St.mk [.ros 39 n (fun i => SHeld.c (a i)) false, .ros 39 n' (fun i => SHeld.c (b i)) false, .any, .any, .any, .int .i64 ↑n, .any, .any, .any, .any, .any, .any, .any, .any, .any, .any, .any, .any, .any, .any, .any, .any, .any, .any, .any, .any, .any, .any, .any, .any, .any, .any, .any, .any, .any, .any, .any, .any, .any, .any, .any, .any, .any] [] 0 [], [decide ((↑k : Int) < (↑n : Int)) = false, q n, ∀ (k : Nat), k < n → SHeld.c (a k) = SHeld.c (a k), false = true → false = true, q (n'), ∀ (k : Nat), k < n' → SHeld.c (b k) = SHeld.c (b k), false = true → false = true, (↑k : Int) = (↑n : Int)]) : Option (Exit × St × List Prop)) := by kernel_rfl

theorem bdRm_p11111111 (a : SMsg) (b : SMsg) :
  along Try.prog (bdRm a b) [true, true, true, true, true, true, true, true] = (some (.bool false, [], [(!decide (SMsg.kind a = SMsg.kind b)) = true, q2, q2, q2, q2, q2, q2, q2]) : Option (V × Heap × List Prop)) := by kernel_rfl
theorem bdRm_p01111111 (a : SMsg) (b : SMsg) :
  along Try.prog (bdRm a b) [false, true, true, true, true, true, true, true] = (some (.bool false, [], [(!decide (SMsg.kind a = SMsg.kind b)) = false, (!decide (SMsg.epoch a = SMsg.epoch b)) = true, q2, q2, q2, q2, q2, q2]) : Option (V × Heap × List Prop)) := by kernel_rfl
theorem bdRm_p00111111 (a : SMsg) (b : SMsg) :
  along Try.prog (bdRm a b) [false, false, true, true, true, true, true, true] = (some (.bool false, [], [(!decide (SMsg.kind a = SMsg.kind b)) = false, (!decide (SMsg.epoch a = SMsg.epoch b)) = false, (!decide (SMsg.leader a = SMsg.leader b)) = true, q2, q2, q2, q2, q2]) : Option (V × Heap × List Prop)) := by kernel_rfl
theorem bdRm_p00011111 (a : SMsg) (b : SMsg) :
  along Try.prog (bdRm a b) [false, false, false, true, true, true, true, true] = (some (.bool false, [], [(!decide (SMsg.kind a = SMsg.kind b)) = false, (!decide (SMsg.epoch a = SMsg.epoch b)) = false, (!decide (SMsg.leader a = SMsg.leader b)) = false, (!decide (SMsg.view a = SMsg.view b)) = true, q2, q2, q2, q2]) : Option (V × Heap × List Prop)) := by kernel_rfl
theorem bdRm_p00001111 (a : SMsg) (b : SMsg) :
  along Try.prog (bdRm a b) [false, false, false, false, true, true, true, true] = (some (.bool false, [], [(!decide (SMsg.kind a = SMsg.kind b)) = false, (!decide (SMsg.epoch a = SMsg.epoch b)) = false, (!decide (SMsg.leader a = SMsg.leader b)) = false, (!decide (SMsg.view a = SMsg.view b)) = false, (!decide (SMsg.slot a = SMsg.slot b)) = true, q2, q2, q2]) : Option (V × Heap × List Prop)) := by kernel_rfl
theorem bdRm_p00000111 (a : SMsg) (b : SMsg) :
  along Try.prog (bdRm a b) [false, false, false, false, false, true, true, true] = (some (.bool false, [], [(!decide (SMsg.kind a = SMsg.kind b)) = false, (!decide (SMsg.epoch a = SMsg.epoch b)) = false, (!decide (SMsg.leader a = SMsg.leader b)) = false, (!decide (SMsg.view a = SMsg.view b)) = false, (!decide (SMsg.slot a = SMsg.slot b)) = false, (!(decide (SVote.kind (SMsg.vote a) = SVote.kind (SMsg.vote b)) && (decide (SVote.epoch (SMsg.vote a) = SVote.epoch (SMsg.vote b)) && (decide (SVote.view (SMsg.vote a) = SVote.view (SMsg.vote b)) && (decide (SVote.slot (SMsg.vote a) = SVote.slot (SMsg.vote b)) && (decide (SVote.digest (SMsg.vote a) = SVote.digest (SMsg.vote b)) && true)))))) = true, q2, q2]) : Option (V × Heap × List Prop)) := by kernel_rfl
theorem bdRm_p00000011 (a : SMsg) (b : SMsg) :
  along Try.prog (bdRm a b) [false, false, false, false, false, false, true, true] = (some (.bool false, [], [(!decide (SMsg.kind a = SMsg.kind b)) = false, (!decide (SMsg.epoch a = SMsg.epoch b)) = false, (!decide (SMsg.leader a = SMsg.leader b)) = false, (!decide (SMsg.view a = SMsg.view b)) = false, (!decide (SMsg.slot a = SMsg.slot b)) = false, (!(decide (SVote.kind (SMsg.vote a) = SVote.kind (SMsg.vote b)) && (decide (SVote.epoch (SMsg.vote a) = SVote.epoch (SMsg.vote b)) && (decide (SVote.view (SMsg.vote a) = SVote.view (SMsg.vote b)) && (decide (SVote.slot (SMsg.vote a) = SVote.slot (SMsg.vote b)) && (decide (SVote.digest (SMsg.vote a) = SVote.digest (SMsg.vote b)) && true)))))) = false, (!decide (SMsg.digest a = SMsg.digest b)) = true, q2]) : Option (V × Heap × List Prop)) := by kernel_rfl
theorem bdRm_p00000001 (a : SMsg) (b : SMsg) :
  along Try.prog (bdRm a b) [false, false, false, false, false, false, false, true] = (some (.bool false, [], [(!decide (SMsg.kind a = SMsg.kind b)) = false, (!decide (SMsg.epoch a = SMsg.epoch b)) = false, (!decide (SMsg.leader a = SMsg.leader b)) = false, (!decide (SMsg.view a = SMsg.view b)) = false, (!decide (SMsg.slot a = SMsg.slot b)) = false, (!(decide (SVote.kind (SMsg.vote a) = SVote.kind (SMsg.vote b)) && (decide (SVote.epoch (SMsg.vote a) = SVote.epoch (SMsg.vote b)) && (decide (SVote.view (SMsg.vote a) = SVote.view (SMsg.vote b)) && (decide (SVote.slot (SMsg.vote a) = SVote.slot (SMsg.vote b)) && (decide (SVote.digest (SMsg.vote a) = SVote.digest (SMsg.vote b)) && true)))))) = false, (!decide (SMsg.digest a = SMsg.digest b)) = false, (!decide (SMsg.state a = SMsg.state b)) = true]) : Option (V × Heap × List Prop)) := by kernel_rfl
theorem bdRm_p000000001111 (a : SMsg) (b : SMsg) :
  along Try.prog (bdRm a b) [false, false, false, false, false, false, false, false, true, true, true, true] = (some (.bool false, [], [(!decide (SMsg.kind a = SMsg.kind b)) = false, (!decide (SMsg.epoch a = SMsg.epoch b)) = false, (!decide (SMsg.leader a = SMsg.leader b)) = false, (!decide (SMsg.view a = SMsg.view b)) = false, (!decide (SMsg.slot a = SMsg.slot b)) = false, (!(decide (SVote.kind (SMsg.vote a) = SVote.kind (SMsg.vote b)) && (decide (SVote.epoch (SMsg.vote a) = SVote.epoch (SMsg.vote b)) && (decide (SVote.view (SMsg.vote a) = SVote.view (SMsg.vote b)) && (decide (SVote.slot (SMsg.vote a) = SVote.slot (SMsg.vote b)) && (decide (SVote.digest (SMsg.vote a) = SVote.digest (SMsg.vote b)) && true)))))) = false, (!decide (SMsg.digest a = SMsg.digest b)) = false, (!decide (SMsg.state a = SMsg.state b)) = false, (!decide (SMsg.cepoch a = SMsg.cepoch b)) = true, q2, q2, q2]) : Option (V × Heap × List Prop)) := by kernel_rfl
theorem bdRm_p000000000111 (a : SMsg) (b : SMsg) :
  along Try.prog (bdRm a b) [false, false, false, false, false, false, false, false, false, true, true, true] = (some (.bool false, [], [(!decide (SMsg.kind a = SMsg.kind b)) = false, (!decide (SMsg.epoch a = SMsg.epoch b)) = false, (!decide (SMsg.leader a = SMsg.leader b)) = false, (!decide (SMsg.view a = SMsg.view b)) = false, (!decide (SMsg.slot a = SMsg.slot b)) = false, (!(decide (SVote.kind (SMsg.vote a) = SVote.kind (SMsg.vote b)) && (decide (SVote.epoch (SMsg.vote a) = SVote.epoch (SMsg.vote b)) && (decide (SVote.view (SMsg.vote a) = SVote.view (SMsg.vote b)) && (decide (SVote.slot (SMsg.vote a) = SVote.slot (SMsg.vote b)) && (decide (SVote.digest (SMsg.vote a) = SVote.digest (SMsg.vote b)) && true)))))) = false, (!decide (SMsg.digest a = SMsg.digest b)) = false, (!decide (SMsg.state a = SMsg.state b)) = false, (!decide (SMsg.cepoch a = SMsg.cepoch b)) = false, (!decide (SMsg.cleader a = SMsg.cleader b)) = true, q2, q2]) : Option (V × Heap × List Prop)) := by kernel_rfl
theorem bdRm_p000000000011 (a : SMsg) (b : SMsg) :
  along Try.prog (bdRm a b) [false, false, false, false, false, false, false, false, false, false, true, true] = (some (.bool false, [], [(!decide (SMsg.kind a = SMsg.kind b)) = false, (!decide (SMsg.epoch a = SMsg.epoch b)) = false, (!decide (SMsg.leader a = SMsg.leader b)) = false, (!decide (SMsg.view a = SMsg.view b)) = false, (!decide (SMsg.slot a = SMsg.slot b)) = false, (!(decide (SVote.kind (SMsg.vote a) = SVote.kind (SMsg.vote b)) && (decide (SVote.epoch (SMsg.vote a) = SVote.epoch (SMsg.vote b)) && (decide (SVote.view (SMsg.vote a) = SVote.view (SMsg.vote b)) && (decide (SVote.slot (SMsg.vote a) = SVote.slot (SMsg.vote b)) && (decide (SVote.digest (SMsg.vote a) = SVote.digest (SMsg.vote b)) && true)))))) = false, (!decide (SMsg.digest a = SMsg.digest b)) = false, (!decide (SMsg.state a = SMsg.state b)) = false, (!decide (SMsg.cepoch a = SMsg.cepoch b)) = false, (!decide (SMsg.cleader a = SMsg.cleader b)) = false, (!decide (SMsg.cview a = SMsg.cview b)) = true, q2]) : Option (V × Heap × List Prop)) := by kernel_rfl
theorem bdRm_p000000000001 (a : SMsg) (b : SMsg) :
  along Try.prog (bdRm a b) [false, false, false, false, false, false, false, false, false, false, false, true] = (some (.bool false, [], [(!decide (SMsg.kind a = SMsg.kind b)) = false, (!decide (SMsg.epoch a = SMsg.epoch b)) = false, (!decide (SMsg.leader a = SMsg.leader b)) = false, (!decide (SMsg.view a = SMsg.view b)) = false, (!decide (SMsg.slot a = SMsg.slot b)) = false, (!(decide (SVote.kind (SMsg.vote a) = SVote.kind (SMsg.vote b)) && (decide (SVote.epoch (SMsg.vote a) = SVote.epoch (SMsg.vote b)) && (decide (SVote.view (SMsg.vote a) = SVote.view (SMsg.vote b)) && (decide (SVote.slot (SMsg.vote a) = SVote.slot (SMsg.vote b)) && (decide (SVote.digest (SMsg.vote a) = SVote.digest (SMsg.vote b)) && true)))))) = false, (!decide (SMsg.digest a = SMsg.digest b)) = false, (!decide (SMsg.state a = SMsg.state b)) = false, (!decide (SMsg.cepoch a = SMsg.cepoch b)) = false, (!decide (SMsg.cleader a = SMsg.cleader b)) = false, (!decide (SMsg.cview a = SMsg.cview b)) = false, T Try.prog 66 [.ros 39 (SMsg.nheld a) (fun i => SHeld.c (SMsg.held a i)) false, .ros 39 (SMsg.nheld b) (fun i => SHeld.c (SMsg.held b i)) false] [] (.bool (sameL (SMsg.nheld a) (SMsg.nheld b) fun i => sameHeldS (SMsg.held a i) (SMsg.held b i))) [], (!sameL (SMsg.nheld a) (SMsg.nheld b) fun i => sameHeldS (SMsg.held a i) (SMsg.held b i)) = true]) : Option (V × Heap × List Prop)) := by kernel_rfl
theorem bdRm_p000000000000111 (a : SMsg) (b : SMsg) :
  along Try.prog (bdRm a b) [false, false, false, false, false, false, false, false, false, false, false, false, true, true, true] = (some (.bool (sameL (SMsg.n a) (SMsg.n b) fun i => signEq (SMsg.sig a i) (SMsg.sig b i)), [], [(!decide (SMsg.kind a = SMsg.kind b)) = false, (!decide (SMsg.epoch a = SMsg.epoch b)) = false, (!decide (SMsg.leader a = SMsg.leader b)) = false, (!decide (SMsg.view a = SMsg.view b)) = false, (!decide (SMsg.slot a = SMsg.slot b)) = false, (!(decide (SVote.kind (SMsg.vote a) = SVote.kind (SMsg.vote b)) && (decide (SVote.epoch (SMsg.vote a) = SVote.epoch (SMsg.vote b)) && (decide (SVote.view (SMsg.vote a) = SVote.view (SMsg.vote b)) && (decide (SVote.slot (SMsg.vote a) = SVote.slot (SMsg.vote b)) && (decide (SVote.digest (SMsg.vote a) = SVote.digest (SMsg.vote b)) && true)))))) = false, (!decide (SMsg.digest a = SMsg.digest b)) = false, (!decide (SMsg.state a = SMsg.state b)) = false, (!decide (SMsg.cepoch a = SMsg.cepoch b)) = false, (!decide (SMsg.cleader a = SMsg.cleader b)) = false, (!decide (SMsg.cview a = SMsg.cview b)) = false, T Try.prog 66 [.ros 39 (SMsg.nheld a) (fun i => SHeld.c (SMsg.held a i)) false, .ros 39 (SMsg.nheld b) (fun i => SHeld.c (SMsg.held b i)) false] [] (.bool (sameL (SMsg.nheld a) (SMsg.nheld b) fun i => sameHeldS (SMsg.held a i) (SMsg.held b i))) [], (!sameL (SMsg.nheld a) (SMsg.nheld b) fun i => sameHeldS (SMsg.held a i) (SMsg.held b i)) = false, T Try.prog 67 [.agg (SBatch.c (SMsg.batch a)), .agg (SBatch.c (SMsg.batch b))] [] (.bool (sameBatchS (SMsg.batch a) (SMsg.batch b))) [], sameBatchS (SMsg.batch a) (SMsg.batch b) = true, T Try.prog 68 [.ros 18 (SMsg.nnews a) (fun i => SEnv.c (SMsg.news a i)) false, .ros 18 (SMsg.nnews b) (fun i => SEnv.c (SMsg.news b i)) false] [] (.bool (sameL (SMsg.nnews a) (SMsg.nnews b) fun i => envEq (SMsg.news a i) (SMsg.news b i))) [], (sameL (SMsg.nnews a) (SMsg.nnews b) fun i => envEq (SMsg.news a i) (SMsg.news b i)) = true, T Try.prog 69 [.agg [.int .i64 (SVote.kind (SCert.vote (SMsg.cert a))), .int .i64 (SVote.epoch (SCert.vote (SMsg.cert a))), .int .i64 (SVote.view (SCert.vote (SMsg.cert a))), .int .i64 (SVote.slot (SCert.vote (SMsg.cert a))), .seg .u8 32 (SVote.digest (SCert.vote (SMsg.cert a))), sg (SCert.n (SMsg.cert a)) (SCert.sig (SMsg.cert a))], .agg [.int .i64 (SVote.kind (SCert.vote (SMsg.cert b))), .int .i64 (SVote.epoch (SCert.vote (SMsg.cert b))), .int .i64 (SVote.view (SCert.vote (SMsg.cert b))), .int .i64 (SVote.slot (SCert.vote (SMsg.cert b))), .seg .u8 32 (SVote.digest (SCert.vote (SMsg.cert b))), sg (SCert.n (SMsg.cert b)) (SCert.sig (SMsg.cert b))]] [] (.bool (sameCertS (SMsg.cert a) (SMsg.cert b))) [], sameCertS (SMsg.cert a) (SMsg.cert b) = true, T Try.prog 70 [.ros 17 (SMsg.n a) (fun i => SSign.c (SMsg.sig a i)) false, .ros 17 (SMsg.n b) (fun i => SSign.c (SMsg.sig b i)) false] [] (.bool (sameL (SMsg.n a) (SMsg.n b) fun i => signEq (SMsg.sig a i) (SMsg.sig b i))) []]) : Option (V × Heap × List Prop)) := by kernel_rfl
theorem bdRm_p000000000000110 (a : SMsg) (b : SMsg) :
  along Try.prog (bdRm a b) [false, false, false, false, false, false, false, false, false, false, false, false, true, true, false] = (some (.bool false, [], [(!decide (SMsg.kind a = SMsg.kind b)) = false, (!decide (SMsg.epoch a = SMsg.epoch b)) = false, (!decide (SMsg.leader a = SMsg.leader b)) = false, (!decide (SMsg.view a = SMsg.view b)) = false, (!decide (SMsg.slot a = SMsg.slot b)) = false, (!(decide (SVote.kind (SMsg.vote a) = SVote.kind (SMsg.vote b)) && (decide (SVote.epoch (SMsg.vote a) = SVote.epoch (SMsg.vote b)) && (decide (SVote.view (SMsg.vote a) = SVote.view (SMsg.vote b)) && (decide (SVote.slot (SMsg.vote a) = SVote.slot (SMsg.vote b)) && (decide (SVote.digest (SMsg.vote a) = SVote.digest (SMsg.vote b)) && true)))))) = false, (!decide (SMsg.digest a = SMsg.digest b)) = false, (!decide (SMsg.state a = SMsg.state b)) = false, (!decide (SMsg.cepoch a = SMsg.cepoch b)) = false, (!decide (SMsg.cleader a = SMsg.cleader b)) = false, (!decide (SMsg.cview a = SMsg.cview b)) = false, T Try.prog 66 [.ros 39 (SMsg.nheld a) (fun i => SHeld.c (SMsg.held a i)) false, .ros 39 (SMsg.nheld b) (fun i => SHeld.c (SMsg.held b i)) false] [] (.bool (sameL (SMsg.nheld a) (SMsg.nheld b) fun i => sameHeldS (SMsg.held a i) (SMsg.held b i))) [], (!sameL (SMsg.nheld a) (SMsg.nheld b) fun i => sameHeldS (SMsg.held a i) (SMsg.held b i)) = false, T Try.prog 67 [.agg (SBatch.c (SMsg.batch a)), .agg (SBatch.c (SMsg.batch b))] [] (.bool (sameBatchS (SMsg.batch a) (SMsg.batch b))) [], sameBatchS (SMsg.batch a) (SMsg.batch b) = true, T Try.prog 68 [.ros 18 (SMsg.nnews a) (fun i => SEnv.c (SMsg.news a i)) false, .ros 18 (SMsg.nnews b) (fun i => SEnv.c (SMsg.news b i)) false] [] (.bool (sameL (SMsg.nnews a) (SMsg.nnews b) fun i => envEq (SMsg.news a i) (SMsg.news b i))) [], (sameL (SMsg.nnews a) (SMsg.nnews b) fun i => envEq (SMsg.news a i) (SMsg.news b i)) = true, T Try.prog 69 [.agg [.int .i64 (SVote.kind (SCert.vote (SMsg.cert a))), .int .i64 (SVote.epoch (SCert.vote (SMsg.cert a))), .int .i64 (SVote.view (SCert.vote (SMsg.cert a))), .int .i64 (SVote.slot (SCert.vote (SMsg.cert a))), .seg .u8 32 (SVote.digest (SCert.vote (SMsg.cert a))), sg (SCert.n (SMsg.cert a)) (SCert.sig (SMsg.cert a))], .agg [.int .i64 (SVote.kind (SCert.vote (SMsg.cert b))), .int .i64 (SVote.epoch (SCert.vote (SMsg.cert b))), .int .i64 (SVote.view (SCert.vote (SMsg.cert b))), .int .i64 (SVote.slot (SCert.vote (SMsg.cert b))), .seg .u8 32 (SVote.digest (SCert.vote (SMsg.cert b))), sg (SCert.n (SMsg.cert b)) (SCert.sig (SMsg.cert b))]] [] (.bool (sameCertS (SMsg.cert a) (SMsg.cert b))) [], sameCertS (SMsg.cert a) (SMsg.cert b) = false]) : Option (V × Heap × List Prop)) := by kernel_rfl
theorem bdRm_p000000000000100 (a : SMsg) (b : SMsg) :
  along Try.prog (bdRm a b) [false, false, false, false, false, false, false, false, false, false, false, false, true, false, false] = (some (.bool false, [], [(!decide (SMsg.kind a = SMsg.kind b)) = false, (!decide (SMsg.epoch a = SMsg.epoch b)) = false, (!decide (SMsg.leader a = SMsg.leader b)) = false, (!decide (SMsg.view a = SMsg.view b)) = false, (!decide (SMsg.slot a = SMsg.slot b)) = false, (!(decide (SVote.kind (SMsg.vote a) = SVote.kind (SMsg.vote b)) && (decide (SVote.epoch (SMsg.vote a) = SVote.epoch (SMsg.vote b)) && (decide (SVote.view (SMsg.vote a) = SVote.view (SMsg.vote b)) && (decide (SVote.slot (SMsg.vote a) = SVote.slot (SMsg.vote b)) && (decide (SVote.digest (SMsg.vote a) = SVote.digest (SMsg.vote b)) && true)))))) = false, (!decide (SMsg.digest a = SMsg.digest b)) = false, (!decide (SMsg.state a = SMsg.state b)) = false, (!decide (SMsg.cepoch a = SMsg.cepoch b)) = false, (!decide (SMsg.cleader a = SMsg.cleader b)) = false, (!decide (SMsg.cview a = SMsg.cview b)) = false, T Try.prog 66 [.ros 39 (SMsg.nheld a) (fun i => SHeld.c (SMsg.held a i)) false, .ros 39 (SMsg.nheld b) (fun i => SHeld.c (SMsg.held b i)) false] [] (.bool (sameL (SMsg.nheld a) (SMsg.nheld b) fun i => sameHeldS (SMsg.held a i) (SMsg.held b i))) [], (!sameL (SMsg.nheld a) (SMsg.nheld b) fun i => sameHeldS (SMsg.held a i) (SMsg.held b i)) = false, T Try.prog 67 [.agg (SBatch.c (SMsg.batch a)), .agg (SBatch.c (SMsg.batch b))] [] (.bool (sameBatchS (SMsg.batch a) (SMsg.batch b))) [], sameBatchS (SMsg.batch a) (SMsg.batch b) = true, T Try.prog 68 [.ros 18 (SMsg.nnews a) (fun i => SEnv.c (SMsg.news a i)) false, .ros 18 (SMsg.nnews b) (fun i => SEnv.c (SMsg.news b i)) false] [] (.bool (sameL (SMsg.nnews a) (SMsg.nnews b) fun i => envEq (SMsg.news a i) (SMsg.news b i))) [], (sameL (SMsg.nnews a) (SMsg.nnews b) fun i => envEq (SMsg.news a i) (SMsg.news b i)) = false, q false]) : Option (V × Heap × List Prop)) := by kernel_rfl
theorem bdRm_p000000000000000 (a : SMsg) (b : SMsg) :
  along Try.prog (bdRm a b) [false, false, false, false, false, false, false, false, false, false, false, false, false, false, false] = (some (.bool false, [], [(!decide (SMsg.kind a = SMsg.kind b)) = false, (!decide (SMsg.epoch a = SMsg.epoch b)) = false, (!decide (SMsg.leader a = SMsg.leader b)) = false, (!decide (SMsg.view a = SMsg.view b)) = false, (!decide (SMsg.slot a = SMsg.slot b)) = false, (!(decide (SVote.kind (SMsg.vote a) = SVote.kind (SMsg.vote b)) && (decide (SVote.epoch (SMsg.vote a) = SVote.epoch (SMsg.vote b)) && (decide (SVote.view (SMsg.vote a) = SVote.view (SMsg.vote b)) && (decide (SVote.slot (SMsg.vote a) = SVote.slot (SMsg.vote b)) && (decide (SVote.digest (SMsg.vote a) = SVote.digest (SMsg.vote b)) && true)))))) = false, (!decide (SMsg.digest a = SMsg.digest b)) = false, (!decide (SMsg.state a = SMsg.state b)) = false, (!decide (SMsg.cepoch a = SMsg.cepoch b)) = false, (!decide (SMsg.cleader a = SMsg.cleader b)) = false, (!decide (SMsg.cview a = SMsg.cview b)) = false, T Try.prog 66 [.ros 39 (SMsg.nheld a) (fun i => SHeld.c (SMsg.held a i)) false, .ros 39 (SMsg.nheld b) (fun i => SHeld.c (SMsg.held b i)) false] [] (.bool (sameL (SMsg.nheld a) (SMsg.nheld b) fun i => sameHeldS (SMsg.held a i) (SMsg.held b i))) [], (!sameL (SMsg.nheld a) (SMsg.nheld b) fun i => sameHeldS (SMsg.held a i) (SMsg.held b i)) = false, T Try.prog 67 [.agg (SBatch.c (SMsg.batch a)), .agg (SBatch.c (SMsg.batch b))] [] (.bool (sameBatchS (SMsg.batch a) (SMsg.batch b))) [], sameBatchS (SMsg.batch a) (SMsg.batch b) = false, q false, q false]) : Option (V × Heap × List Prop)) := by kernel_rfl

theorem T_rn {n n' : Nat} (a b : Nat → SEnv) (hn : n ≤ 1000000) : T Try.prog 68 [nw n a, nw n' b] [] (.bool (sameL n n' (fun i => envEq (a i) (b i)))) [] := by
 by_cases hnn : n = n'
 ·subst hnn
  rcases loop_all (P := Try.prog) (ro := none) (p := 0) (c := cB (cB (cR (cL (cR (cR (bodyOf Try.f68))))))) (I := s5I (nw n a) (nw n b) 26) (F := fun _ => smF 4 26) (e := fun _ => .ret) (q := fun k => envEq (a k) (b k) = true) (n := n)
   (fun k hk hq => by
    refine R_alongPc NG MO _ (pcRn_p10 n n a b k) ?_ (Nat.zero_le _)
    simp only [All, Int.toNat_natCast]; and_intros
    all_goals first
     | exact neg_t hq
     | (simp [hk, IntKind.min, IntKind.max, IntKind.signed, IntKind.bits] <;> omega))
   (fun k hk hq => by
    refine R_alongPc NG MO _ (pcRn_p11 n n a b k) ?_ (Nat.zero_le _)
    simp only [All, Int.toNat_natCast]; and_intros
    all_goals first
     | exact neg_f hq
     | (simp [hk, IntKind.min, IntKind.max, IntKind.signed, IntKind.bits] <;> omega))
   (by simp) (R_alongPc NG MO _ (pcRn_p0 n n a b n) (by simp [All]) (Nat.zero_le _)) (by simp) with ⟨h, hL⟩ | ⟨m, hm, _, hq, hL⟩
  ·refine T.bool (T_along NG MO _ (bdRn_p01 n n a b n) Try.func68 (by kernel_rfl) ⟨by simp, hL, ?_⟩ (pinH_ok (by kernel_rfl)) (by kernel_rfl)) (by simp [sameL]; exact h)
   simp [All]
  ·refine T.bool (T_along NG MO _ (bdRn_p00 n n a b m) Try.func68 (by kernel_rfl) ⟨by simp, hL, ?_⟩ (pinH_ok (by kernel_rfl)) (by kernel_rfl)) (by
    have : ¬ ∀ i, i < n → envEq (a i) (b i) = true := fun h => hq (h m hm)
    simp only [sameL, this, decide_false, Bool.and_false])
   simp [All]
 ·exact T.bool (T_along NG MO _ (bdRn_p1 n n' a b 0) Try.func68 (by kernel_rfl) ⟨by simp <;> omega, trivial⟩ (pinH_ok (by kernel_rfl)) (by kernel_rfl)) (by simp [sameL, hnn])
theorem and_t1 {a b : Bool} (h : (a && b) = true) : a = true := by cases a <;> simp_all
theorem and_t2 {a b : Bool} (h : (a && b) = true) : b = true := by cases a <;> simp_all
theorem T_rh {n n' : Nat} (a b : Nat → SHeld) (hn : n ≤ 1000000) (hb : ∀ k, k < n → (a k).batch.n ≤ 1000000 ∧ (a k).cert.n ≤ 1000000) : T Try.prog 66 [hl n a, hl n' b] [] (.bool (sameL n n' (fun i => sameHeldS (a i) (b i)))) [] := by
 by_cases hnn : n = n'
 ·subst hnn
  rcases loop_all (P := Try.prog) (ro := none) (p := 0) (c := cB (cB (cR (cL (cR (cR (bodyOf Try.f66))))))) (I := s5I (hl n a) (hl n b) 43) (F := fun _ => smF 4 43) (e := fun _ => .ret) (q := fun k => sameHeldS (a k) (b k) = true) (n := n)
   (fun k hk hq => by
    refine R_alongPc NG MO _ (pcRh_p100 n n a b k) ?_ (Nat.zero_le _)
    simp only [All, Int.toNat_natCast]; and_intros
    all_goals first
     | exact T_rb (a k).batch (b k).batch (hb k hk).1
     | exact T_rc (a k).cert (b k).cert (hb k hk).2
     | exact neg_t (and_t1 hq)
     | exact neg_t (and_t2 hq)
     | (simp [hk, IntKind.min, IntKind.max, IntKind.signed, IntKind.bits] <;> omega))
   (fun k hk hq => by
    by_cases h1 : sameBatchS (a k).batch (b k).batch = true
    ·have h2 : sameCertS (a k).cert (b k).cert = false := by
      rw [← Bool.not_eq_true]; intro h2; exact hq (by simp [sameHeldS, h1, h2])
     refine R_alongPc NG MO _ (pcRh_p101 n n a b k) ?_ (Nat.zero_le _)
     simp only [All, Int.toNat_natCast]; and_intros
     all_goals first
      | exact neg_t h1
      | exact neg_f' h2
      | exact T_rb (a k).batch (b k).batch (hb k hk).1
      | exact T_rc (a k).cert (b k).cert (hb k hk).2
      | (simp [hk, IntKind.min, IntKind.max, IntKind.signed, IntKind.bits] <;> omega)
    ·refine R_alongPc NG MO _ (pcRh_p111 n n a b k) ?_ (Nat.zero_le _)
     simp only [All, Int.toNat_natCast]; and_intros
     all_goals first
      | exact neg_f h1
      | exact T_rb (a k).batch (b k).batch (hb k hk).1
      | (simp [hk, IntKind.min, IntKind.max, IntKind.signed, IntKind.bits] <;> omega))
   (by simp) (R_alongPc NG MO _ (pcRh_p0 n n a b n) (by simp [All]) (Nat.zero_le _)) (by simp) with ⟨h, hL⟩ | ⟨m, hm, _, hq, hL⟩
  ·refine T.bool (T_along NG MO _ (bdRh_p01 n n a b n) Try.func66 (by kernel_rfl) ⟨by simp, hL, ?_⟩ (pinH_ok (by kernel_rfl)) (by kernel_rfl)) (by simp [sameL]; exact h)
   simp [All]
  ·refine T.bool (T_along NG MO _ (bdRh_p00 n n a b m) Try.func66 (by kernel_rfl) ⟨by simp, hL, ?_⟩ (pinH_ok (by kernel_rfl)) (by kernel_rfl)) (by
    have : ¬ ∀ i, i < n → sameHeldS (a i) (b i) = true := fun h => hq (h m hm)
    simp only [sameL, this, decide_false, Bool.and_false])
   simp [All]
 ·exact T.bool (T_along NG MO _ (bdRh_p1 n n' a b 0) Try.func66 (by kernel_rfl) ⟨by simp <;> omega, trivial⟩ (pinH_ok (by kernel_rfl)) (by kernel_rfl)) (by simp [sameL, hnn])
theorem T_rm (a b : SMsg) (h : FitM a) : T Try.prog 23 [.agg a.c, .agg b.c] [] (.bool (sameMsgS a b)) [] := by
 rcases Bool.eq_false_or_eq_true ((!decide (SMsg.kind a = SMsg.kind b))) with h1 | h1
 ·
  refine T.conv (T_along NG MO _ (bdRm_p11111111 a b) Try.func23 (by kernel_rfl) ?_ (pinH_ok (by kernel_rfl)) (by kernel_rfl)) rfl rfl ?_ ?_
  ·simp only [All]; and_intros
   all_goals first
    | assumption
    | exact T_rh a.held b.held h.nheld h.held
    | exact T_rb a.batch b.batch h.batch
    | exact T_rn a.news b.news h.nnews
    | exact T_rc a.cert b.cert h.cert
    | exact T_rs a.sig b.sig h.n
    | trivial
    | rfl
    | (intro _ _; trivial)
    | (intro _ _; rfl)
    | (simp; done)
    | omega
  ·first | replace h1 := not_t h1 | replace h1 := not_f h1 | skip
   first | rfl | (congr 1; simp only [sameMsgS, sameChangeS, voteEq, h1, Bool.true_and, Bool.false_and, Bool.and_false]; done)
  ·rfl
 ·
  rcases Bool.eq_false_or_eq_true ((!decide (SMsg.epoch a = SMsg.epoch b))) with h2 | h2
  ·
   refine T.conv (T_along NG MO _ (bdRm_p01111111 a b) Try.func23 (by kernel_rfl) ?_ (pinH_ok (by kernel_rfl)) (by kernel_rfl)) rfl rfl ?_ ?_
   ·simp only [All]; and_intros
    all_goals first
     | assumption
     | exact T_rh a.held b.held h.nheld h.held
     | exact T_rb a.batch b.batch h.batch
     | exact T_rn a.news b.news h.nnews
     | exact T_rc a.cert b.cert h.cert
     | exact T_rs a.sig b.sig h.n
     | trivial
     | rfl
     | (intro _ _; trivial)
     | (intro _ _; rfl)
     | (simp; done)
     | omega
   ·first | replace h1 := not_t h1 | replace h1 := not_f h1 | skip
    first | replace h2 := not_t h2 | replace h2 := not_f h2 | skip
    first | rfl | (congr 1; simp only [sameMsgS, sameChangeS, voteEq, h1, h2, Bool.true_and, Bool.false_and, Bool.and_false]; done)
   ·rfl
  ·
   rcases Bool.eq_false_or_eq_true ((!decide (SMsg.leader a = SMsg.leader b))) with h3 | h3
   ·
    refine T.conv (T_along NG MO _ (bdRm_p00111111 a b) Try.func23 (by kernel_rfl) ?_ (pinH_ok (by kernel_rfl)) (by kernel_rfl)) rfl rfl ?_ ?_
    ·simp only [All]; and_intros
     all_goals first
      | assumption
      | exact T_rh a.held b.held h.nheld h.held
      | exact T_rb a.batch b.batch h.batch
      | exact T_rn a.news b.news h.nnews
      | exact T_rc a.cert b.cert h.cert
      | exact T_rs a.sig b.sig h.n
      | trivial
      | rfl
      | (intro _ _; trivial)
      | (intro _ _; rfl)
      | (simp; done)
      | omega
    ·first | replace h1 := not_t h1 | replace h1 := not_f h1 | skip
     first | replace h2 := not_t h2 | replace h2 := not_f h2 | skip
     first | replace h3 := not_t h3 | replace h3 := not_f h3 | skip
     first | rfl | (congr 1; simp only [sameMsgS, sameChangeS, voteEq, h1, h2, h3, Bool.true_and, Bool.false_and, Bool.and_false]; done)
    ·rfl
   ·
    rcases Bool.eq_false_or_eq_true ((!decide (SMsg.view a = SMsg.view b))) with h4 | h4
    ·
     refine T.conv (T_along NG MO _ (bdRm_p00011111 a b) Try.func23 (by kernel_rfl) ?_ (pinH_ok (by kernel_rfl)) (by kernel_rfl)) rfl rfl ?_ ?_
     ·simp only [All]; and_intros
      all_goals first
       | assumption
       | exact T_rh a.held b.held h.nheld h.held
       | exact T_rb a.batch b.batch h.batch
       | exact T_rn a.news b.news h.nnews
       | exact T_rc a.cert b.cert h.cert
       | exact T_rs a.sig b.sig h.n
       | trivial
       | rfl
       | (intro _ _; trivial)
       | (intro _ _; rfl)
       | (simp; done)
       | omega
     ·first | replace h1 := not_t h1 | replace h1 := not_f h1 | skip
      first | replace h2 := not_t h2 | replace h2 := not_f h2 | skip
      first | replace h3 := not_t h3 | replace h3 := not_f h3 | skip
      first | replace h4 := not_t h4 | replace h4 := not_f h4 | skip
      first | rfl | (congr 1; simp only [sameMsgS, sameChangeS, voteEq, h1, h2, h3, h4, Bool.true_and, Bool.false_and, Bool.and_false]; done)
     ·rfl
    ·
     rcases Bool.eq_false_or_eq_true ((!decide (SMsg.slot a = SMsg.slot b))) with h5 | h5
     ·
      refine T.conv (T_along NG MO _ (bdRm_p00001111 a b) Try.func23 (by kernel_rfl) ?_ (pinH_ok (by kernel_rfl)) (by kernel_rfl)) rfl rfl ?_ ?_
      ·simp only [All]; and_intros
       all_goals first
        | assumption
        | exact T_rh a.held b.held h.nheld h.held
        | exact T_rb a.batch b.batch h.batch
        | exact T_rn a.news b.news h.nnews
        | exact T_rc a.cert b.cert h.cert
        | exact T_rs a.sig b.sig h.n
        | trivial
        | rfl
        | (intro _ _; trivial)
        | (intro _ _; rfl)
        | (simp; done)
        | omega
      ·first | replace h1 := not_t h1 | replace h1 := not_f h1 | skip
       first | replace h2 := not_t h2 | replace h2 := not_f h2 | skip
       first | replace h3 := not_t h3 | replace h3 := not_f h3 | skip
       first | replace h4 := not_t h4 | replace h4 := not_f h4 | skip
       first | replace h5 := not_t h5 | replace h5 := not_f h5 | skip
       first | rfl | (congr 1; simp only [sameMsgS, sameChangeS, voteEq, h1, h2, h3, h4, h5, Bool.true_and, Bool.false_and, Bool.and_false]; done)
      ·rfl
     ·
      rcases Bool.eq_false_or_eq_true ((!(decide (SVote.kind (SMsg.vote a) = SVote.kind (SMsg.vote b)) && (decide (SVote.epoch (SMsg.vote a) = SVote.epoch (SMsg.vote b)) && (decide (SVote.view (SMsg.vote a) = SVote.view (SMsg.vote b)) && (decide (SVote.slot (SMsg.vote a) = SVote.slot (SMsg.vote b)) && (decide (SVote.digest (SMsg.vote a) = SVote.digest (SMsg.vote b)) && true))))))) with h6 | h6
      ·
       refine T.conv (T_along NG MO _ (bdRm_p00000111 a b) Try.func23 (by kernel_rfl) ?_ (pinH_ok (by kernel_rfl)) (by kernel_rfl)) rfl rfl ?_ ?_
       ·simp only [All]; and_intros
        all_goals first
         | assumption
         | exact T_rh a.held b.held h.nheld h.held
         | exact T_rb a.batch b.batch h.batch
         | exact T_rn a.news b.news h.nnews
         | exact T_rc a.cert b.cert h.cert
         | exact T_rs a.sig b.sig h.n
         | trivial
         | rfl
         | (intro _ _; trivial)
         | (intro _ _; rfl)
         | (simp; done)
         | omega
       ·first | replace h1 := not_t h1 | replace h1 := not_f h1 | skip
        first | replace h2 := not_t h2 | replace h2 := not_f h2 | skip
        first | replace h3 := not_t h3 | replace h3 := not_f h3 | skip
        first | replace h4 := not_t h4 | replace h4 := not_f h4 | skip
        first | replace h5 := not_t h5 | replace h5 := not_f h5 | skip
        first | replace h6 := not_t h6 | replace h6 := not_f h6 | skip
        first | rfl | (congr 1; simp only [sameMsgS, sameChangeS, voteEq, h1, h2, h3, h4, h5, h6, Bool.true_and, Bool.false_and, Bool.and_false]; done)
       ·rfl
      ·
       rcases Bool.eq_false_or_eq_true ((!decide (SMsg.digest a = SMsg.digest b))) with h7 | h7
       ·
        refine T.conv (T_along NG MO _ (bdRm_p00000011 a b) Try.func23 (by kernel_rfl) ?_ (pinH_ok (by kernel_rfl)) (by kernel_rfl)) rfl rfl ?_ ?_
        ·simp only [All]; and_intros
         all_goals first
          | assumption
          | exact T_rh a.held b.held h.nheld h.held
          | exact T_rb a.batch b.batch h.batch
          | exact T_rn a.news b.news h.nnews
          | exact T_rc a.cert b.cert h.cert
          | exact T_rs a.sig b.sig h.n
          | trivial
          | rfl
          | (intro _ _; trivial)
          | (intro _ _; rfl)
          | (simp; done)
          | omega
        ·first | replace h1 := not_t h1 | replace h1 := not_f h1 | skip
         first | replace h2 := not_t h2 | replace h2 := not_f h2 | skip
         first | replace h3 := not_t h3 | replace h3 := not_f h3 | skip
         first | replace h4 := not_t h4 | replace h4 := not_f h4 | skip
         first | replace h5 := not_t h5 | replace h5 := not_f h5 | skip
         first | replace h6 := not_t h6 | replace h6 := not_f h6 | skip
         first | replace h7 := not_t h7 | replace h7 := not_f h7 | skip
         first | rfl | (congr 1; simp only [sameMsgS, sameChangeS, voteEq, h1, h2, h3, h4, h5, h6, h7, Bool.true_and, Bool.false_and, Bool.and_false]; done)
        ·rfl
       ·
        rcases Bool.eq_false_or_eq_true ((!decide (SMsg.state a = SMsg.state b))) with h8 | h8
        ·
         refine T.conv (T_along NG MO _ (bdRm_p00000001 a b) Try.func23 (by kernel_rfl) ?_ (pinH_ok (by kernel_rfl)) (by kernel_rfl)) rfl rfl ?_ ?_
         ·simp only [All]; and_intros
          all_goals first
           | assumption
           | exact T_rh a.held b.held h.nheld h.held
           | exact T_rb a.batch b.batch h.batch
           | exact T_rn a.news b.news h.nnews
           | exact T_rc a.cert b.cert h.cert
           | exact T_rs a.sig b.sig h.n
           | trivial
           | rfl
           | (intro _ _; trivial)
           | (intro _ _; rfl)
           | (simp; done)
           | omega
         ·first | replace h1 := not_t h1 | replace h1 := not_f h1 | skip
          first | replace h2 := not_t h2 | replace h2 := not_f h2 | skip
          first | replace h3 := not_t h3 | replace h3 := not_f h3 | skip
          first | replace h4 := not_t h4 | replace h4 := not_f h4 | skip
          first | replace h5 := not_t h5 | replace h5 := not_f h5 | skip
          first | replace h6 := not_t h6 | replace h6 := not_f h6 | skip
          first | replace h7 := not_t h7 | replace h7 := not_f h7 | skip
          first | replace h8 := not_t h8 | replace h8 := not_f h8 | skip
          first | rfl | (congr 1; simp only [sameMsgS, sameChangeS, voteEq, h1, h2, h3, h4, h5, h6, h7, h8, Bool.true_and, Bool.false_and, Bool.and_false]; done)
         ·rfl
        ·
         rcases Bool.eq_false_or_eq_true ((!decide (SMsg.cepoch a = SMsg.cepoch b))) with h9 | h9
         ·
          refine T.conv (T_along NG MO _ (bdRm_p000000001111 a b) Try.func23 (by kernel_rfl) ?_ (pinH_ok (by kernel_rfl)) (by kernel_rfl)) rfl rfl ?_ ?_
          ·simp only [All]; and_intros
           all_goals first
            | assumption
            | exact T_rh a.held b.held h.nheld h.held
            | exact T_rb a.batch b.batch h.batch
            | exact T_rn a.news b.news h.nnews
            | exact T_rc a.cert b.cert h.cert
            | exact T_rs a.sig b.sig h.n
            | trivial
            | rfl
            | (intro _ _; trivial)
            | (intro _ _; rfl)
            | (simp; done)
            | omega
          ·first | replace h1 := not_t h1 | replace h1 := not_f h1 | skip
           first | replace h2 := not_t h2 | replace h2 := not_f h2 | skip
           first | replace h3 := not_t h3 | replace h3 := not_f h3 | skip
           first | replace h4 := not_t h4 | replace h4 := not_f h4 | skip
           first | replace h5 := not_t h5 | replace h5 := not_f h5 | skip
           first | replace h6 := not_t h6 | replace h6 := not_f h6 | skip
           first | replace h7 := not_t h7 | replace h7 := not_f h7 | skip
           first | replace h8 := not_t h8 | replace h8 := not_f h8 | skip
           first | replace h9 := not_t h9 | replace h9 := not_f h9 | skip
           first | rfl | (congr 1; simp only [sameMsgS, sameChangeS, voteEq, h1, h2, h3, h4, h5, h6, h7, h8, h9, Bool.true_and, Bool.false_and, Bool.and_false]; done)
          ·rfl
         ·
          rcases Bool.eq_false_or_eq_true ((!decide (SMsg.cleader a = SMsg.cleader b))) with h10 | h10
          ·
           refine T.conv (T_along NG MO _ (bdRm_p000000000111 a b) Try.func23 (by kernel_rfl) ?_ (pinH_ok (by kernel_rfl)) (by kernel_rfl)) rfl rfl ?_ ?_
           ·simp only [All]; and_intros
            all_goals first
             | assumption
             | exact T_rh a.held b.held h.nheld h.held
             | exact T_rb a.batch b.batch h.batch
             | exact T_rn a.news b.news h.nnews
             | exact T_rc a.cert b.cert h.cert
             | exact T_rs a.sig b.sig h.n
             | trivial
             | rfl
             | (intro _ _; trivial)
             | (intro _ _; rfl)
             | (simp; done)
             | omega
           ·first | replace h1 := not_t h1 | replace h1 := not_f h1 | skip
            first | replace h2 := not_t h2 | replace h2 := not_f h2 | skip
            first | replace h3 := not_t h3 | replace h3 := not_f h3 | skip
            first | replace h4 := not_t h4 | replace h4 := not_f h4 | skip
            first | replace h5 := not_t h5 | replace h5 := not_f h5 | skip
            first | replace h6 := not_t h6 | replace h6 := not_f h6 | skip
            first | replace h7 := not_t h7 | replace h7 := not_f h7 | skip
            first | replace h8 := not_t h8 | replace h8 := not_f h8 | skip
            first | replace h9 := not_t h9 | replace h9 := not_f h9 | skip
            first | replace h10 := not_t h10 | replace h10 := not_f h10 | skip
            first | rfl | (congr 1; simp only [sameMsgS, sameChangeS, voteEq, h1, h2, h3, h4, h5, h6, h7, h8, h9, h10, Bool.true_and, Bool.false_and, Bool.and_false]; done)
           ·rfl
          ·
           rcases Bool.eq_false_or_eq_true ((!decide (SMsg.cview a = SMsg.cview b))) with h11 | h11
           ·
            refine T.conv (T_along NG MO _ (bdRm_p000000000011 a b) Try.func23 (by kernel_rfl) ?_ (pinH_ok (by kernel_rfl)) (by kernel_rfl)) rfl rfl ?_ ?_
            ·simp only [All]; and_intros
             all_goals first
              | assumption
              | exact T_rh a.held b.held h.nheld h.held
              | exact T_rb a.batch b.batch h.batch
              | exact T_rn a.news b.news h.nnews
              | exact T_rc a.cert b.cert h.cert
              | exact T_rs a.sig b.sig h.n
              | trivial
              | rfl
              | (intro _ _; trivial)
              | (intro _ _; rfl)
              | (simp; done)
              | omega
            ·first | replace h1 := not_t h1 | replace h1 := not_f h1 | skip
             first | replace h2 := not_t h2 | replace h2 := not_f h2 | skip
             first | replace h3 := not_t h3 | replace h3 := not_f h3 | skip
             first | replace h4 := not_t h4 | replace h4 := not_f h4 | skip
             first | replace h5 := not_t h5 | replace h5 := not_f h5 | skip
             first | replace h6 := not_t h6 | replace h6 := not_f h6 | skip
             first | replace h7 := not_t h7 | replace h7 := not_f h7 | skip
             first | replace h8 := not_t h8 | replace h8 := not_f h8 | skip
             first | replace h9 := not_t h9 | replace h9 := not_f h9 | skip
             first | replace h10 := not_t h10 | replace h10 := not_f h10 | skip
             first | replace h11 := not_t h11 | replace h11 := not_f h11 | skip
             first | rfl | (congr 1; simp only [sameMsgS, sameChangeS, voteEq, h1, h2, h3, h4, h5, h6, h7, h8, h9, h10, h11, Bool.true_and, Bool.false_and, Bool.and_false]; done)
            ·rfl
           ·
            rcases Bool.eq_false_or_eq_true ((!sameL (SMsg.nheld a) (SMsg.nheld b) fun i => sameHeldS (SMsg.held a i) (SMsg.held b i))) with h12 | h12
            ·
             refine T.conv (T_along NG MO _ (bdRm_p000000000001 a b) Try.func23 (by kernel_rfl) ?_ (pinH_ok (by kernel_rfl)) (by kernel_rfl)) rfl rfl ?_ ?_
             ·simp only [All]; and_intros
              all_goals first
               | assumption
               | exact T_rh a.held b.held h.nheld h.held
               | exact T_rb a.batch b.batch h.batch
               | exact T_rn a.news b.news h.nnews
               | exact T_rc a.cert b.cert h.cert
               | exact T_rs a.sig b.sig h.n
               | trivial
               | rfl
               | (intro _ _; trivial)
               | (intro _ _; rfl)
               | (simp; done)
               | omega
             ·first | replace h1 := not_t h1 | replace h1 := not_f h1 | skip
              first | replace h2 := not_t h2 | replace h2 := not_f h2 | skip
              first | replace h3 := not_t h3 | replace h3 := not_f h3 | skip
              first | replace h4 := not_t h4 | replace h4 := not_f h4 | skip
              first | replace h5 := not_t h5 | replace h5 := not_f h5 | skip
              first | replace h6 := not_t h6 | replace h6 := not_f h6 | skip
              first | replace h7 := not_t h7 | replace h7 := not_f h7 | skip
              first | replace h8 := not_t h8 | replace h8 := not_f h8 | skip
              first | replace h9 := not_t h9 | replace h9 := not_f h9 | skip
              first | replace h10 := not_t h10 | replace h10 := not_f h10 | skip
              first | replace h11 := not_t h11 | replace h11 := not_f h11 | skip
              first | replace h12 := not_t h12 | replace h12 := not_f h12 | skip
              first | rfl | (congr 1; simp only [sameMsgS, sameChangeS, voteEq, h1, h2, h3, h4, h5, h6, h7, h8, h9, h10, h11, h12, Bool.true_and, Bool.false_and, Bool.and_false]; done)
             ·rfl
            ·
             rcases Bool.eq_false_or_eq_true (sameBatchS (SMsg.batch a) (SMsg.batch b)) with h13 | h13
             ·
              rcases Bool.eq_false_or_eq_true ((sameL (SMsg.nnews a) (SMsg.nnews b) fun i => envEq (SMsg.news a i) (SMsg.news b i))) with h14 | h14
              ·
               rcases Bool.eq_false_or_eq_true (sameCertS (SMsg.cert a) (SMsg.cert b)) with h15 | h15
               ·
                refine T.conv (T_along NG MO _ (bdRm_p000000000000111 a b) Try.func23 (by kernel_rfl) ?_ (pinH_ok (by kernel_rfl)) (by kernel_rfl)) rfl rfl ?_ ?_
                ·simp only [All]; and_intros
                 all_goals first
                  | assumption
                  | exact T_rh a.held b.held h.nheld h.held
                  | exact T_rb a.batch b.batch h.batch
                  | exact T_rn a.news b.news h.nnews
                  | exact T_rc a.cert b.cert h.cert
                  | exact T_rs a.sig b.sig h.n
                  | trivial
                  | rfl
                  | (intro _ _; trivial)
                  | (intro _ _; rfl)
                  | (simp; done)
                  | omega
                ·first | replace h1 := not_t h1 | replace h1 := not_f h1 | skip
                 first | replace h2 := not_t h2 | replace h2 := not_f h2 | skip
                 first | replace h3 := not_t h3 | replace h3 := not_f h3 | skip
                 first | replace h4 := not_t h4 | replace h4 := not_f h4 | skip
                 first | replace h5 := not_t h5 | replace h5 := not_f h5 | skip
                 first | replace h6 := not_t h6 | replace h6 := not_f h6 | skip
                 first | replace h7 := not_t h7 | replace h7 := not_f h7 | skip
                 first | replace h8 := not_t h8 | replace h8 := not_f h8 | skip
                 first | replace h9 := not_t h9 | replace h9 := not_f h9 | skip
                 first | replace h10 := not_t h10 | replace h10 := not_f h10 | skip
                 first | replace h11 := not_t h11 | replace h11 := not_f h11 | skip
                 first | replace h12 := not_t h12 | replace h12 := not_f h12 | skip
                 first | replace h13 := not_t h13 | replace h13 := not_f h13 | skip
                 first | replace h14 := not_t h14 | replace h14 := not_f h14 | skip
                 first | replace h15 := not_t h15 | replace h15 := not_f h15 | skip
                 first | rfl | (congr 1; simp only [sameMsgS, sameChangeS, voteEq, h1, h2, h3, h4, h5, h6, h7, h8, h9, h10, h11, h12, h13, h14, h15, Bool.true_and, Bool.false_and, Bool.and_false]; done)
                ·rfl
               ·
                refine T.conv (T_along NG MO _ (bdRm_p000000000000110 a b) Try.func23 (by kernel_rfl) ?_ (pinH_ok (by kernel_rfl)) (by kernel_rfl)) rfl rfl ?_ ?_
                ·simp only [All]; and_intros
                 all_goals first
                  | assumption
                  | exact T_rh a.held b.held h.nheld h.held
                  | exact T_rb a.batch b.batch h.batch
                  | exact T_rn a.news b.news h.nnews
                  | exact T_rc a.cert b.cert h.cert
                  | exact T_rs a.sig b.sig h.n
                  | trivial
                  | rfl
                  | (intro _ _; trivial)
                  | (intro _ _; rfl)
                  | (simp; done)
                  | omega
                ·first | replace h1 := not_t h1 | replace h1 := not_f h1 | skip
                 first | replace h2 := not_t h2 | replace h2 := not_f h2 | skip
                 first | replace h3 := not_t h3 | replace h3 := not_f h3 | skip
                 first | replace h4 := not_t h4 | replace h4 := not_f h4 | skip
                 first | replace h5 := not_t h5 | replace h5 := not_f h5 | skip
                 first | replace h6 := not_t h6 | replace h6 := not_f h6 | skip
                 first | replace h7 := not_t h7 | replace h7 := not_f h7 | skip
                 first | replace h8 := not_t h8 | replace h8 := not_f h8 | skip
                 first | replace h9 := not_t h9 | replace h9 := not_f h9 | skip
                 first | replace h10 := not_t h10 | replace h10 := not_f h10 | skip
                 first | replace h11 := not_t h11 | replace h11 := not_f h11 | skip
                 first | replace h12 := not_t h12 | replace h12 := not_f h12 | skip
                 first | replace h13 := not_t h13 | replace h13 := not_f h13 | skip
                 first | replace h14 := not_t h14 | replace h14 := not_f h14 | skip
                 first | replace h15 := not_t h15 | replace h15 := not_f h15 | skip
                 first | rfl | (congr 1; simp only [sameMsgS, sameChangeS, voteEq, h1, h2, h3, h4, h5, h6, h7, h8, h9, h10, h11, h12, h13, h14, h15, Bool.true_and, Bool.false_and, Bool.and_false]; done)
                ·rfl
              ·
               refine T.conv (T_along NG MO _ (bdRm_p000000000000100 a b) Try.func23 (by kernel_rfl) ?_ (pinH_ok (by kernel_rfl)) (by kernel_rfl)) rfl rfl ?_ ?_
               ·simp only [All]; and_intros
                all_goals first
                 | assumption
                 | exact T_rh a.held b.held h.nheld h.held
                 | exact T_rb a.batch b.batch h.batch
                 | exact T_rn a.news b.news h.nnews
                 | exact T_rc a.cert b.cert h.cert
                 | exact T_rs a.sig b.sig h.n
                 | trivial
                 | rfl
                 | (intro _ _; trivial)
                 | (intro _ _; rfl)
                 | (simp; done)
                 | omega
               ·first | replace h1 := not_t h1 | replace h1 := not_f h1 | skip
                first | replace h2 := not_t h2 | replace h2 := not_f h2 | skip
                first | replace h3 := not_t h3 | replace h3 := not_f h3 | skip
                first | replace h4 := not_t h4 | replace h4 := not_f h4 | skip
                first | replace h5 := not_t h5 | replace h5 := not_f h5 | skip
                first | replace h6 := not_t h6 | replace h6 := not_f h6 | skip
                first | replace h7 := not_t h7 | replace h7 := not_f h7 | skip
                first | replace h8 := not_t h8 | replace h8 := not_f h8 | skip
                first | replace h9 := not_t h9 | replace h9 := not_f h9 | skip
                first | replace h10 := not_t h10 | replace h10 := not_f h10 | skip
                first | replace h11 := not_t h11 | replace h11 := not_f h11 | skip
                first | replace h12 := not_t h12 | replace h12 := not_f h12 | skip
                first | replace h13 := not_t h13 | replace h13 := not_f h13 | skip
                first | replace h14 := not_t h14 | replace h14 := not_f h14 | skip
                first | rfl | (congr 1; simp only [sameMsgS, sameChangeS, voteEq, h1, h2, h3, h4, h5, h6, h7, h8, h9, h10, h11, h12, h13, h14, Bool.true_and, Bool.false_and, Bool.and_false]; done)
               ·rfl
             ·
              refine T.conv (T_along NG MO _ (bdRm_p000000000000000 a b) Try.func23 (by kernel_rfl) ?_ (pinH_ok (by kernel_rfl)) (by kernel_rfl)) rfl rfl ?_ ?_
              ·simp only [All]; and_intros
               all_goals first
                | assumption
                | exact T_rh a.held b.held h.nheld h.held
                | exact T_rb a.batch b.batch h.batch
                | exact T_rn a.news b.news h.nnews
                | exact T_rc a.cert b.cert h.cert
                | exact T_rs a.sig b.sig h.n
                | trivial
                | rfl
                | (intro _ _; trivial)
                | (intro _ _; rfl)
                | (simp; done)
                | omega
              ·first | replace h1 := not_t h1 | replace h1 := not_f h1 | skip
               first | replace h2 := not_t h2 | replace h2 := not_f h2 | skip
               first | replace h3 := not_t h3 | replace h3 := not_f h3 | skip
               first | replace h4 := not_t h4 | replace h4 := not_f h4 | skip
               first | replace h5 := not_t h5 | replace h5 := not_f h5 | skip
               first | replace h6 := not_t h6 | replace h6 := not_f h6 | skip
               first | replace h7 := not_t h7 | replace h7 := not_f h7 | skip
               first | replace h8 := not_t h8 | replace h8 := not_f h8 | skip
               first | replace h9 := not_t h9 | replace h9 := not_f h9 | skip
               first | replace h10 := not_t h10 | replace h10 := not_f h10 | skip
               first | replace h11 := not_t h11 | replace h11 := not_f h11 | skip
               first | replace h12 := not_t h12 | replace h12 := not_f h12 | skip
               first | replace h13 := not_t h13 | replace h13 := not_f h13 | skip
               first | rfl | (congr 1; simp only [sameMsgS, sameChangeS, voteEq, h1, h2, h3, h4, h5, h6, h7, h8, h9, h10, h11, h12, h13, Bool.true_and, Bool.false_and, Bool.and_false]; done)
              ·rfl
end Go.Proofs.Ythifjamdfpjilaa
namespace Go.Proofs.Ythifjamdfpjilaa
open Go Sy Go.Proofs
noncomputable def bdBk (m : SMsg) (s : ByteArray) (l : Bool) (db : List (Nat × Nat × (List V → Heap → Nat → List Cl))) : Bd := { f := Try.f7, args := [.agg m.c, .str s], kb := { db := fun k a h lo => match dbF [(19, cVal (.bool l)), (20, cVal (.bool true)), (23, cVal (.bool true)), (24, cVal (.bool true))] k a h lo with
 | [] => dbSeqF 0 db k a h lo
 | r => r } }
noncomputable def bdBkL (m : SMsg) (s : ByteArray) (l : Bool) : Bd := bdBk m s l []
noncomputable def bdBkA (m : SMsg) (s t : ByteArray) (x y : SMsg) (d : Int) : Bd := bdBk m s true [(21, 11, cVal (.tup [.str t, .int .i64 0])), (22, 20, cVal (.tup [.agg x.c, .int .i64 0])), (22, 36, cVal (.tup [.agg y.c, .int .i64 d])), (21, 46, cVal (.tup [.str s, .int .i64 0]))]
noncomputable def bdBkB (m : SMsg) (s t : ByteArray) (e : Int) (y : SMsg) (d : Int) : Bd := bdBk m s true [(21, 11, cVal (.tup [.str t, .int .i64 e])), (22, 20, cVal (.tup [.agg y.c, .int .i64 d])), (21, 30, cVal (.tup [.str s, .int .i64 0]))]
noncomputable def bdBg (m : SMsg) (cut : Int) (more : ByteArray) (l : Bool) (db : List (Nat × Nat × (List V → Heap → Nat → List Cl))) : Bd := { f := Try.f8, args := [.agg m.c, .int .i64 cut, .str more], kb := { db := fun k a h lo => match dbF [(19, cVal (.bool l)), (20, cVal (.bool true))] k a h lo with
 | [] => dbSeqF 0 db k a h lo
 | r => r } }
noncomputable def bdBgL (m : SMsg) (cut : Int) (more : ByteArray) (l : Bool) : Bd := bdBg m cut more l []
noncomputable def bdBgA (m : SMsg) (cut : Int) (more t : ByteArray) (e : Int) (x y : SMsg) (f g : Int) : Bd := bdBg m cut more true [(21, 11, cVal (.tup [.str t, .int .i64 e])), (22, 32, cVal (.tup [.agg x.c, .int .i64 f])), (22, 42, cVal (.tup [.agg y.c, .int .i64 g]))]
end Go.Proofs.Ythifjamdfpjilaa
