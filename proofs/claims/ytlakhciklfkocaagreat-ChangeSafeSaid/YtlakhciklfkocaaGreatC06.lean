/-
  Contracts and laws that the claim's theorem leans on, joined out of the texts Pd1 Pd2 Pa1D Pa1 SySha Ka1D Ka1 Ka2D Ka2 Kb0D Kb0 Pb0D Pb0 Ka6D (own work of this seat): Contracts: which batches a view begins with: what is held, one by one; Contracts: which batches a view begins with, joined; Contracts: as many nodes as a quorum has, for changes; Contracts: as many nodes as a quorum has, for changes; The digest's numbers, plainly; Contracts: what the digest's rounds compute; Contracts: what the digest's rounds compute; Contract: one block of the digest; Contract: one block of the digest; Contracts: numbers as bytes; Contracts: numbers as bytes; Contracts: numbers of either sign, requests and batches as bytes, as the document's answer has them; Contracts: numbers of either sign, requests and batches as bytes, as the document's answer has them; Contracts: the digest by the document: padding, one block.
-/
import Derived.Test.YtlakhciklfkocaaGreatC03
import Derived.Test.YtlakhciklfkocaaGreatC04
import Derived.Test.YtlakhciklfkocaaGreatC05
set_option linter.unusedVariables false
set_option linter.unusedSimpArgs false
set_option maxHeartbeats 1000000
namespace Go.Proofs.YtlakhciklfkocaaGreat
open Go Sy Go.Proofs
theorem pcYa_p (qq : Nat) (fn : FuncId) (n : Nat) (x : Nat → SChg) (sl : List Int) (k : Nat) (h : SHeld) (b : SBatch) (v : Int) :
  alongPc Tryz.prog (pcYa qq fn n x sl k h b v) [] = (some (.normal, St.mk [.any, .any, .any, .any, .any, .any, .any, .any, .any, .ptr (.o 1) 0 0 0 0, .ptr (.o 2) 0 0 0 0, .ptr (.o 7) 0 0 0 0, .any, .any, .any, .any, .any, .any, .any, .any, .any, .any, .any, .any, .any, .any, .any, .any, .any, .any, .any, .any, .any, .any, .any, .any, .any, .any, .any, .any, .any, .any] [(.o 6, B.loop fn (Array.mk [(25 : Tmp)]) [.any, .any, .ros 4 n (fun i => SChg.c (x i)) false, .any, .any, .any, .sl (.o 0) 2 0 0 0 k none, .any, .any, .ptr (.o 1) 0 0 0 0, .ptr (.o 2) 0 0 0 0, .any, .any, .any, .any, .ros 1 (List.length sl) (li sl) false, .int .i64 (↑(List.length sl) : Int), .int .i64 ↑k, .any, .any, .any, .any, .any, .any, .fn (.func (87 : FuncId)) [] [.ptr (.o 3) 0 0 0 0, .ptr (.o 4) 0 0 0 0], .any, .any, .any, .any, .any, .any, .any, .any, .any, .any, .any, .any, .any, .any, .any, .any, .any] (cA csG) (cY csG) LoopState.ready none), (.o 7, .flat (SHeld.c h)), (.o 1, .flat (SBatch.c b)), (.o 2, .flat [.int .i64 v])] 600 [], [q2, q (SBatch.noop (SHeld.batch h)), q (SBatch.n (SHeld.batch h)), ∀ (k : Nat), k < SBatch.n (SHeld.batch h) → SReq.c (SBatch.req (SHeld.batch h) k) = SReq.c (SBatch.req (SHeld.batch h) k), false = true → false = true, q (SVote.kind (SCert.vote (SHeld.cert h))), q (SVote.epoch (SCert.vote (SHeld.cert h))), q (SVote.view (SCert.vote (SHeld.cert h))), q (SVote.slot (SCert.vote (SHeld.cert h))), q (32 : Nat), q (SVote.digest (SCert.vote (SHeld.cert h))), q (SCert.n (SHeld.cert h)), ∀ (k : Nat), k < SCert.n (SHeld.cert h) → SSign.c (SCert.sig (SHeld.cert h) k) = SSign.c (SCert.sig (SHeld.cert h) k), false = true → false = true, q (SBatch.noop b), q (SBatch.n b), ∀ (k : Nat), k < SBatch.n b → SReq.c (SBatch.req b k) = SReq.c (SBatch.req b k), false = true → false = true, q v, q0, q0, q0, q0, q0, q0, q0, q0, q0]) : Option (Exit × St × List Prop)) := by kernel_rfl

theorem pcYb_p1 (qq : Nat) (fn : FuncId) (n : Nat) (x : Nat → SChg) (sl : List Int) (k : Nat) (h : SHeld) (b : SBatch) (v : Int) (b2 : SBatch) (v2 : Int) :
  alongPc Tryz.prog (pcYb qq fn n x sl k h b v b2 v2) [true] = (some (.normal, St.mk [.any, .any, .any, .any, .any, .any, .any, .any, .any, .any, .any, .any, .any, .any, .any, .any, .any, .any, .any, .any, .any, .any, .any, .any, .any, .any, .any, .any, .any, .any, .any, .any, .any, .any, .any, .any, .any, .any, .any, .any, .any, .any] [(.o 6, B.loop fn (Array.mk [(25 : Tmp)]) [.any, .any, .ros 4 n (fun i => SChg.c (x i)) false, .any, .any, .any, .sl (.o 0) 2 0 0 0 k none, .any, .any, .ptr (.o 1) 0 0 0 0, .ptr (.o 2) 0 0 0 0, .any, .any, .any, .any, .ros 1 (List.length sl) (li sl) false, .int .i64 (↑(List.length sl) : Int), .int .i64 ↑k, .any, .any, .any, .any, .any, .any, .fn (.func (87 : FuncId)) [] [.ptr (.o 3) 0 0 0 0, .ptr (.o 4) 0 0 0 0], .any, .any, .any, .any, .any, .any, .any, .any, .any, .any, .any, .any, .any, .any, .any, .any, .any] (cA csG) (cY csG) LoopState.busy none), (.o 1, .flat (SBatch.c b2)), (.o 2, .flat [.int .i64 v2])] 1000 [], [decide (v < SVote.view (SCert.vote (SHeld.cert h))) = true, q2, SBatch.noop (SHeld.batch h) = SBatch.noop b2, SBatch.n (SHeld.batch h) = SBatch.n b2, ∀ (k : Nat), k < SBatch.n (SHeld.batch h) → SReq.c (SBatch.req (SHeld.batch h) k) = SReq.c (SBatch.req b2 k), false = true → false = true, SVote.view (SCert.vote (SHeld.cert h)) = v2]) : Option (Exit × St × List Prop)) := by kernel_rfl
theorem pcYb_p0 (qq : Nat) (fn : FuncId) (n : Nat) (x : Nat → SChg) (sl : List Int) (k : Nat) (h : SHeld) (b : SBatch) (v : Int) (b2 : SBatch) (v2 : Int) :
  alongPc Tryz.prog (pcYb qq fn n x sl k h b v b2 v2) [false] = (some (.normal, St.mk [.any, .any, .any, .any, .any, .any, .any, .any, .any, .any, .any, .any, .any, .any, .any, .any, .any, .any, .any, .any, .any, .any, .any, .any, .any, .any, .any, .any, .any, .any, .any, .any, .any, .any, .any, .any, .any, .any, .any, .any, .any, .any] [(.o 6, B.loop fn (Array.mk [(25 : Tmp)]) [.any, .any, .ros 4 n (fun i => SChg.c (x i)) false, .any, .any, .any, .sl (.o 0) 2 0 0 0 k none, .any, .any, .ptr (.o 1) 0 0 0 0, .ptr (.o 2) 0 0 0 0, .any, .any, .any, .any, .ros 1 (List.length sl) (li sl) false, .int .i64 (↑(List.length sl) : Int), .int .i64 ↑k, .any, .any, .any, .any, .any, .any, .fn (.func (87 : FuncId)) [] [.ptr (.o 3) 0 0 0 0, .ptr (.o 4) 0 0 0 0], .any, .any, .any, .any, .any, .any, .any, .any, .any, .any, .any, .any, .any, .any, .any, .any, .any] (cA csG) (cY csG) LoopState.busy none), (.o 1, .flat (SBatch.c b2)), (.o 2, .flat [.int .i64 v2])] 1000 [], [decide (v < SVote.view (SCert.vote (SHeld.cert h))) = false, q2, SBatch.noop b = SBatch.noop b2, SBatch.n b = SBatch.n b2, ∀ (k : Nat), k < SBatch.n b → SReq.c (SBatch.req b k) = SReq.c (SBatch.req b2 k), false = true → false = true, v = v2]) : Option (Exit × St × List Prop)) := by kernel_rfl

theorem bdIt_p (fn : FuncId) (sl : List Int) (k : Nat) (n : Nat) (x : Nat → SChg) (s : Int) (b : SBatch) (v : Int) :
  along Tryz.prog (bdIt fn sl k n x s b v) [] = (some (.tup [], [(.o 6, B.loop fn (Array.mk [(25 : Tmp)]) [.any, .any, .ros 4 n (fun i => SChg.c (x i)) false, .any, .any, .any, .sl (.o 0) 2 0 0 0 k none, .any, .any, .ptr (.o 1) 0 0 0 0, .ptr (.o 2) 0 0 0 0, .any, .any, .any, .any, .ros 1 (List.length sl) (li sl) false, .int .i64 (↑(List.length sl) : Int), .int .i64 ↑k, .any, .any, .any, .any, .any, .any, .fn (.func (87 : FuncId)) [] [.ptr (.o 3) 0 0 0 0, .ptr (.o 4) 0 0 0 0], .any, .any, .any, .any, .any, .any, .any, .any, .any, .any, .any, .any, .any, .any, .any, .any, .any] (cA csG) (cY csG) LoopState.ready none), (.o 1, .flat (SBatch.c b)), (.o 2, .flat [.int .i64 v]), (.o 3, .flat [chv n x]), (.o 4, .flat [.int .i64 s])], [RLoop Tryz.prog none 7 (cB (cB (cR (bodyOf (Bd.f (bdIt fn sl k n x s b v)))))) (n + 1) (St.mk [V.yld (.o 6), .any, .ptr (.o 4) 0 0 0 0, .any, .any, .any, .any, .any, .ros 4 n (fun i => SChg.c (x i)) false, .int .i64 ↑n, .int .i64 0, .any, .any, .any, .any, .any, .any, .any, .any, .any, .any, .any, .any, .any, .any, .any, .any, .any, .any, .any, .any, .any, .any, .any, .any] [(.o 6, B.loop fn (Array.mk [(25 : Tmp)]) [.any, .any, .ros 4 n (fun i => SChg.c (x i)) false, .any, .any, .any, .sl (.o 0) 2 0 0 0 k none, .any, .any, .ptr (.o 1) 0 0 0 0, .ptr (.o 2) 0 0 0 0, .any, .any, .any, .any, .ros 1 (List.length sl) (li sl) false, .int .i64 (↑(List.length sl) : Int), .int .i64 ↑k, .any, .any, .any, .any, .any, .any, .fn (.func (87 : FuncId)) [] [.ptr (.o 3) 0 0 0 0, .ptr (.o 4) 0 0 0 0], .any, .any, .any, .any, .any, .any, .any, .any, .any, .any, .any, .any, .any, .any, .any, .any, .any] (cA csG) (cY csG) LoopState.ready none), (.o 1, .flat (SBatch.c (SBatch.mk true 0 fun x => SReq.mk (0 : Int) (0 : Int) ByteArray.empty []))), (.o 2, .flat [.int .i64 (-1 : Int)]), (.o 3, .flat [chv n x]), (.o 4, .flat [.int .i64 s])] 7 []) (.exit 0) (St.mk [V.yld (.o 6), .any, .ptr (.o 4) 0 0 0 0, .any, .any, .any, .any, .any, .ros 4 n (fun i => SChg.c (x i)) false, .int .i64 ↑n, .int .i64 ↑n, .any, .any, .any, .any, .any, .any, .any, .any, .any, .any, .any, .any, .any, .any, .any, .any, .any, .any, .any, .any, .any, .any, .any, .any] [(.o 6, B.loop fn (Array.mk [(25 : Tmp)]) [.any, .any, .ros 4 n (fun i => SChg.c (x i)) false, .any, .any, .any, .sl (.o 0) 2 0 0 0 k none, .any, .any, .ptr (.o 1) 0 0 0 0, .ptr (.o 2) 0 0 0 0, .any, .any, .any, .any, .ros 1 (List.length sl) (li sl) false, .int .i64 (↑(List.length sl) : Int), .int .i64 ↑k, .any, .any, .any, .any, .any, .any, .fn (.func (87 : FuncId)) [] [.ptr (.o 3) 0 0 0 0, .ptr (.o 4) 0 0 0 0], .any, .any, .any, .any, .any, .any, .any, .any, .any, .any, .any, .any, .any, .any, .any, .any, .any] (cA csG) (cY csG) LoopState.ready none), (.o 1, .flat (SBatch.c b)), (.o 2, .flat [.int .i64 v]), (.o 3, .flat [chv n x]), (.o 4, .flat [.int .i64 s])] 7 []), q2, q2, q0, ∀ (k : Nat), k < (0 : Nat) → SReq.c (SReq.mk (0 : Int) (0 : Int) ByteArray.empty []) = SReq.c (SReq.mk (0 : Int) (0 : Int) ByteArray.empty []), false = true → false = true, q (-1 : Int), q n, ∀ (k : Nat), k < n → SChg.c (x k) = SChg.c (x k), false = true → false = true, q s, q0, q0, q0, q n, ∀ (k : Nat), k < n → SChg.c (x k) = SChg.c (x k), false = true → false = true, q (↑n : Int), q1]) : Option (V × Heap × List Prop)) := by kernel_rfl

theorem pcIo_p1 (fn : FuncId) (ts : List V) (n : Nat) (x : Nat → SChg) (s : Int) (i : Nat) (b : SBatch) (v : Int) (b2 : SBatch) (v2 : Int) :
  alongPc Tryz.prog (pcIo fn ts n x s i b v b2 v2) [true] = (some (.normal, St.mk [V.yld (.o 6), .any, .ptr (.o 4) 0 0 0 0, .any, .any, .any, .any, .any, .ros 4 n (fun i => SChg.c (x i)) false, .int .i64 ↑n, .int .i64 (↑(i + 1) : Int), .any, .any, .any, .any, .any, .any, .any, .any, .any, .any, .any, .any, .any, .any, .any, .any, .any, .any, .any, .any, .any, .any, .any, .any] [(.o 6, B.loop fn (Array.mk [(25 : Tmp)]) ts (cA csG) (cY csG) LoopState.ready none), (.o 1, .flat (SBatch.c b2)), (.o 2, .flat [.int .i64 v2]), (.o 3, .flat [chv n x]), (.o 4, .flat [.int .i64 s])] 7 [], [decide ((↑i : Int) < (↑n : Int)) = true, (0 : Int) ≤ (↑i : Int) ∧ (↑i : Int) < (↑n : Int), RLoop Tryz.prog none 7 (cB (cB (cR (cR (cB (cL (cR (cR (Pc.c (pcIo fn ts n x s i b v b2 v2)))))))))) (SChg.hn (x i) + 1) (St.mk [V.yld (.o 6), .any, .ptr (.o 4) 0 0 0 0, .any, .any, .any, .any, .any, .ros 4 n (fun i => SChg.c (x i)) false, .int .i64 ↑n, .int .i64 ↑i, .any, .any, .any, .any, .ros 39 (SChg.hn (x i)) (fun i_1 => SHeld.c (SChg.hf (x i) i_1)) false, .int .i64 (↑(SChg.hn (x i)) : Int), .int .i64 0, .any, .any, .any, .any, .any, .any, .any, .any, .any, .any, .any, .any, .any, .any, .any, .any, .any] [(.o 6, B.loop fn (Array.mk [(25 : Tmp)]) ts (cA csG) (cY csG) LoopState.ready none), (.o 1, .flat (SBatch.c b)), (.o 2, .flat [.int .i64 v]), (.o 3, .flat [chv n x]), (.o 4, .flat [.int .i64 s])] 7 []) (.exit 2) (St.mk [V.yld (.o 6), .any, .ptr (.o 4) 0 0 0 0, .any, .any, .any, .any, .any, .ros 4 n (fun i => SChg.c (x i)) false, .int .i64 ↑n, .int .i64 ↑i, .any, .any, .any, .any, .ros 39 (SChg.hn (x i)) (fun i_1 => SHeld.c (SChg.hf (x i) i_1)) false, .int .i64 (↑(SChg.hn (x i)) : Int), .int .i64 (↑(SChg.hn (x i)) : Int), .any, .any, .any, .any, .any, .any, .any, .any, .any, .any, .any, .any, .any, .any, .any, .any, .any] [(.o 6, B.loop fn (Array.mk [(25 : Tmp)]) ts (cA csG) (cY csG) LoopState.ready none), (.o 1, .flat (SBatch.c b2)), (.o 2, .flat [.int .i64 v2]), (.o 3, .flat [chv n x]), (.o 4, .flat [.int .i64 s])] 7 []), B.within (Nm.pin (7 : Nat)) (B.loop fn (Array.mk [(25 : Tmp)]) ts (cA csG) (cY csG) LoopState.ready none) = true, q (SBatch.noop b), q (SBatch.n b), ∀ (k : Nat), k < SBatch.n b → SReq.c (SBatch.req b k) = SReq.c (SBatch.req b k), false = true → false = true, q v, q n, ∀ (k : Nat), k < n → SChg.c (x k) = SChg.c (x k), false = true → false = true, q s, q0, q0, q0, q n, ∀ (k : Nat), k < n → SChg.c (x k) = SChg.c (x k), false = true → false = true, q (↑n : Int), q (↑i : Int), SChg.hn (x (Int.toNat (↑i : Int))) = SChg.hn (x i), ∀ (k : Nat), k < SChg.hn (x (Int.toNat (↑i : Int))) → SHeld.c (SChg.hf (x (Int.toNat (↑i : Int))) k) = SHeld.c (SChg.hf (x i) k), false = true → false = true, (↑(SChg.hn (x (Int.toNat (↑i : Int)))) : Int) = (↑(SChg.hn (x i)) : Int), q1, InR IntKind.i64 ((↑i : Int) + (1 : Int)), B.within (Nm.pin (7 : Nat)) (B.loop fn (Array.mk [(25 : Tmp)]) ts (cA csG) (cY csG) LoopState.ready none) = true, q (SBatch.noop b2), q (SBatch.n b2), ∀ (k : Nat), k < SBatch.n b2 → SReq.c (SBatch.req b2 k) = SReq.c (SBatch.req b2 k), false = true → false = true, q v2, q n, ∀ (k : Nat), k < n → SChg.c (x k) = SChg.c (x k), false = true → false = true, q s, q0, q0, q0, q n, ∀ (k : Nat), k < n → SChg.c (x k) = SChg.c (x k), false = true → false = true, q (↑n : Int), (↑i : Int) + (1 : Int) = (↑(i + (1 : Nat)) : Int)]) : Option (Exit × St × List Prop)) := by kernel_rfl
theorem pcIo_p0 (fn : FuncId) (ts : List V) (n : Nat) (x : Nat → SChg) (s : Int) (i : Nat) (b : SBatch) (v : Int) (b2 : SBatch) (v2 : Int) :
  alongPc Tryz.prog (pcIo fn ts n x s i b v b2 v2) [false] = (some (.exit 0, St.mk [V.yld (.o 6), .any, .ptr (.o 4) 0 0 0 0, .any, .any, .any, .any, .any, .ros 4 n (fun i => SChg.c (x i)) false, .int .i64 ↑n, .int .i64 ↑i, .any, .any, .any, .any, .any, .any, .any, .any, .any, .any, .any, .any, .any, .any, .any, .any, .any, .any, .any, .any, .any, .any, .any, .any] [(.o 6, B.loop fn (Array.mk [(25 : Tmp)]) ts (cA csG) (cY csG) LoopState.ready none), (.o 1, .flat (SBatch.c b)), (.o 2, .flat [.int .i64 v]), (.o 3, .flat [chv n x]), (.o 4, .flat [.int .i64 s])] 7 [], [decide ((↑i : Int) < (↑n : Int)) = false, B.within (Nm.pin (7 : Nat)) (B.loop fn (Array.mk [(25 : Tmp)]) ts (cA csG) (cY csG) LoopState.ready none) = true, q (SBatch.noop b), q (SBatch.n b), ∀ (k : Nat), k < SBatch.n b → SReq.c (SBatch.req b k) = SReq.c (SBatch.req b k), false = true → false = true, q v, q n, ∀ (k : Nat), k < n → SChg.c (x k) = SChg.c (x k), false = true → false = true, q s, q0, q0, q0, q n, ∀ (k : Nat), k < n → SChg.c (x k) = SChg.c (x k), false = true → false = true, q (↑n : Int), q (↑i : Int)]) : Option (Exit × St × List Prop)) := by kernel_rfl

theorem pcIn_p110 (fn : FuncId) (ts : List V) (n : Nat) (x : Nat → SChg) (s : Int) (i : Nat) (j : Nat) (b : SBatch) (v : Int) (b2 : SBatch) (v2 : Int) :
  alongPc Tryz.prog (pcIn fn ts n x s i j b v b2 v2) [true, true, false] = (some (.normal, St.mk [V.yld (.o 6), .any, .ptr (.o 4) 0 0 0 0, .any, .any, .any, .any, .any, .ros 4 n (fun i => SChg.c (x i)) false, .int .i64 ↑n, .int .i64 ↑i, .any, .any, .any, .any, .ros 39 (SChg.hn (x i)) (fun i_1 => SHeld.c (SChg.hf (x i) i_1)) false, .int .i64 (↑(SChg.hn (x i)) : Int), .int .i64 (↑(j + 1) : Int), .any, .any, .any, .any, .any, .any, .any, .any, .any, .any, .any, .any, .any, .any, .any, .any, .any] [(.o 6, B.loop fn (Array.mk [(25 : Tmp)]) ts (cA csG) (cY csG) LoopState.ready none), (.o 1, .flat (SBatch.c b2)), (.o 2, .flat [.int .i64 v2]), (.o 3, .flat [chv n x]), (.o 4, .flat [.int .i64 s])] 7 [], [decide ((↑j : Int) < (↑(SChg.hn (x i)) : Int)) = true, (0 : Int) ≤ (↑j : Int) ∧ (↑j : Int) < (↑(SChg.hn (x i)) : Int), decide (SVote.slot (SCert.vote (SHeld.cert (SChg.hf (x i) (Int.toNat (↑j : Int))))) = s) = true, TV Tryz.prog (V.yld (Nm.o (6 : Nat))) [V.agg [V.bool (SBatch.noop (SHeld.batch (SChg.hf (x i) (Int.toNat (↑j : Int))))), rq (SBatch.n (SHeld.batch (SChg.hf (x i) (Int.toNat (↑j : Int))))) (SBatch.req (SHeld.batch (SChg.hf (x i) (Int.toNat (↑j : Int))))), V.int IntKind.i64 (SVote.kind (SCert.vote (SHeld.cert (SChg.hf (x i) (Int.toNat (↑j : Int)))))), V.int IntKind.i64 (SVote.epoch (SCert.vote (SHeld.cert (SChg.hf (x i) (Int.toNat (↑j : Int)))))), V.int IntKind.i64 (SVote.view (SCert.vote (SHeld.cert (SChg.hf (x i) (Int.toNat (↑j : Int)))))), V.int IntKind.i64 (SVote.slot (SCert.vote (SHeld.cert (SChg.hf (x i) (Int.toNat (↑j : Int)))))), V.seg IntKind.u8 (32 : Nat) (SVote.digest (SCert.vote (SHeld.cert (SChg.hf (x i) (Int.toNat (↑j : Int)))))), sg (SCert.n (SHeld.cert (SChg.hf (x i) (Int.toNat (↑j : Int))))) (SCert.sig (SHeld.cert (SChg.hf (x i) (Int.toNat (↑j : Int)))))]] [(Nm.o (6 : Nat), B.loop fn (Array.mk [(25 : Tmp)]) ts (cA csG) (cY csG) LoopState.ready none), (Nm.o (1 : Nat), B.flat (SBatch.c b)), (Nm.o (2 : Nat), B.flat [V.int IntKind.i64 v])] (V.bool true) [(Nm.o (6 : Nat), B.loop fn (Array.mk [(25 : Tmp)]) ts (cA csG) (cY csG) LoopState.ready none), (Nm.o (1 : Nat), B.flat (SBatch.c b2)), (Nm.o (2 : Nat), B.flat [V.int IntKind.i64 v2])], q false, InR IntKind.i64 ((↑j : Int) + (1 : Int)), B.within (Nm.pin (7 : Nat)) (B.loop fn (Array.mk [(25 : Tmp)]) ts (cA csG) (cY csG) LoopState.ready none) = true, q (SBatch.noop b2), q (SBatch.n b2), ∀ (k : Nat), k < SBatch.n b2 → SReq.c (SBatch.req b2 k) = SReq.c (SBatch.req b2 k), false = true → false = true, q v2, q n, ∀ (k : Nat), k < n → SChg.c (x k) = SChg.c (x k), false = true → false = true, q s, q0, q0, q0, q n, ∀ (k : Nat), k < n → SChg.c (x k) = SChg.c (x k), false = true → false = true, q (↑n : Int), q (↑i : Int), q (SChg.hn (x i)), ∀ (k : Nat), k < SChg.hn (x i) → SHeld.c (SChg.hf (x i) k) = SHeld.c (SChg.hf (x i) k), false = true → false = true, q (↑(SChg.hn (x i)) : Int), (↑j : Int) + (1 : Int) = (↑(j + (1 : Nat)) : Int)]) : Option (Exit × St × List Prop)) := by kernel_rfl
theorem pcIn_p100 (fn : FuncId) (ts : List V) (n : Nat) (x : Nat → SChg) (s : Int) (i : Nat) (j : Nat) (b : SBatch) (v : Int) (b2 : SBatch) (v2 : Int) :
  alongPc Tryz.prog (pcIn fn ts n x s i j b v b2 v2) [true, false, false] = (some (.normal, St.mk [V.yld (.o 6), .any, .ptr (.o 4) 0 0 0 0, .any, .any, .any, .any, .any, .ros 4 n (fun i => SChg.c (x i)) false, .int .i64 ↑n, .int .i64 ↑i, .any, .any, .any, .any, .ros 39 (SChg.hn (x i)) (fun i_1 => SHeld.c (SChg.hf (x i) i_1)) false, .int .i64 (↑(SChg.hn (x i)) : Int), .int .i64 (↑(j + 1) : Int), .any, .any, .any, .any, .any, .any, .any, .any, .any, .any, .any, .any, .any, .any, .any, .any, .any] [(.o 6, B.loop fn (Array.mk [(25 : Tmp)]) ts (cA csG) (cY csG) LoopState.ready none), (.o 1, .flat (SBatch.c b2)), (.o 2, .flat [.int .i64 v2]), (.o 3, .flat [chv n x]), (.o 4, .flat [.int .i64 s])] 7 [], [decide ((↑j : Int) < (↑(SChg.hn (x i)) : Int)) = true, (0 : Int) ≤ (↑j : Int) ∧ (↑j : Int) < (↑(SChg.hn (x i)) : Int), decide (SVote.slot (SCert.vote (SHeld.cert (SChg.hf (x i) (Int.toNat (↑j : Int))))) = s) = false, q false, InR IntKind.i64 ((↑j : Int) + (1 : Int)), B.within (Nm.pin (7 : Nat)) (B.loop fn (Array.mk [(25 : Tmp)]) ts (cA csG) (cY csG) LoopState.ready none) = true, SBatch.noop b = SBatch.noop b2, SBatch.n b = SBatch.n b2, ∀ (k : Nat), k < SBatch.n b → SReq.c (SBatch.req b k) = SReq.c (SBatch.req b2 k), false = true → false = true, v = v2, q n, ∀ (k : Nat), k < n → SChg.c (x k) = SChg.c (x k), false = true → false = true, q s, q0, q0, q0, q n, ∀ (k : Nat), k < n → SChg.c (x k) = SChg.c (x k), false = true → false = true, q (↑n : Int), q (↑i : Int), q (SChg.hn (x i)), ∀ (k : Nat), k < SChg.hn (x i) → SHeld.c (SChg.hf (x i) k) = SHeld.c (SChg.hf (x i) k), false = true → false = true, q (↑(SChg.hn (x i)) : Int), (↑j : Int) + (1 : Int) = (↑(j + (1 : Nat)) : Int)]) : Option (Exit × St × List Prop)) := by kernel_rfl
theorem pcIn_p0 (fn : FuncId) (ts : List V) (n : Nat) (x : Nat → SChg) (s : Int) (i : Nat) (j : Nat) (b : SBatch) (v : Int) (b2 : SBatch) (v2 : Int) :
  alongPc Tryz.prog (pcIn fn ts n x s i j b v b2 v2) [false] = (some (.exit 2, St.mk [V.yld (.o 6), .any, .ptr (.o 4) 0 0 0 0, .any, .any, .any, .any, .any, .ros 4 n (fun i => SChg.c (x i)) false, .int .i64 ↑n, .int .i64 ↑i, .any, .any, .any, .any, .ros 39 (SChg.hn (x i)) (fun i_1 => SHeld.c (SChg.hf (x i) i_1)) false, .int .i64 (↑(SChg.hn (x i)) : Int), .int .i64 ↑j, .any, .any, .any, .any, .any, .any, .any, .any, .any, .any, .any, .any, .any, .any, .any, .any, .any] [(.o 6, B.loop fn (Array.mk [(25 : Tmp)]) ts (cA csG) (cY csG) LoopState.ready none), (.o 1, .flat (SBatch.c b)), (.o 2, .flat [.int .i64 v]), (.o 3, .flat [chv n x]), (.o 4, .flat [.int .i64 s])] 7 [], [decide ((↑j : Int) < (↑(SChg.hn (x i)) : Int)) = false, B.within (Nm.pin (7 : Nat)) (B.loop fn (Array.mk [(25 : Tmp)]) ts (cA csG) (cY csG) LoopState.ready none) = true, q (SBatch.noop b), q (SBatch.n b), ∀ (k : Nat), k < SBatch.n b → SReq.c (SBatch.req b k) = SReq.c (SBatch.req b k), false = true → false = true, q v, q n, ∀ (k : Nat), k < n → SChg.c (x k) = SChg.c (x k), false = true → false = true, q s, q0, q0, q0, q n, ∀ (k : Nat), k < n → SChg.c (x k) = SChg.c (x k), false = true → false = true, q (↑n : Int), q (↑i : Int), q (SChg.hn (x i)), ∀ (k : Nat), k < SChg.hn (x i) → SHeld.c (SChg.hf (x i) k) = SHeld.c (SChg.hf (x i) k), false = true → false = true, q (↑(SChg.hn (x i)) : Int), q (↑j : Int)]) : Option (Exit × St × List Prop)) := by kernel_rfl

def upS (b : SBatch) (v : Int) (h : SHeld) : SBatch × Int := if v < h.cert.vote.view then (h.batch, h.cert.vote.view) else (b, v)
theorem yn (fn : FuncId) (n : Nat) (x : Nat → SChg) (sl : List Int) (k : Nat) (h : SHeld) (b : SBatch) (v : Int) : TV Tryz.prog (.yld (.o 6)) [.agg h.c] ((.o 6, rgB fn (csR n x sl k) .ready) :: yH b v) (.bool true) ((.o 6, rgB fn (csR n x sl k) .ready) :: yH (upS b v h).1 (upS b v h).2) := by
 refine TV_round (n := .o 6) (p := 7) (fn := fn) (ps := #[25]) (ts := csR n x sl k) (args := [.agg h.c]) (assign := cA csG) (body := cY csG) (h0 := yH b v) (h1 := (.o 7, .flat h.c) :: yH b v) (post := yH (upS b v h).1 (upS b v h).2) (rest2 := []) (st1 := ⟨yT, (.o 6, rgB fn (csR n x sl k) .ready) :: (.o 7, .flat h.c) :: yH b v, 600, []⟩) (st2 := ⟨mkT 42 [], (.o 6, rgB fn (csR n x sl k) .busy) :: yH (upS b v h).1 (upS b v h).2, 1000, []⟩) (e := .normal)
  rfl (pinH_ok (by kernel_rfl)) (by kernel_rfl) (fun q => ?_) (List.Perm.refl _) (by show 7 ≤ 600; decide) (fun q => ?_) (by rw [List.append_nil]; exact List.Perm.refl _) (by show 7 ≤ 1000; decide) .on (fun q hq => ⟨fun m => Nm.pin 7 m, ?_, fun m hm => .inl hm⟩)
 ·refine R_alongPc NG MO _ (pcYa_p q fn n x sl k h b v) ?_ (Nat.le_refl _)
  simp only [All]; and_intros
  all_goals first
   | exact True.intro
   | (with_reducible assumption)
   | (rw [decide_eq_true_eq]; omega)
   | (rw [decide_eq_false_iff_not]; omega)
   | with_reducible rfl
   | (intro _ _; exact True.intro)
   | (intro _ _; with_reducible rfl)
   | (intro _ _; rfl)
   | (simp only [IntKind.min, IntKind.max, IntKind.signed, IntKind.bits, if_true]; omega)
   | omega
   | (intro h; exact h)
   | (intro h; cases h; done)
   | exact .inl rfl
   | exact .inl True.intro
   | exact .inr rfl
   | (simp; done)
 ·by_cases hv : v < h.cert.vote.view
  ·rw [upS, if_pos hv]
   refine R_alongPc NG MO _ (pcYb_p1 q fn n x sl k h b v h.batch h.cert.vote.view) ?_ (by show 7 ≤ 600; decide)
   simp only [All]; and_intros
   all_goals first
    | exact True.intro
    | exact decide_eq_true hv
    | (with_reducible assumption)
    | (rw [decide_eq_true_eq]; omega)
    | (rw [decide_eq_false_iff_not]; omega)
    | with_reducible rfl
    | (intro _ _; exact True.intro)
    | (intro _ _; with_reducible rfl)
    | (intro _ _; rfl)
    | (simp only [IntKind.min, IntKind.max, IntKind.signed, IntKind.bits, if_true]; omega)
    | omega
    | (intro h; exact h)
    | (intro h; cases h; done)
    | exact .inl rfl
    | exact .inl True.intro
    | exact .inr rfl
    | (simp; done)
  ·rw [upS, if_neg hv]
   refine R_alongPc NG MO _ (pcYb_p0 q fn n x sl k h b v b v) ?_ (by show 7 ≤ 600; decide)
   simp only [All]; and_intros
   all_goals first
    | exact True.intro
    | exact decide_eq_false hv
    | (with_reducible assumption)
    | (rw [decide_eq_true_eq]; omega)
    | (rw [decide_eq_false_iff_not]; omega)
    | with_reducible rfl
    | (intro _ _; exact True.intro)
    | (intro _ _; with_reducible rfl)
    | (intro _ _; rfl)
    | (simp only [IntKind.min, IntKind.max, IntKind.signed, IntKind.bits, if_true]; omega)
    | omega
    | (intro h; exact h)
    | (intro h; cases h; done)
    | exact .inl rfl
    | exact .inl True.intro
    | exact .inr rfl
    | (simp; done)
 ·rcases List.mem_cons.1 hq with rfl | hq
  ·rfl
  ·rcases List.mem_cons.1 hq with rfl | hq
   ·rfl
   ·rcases List.mem_cons.1 hq with rfl | hq
    ·rfl
    ·cases hq
theorem upS_best {s : Int} {h : SHeld} (hs : h.cert.vote.slot = s) (hs0 : List SHeld) : upS (bestF s hs0).1 (bestF s hs0).2 h = bestF s (hs0 ++ [h]) := by
 rw [bestF_snoc, bestS, upS]
 by_cases hv : (bestF s hs0).2 < h.cert.vote.view
 ·rw [if_pos hv, if_pos ⟨hs, hv⟩]
 ·rw [if_neg hv, if_neg fun h => hv h.2]
theorem noS_best {s : Int} {h : SHeld} (hs : ¬ h.cert.vote.slot = s) (hs0 : List SHeld) : bestF s (hs0 ++ [h]) = bestF s hs0 := by
 rw [bestF_snoc, bestS, if_neg fun h => hs h.1]
theorem T_it (fn : FuncId) (n : Nat) (x : Nat → SChg) (sl : List Int) (k : Nat) (s : Int) (hn : n ≤ 1000000) (hx : ∀ i, i < n → (x i).hn ≤ 1000000) : T Tryz.prog 87 [.yld (.o 6), pO 3, pO 4] ((.o 6, rgB fn (csR n x sl k) .ready) :: csP n x noopB (-1) s) (.tup []) ((.o 6, rgB fn (csR n x sl k) .ready) :: csP n x (bestF s (hsL x n)).1 (bestF s (hsL x n)).2 s) := by
 have hw : B.within (Nm.pin 7) (rgB fn (csR n x sl k) .ready) = true := by kernel_rfl
 have hinner : ∀ i, i < n → RLoop Tryz.prog none 7 itE ((x i).hn + 1) (itN fn (csR n x sl k) n x s i 0 (bestF s (hsL x i)).1 (bestF s (hsL x i)).2) (.exit 2) (itN fn (csR n x sl k) n x s i (x i).hn (bestF s (hsL x (i + 1))).1 (bestF s (hsL x (i + 1))).2) := by
  intro i hi
  have hxi := hx i hi
  have hstep : ∀ j, j < (x i).hn → R Tryz.prog none 7 itE (itN fn (csR n x sl k) n x s i j (bestF s (hsL x i ++ hpL j (x i).hf)).1 (bestF s (hsL x i ++ hpL j (x i).hf)).2) .normal (itN fn (csR n x sl k) n x s i (j + 1) (bestF s (hsL x i ++ hpL (j + 1) (x i).hf)).1 (bestF s (hsL x i ++ hpL (j + 1) (x i).hf)).2) := by
   intro j hj
   have e : hsL x i ++ hpL (j + 1) (x i).hf = hsL x i ++ hpL j (x i).hf ++ [(x i).hf j] := by rw [hpL_succ, List.append_assoc]
   rw [e]
   generalize hsL x i ++ hpL j (x i).hf = H
   by_cases hq : ((x i).hf j).cert.vote.slot = s
   ·have hY := yn fn n x sl k ((x i).hf j) (bestF s H).1 (bestF s H).2
    rw [upS_best hq] at hY
    generalize bestF s (H ++ [(x i).hf j]) = q2 at *
    generalize bestF s H = q1 at *
    refine R_alongPc NG MO _ (pcIn_p110 fn (csR n x sl k) n x s i j q1.1 q1.2 q2.1 q2.2) ?_ (Nat.le_refl _)
    simp only [All, Int.toNat_natCast]; and_intros
    all_goals first
     | exact True.intro
     | exact hY
     | exact hw
     | exact decide_eq_true hq
     | (with_reducible assumption)
     | (rw [decide_eq_true_eq]; omega)
     | (rw [decide_eq_false_iff_not]; omega)
     | with_reducible rfl
     | (intro _ _; exact True.intro)
     | (intro _ _; with_reducible rfl)
     | (intro _ _; rfl)
     | (simp only [IntKind.min, IntKind.max, IntKind.signed, IntKind.bits, if_true]; omega)
     | omega
     | (intro h; exact h)
     | (intro h; cases h; done)
     | exact .inl rfl
     | exact .inl True.intro
     | exact .inr rfl
     | (simp; done)
   ·rw [noS_best hq]
    generalize bestF s H = q1 at *
    refine R_alongPc NG MO _ (pcIn_p100 fn (csR n x sl k) n x s i j q1.1 q1.2 q1.1 q1.2) ?_ (Nat.le_refl _)
    simp only [All, Int.toNat_natCast]; and_intros
    all_goals first
     | exact True.intro
     | exact hw
     | exact decide_eq_false hq
     | (with_reducible assumption)
     | (rw [decide_eq_true_eq]; omega)
     | (rw [decide_eq_false_iff_not]; omega)
     | with_reducible rfl
     | (intro _ _; exact True.intro)
     | (intro _ _; with_reducible rfl)
     | (intro _ _; rfl)
     | (simp only [IntKind.min, IntKind.max, IntKind.signed, IntKind.bits, if_true]; omega)
     | omega
     | (intro h; exact h)
     | (intro h; cases h; done)
     | exact .inl rfl
     | exact .inl True.intro
     | exact .inr rfl
     | (simp; done)
  have hend : R Tryz.prog none 7 itE (itN fn (csR n x sl k) n x s i (x i).hn (bestF s (hsL x (i + 1))).1 (bestF s (hsL x (i + 1))).2) (.exit 2) (itN fn (csR n x sl k) n x s i (x i).hn (bestF s (hsL x (i + 1))).1 (bestF s (hsL x (i + 1))).2) := by
   generalize bestF s (hsL x (i + 1)) = q1
   refine R_alongPc NG MO _ (pcIn_p0 fn (csR n x sl k) n x s i (x i).hn q1.1 q1.2 q1.1 q1.2) ?_ (Nat.le_refl _)
   simp only [All, Int.toNat_natCast]; and_intros
   all_goals first
    | exact True.intro
    | exact hw
    | (with_reducible assumption)
    | (rw [decide_eq_true_eq]; omega)
    | (rw [decide_eq_false_iff_not]; omega)
    | with_reducible rfl
    | (intro _ _; exact True.intro)
    | (intro _ _; with_reducible rfl)
    | (intro _ _; rfl)
    | (simp only [IntKind.min, IntKind.max, IntKind.signed, IntKind.bits, if_true]; omega)
    | omega
    | (intro h; exact h)
    | (intro h; cases h; done)
    | exact .inl rfl
    | exact .inl True.intro
    | exact .inr rfl
    | (simp; done)
  have := RLoop.inv (fun j => itN fn (csR n x sl k) n x s i j (bestF s (hsL x i ++ hpL j (x i).hf)).1 (bestF s (hsL x i ++ hpL j (x i).hf)).2) (x i).hn hstep hend (by simp)
  rw [show hpL 0 (x i).hf = [] from rfl, List.append_nil] at this
  exact this
 have hL : RLoop Tryz.prog none 7 itD (n + 1) (itO fn (csR n x sl k) n x s 0 (bestF s (hsL x 0)).1 (bestF s (hsL x 0)).2) (.exit 0) (itO fn (csR n x sl k) n x s n (bestF s (hsL x n)).1 (bestF s (hsL x n)).2) := by
  have hstep : ∀ i, i < n → R Tryz.prog none 7 itD (itO fn (csR n x sl k) n x s i (bestF s (hsL x i)).1 (bestF s (hsL x i)).2) .normal (itO fn (csR n x sl k) n x s (i + 1) (bestF s (hsL x (i + 1))).1 (bestF s (hsL x (i + 1))).2) := by
   intro i hi
   have hI := hinner i hi
   generalize bestF s (hsL x (i + 1)) = q2 at *
   generalize bestF s (hsL x i) = q1 at *
   refine R_alongPc NG MO _ (pcIo_p1 fn (csR n x sl k) n x s i q1.1 q1.2 q2.1 q2.2) ?_ (Nat.le_refl _)
   simp only [All, Int.toNat_natCast]; and_intros
   all_goals first
    | exact True.intro
    | exact hI
    | exact hw
    | (with_reducible assumption)
    | (rw [decide_eq_true_eq]; omega)
    | (rw [decide_eq_false_iff_not]; omega)
    | with_reducible rfl
    | (intro _ _; exact True.intro)
    | (intro _ _; with_reducible rfl)
    | (intro _ _; rfl)
    | (simp only [IntKind.min, IntKind.max, IntKind.signed, IntKind.bits, if_true]; omega)
    | omega
    | (intro h; exact h)
    | (intro h; cases h; done)
    | exact .inl rfl
    | exact .inl True.intro
    | exact .inr rfl
    | (simp; done)
  have hend : R Tryz.prog none 7 itD (itO fn (csR n x sl k) n x s n (bestF s (hsL x n)).1 (bestF s (hsL x n)).2) (.exit 0) (itO fn (csR n x sl k) n x s n (bestF s (hsL x n)).1 (bestF s (hsL x n)).2) := by
   generalize bestF s (hsL x n) = q1
   refine R_alongPc NG MO _ (pcIo_p0 fn (csR n x sl k) n x s n q1.1 q1.2 q1.1 q1.2) ?_ (Nat.le_refl _)
   simp only [All, Int.toNat_natCast]; and_intros
   all_goals first
    | exact True.intro
    | exact hw
    | (with_reducible assumption)
    | (rw [decide_eq_true_eq]; omega)
    | (rw [decide_eq_false_iff_not]; omega)
    | with_reducible rfl
    | (intro _ _; exact True.intro)
    | (intro _ _; with_reducible rfl)
    | (intro _ _; rfl)
    | (simp only [IntKind.min, IntKind.max, IntKind.signed, IntKind.bits, if_true]; omega)
    | omega
    | (intro h; exact h)
    | (intro h; cases h; done)
    | exact .inl rfl
    | exact .inl True.intro
    | exact .inr rfl
    | (simp; done)
  exact RLoop.inv (fun i => itO fn (csR n x sl k) n x s i (bestF s (hsL x i)).1 (bestF s (hsL x i)).2) n hstep hend (by simp)
 have e0 : bestF s (hsL x 0) = (noopB, -1) := rfl
 rw [e0] at hL
 generalize bestF s (hsL x n) = q1 at *
 refine T_al (bdIt_p fn sl k n x s q1.1 q1.2) Tryz.func87 ?_
 simp only [All]; and_intros
 all_goals first
  | exact True.intro
  | exact hL
  | exact hw
  | (with_reducible assumption)
  | (rw [decide_eq_true_eq]; omega)
  | (rw [decide_eq_false_iff_not]; omega)
  | with_reducible rfl
  | (intro _ _; exact True.intro)
  | (intro _ _; with_reducible rfl)
  | (intro _ _; rfl)
  | (simp only [IntKind.min, IntKind.max, IntKind.signed, IntKind.bits, if_true]; omega)
  | omega
  | (intro h; exact h)
  | (intro h; cases h; done)
  | exact .inl rfl
  | exact .inl True.intro
  | exact .inr rfl
  | (simp; done)
end Go.Proofs.YtlakhciklfkocaaGreat
namespace Go.Proofs.YtlakhciklfkocaaGreat
open Go Sy Go.Proofs
theorem csL_eq : csL = .seq (cL csL) (.seq (cL (cR csL)) (.seq (.block 1 csX) (cR (cR (cR csL))))) := by kernel_rfl
theorem csX_eq : csX = .seq (cL csX) (.seq (cL (cR csX)) (.seq (.seq (cL (cL (cR (cR csX)))) (.block 2 csG)) (cR (cR (cR csX))))) := by kernel_rfl
theorem csG_eq : csG = .rangeFunc (.tmp 24) #[25] (cA csG) (cY csG) := by kernel_rfl
theorem csC_eq : csC = .seq (cL csC) (.seq (.seq (cL (cL (cR csC))) (.block 0 (.loop csL))) (cR (cR csC))) := by kernel_rfl
theorem cs_range (n : Nat) (x : Nat → SChg) (sl : List Int) (O : Nat → SBatch) (k : Nat) (s : Int) (hn : n ≤ 1000000) (hx : ∀ i, i < n → (x i).hn ≤ 1000000) :
  RM Tryz.prog 0 csG (cs5 n x sl O k s) .normal (cs6 n x sl O k (bestF s (hsL x n)).1 (bestF s (hsL x n)).2 s) := by
 have hR : R Tryz.prog none 0 csG (cs5 n x sl O k s) .normal ⟨csR n x sl k, csP n x (bestF s (hsL x n)).1 (bestF s (hsL x n)).2 s ++ ((.o 5, .dfr) :: [(.o 0, bsB k O)]), 500, [.o 5]⟩ := by
  rw [csG_eq]
  refine R_range NG (st := cs5 n x sl O k s) (k := 87) (caps := [pO 3, pO 4]) (pre := csP n x noopB (-1) s) (rest := [(.o 0, bsB k O)]) (post := csP n x (bestF s (hsL x n)).1 (bestF s (hsL x n)).2 s) (val := .tup []) (s := .ready) (pe := none) (nx := 500) (Nat.zero_le _) (by kernel_rfl) (by kernel_rfl) (List.Perm.refl _) (fun fn => T_it fn n x sl k s hn hx) (by decide) (fun m hm => .inl ?_) (by show 5 + 2 ≤ 500; decide) .on
  have h1 := dom_map.1 hm
  have h2 : m ∈ (csP n x noopB (-1) s).map Prod.fst := h1
  exact dom_map.2 h2
 refine RM.forget (h := csP n x (bestF s (hsL x n)).1 (bestF s (hsL x n)).2 s ++ ((.o 5, .dfr) :: [(.o 0, bsB k O)])) (n := .o 5) (RM.of_R hR) ?_
 exact List.perm_middle
def chO (e : SEp) (ld : Int) (n : Nat) (x : Nat → SChg) : Nat → SBatch := fun k => (bestF ((slotsE e ld).getD k 0) (hsL x n)).1
theorem cs_step (n : Nat) (x : Nat → SChg) (sl : List Int) (O : Nat → SBatch) (hO : O = fun k => (bestF (sl.getD k 0) (hsL x n)).1) (hsl : sl.length ≤ 1000000) (hn : n ≤ 1000000) (hx : ∀ i, i < n → (x i).hn ≤ 1000000) (k : Nat) (hk : k < sl.length) : RM Tryz.prog 0 csL (csI n x sl O k) .normal (csI n x sl O (k + 1)) := by
 have hOk : O k = (bestF (sl.getD k 0) (hsL x n)).1 := by rw [hO]
 have h2 : R Tryz.prog none 0 (cL csL) (csI n x sl O k) .normal (csA n x sl O k true) := by
  refine R_alongPc NG MO _ (pcC2_p n x sl O k true) ?_ (Nat.zero_le _)
  simp only [All]; and_intros
  all_goals first
   | exact True.intro
   | (with_reducible assumption)
   | (rw [decide_eq_true_eq]; omega)
   | (rw [decide_eq_false_iff_not]; omega)
   | with_reducible rfl
   | (intro _ _; exact True.intro)
   | (intro _ _; with_reducible rfl)
   | (intro _ _; rfl)
   | (simp only [IntKind.min, IntKind.max, IntKind.signed, IntKind.bits, if_true]; omega)
   | omega
   | (intro h; exact h)
   | (intro h; cases h; done)
   | exact .inl rfl
   | exact .inl True.intro
   | exact .inr rfl
   | (simp; done)
 have hi : R Tryz.prog none 0 (cL (cR csL)) (csA n x sl O k true) .normal (csI n x sl O k) := by
  refine R_alongPc NG MO _ (pcCi_p1 n x sl O k) ?_ (Nat.zero_le _)
  simp only [All]; and_intros
  all_goals first
   | exact True.intro
   | (with_reducible assumption)
   | (rw [decide_eq_true_eq]; omega)
   | (rw [decide_eq_false_iff_not]; omega)
   | with_reducible rfl
   | (intro _ _; exact True.intro)
   | (intro _ _; with_reducible rfl)
   | (intro _ _; rfl)
   | (simp only [IntKind.min, IntKind.max, IntKind.signed, IntKind.bits, if_true]; omega)
   | omega
   | (intro h; exact h)
   | (intro h; cases h; done)
   | exact .inl rfl
   | exact .inl True.intro
   | exact .inr rfl
   | (simp; done)
 have h3 : R Tryz.prog none 0 (cL csX) (csI n x sl O k) .normal (csB n x sl O k (sl.getD k 0)) := by
  refine R_alongPc NG MO _ (pcC3_p n x sl O k (sl.getD k 0)) ?_ (Nat.zero_le _)
  simp only [All, Int.toNat_natCast]; and_intros
  all_goals first
   | exact True.intro
   | (with_reducible assumption)
   | (rw [decide_eq_true_eq]; omega)
   | (rw [decide_eq_false_iff_not]; omega)
   | with_reducible rfl
   | (intro _ _; exact True.intro)
   | (intro _ _; with_reducible rfl)
   | (intro _ _; rfl)
   | (simp only [IntKind.min, IntKind.max, IntKind.signed, IntKind.bits, if_true]; omega)
   | omega
   | (intro h; exact h)
   | (intro h; cases h; done)
   | exact .inl rfl
   | exact .inl True.intro
   | exact .inr rfl
   | (simp; done)
 generalize sl.getD k 0 = s at *
 have hN := T_no
 have hH := T_he n x s
 have h4 : R Tryz.prog none 0 (cL (cR csX)) (csB n x sl O k s) .normal (cs4 n x sl O k s) := by
  refine R_alongPc NG MO _ (pcC4_p n x sl O k s) ?_ (Nat.zero_le _)
  simp only [All]; and_intros
  all_goals first
   | exact True.intro
   | exact hN
   | (with_reducible assumption)
   | (rw [decide_eq_true_eq]; omega)
   | (rw [decide_eq_false_iff_not]; omega)
   | with_reducible rfl
   | (intro _ _; exact True.intro)
   | (intro _ _; with_reducible rfl)
   | (intro _ _; rfl)
   | (simp only [IntKind.min, IntKind.max, IntKind.signed, IntKind.bits, if_true]; omega)
   | omega
   | (intro h; exact h)
   | (intro h; cases h; done)
   | exact .inl rfl
   | exact .inl True.intro
   | exact .inr rfl
   | (simp; done)
 have h5 : R Tryz.prog none 0 (cL (cL (cR (cR csX)))) (cs4 n x sl O k s) .normal (cs5 n x sl O k s) := by
  refine R_alongPc NG MO _ (pcC5_p n x sl O k s) ?_ (Nat.zero_le _)
  simp only [All]; and_intros
  all_goals first
   | exact True.intro
   | exact hH
   | (with_reducible assumption)
   | (rw [decide_eq_true_eq]; omega)
   | (rw [decide_eq_false_iff_not]; omega)
   | with_reducible rfl
   | (intro _ _; exact True.intro)
   | (intro _ _; with_reducible rfl)
   | (intro _ _; rfl)
   | (simp only [IntKind.min, IntKind.max, IntKind.signed, IntKind.bits, if_true]; omega)
   | omega
   | (intro h; exact h)
   | (intro h; cases h; done)
   | exact .inl rfl
   | exact .inl True.intro
   | exact .inr rfl
   | (simp; done)
 have hG := cs_range n x sl O k s hn hx
 have h6 : R Tryz.prog none 0 (cR (cR (cR csX))) (cs6 n x sl O k (bestF s (hsL x n)).1 (bestF s (hsL x n)).2 s) .normal (cs7 n x sl O k) := by
  rw [← hOk]
  generalize (bestF s (hsL x n)).2 = v
  refine R_alongPc NG MO _ (pcC6_p n x sl O O k (O k) v s) ?_ (Nat.zero_le _)
  simp only [All]; and_intros
  all_goals first
   | exact True.intro
   | (intro j hj; obtain rfl : j = 0 := (by omega); rfl)
   | (intro j hj; unfold catF; cases hb : Nat.blt j k with
     | true => rfl
     | false =>
      have : ¬ j < k := by rw [← Nat.blt_eq, hb]; simp
      obtain rfl : j = k := by omega
      rw [cond_false, Nat.sub_self]; rfl)
   | omega
   | (intro _ _; exact True.intro)
   | (intro _ _; rfl)
   | (intro h; exact h)
   | exact .inl True.intro
   | exact .inl rfl
 have h7 : R Tryz.prog none 0 (cR (cR (cR csL))) (cs7 n x sl O k) .normal (csI n x sl O (k + 1)) := by
  refine R_alongPc NG MO _ (pcC7_p n x sl O k) ?_ (Nat.zero_le _)
  simp only [All]; and_intros
  all_goals first
   | exact True.intro
   | (with_reducible assumption)
   | (rw [decide_eq_true_eq]; omega)
   | (rw [decide_eq_false_iff_not]; omega)
   | with_reducible rfl
   | (intro _ _; exact True.intro)
   | (intro _ _; with_reducible rfl)
   | (intro _ _; rfl)
   | (simp only [IntKind.min, IntKind.max, IntKind.signed, IntKind.bits, if_true]; omega)
   | omega
   | (intro h; exact h)
   | (intro h; cases h; done)
   | exact .inl rfl
   | exact .inl True.intro
   | exact .inr rfl
   | (simp; done)
 have hX : RM Tryz.prog 0 csX (csI n x sl O k) .normal (cs7 n x sl O k) := by
  rw [csX_eq]
  exact RM.seq (RM.of_R h3) (RM.seq (RM.of_R h4) (RM.seq (RM.seq (RM.of_R h5) (RM.block hG)) (RM.of_R h6)))
 rw [csL_eq]
 exact RM.seq (RM.of_R h2) (RM.seq (RM.of_R hi) (RM.seq (RM.block hX) (RM.of_R h7)))
theorem slotsE_len (e : SEp) (ld : Int) : (slotsE e ld).length ≤ 256 := by
 rw [slotsE]
 split
 ·rename_i ha
  have hg : goodEp e = true := by rw [askB, Bool.and_eq_true] at ha; exact ha.1
  simp only [goodEp, Bool.and_eq_true, decide_eq_true_eq] at hg
  have hs := sizeB hg.1 hg.2.2.2.1
  have := slotL_len e ld (sizeE e).toNat
  omega
 ·simp
theorem T_cho (e : SEp) (ld : Int) (n : Nat) (x : Nat → SChg) (hl : e.lead.length ≤ 1000000) (hn : n ≤ 1000000) (hx : ∀ i, i < n → (x i).hn ≤ 1000000) : T Tryz.prog 16 [.agg e.c, .int .i64 ld, chv n x] [] (bsl 0 (slotsE e ld).length) [(.o 0, bsB (slotsE e ld).length (chO e ld n x))] := by
 have hS := T_sl e ld hl
 have hO : chO e ld n x = fun k => (bestF ((slotsE e ld).getD k 0) (hsL x n)).1 := rfl
 have hlen := slotsE_len e ld
 generalize chO e ld n x = O at *
 generalize slotsE e ld = sl at *
 have hstep := cs_step n x sl O hO (by omega) hn hx
 have hend : RM Tryz.prog 0 csL (csI n x sl O sl.length) (.exit 0) (csI n x sl O sl.length) := by
  have h2 : R Tryz.prog none 0 (cL csL) (csI n x sl O sl.length) .normal (csA n x sl O sl.length false) := by
   refine R_alongPc NG MO _ (pcC2_p n x sl O sl.length false) ?_ (Nat.zero_le _)
   simp only [All]; and_intros
   all_goals first
    | exact True.intro
    | (with_reducible assumption)
    | (rw [decide_eq_true_eq]; omega)
    | (rw [decide_eq_false_iff_not]; omega)
    | with_reducible rfl
    | (intro _ _; exact True.intro)
    | (intro _ _; with_reducible rfl)
    | (intro _ _; rfl)
    | (simp only [IntKind.min, IntKind.max, IntKind.signed, IntKind.bits, if_true]; omega)
    | omega
    | (intro h; exact h)
    | (intro h; cases h; done)
    | exact .inl rfl
    | exact .inl True.intro
    | exact .inr rfl
    | (simp; done)
  have hi : R Tryz.prog none 0 (cL (cR csL)) (csA n x sl O sl.length false) (.exit 0) (csI n x sl O sl.length) := by
   refine R_alongPc NG MO _ (pcCx_p0 n x sl O sl.length) ?_ (Nat.zero_le _)
   simp only [All]; and_intros
   all_goals first
    | exact True.intro
    | (with_reducible assumption)
    | (rw [decide_eq_true_eq]; omega)
    | (rw [decide_eq_false_iff_not]; omega)
    | with_reducible rfl
    | (intro _ _; exact True.intro)
    | (intro _ _; with_reducible rfl)
    | (intro _ _; rfl)
    | (simp only [IntKind.min, IntKind.max, IntKind.signed, IntKind.bits, if_true]; omega)
    | omega
    | (intro h; exact h)
    | (intro h; cases h; done)
    | exact .inl rfl
    | exact .inl True.intro
    | exact .inr rfl
    | (simp; done)
  rw [csL_eq]
  exact RM.seq (RM.of_R h2) (RM.seq_out (RM.of_R hi) (by simp))
 have h0 : R Tryz.prog none 0 (cL csC) ⟨[.agg e.c, .int .i64 ld, chv n x] ++ List.replicate 39 (.tup []), [], 0, []⟩ .normal ⟨mkT 42 [(1, .int .i64 ld), (2, chv n x), (3, pO 0), (6, .snil)], [(.o 0, .flat e.c)], 1, []⟩ := by
  refine R_alongPc NG MO _ (pcC0_p e ld n x) ?_ (Nat.zero_le _)
  simp only [All]; and_intros
  all_goals first
   | exact True.intro
   | (with_reducible assumption)
   | (rw [decide_eq_true_eq]; omega)
   | (rw [decide_eq_false_iff_not]; omega)
   | with_reducible rfl
   | (intro _ _; exact True.intro)
   | (intro _ _; with_reducible rfl)
   | (intro _ _; rfl)
   | (simp only [IntKind.min, IntKind.max, IntKind.signed, IntKind.bits, if_true]; omega)
   | omega
   | (intro h; exact h)
   | (intro h; cases h; done)
   | exact .inl rfl
   | exact .inl True.intro
   | exact .inr rfl
   | (simp; done)
 have h1 : R Tryz.prog none 0 (cL (cL (cR csC))) ⟨mkT 42 [(1, .int .i64 ld), (2, chv n x), (3, pO 0), (6, .snil)], [(.o 0, .flat e.c)], 1, []⟩ .normal (csI n x sl O 0) := by
  refine R_alongPc NG MO _ (pcC1_p e ld n x sl O) ?_ (Nat.zero_le _)
  simp only [All]; and_intros
  all_goals first
   | exact True.intro
   | exact hS
   | (intro k hk; exact absurd hk (Nat.not_lt_zero k))
   | (with_reducible assumption)
   | (rw [decide_eq_true_eq]; omega)
   | (rw [decide_eq_false_iff_not]; omega)
   | with_reducible rfl
   | (intro _ _; exact True.intro)
   | (intro _ _; with_reducible rfl)
   | (intro _ _; rfl)
   | (simp only [IntKind.min, IntKind.max, IntKind.signed, IntKind.bits, if_true]; omega)
   | omega
   | (intro h; exact h)
   | (intro h; cases h; done)
   | exact .inl rfl
   | exact .inl True.intro
   | exact .inr rfl
   | (simp; done)
 have h8 : R Tryz.prog none 0 (cR (cR csC)) (csI n x sl O sl.length) .ret ⟨mkT 42 [(6, bsl 0 sl.length)], [(.o 0, bsB sl.length O)], 1, []⟩ := by
  refine R_alongPc NG MO _ (pcC8_p n x sl O sl.length) ?_ (Nat.zero_le _)
  simp only [All]; and_intros
  all_goals first
   | exact True.intro
   | (with_reducible assumption)
   | (rw [decide_eq_true_eq]; omega)
   | (rw [decide_eq_false_iff_not]; omega)
   | with_reducible rfl
   | (intro _ _; exact True.intro)
   | (intro _ _; with_reducible rfl)
   | (intro _ _; rfl)
   | (simp only [IntKind.min, IntKind.max, IntKind.signed, IntKind.bits, if_true]; omega)
   | omega
   | (intro h; exact h)
   | (intro h; cases h; done)
   | exact .inl rfl
   | exact .inl True.intro
   | exact .inr rfl
   | (simp; done)
 have hC : RM Tryz.prog 0 csC ⟨[.agg e.c, .int .i64 ld, chv n x] ++ List.replicate 39 (.tup []), [], 0, []⟩ .ret ⟨mkT 42 [(6, bsl 0 sl.length)], [(.o 0, bsB sl.length O)], 1, []⟩ := by
  rw [csC_eq]
  exact RM.seq (RM.of_R h0) (RM.seq (RM.seq (RM.of_R h1) (RM.block_exit (RM.loop (RLoopM.inv (fun k => csI n x sl O k) sl.length hstep hend (by simp))))) (RM.of_R h8))
 have e39 : Tryz.f16.ntmps - [V.agg e.c, V.int .i64 ld, chv n x].length = 39 := by kernel_rfl
 refine T_of_endM (fn := Tryz.f16) (c := csC) (base := 0) (names := [.o 0]) (e := .ret) (st := ⟨mkT 42 [(6, bsl 0 sl.length)], [(.o 0, bsB sl.length O)], 1, []⟩) (c0 := []) (cs := []) Tryz.func16 (by kernel_rfl) ?_ rfl (by kernel_rfl) trivial (pinH_ok (by kernel_rfl)) (by kernel_rfl)
 rw [e39]; exact hC
end Go.Proofs.YtlakhciklfkocaaGreat
namespace Go.Proofs.YtlakhciklfkocaaGreat
open Go Sy Go.Proofs
def bX (X : Nat → Bool) : Nat → List V := fun q => [.bool (X q)]
def sX (m N : Nat) : V := .sl (.o m) 1 0 0 0 N none
def bB (N : Nat) (X : Nat → Bool) : B := .rows 1 N (bX X) true
def chI (N : Nat) (l : List Int) (i k : Nat) (X : Nat → Bool) : St := ⟨mkT 44 [(0, .int .i64 N), (1, lr l), (5, sX 0 N), (6, .int .i64 k), (7, .int .i64 i)], [(.o 0, bB N X)], 1, []⟩
noncomputable def bdCh (N : Nat) (l : List Int) (m k : Nat) (X : Nat → Bool) : Bd := { f := Tryz.f14, args := [.int .i64 N, lr l], kb := { db := fun _ _ _ _ => [], lp := fun _ t => match getV t.tmps 5 with | .sl a _ _ _ _ _ _ => [(True, .loop (m + 1) (wToS [(.o 0, a)] (chI N l 0 0 (fun _ => false))) (.exit 0) (chI N l m k X))] | _ => [] }, names := fun _ => [.o 0] }
noncomputable def pcCh (N : Nat) (l : List Int) (i k : Nat) (X : Nat → Bool) (k2 : Nat) (X2 : Nat → Bool) (most : Int) : Pc := { c := (cB (cB (cR (cL (cR (cR (cR (bodyOf Tryz.f14)))))))), st := chI N l i k X, kb := { db := dbQ [(53, cVal (.int .i64 most))] }, k := fun e _ => match e with
 | .normal => some (wTo (chI N l (i + 1) k2 X2))
 | _ => some (wTo (chI N l i k X)) }
end Go.Proofs.YtlakhciklfkocaaGreat
namespace Go.Proofs.YtlakhciklfkocaaGreat
open Go Sy Go.Proofs
theorem bdCh_p (N : Nat) (l : List Int) (m : Nat) (k : Nat) (X : Nat → Bool) :
  along Tryz.prog (bdCh N l m k X) [] = some (V.sl (Nm.o (0 : Nat)) (1 : Nat) (0 : Nat) (0 : Nat) (0 : Nat) N none, [(Nm.o (0 : Nat), B.rows (1 : Nat) N (bX X) true)], [(0 : Int) ≤ (↑N : Int) ∧ (↑N : Int) ≤ (↑N : Int), (1 : Int) * (↑N : Int) ≤ (281474976710656 : Int), (↑N : Int) ≤ (281474976710656 : Int), RLoop Tryz.prog none (0 : Nat) (cB (cB (cR (cL (cR (cR (cR (bodyOf (Bd.f (bdCh N l m k X)))))))))) (m + (1 : Nat)) (St.mk [V.int IntKind.i64 (↑N : Int), V.ros (1 : Nat) (List.length l) (li l) false, V.any, V.any, V.any, V.sl (Nm.o (0 : Nat)) (1 : Nat) (0 : Nat) (0 : Nat) (0 : Nat) N none, V.int IntKind.i64 (0 : Int), V.int IntKind.i64 (0 : Int), V.any, V.any, V.any, V.any, V.any, V.any, V.any, V.any, V.any, V.any, V.any, V.any, V.any, V.any, V.any, V.any, V.any, V.any, V.any, V.any, V.any, V.any, V.any, V.any, V.any, V.any, V.any, V.any, V.any, V.any, V.any, V.any, V.any, V.any, V.any, V.any] [(Nm.o (0 : Nat), B.rows (1 : Nat) N (bX fun x => false) true)] (1 : Nat) []) (Exit.exit (0 : Nat)) (St.mk [V.int IntKind.i64 (↑N : Int), V.ros (1 : Nat) (List.length l) (li l) false, V.any, V.any, V.any, V.sl (Nm.o (0 : Nat)) (1 : Nat) (0 : Nat) (0 : Nat) (0 : Nat) N none, V.int IntKind.i64 (↑k : Int), V.int IntKind.i64 (↑m : Int), V.any, V.any, V.any, V.any, V.any, V.any, V.any, V.any, V.any, V.any, V.any, V.any, V.any, V.any, V.any, V.any, V.any, V.any, V.any, V.any, V.any, V.any, V.any, V.any, V.any, V.any, V.any, V.any, V.any, V.any, V.any, V.any, V.any, V.any, V.any, V.any] [(Nm.o (0 : Nat), B.rows (1 : Nat) N (bX X) true)] (1 : Nat) []), Int.toNat (↑N : Int) = N, ∀ (k : Nat), k < Int.toNat (↑N : Int) → [V.bool false] = [V.bool false], true = false → false = false, (↑N : Int) = (↑N : Int), List.length l = List.length l, ∀ (k : Nat), k < List.length l → [V.int IntKind.i64 (List.getD l k (0 : Int))] = [V.int IntKind.i64 (List.getD l k (0 : Int))], false = true → false = true, (0 : Nat) = (0 : Nat), (0 : Nat) = (0 : Nat), (0 : Nat) = (0 : Nat), Int.toNat (↑N : Int) = N, (none : Option Nat) = none ∨ none = some (Int.toNat (↑N : Int)), (0 : Int) = (0 : Int), (0 : Int) = (0 : Int)]) := by kernel_rfl

noncomputable def pcCh_c (N : Nat) (l : List Int) (i : Nat) (k : Nat) (X : Nat → Bool) (k2 : Nat) (X2 : Nat → Bool) (most : Int) : Nat → List Prop
 | 0 => [decide ((↑k : Int) < most) = true, (0 : Int) ≤ (↑i : Int) ∧ (0 : Int) < (↑N : Int)]
 | 1 => [decide ((↑i : Int) < (↑(List.length l) : Int)) = true, (0 : Int) ≤ (↑i : Int) ∧ (↑i : Int) < (↑(List.length l) : Int), (0 : Int) ≤ IntKind.wrap IntKind.u64 (List.getD l (Int.toNat (↑i : Int)) (0 : Int)) ∧ (0 : Int) < IntKind.wrap IntKind.u64 (↑N : Int), InR IntKind.i64 (IntKind.wrap IntKind.u64 (List.getD l (Int.toNat (↑i : Int)) (0 : Int)) % IntKind.wrap IntKind.u64 (↑N : Int)), (0 : Int) ≤ IntKind.wrap IntKind.u64 (List.getD l (Int.toNat (↑i : Int)) (0 : Int)) % IntKind.wrap IntKind.u64 (↑N : Int) ∧ IntKind.wrap IntKind.u64 (List.getD l (Int.toNat (↑i : Int)) (0 : Int)) % IntKind.wrap IntKind.u64 (↑N : Int) < (↑N : Int), (0 : Nat) + Int.toNat (IntKind.wrap IntKind.u64 (List.getD l (Int.toNat (↑i : Int)) (0 : Int)) % IntKind.wrap IntKind.u64 (↑N : Int)) < N]
 | 2 => [decide ((↑i : Int) < (↑(List.length l) : Int)) = false, (0 : Int) ≤ (↑i : Int) % (↑N : Int) ∧ (↑i : Int) % (↑N : Int) < (↑N : Int), (0 : Nat) + Int.toNat ((↑i : Int) % (↑N : Int)) < N]
 | _ => []
theorem pcCh_p111 (N : Nat) (l : List Int) (i : Nat) (k : Nat) (X : Nat → Bool) (k2 : Nat) (X2 : Nat → Bool) (most : Int) :
 alongPc Tryz.prog (pcCh N l i k X k2 X2 most) [true, true, true] = (some (.normal, St.mk [.int .i64 ↑N, .ros 1 (List.length l) (li l) false, .any, .any, .any, .sl (.o 0) 1 0 0 0 N none, .int .i64 ↑k2, .int .i64 (↑(i + 1) : Int), .any, .any, .any, .any, .any, .any, .any, .any, .any, .any, .any, .any, .any, .any, .any, .any, .any, .any, .any, .any, .any, .any, .any, .any, .any, .any, .any, .any, .any, .any, .any, .any, .any, .any, .any, .any] [(.o 0, .rows 1 N (bX X2) true)] 1 [], [T Tryz.prog 53 [.int .i64 ↑N] [] (.int .i64 most) []] ++ (pcCh_c N l i k X k2 X2 most 0 ++ (pcCh_c N l i k X k2 X2 most 1 ++ [(!X ((0 : Nat) + Int.toNat (IntKind.wrap IntKind.u64 (List.getD l (Int.toNat (↑i : Int)) (0 : Int)) % IntKind.wrap IntKind.u64 (↑N : Int)))) = true, (0 : Int) ≤ IntKind.wrap IntKind.u64 (List.getD l (Int.toNat (↑i : Int)) (0 : Int)) % IntKind.wrap IntKind.u64 (↑N : Int) ∧ IntKind.wrap IntKind.u64 (List.getD l (Int.toNat (↑i : Int)) (0 : Int)) % IntKind.wrap IntKind.u64 (↑N : Int) < (↑N : Int), (0 : Nat) + Int.toNat (IntKind.wrap IntKind.u64 (List.getD l (Int.toNat (↑i : Int)) (0 : Int)) % IntKind.wrap IntKind.u64 (↑N : Int)) < N, InR IntKind.i64 ((↑k : Int) + (1 : Int)), InR IntKind.i64 ((↑i : Int) + (1 : Int)), q N, ∀ (k : Nat), k < N → Bool.rec [V.bool (X k)] [V.bool true] (Nat.beq k ((0 : Nat) + Int.toNat (IntKind.wrap IntKind.u64 (List.getD l (Int.toNat (↑i : Int)) (0 : Int)) % IntKind.wrap IntKind.u64 (↑N : Int)))) = [V.bool (X2 k)], true = false → true = false, q (↑N : Int), q (List.length l), ∀ (k : Nat), k < List.length l → [V.int IntKind.i64 (List.getD l k (0 : Int))] = [V.int IntKind.i64 (List.getD l k (0 : Int))], false = true → false = true, q0, q0, q0, q N, (none : Option Nat) = none ∨ (none : Option Nat) = none, (↑k : Int) + (1 : Int) = (↑k2 : Int), (↑i : Int) + (1 : Int) = (↑(i + (1 : Nat)) : Int)]))) : Option (Exit × St × List Prop)) := by kernel_rfl
theorem pcCh_p110 (N : Nat) (l : List Int) (i : Nat) (k : Nat) (X : Nat → Bool) (k2 : Nat) (X2 : Nat → Bool) (most : Int) :
 alongPc Tryz.prog (pcCh N l i k X k2 X2 most) [true, true, false] = (some (.normal, St.mk [.int .i64 ↑N, .ros 1 (List.length l) (li l) false, .any, .any, .any, .sl (.o 0) 1 0 0 0 N none, .int .i64 ↑k2, .int .i64 (↑(i + 1) : Int), .any, .any, .any, .any, .any, .any, .any, .any, .any, .any, .any, .any, .any, .any, .any, .any, .any, .any, .any, .any, .any, .any, .any, .any, .any, .any, .any, .any, .any, .any, .any, .any, .any, .any, .any, .any] [(.o 0, .rows 1 N (bX X2) true)] 1 [], [T Tryz.prog 53 [.int .i64 ↑N] [] (.int .i64 most) []] ++ (pcCh_c N l i k X k2 X2 most 0 ++ (pcCh_c N l i k X k2 X2 most 1 ++ [(!X ((0 : Nat) + Int.toNat (IntKind.wrap IntKind.u64 (List.getD l (Int.toNat (↑i : Int)) (0 : Int)) % IntKind.wrap IntKind.u64 (↑N : Int)))) = false, InR IntKind.i64 ((↑i : Int) + (1 : Int)), q N, ∀ (k : Nat), k < N → [V.bool (X k)] = [V.bool (X2 k)], true = false → true = false, q (↑N : Int), q (List.length l), ∀ (k : Nat), k < List.length l → [V.int IntKind.i64 (List.getD l k (0 : Int))] = [V.int IntKind.i64 (List.getD l k (0 : Int))], false = true → false = true, q0, q0, q0, q N, (none : Option Nat) = none ∨ (none : Option Nat) = none, (↑k : Int) = (↑k2 : Int), (↑i : Int) + (1 : Int) = (↑(i + (1 : Nat)) : Int)]))) : Option (Exit × St × List Prop)) := by kernel_rfl
theorem pcCh_p101 (N : Nat) (l : List Int) (i : Nat) (k : Nat) (X : Nat → Bool) (k2 : Nat) (X2 : Nat → Bool) (most : Int) :
 alongPc Tryz.prog (pcCh N l i k X k2 X2 most) [true, false, true] = (some (.normal, St.mk [.int .i64 ↑N, .ros 1 (List.length l) (li l) false, .any, .any, .any, .sl (.o 0) 1 0 0 0 N none, .int .i64 ↑k2, .int .i64 (↑(i + 1) : Int), .any, .any, .any, .any, .any, .any, .any, .any, .any, .any, .any, .any, .any, .any, .any, .any, .any, .any, .any, .any, .any, .any, .any, .any, .any, .any, .any, .any, .any, .any, .any, .any, .any, .any, .any, .any] [(.o 0, .rows 1 N (bX X2) true)] 1 [], [T Tryz.prog 53 [.int .i64 ↑N] [] (.int .i64 most) []] ++ (pcCh_c N l i k X k2 X2 most 0 ++ (pcCh_c N l i k X k2 X2 most 2 ++ [(!X ((0 : Nat) + Int.toNat ((↑i : Int) % (↑N : Int)))) = true, (0 : Int) ≤ (↑i : Int) % (↑N : Int) ∧ (↑i : Int) % (↑N : Int) < (↑N : Int), (0 : Nat) + Int.toNat ((↑i : Int) % (↑N : Int)) < N, InR IntKind.i64 ((↑k : Int) + (1 : Int)), InR IntKind.i64 ((↑i : Int) + (1 : Int)), q N, ∀ (k : Nat), k < N → Bool.rec [V.bool (X k)] [V.bool true] (Nat.beq k ((0 : Nat) + Int.toNat ((↑i : Int) % (↑N : Int)))) = [V.bool (X2 k)], true = false → true = false, q (↑N : Int), q (List.length l), ∀ (k : Nat), k < List.length l → [V.int IntKind.i64 (List.getD l k (0 : Int))] = [V.int IntKind.i64 (List.getD l k (0 : Int))], false = true → false = true, q0, q0, q0, q N, (none : Option Nat) = none ∨ (none : Option Nat) = none, (↑k : Int) + (1 : Int) = (↑k2 : Int), (↑i : Int) + (1 : Int) = (↑(i + (1 : Nat)) : Int)]))) : Option (Exit × St × List Prop)) := by kernel_rfl
theorem pcCh_p100 (N : Nat) (l : List Int) (i : Nat) (k : Nat) (X : Nat → Bool) (k2 : Nat) (X2 : Nat → Bool) (most : Int) :
 alongPc Tryz.prog (pcCh N l i k X k2 X2 most) [true, false, false] = (some (.normal, St.mk [.int .i64 ↑N, .ros 1 (List.length l) (li l) false, .any, .any, .any, .sl (.o 0) 1 0 0 0 N none, .int .i64 ↑k2, .int .i64 (↑(i + 1) : Int), .any, .any, .any, .any, .any, .any, .any, .any, .any, .any, .any, .any, .any, .any, .any, .any, .any, .any, .any, .any, .any, .any, .any, .any, .any, .any, .any, .any, .any, .any, .any, .any, .any, .any, .any, .any] [(.o 0, .rows 1 N (bX X2) true)] 1 [], [T Tryz.prog 53 [.int .i64 ↑N] [] (.int .i64 most) []] ++ (pcCh_c N l i k X k2 X2 most 0 ++ (pcCh_c N l i k X k2 X2 most 2 ++ [(!X ((0 : Nat) + Int.toNat ((↑i : Int) % (↑N : Int)))) = false, InR IntKind.i64 ((↑i : Int) + (1 : Int)), q N, ∀ (k : Nat), k < N → [V.bool (X k)] = [V.bool (X2 k)], true = false → true = false, q (↑N : Int), q (List.length l), ∀ (k : Nat), k < List.length l → [V.int IntKind.i64 (List.getD l k (0 : Int))] = [V.int IntKind.i64 (List.getD l k (0 : Int))], false = true → false = true, q0, q0, q0, q N, (none : Option Nat) = none ∨ (none : Option Nat) = none, (↑k : Int) = (↑k2 : Int), (↑i : Int) + (1 : Int) = (↑(i + (1 : Nat)) : Int)]))) : Option (Exit × St × List Prop)) := by kernel_rfl
theorem pcCh_p0 (N : Nat) (l : List Int) (i : Nat) (k : Nat) (X : Nat → Bool) (k2 : Nat) (X2 : Nat → Bool) (most : Int) :
 alongPc Tryz.prog (pcCh N l i k X k2 X2 most) [false] = (some (.exit 0, St.mk [.int .i64 ↑N, .ros 1 (List.length l) (li l) false, .any, .any, .any, .sl (.o 0) 1 0 0 0 N none, .int .i64 ↑k, .int .i64 ↑i, .any, .any, .any, .any, .any, .any, .any, .any, .any, .any, .any, .any, .any, .any, .any, .any, .any, .any, .any, .any, .any, .any, .any, .any, .any, .any, .any, .any, .any, .any, .any, .any, .any, .any, .any, .any] [(.o 0, .rows 1 N (bX X) true)] 1 [], [T Tryz.prog 53 [.int .i64 ↑N] [] (.int .i64 most) [], decide ((↑k : Int) < most) = false, q N, ∀ (k : Nat), k < N → [V.bool (X k)] = [V.bool (X k)], true = false → true = false, q (↑N : Int), q (List.length l), ∀ (k : Nat), k < List.length l → [V.int IntKind.i64 (List.getD l k (0 : Int))] = [V.int IntKind.i64 (List.getD l k (0 : Int))], false = true → false = true, q0, q0, q0, q N, (none : Option Nat) = none ∨ (none : Option Nat) = none, q (↑k : Int), q (↑i : Int)]) : Option (Exit × St × List Prop)) := by kernel_rfl

theorem wrapN {N : Nat} (h : N ≤ 64) : IntKind.wrap .u64 (N : Int) = N := by
 simp [IntKind.wrap, IntKind.signed, IntKind.bits]; omega
theorem wrap0 (x : Int) : 0 ≤ IntKind.wrap .u64 x ∧ IntKind.wrap .u64 x < 18446744073709551616 := by
 simp [IntKind.wrap, IntKind.signed, IntKind.bits]; omega
theorem bset {N : Nat} {l : List Int} {i : Nat} (k : Nat) : (Bool.rec [V.bool (chX N l i k)] [V.bool true] (Nat.beq k (atN N l i)) : List V) = [V.bool (chX N l (i + 1) k)] := by
 rw [chX_succ]
 cases hb : Nat.beq k (atN N l i) with
 | true => rw [decide_eq_true (Nat.eq_of_beq_eq_true hb), Bool.or_true]
 | false => rw [decide_eq_false (fun h => by rw [h, Nat.beq_refl] at hb; cases hb), Bool.or_false]
theorem T_ch {N : Nat} (hN : 4 ≤ N ∧ N ≤ 64) {l : List Int} (hl : l.length ≤ 1000000) {M : Nat} (h0M : 0 < M) (hMN : M ≤ N) (hmo : mostS N = M) :
  ∃ X, cntX N X = M ∧ T Tryz.prog 14 [.int .i64 N, lr l] [] (sX 0 N) [(.o 0, bB N X)] := by
 obtain ⟨m, hm1, hlt, hcm⟩ := chX_stop h0M hMN l
 refine ⟨chX N l m, hcm, ?_⟩
 have hM := T_mo N
 rw [hmo] at hM
 have hw := wrapN hN.2
 have hstep : ∀ i, i < m → R Tryz.prog none 0 (cB (cB (cR (cL (cR (cR (cR (bodyOf Tryz.f14)))))))) (chI N l i (cntX N (chX N l i)) (chX N l i)) .normal (chI N l (i + 1) (cntX N (chX N l (i + 1))) (chX N l (i + 1))) := by
  intro i hi
  have hc := hlt i hi
  have hat := atN_lt (N := N) (by omega) l i
  have hle := cntX_le N (chX N l i)
  by_cases h2 : i < l.length
  ·have ha : atN N l i = (IntKind.wrap .u64 (l.getD i 0) % (N : Int)).toNat := if_pos h2
   have h0 := Int.emod_nonneg (IntKind.wrap .u64 (l.getD i 0)) (b := (N : Int)) (by omega)
   have h1 := Int.emod_lt_of_pos (IntKind.wrap .u64 (l.getD i 0)) (b := (N : Int)) (by omega)
   have h3 := wrap0 (l.getD i 0)
   cases hx : chX N l i (atN N l i) with
   | true =>
    have hX : (!chX N l i (atN N l i)) = false := by rw [hx]; rfl
    have he := chX_cnt_old hx
    refine R_alongPc NG MO _ (pcCh_p110 N l i _ (chX N l i) (cntX N (chX N l (i + 1))) (chX N l (i + 1)) M) ?_ (Nat.zero_le _)
    simp only [All, All_append, pcCh_c, Int.toNat_natCast, Nat.zero_add, hw, ← ha]; and_intros
    all_goals first
     | exact hM
     | exact hm
     | (rw [decide_eq_true_eq]; omega)
     | (rw [decide_eq_false_iff_not]; omega)
     | exact hX
     | exact ⟨h0, h1⟩
     | (intro k _; exact bset k)
     | (intro k _; rw [chX_old hx])
     | with_reducible rfl
     | (intro _ _; with_reducible rfl)
     | (intro _ _; trivial)
     | (simp only [IntKind.min, IntKind.max, IntKind.signed, IntKind.bits, if_true]; omega)
     | omega
     | (intro h; exact h)
     | exact .inl rfl
     | exact .inl trivial
     | trivial
   | false =>
    have hX : (!chX N l i (atN N l i)) = true := by rw [hx]; rfl
    have he := chX_cnt_new (by omega) hx
    refine R_alongPc NG MO _ (pcCh_p111 N l i _ (chX N l i) (cntX N (chX N l (i + 1))) (chX N l (i + 1)) M) ?_ (Nat.zero_le _)
    simp only [All, All_append, pcCh_c, Int.toNat_natCast, Nat.zero_add, hw, ← ha]; and_intros
    all_goals first
     | exact hM
     | exact hm
     | (rw [decide_eq_true_eq]; omega)
     | (rw [decide_eq_false_iff_not]; omega)
     | exact hX
     | exact ⟨h0, h1⟩
     | (intro k _; exact bset k)
     | (intro k _; rw [chX_old hx])
     | with_reducible rfl
     | (intro _ _; with_reducible rfl)
     | (intro _ _; trivial)
     | (simp only [IntKind.min, IntKind.max, IntKind.signed, IntKind.bits, if_true]; omega)
     | omega
     | (intro h; exact h)
     | exact .inl rfl
     | exact .inl trivial
     | trivial
  ·have ha : atN N l i = ((i : Int) % (N : Int)).toNat := if_neg h2
   have h0 := Int.emod_nonneg (i : Int) (b := (N : Int)) (by omega)
   have h1 := Int.emod_lt_of_pos (i : Int) (b := (N : Int)) (by omega)
   cases hx : chX N l i (atN N l i) with
   | true =>
    have hX : (!chX N l i (atN N l i)) = false := by rw [hx]; rfl
    have he := chX_cnt_old hx
    refine R_alongPc NG MO _ (pcCh_p100 N l i _ (chX N l i) (cntX N (chX N l (i + 1))) (chX N l (i + 1)) M) ?_ (Nat.zero_le _)
    simp only [All, All_append, pcCh_c, Int.toNat_natCast, Nat.zero_add, hw, ← ha]; and_intros
    all_goals first
     | exact hM
     | exact hm
     | (rw [decide_eq_true_eq]; omega)
     | (rw [decide_eq_false_iff_not]; omega)
     | exact hX
     | exact ⟨h0, h1⟩
     | (intro k _; exact bset k)
     | (intro k _; rw [chX_old hx])
     | with_reducible rfl
     | (intro _ _; with_reducible rfl)
     | (intro _ _; trivial)
     | (simp only [IntKind.min, IntKind.max, IntKind.signed, IntKind.bits, if_true]; omega)
     | omega
     | (intro h; exact h)
     | exact .inl rfl
     | exact .inl trivial
     | trivial
   | false =>
    have hX : (!chX N l i (atN N l i)) = true := by rw [hx]; rfl
    have he := chX_cnt_new (by omega) hx
    refine R_alongPc NG MO _ (pcCh_p101 N l i _ (chX N l i) (cntX N (chX N l (i + 1))) (chX N l (i + 1)) M) ?_ (Nat.zero_le _)
    simp only [All, All_append, pcCh_c, Int.toNat_natCast, Nat.zero_add, hw, ← ha]; and_intros
    all_goals first
     | exact hM
     | exact hm
     | (rw [decide_eq_true_eq]; omega)
     | (rw [decide_eq_false_iff_not]; omega)
     | exact hX
     | exact ⟨h0, h1⟩
     | (intro k _; exact bset k)
     | (intro k _; rw [chX_old hx])
     | with_reducible rfl
     | (intro _ _; with_reducible rfl)
     | (intro _ _; trivial)
     | (simp only [IntKind.min, IntKind.max, IntKind.signed, IntKind.bits, if_true]; omega)
     | omega
     | (intro h; exact h)
     | exact .inl rfl
     | exact .inl trivial
     | trivial
 have hend : R Tryz.prog none 0 (cB (cB (cR (cL (cR (cR (cR (bodyOf Tryz.f14)))))))) (chI N l m (cntX N (chX N l m)) (chX N l m)) (.exit 0) (chI N l m M (chX N l m)) := by
  rw [hcm]
  refine R_alongPc NG MO _ (pcCh_p0 N l m M (chX N l m) 0 (chX N l m) M) ?_ (Nat.zero_le _)
  simp only [All, All_append, pcCh_c, Int.toNat_natCast, Nat.zero_add]; and_intros
  all_goals first
   | exact hM
   | exact hm
   | (rw [decide_eq_true_eq]; omega)
   | (rw [decide_eq_false_iff_not]; omega)
   | exact hX
   | exact ⟨h0, h1⟩
   | (intro k _; exact bset k)
   | (intro k _; rw [chX_old hx])
   | with_reducible rfl
   | (intro _ _; with_reducible rfl)
   | (intro _ _; trivial)
   | (simp only [IntKind.min, IntKind.max, IntKind.signed, IntKind.bits, if_true]; omega)
   | omega
   | (intro h; exact h)
   | exact .inl rfl
   | exact .inl trivial
   | trivial
 have hL := RLoop.inv (fun i => chI N l i (cntX N (chX N l i)) (chX N l i)) m hstep hend (by simp)
 have e0 : cntX N (chX N l 0) = 0 := cntX_none
 simp only [e0] at hL
 refine T_al (bdCh_p N l m M (chX N l m)) Tryz.func14 ?_
 refine ⟨by omega, by omega, by omega, hL, ?_⟩
 simp only [All, All_append, pcCh_c, Int.toNat_natCast, Nat.zero_add]; and_intros
 all_goals first
  | exact hM
  | exact hm
  | (rw [decide_eq_true_eq]; omega)
  | (rw [decide_eq_false_iff_not]; omega)
  | exact hX
  | exact ⟨h0, h1⟩
  | (intro k _; exact bset k)
  | (intro k _; rw [chX_old hx])
  | with_reducible rfl
  | (intro _ _; with_reducible rfl)
  | (intro _ _; trivial)
  | (simp only [IntKind.min, IntKind.max, IntKind.signed, IntKind.bits, if_true]; omega)
  | omega
  | (intro h; exact h)
  | exact .inl rfl
  | exact .inl trivial
  | trivial
end Go.Proofs.YtlakhciklfkocaaGreat
namespace Sy
open Go
def o32 (x y : Int) : Int := ibits (fun _ x y => x ||| y) .u32 x y
def x32 (x y : Int) : Int := ibits (fun _ x y => x ^^^ y) .u32 x y
def a32 (x y : Int) : Int := ibits (fun _ x y => x &&& y) .u32 x y
def w32 (x : Int) : Int := IntKind.wrap .u32 x
def n32 (x : Int) : Int := x32 4294967295 x
/-- Turned to the right. -/
def rr32 (x n : Int) : Int := o32 (x / 2 ^ n.toNat) (w32 (x * 2 ^ (32 - n).toNat))
/-- The number of a round. -/
def kT : List Int := [0x428a2f98, 0x71374491, 0xb5c0fbcf, 0xe9b5dba5, 0x3956c25b, 0x59f111f1, 0x923f82a4, 0xab1c5ed5,
 0xd807aa98, 0x12835b01, 0x243185be, 0x550c7dc3, 0x72be5d74, 0x80deb1fe, 0x9bdc06a7, 0xc19bf174,
 0xe49b69c1, 0xefbe4786, 0x0fc19dc6, 0x240ca1cc, 0x2de92c6f, 0x4a7484aa, 0x5cb0a9dc, 0x76f988da,
 0x983e5152, 0xa831c66d, 0xb00327c8, 0xbf597fc7, 0xc6e00bf3, 0xd5a79147, 0x06ca6351, 0x14292967,
 0x27b70a85, 0x2e1b2138, 0x4d2c6dfc, 0x53380d13, 0x650a7354, 0x766a0abb, 0x81c2c92e, 0x92722c85,
 0xa2bfe8a1, 0xa81a664b, 0xc24b8b70, 0xc76c51a3, 0xd192e819, 0xd6990624, 0xf40e3585, 0x106aa070,
 0x19a4c116, 0x1e376c08, 0x2748774c, 0x34b0bcb5, 0x391c0cb3, 0x4ed8aa4a, 0x5b9cca4f, 0x682e6ff3,
 0x748f82ee, 0x78a5636f, 0x84c87814, 0x8cc70208, 0x90befffa, 0xa4506ceb, 0xbef9a3f7, 0xc67178f2]
def kN (t : Nat) : Int := kT.getD t 0
def s32 (x a b c : Int) : Int := x32 (x32 (rr32 x a) (rr32 x b)) (rr32 x c)
def m32 (x a b c : Int) : Int := x32 (x32 (rr32 x a) (rr32 x b)) (x / 2 ^ c.toNat)
/-- A word of a block's bytes. -/
def ldW (b : List Int) (i : Nat) : Int := o32 (o32 (o32 (w32 (w32 (b.getD (4 * i) 0) * 16777216)) (w32 (w32 (b.getD (4 * i + 1) 0) * 65536))) (w32 (w32 (b.getD (4 * i + 2) 0) * 256))) (w32 (b.getD (4 * i + 3) 0))
def wA (b : List Int) : Nat → List Int
 | 0 => List.replicate 64 0
 | i + 1 => (wA b i).set i (ldW b i)
def mxW (w : List Int) (k : Nat) : Int := w32 (w32 (w32 (w.getD k 0 + m32 (w.getD (k + 1) 0) 7 18 3) + w.getD (k + 9) 0) + m32 (w.getD (k + 14) 0) 17 19 10)
def wB (b : List Int) : Nat → List Int
 | 0 => wA b 16
 | k + 1 => (wB b k).set (16 + k) (mxW (wB b k) k)
/-- A round's eight numbers. -/
structure S8 where
 a : Int
 b : Int
 c : Int
 d : Int
 e : Int
 f : Int
 g : Int
 h : Int
def S8.l (s : S8) : List Int := [s.a, s.b, s.c, s.d, s.e, s.f, s.g, s.h]
def S8.of (h : List Int) : S8 := ⟨h.getD 0 0, h.getD 1 0, h.getD 2 0, h.getD 3 0, h.getD 4 0, h.getD 5 0, h.getD 6 0, h.getD 7 0⟩
def rx (w : List Int) (t : Nat) (s : S8) : Int := w32 (w32 (w32 (w32 (s.h + s32 s.e 6 11 25) + x32 (a32 s.e s.f) (a32 (n32 s.e) s.g)) + kN t) + w.getD t 0)
def ry (s : S8) : Int := w32 (s32 s.a 2 13 22 + x32 (x32 (a32 s.a s.b) (a32 s.a s.c)) (a32 s.b s.c))
def rnd (w : List Int) (s : S8) : Nat → S8
 | 0 => s
 | t + 1 => ⟨w32 (rx w t (rnd w s t) + ry (rnd w s t)), (rnd w s t).a, (rnd w s t).b, (rnd w s t).c, w32 ((rnd w s t).d + rx w t (rnd w s t)), (rnd w s t).e, (rnd w s t).f, (rnd w s t).g⟩
def hF (h l : List Int) : Nat → List Int
 | 0 => h
 | i + 1 => (hF h l i).set i (w32 ((hF h l i).getD i 0 + l.getD i 0))
/-- The words behind one more block. -/
def blk (h b : List Int) : List Int := hF h (rnd (wB b 48) (S8.of h) 64).l 8
def iv : List Int := [1779033703, 3144134277, 1013904242, 2773480762, 1359893119, 2600822924, 528734635, 1541459225]
def cutB (B : List Int) (k : Nat) : List Int := (List.range 64).map fun i => B.getD (64 * k + i) 0
/-- The words behind so many blocks. -/
def hK (B : List Int) : Nat → List Int
 | 0 => iv
 | k + 1 => blk (hK B k) (cutB B k)
def w8 (x : Int) : Int := IntKind.wrap .u8 x
def lenE (n : Int) (i : Nat) : Int := w8 (n / 2 ^ (56 - 8 * i))
def lenP (n : Int) (j : Nat) : List Int := (List.range j).map (lenE n)
def lenB (n : Int) : List Int := lenP n 8
theorem lenB_len (n : Int) : (lenB n).length = 8 := by simp [lenB, lenP]
/-- So many zeros stand behind so many bytes. -/
def padZ (n : Nat) : Nat := (120 - n % 64) % 64
def padL (B : List Int) : List Int := B ++ [128] ++ List.replicate (padZ (B.length + 1)) 0 ++ lenB (8 * (B.length : Int))
def dA (H : List Int) : Nat → List Int
 | 0 => List.replicate 32 0
 | i + 1 => (dA H i).set i (w8 (H.getD (i / 4) 0 / 2 ^ (24 - 8 * (i % 4))))
def shaV (B : List Int) : List Int := dA (hK (padL B) ((padL B).length / 64)) 32
/-- Bytes as they come. -/
def ib (l : List Int) : Nat → List V := fun i => [.int .u8 (l.getD i 0)]

/-- What a stream has, of bytes so far. -/
structure Inv (B H W : List Int) : Prop where
 h : H = hK B (B.length / 64)
 len : W.length = 64
 w : ∀ i, i < B.length % 64 → W.getD i 0 = B.getD (64 * (B.length / 64) + i) 0
theorem padZ_lt {n j : Nat} (h : j < padZ n) : (n + j) % 64 ≠ 56 := by unfold padZ at h; omega
theorem padZ_at (n : Nat) : (n + padZ n) % 64 = 56 := by unfold padZ; omega
theorem padL_len (B : List Int) : (padL B).length % 64 = 0 := by
 have := padZ_at (B.length + 1)
 simp only [padL, List.length_append, List.length_replicate, List.length_cons, List.length_nil, lenB_len]
 omega
theorem hF_len (h l : List Int) : ∀ i, (hF h l i).length = h.length
 | 0 => rfl
 | i + 1 => by rw [hF, List.length_set, hF_len h l i]
theorem hK_len (B : List Int) : ∀ k, (hK B k).length = 8
 | 0 => rfl
 | k + 1 => by rw [hK, blk, hF_len, hK_len B k]
theorem of8 {h : List Int} (hh : h.length = 8) : h = (S8.of h).l := by
 match h, hh with
 | [_, _, _, _, _, _, _, _], _ => rfl
theorem lenP_succ (n : Int) (j : Nat) : lenP n (j + 1) = lenP n j ++ [lenE n j] := by rw [lenP, List.range_succ, List.map_append]; rfl
theorem cutB_len (B : List Int) (k : Nat) : (cutB B k).length = 64 := by simp [cutB]
theorem cutB_get {B : List Int} {k i : Nat} (h : i < 64) : (cutB B k).getD i 0 = B.getD (64 * k + i) 0 := by
 rw [cutB, List.getD_eq_getElem?_getD, List.getElem?_map, List.getElem?_range h]; rfl
theorem ctb (L : List Int) (v : Int) (k : Nat) (hk : k < L.length + 1) : catF L.length (ib L) (fun k => getL [[V.int .u8 v]] (0 + k)) k = [V.int .u8 ((L ++ [v]).getD k 0)] := by
 rw [catF]
 cases hb : Nat.blt k L.length with
 | true =>
  rw [Nat.blt_eq] at hb
  rw [cond_true, ib, List.getD_eq_getElem?_getD, List.getD_eq_getElem?_getD, List.getElem?_append_left hb]
 | false =>
  have h1 : ¬ k < L.length := by rw [← Nat.blt_eq, hb]; simp
  have h2 : k = L.length := by omega
  subst h2
  rw [cond_false, Nat.sub_self, List.getD_eq_getElem?_getD, List.getElem?_append_right (Nat.le_refl _), Nat.sub_self]
  rfl
theorem cat0 (f g : Nat → List V) : catF 0 f g = g := by
 funext k
 rw [catF]
 have : Nat.blt k 0 = false := by cases k <;> rfl
 rw [this]; rfl
end Sy
namespace Go.Proofs.YtlakhciklfkocaaGreat
open Go Sy Go.Proofs
noncomputable def bdRr (x n : Int) : Bd := { f := Tryz.f126, args := [.int .u32 x, .int .i64 n], kb := kb0 }
noncomputable def bdKc (t : Int) : Bd := { f := Tryz.f127, args := [.int .i64 t], kb := kb0 }
end Go.Proofs.YtlakhciklfkocaaGreat
namespace Go.Proofs.YtlakhciklfkocaaGreat
open Go Sy Go.Proofs
theorem bdRr_p (x : Int) (n : Int) :
  along Tryz.prog (bdRr x n) [] = (some (.int .u32 (ibits (fun x x_1 y => x_1 ||| y) .u32 (x / (2 : Int) ^ Int.toNat n) (IntKind.wrap .u32 (x * (2 : Int) ^ Int.toNat ((32 : Int) - n)))), [], [(0 : Int) ≤ n ∧ n ≤ (32 : Int), InR IntKind.i64 ((32 : Int) - n), (0 : Int) ≤ (32 : Int) - n ∧ (32 : Int) - n ≤ (32 : Int)]) : Option (V × Heap × List Prop)) := by kernel_rfl

theorem bdKc_p (t : Int) :
  along Tryz.prog (bdKc t) [] = (some (.int .u32 (List.getD [(1116352408 : Int), (1899447441 : Int), (3049323471 : Int), (3921009573 : Int), (961987163 : Int), (1508970993 : Int), (2453635748 : Int), (2870763221 : Int), (3624381080 : Int), (310598401 : Int), (607225278 : Int), (1426881987 : Int), (1925078388 : Int), (2162078206 : Int), (2614888103 : Int), (3248222580 : Int), (3835390401 : Int), (4022224774 : Int), (264347078 : Int), (604807628 : Int), (770255983 : Int), (1249150122 : Int), (1555081692 : Int), (1996064986 : Int), (2554220882 : Int), (2821834349 : Int), (2952996808 : Int), (3210313671 : Int), (3336571891 : Int), (3584528711 : Int), (113926993 : Int), (338241895 : Int), (666307205 : Int), (773529912 : Int), (1294757372 : Int), (1396182291 : Int), (1695183700 : Int), (1986661051 : Int), (2177026350 : Int), (2456956037 : Int), (2730485921 : Int), (2820302411 : Int), (3259730800 : Int), (3345764771 : Int), (3516065817 : Int), (3600352804 : Int), (4094571909 : Int), (275423344 : Int), (430227734 : Int), (506948616 : Int), (659060556 : Int), (883997877 : Int), (958139571 : Int), (1322822218 : Int), (1537002063 : Int), (1747873779 : Int), (1955562222 : Int), (2024104815 : Int), (2227730452 : Int), (2361852424 : Int), (2428436474 : Int), (2756734187 : Int), (3204031479 : Int), (3329325298 : Int)] (0 + Int.toNat t) (0 : Int)), [], [(0 : Int) ≤ t ∧ t < (64 : Int), (0 : Nat) + Int.toNat t < (64 : Nat)]) : Option (V × Heap × List Prop)) := by kernel_rfl

theorem T_rr (x : Int) {n : Nat} (h : n < 32) : T Tryz.prog 126 [.int .u32 x, .int .i64 (n : Nat)] [] (.int .u32 (rr32 x (n : Nat))) [] := by
 refine T_al (bdRr_p x n) Tryz.func126 ?_
 simp only [All]; and_intros
 all_goals first
  | exact True.intro
  | (with_reducible assumption)
  | (rw [decide_eq_true_eq]; omega)
  | (rw [decide_eq_false_iff_not]; omega)
  | with_reducible rfl
  | (intro _ _; exact True.intro)
  | (intro _ _; with_reducible rfl)
  | (intro _ _; rfl)
  | (simp only [IntKind.min, IntKind.max, IntKind.signed, IntKind.bits, if_true]; omega)
  | omega
  | (intro h; exact h)
  | (intro h; cases h; done)
  | exact .inl rfl
  | exact .inl True.intro
  | exact .inr rfl
  | (simp; done)
theorem T_kc {t : Nat} (h : t < 64) : T Tryz.prog 127 [.int .i64 (t : Nat)] [] (.int .u32 (kN t)) [] := by
 have h0 := T_along NG MO _ (bdKc_p t) Tryz.func127 (by kernel_rfl) (by
  simp only [All]; and_intros
  all_goals first
   | exact True.intro
   | (with_reducible assumption)
   | (rw [decide_eq_true_eq]; omega)
   | (rw [decide_eq_false_iff_not]; omega)
   | with_reducible rfl
   | (intro _ _; exact True.intro)
   | (intro _ _; with_reducible rfl)
   | (intro _ _; rfl)
   | (simp only [IntKind.min, IntKind.max, IntKind.signed, IntKind.bits, if_true]; omega)
   | omega
   | (intro h; exact h)
   | (intro h; cases h; done)
   | exact .inl rfl
   | exact .inl True.intro
   | exact .inr rfl
   | (simp; done)
  ) (pinH_ok (by kernel_rfl)) (by kernel_rfl)
 rw [Nat.zero_add, Int.toNat_natCast] at h0
 exact h0
theorem tn4 (i : Nat) : Int.toNat (4 * (i : Int)) = 4 * i ∧ Int.toNat (4 * (i : Int) + 1) = 4 * i + 1 ∧ Int.toNat (4 * (i : Int) + 2) = 4 * i + 2 ∧ Int.toNat (4 * (i : Int) + 3) = 4 * i + 3 := by omega
theorem tn16 (k : Nat) : Int.toNat (((16 + k : Nat) : Int) - 16) = k ∧ Int.toNat (((16 + k : Nat) : Int) - 15) = k + 1 ∧ Int.toNat (((16 + k : Nat) : Int) - 7) = k + 9 ∧ Int.toNat (((16 + k : Nat) : Int) - 2) = k + 14 := by omega
end Go.Proofs.YtlakhciklfkocaaGreat
namespace Go.Proofs.YtlakhciklfkocaaGreat
open Go Sy Go.Proofs
def rb (l : List Int) : V := .ros 1 l.length (ib l) false
def z32L : List Int := List.replicate 32 0
def p0 (m : Nat) : V := .ptr (.o m) 0 0 0 0
def krDb : List V → Heap → Nat → List Cl := fun l _ _ => match l with
 | [.int _ t] => [{ val := .int .u32 (kN t.toNat) }]
 | _ => []
end Go.Proofs.YtlakhciklfkocaaGreat
namespace Go.Proofs.YtlakhciklfkocaaGreat
open Go Sy Go.Proofs
end Go.Proofs.YtlakhciklfkocaaGreat
namespace Go.Proofs.YtlakhciklfkocaaGreat
open Go Sy Go.Proofs
/-- Bytes, as a slice's elements. -/
def bl (l : List UInt8) : Nat → List V := fun i => [.int .u8 ((l.getD i 0).toNat : Int)]
def bs (l : List UInt8) : B := .rows 1 l.length (bl l) true
def sb (m : Nm) (l : List UInt8) : V := .sl m 1 0 0 0 l.length none
def digs : Nat → Nat → List UInt8
 | 0, _ => []
 | f + 1, n => if n = 0 then [] else digs f (n / 256) ++ [UInt8.ofNat (n % 256)]
/-- A number's bytes: how many digits, the digits. -/
def putN (n : Nat) : List UInt8 := UInt8.ofNat (digs 8 n).length :: digs 8 n
end Go.Proofs.YtlakhciklfkocaaGreat
namespace Go.Proofs.YtlakhciklfkocaaGreat
open Go Sy Go.Proofs
theorem digs_len : ∀ f n, n < 256 ^ f → (digs f n).length ≤ f ∧ n / 256 ^ (digs f n).length = 0 ∧ ∀ k, k < (digs f n).length → 0 < n / 256 ^ k
 | 0, n, h => by simp at h; subst h; simp [digs]
 | f + 1, n, h => by
  rw [digs]
  split
  ·rename_i h0; subst h0; simp
  ·have ih := digs_len f (n / 256) (by rw [Nat.pow_succ] at h; omega)
   simp only [List.length_append, List.length_singleton]
   refine ⟨by omega, ?_, fun k hk => ?_⟩
   ·rw [Nat.pow_succ', ← Nat.div_div_eq_div_mul]; exact ih.2.1
   ·cases k with
    | zero => simp; omega
    | succ k => rw [Nat.pow_succ', ← Nat.div_div_eq_div_mul]; exact ih.2.2 k (by omega)
theorem digs_get : ∀ f n k, n < 256 ^ f → k < (digs f n).length → (digs f n)[k]? = some (UInt8.ofNat (n / 256 ^ ((digs f n).length - 1 - k) % 256))
 | 0, n, k, _, h => by simp [digs] at h
 | f + 1, n, k, hn, h => by
  rw [digs] at h ⊢
  split at h
  ·simp at h
  ·rename_i h0
   rw [if_neg h0]
   have hn' : n / 256 < 256 ^ f := by rw [Nat.pow_succ] at hn; omega
   simp only [List.length_append, List.length_singleton] at h ⊢
   rcases Nat.lt_or_ge k (digs f (n / 256)).length with h1 | h1
   ·rw [List.getElem?_append_left h1, digs_get f (n / 256) k hn' h1, Nat.div_div_eq_div_mul, ← Nat.pow_succ']
    congr 5; omega
   ·have : k = (digs f (n / 256)).length := by omega
    subst this
    rw [List.getElem?_append_right (Nat.le_refl _)]; simp
theorem digs8 {n : Nat} (h : n < 9223372036854775808) : n < 256 ^ 8 := by omega
theorem putN_len {n : Nat} (h : n < 9223372036854775808) : (putN n).length ≤ 9 := by
 have := (digs_len 8 n (digs8 h)).1
 simp [putN]; omega
theorem bl_append (l r : List UInt8) : bl (l ++ r) = catF l.length (bl l) (bl r) := by
 funext k
 unfold bl catF
 cases h : Nat.blt k l.length
 ·have h1 : l.length ≤ k := by
   rcases Nat.lt_or_ge k l.length with h2 | h2
   ·rw [← Nat.blt_eq] at h2; rw [h2] at h; cases h
   ·exact h2
  simp [List.getD_eq_getElem?_getD, List.getElem?_append_right h1]
 ·rw [Nat.blt_eq] at h
  simp [List.getD_eq_getElem?_getD, List.getElem?_append_left h]
theorem catF_bl1 (l : List UInt8) (v : Int) (x : UInt8) (h : v = (x.toNat : Int)) : ∀ k, k < l.length + 1 → catF l.length (bl l) (fun k => getL [[V.int .u8 v]] (0 + k)) k = bl (l ++ [x]) k := by
 intro k hk
 rw [bl_append]
 unfold catF
 cases hb : Nat.blt k l.length
 ·have h1 : l.length ≤ k := by
   rcases Nat.lt_or_ge k l.length with h2 | h2
   ·rw [← Nat.blt_eq] at h2; rw [h2] at hb; cases hb
   ·exact h2
  have : k - l.length = 0 := by omega
  simp only [cond_false, this]
  subst h
  simp [getL, bl]
 ·rfl

theorem wrap8 (m : Nat) : IntKind.wrap IntKind.u8 (m : Int) = ((UInt8.ofNat m).toNat : Int) := by
 simp only [IntKind.wrap, IntKind.signed, IntKind.bits, UInt8.toNat_ofNat']
 simp
theorem wrap8' (m : Nat) : IntKind.wrap IntKind.u8 (m : Int) = ((UInt8.ofNat (m % 256)).toNat : Int) := by
 rw [wrap8]; simp
end Go.Proofs.YtlakhciklfkocaaGreat
namespace Go.Proofs.YtlakhciklfkocaaGreat
open Go Sy Go.Proofs
def putZ (z : Int) : List UInt8 := if z < 0 then [] else putN z.toNat
def num63 (z : Int) : Prop := -9223372036854775808 ≤ z ∧ z < 9223372036854775808
def lookS {α : Type} : List (Nat × α) → Nat → Option α
 | [], _ => none
 | p :: r, n => bif Nat.beq p.1 n then some p.2 else lookS r n
/-- Calls by their operation's place behind the beginning. -/
def dbSeq (base : Nat) (l : List (Nat × (List V → Nat → List Cl))) : Nat → List V → Heap → Nat → List Cl := fun _ args _ lo => match lookS l ((lo - base) / 64) with
 | some f => f args lo
 | none => []
/-- A slice goes, another one comes: with these bytes. -/
def cNew (l : List UInt8) : List V → Nat → List Cl := fun args lo => match args with
 | .sl a _ _ _ _ _ _ :: _ => [{ pre := [a], val := sb (.o lo) l, post := [(.o lo, bs l)] }]
 | .snil :: _ => [{ val := sb (.o lo) l, post := [(.o lo, bs l)] }]
 | _ => []
/-- The result is a slice with these bytes; its block's new name. -/
def kSb (t nm : Nat) (l : List UInt8) : Exit → St → Option W := fun _ st => match getV st.tmps t with
 | .sl a _ _ _ _ _ _ => some ⟨[(.o nm, a)], [(t, .set (sb (.o nm) l))], [(.o nm, .set (bs l))], none, st.next⟩
 | _ => none
def strB (s : ByteArray) : List UInt8 := s.data.toList
def segB (xs : List Int) : List UInt8 := xs.map fun x => UInt8.ofNat x.toNat
def textB (s : ByteArray) : List UInt8 := putN s.size ++ strB s
def reqB (r : SReq) : List UInt8 := putZ r.client ++ (putZ r.num ++ (textB r.data ++ segB r.tag))
def cN (l : List UInt8) : List V → Heap → Nat → List Cl := fun args _ lo => cNew l args lo
/-- The last digits. -/
def lastD (n k : Nat) : List UInt8 := (digs 8 n).drop ((digs 8 n).length - k)
def dgI (n k : Nat) : St := ⟨mkT 15 [(0, .int .i64 (n / 256 ^ k : Nat)), (3, sb (.o 1) (lastD n k))], [(.o 1, bs (lastD n k))], 2, []⟩
def dgS (n : Nat) (b : Bool) : St := ⟨mkT 15 ((0, .int .i64 (n : Nat)) :: (if b then [(3, .snil)] else [])), [], 1, []⟩
noncomputable def pcDa (n : Nat) : Pc := { c := cL (bodyOf Tryz.f128), st := ⟨[.int .i64 (n : Nat)] ++ List.replicate 14 (.tup []), [], 1, []⟩, p := 1, kb := kb0, k := fun _ _ => some (wTo (dgS n false)) }
noncomputable def pcDb (n : Nat) : Pc := { c := cL (cR (bodyOf Tryz.f128)), st := dgS n false, p := 1, kb := kb0, k := fun _ _ => some (wTo (dgS n true)) }
noncomputable def pcDc (n : Nat) : Pc := { c := cR (cR (bodyOf Tryz.f128)), st := dgS n true, p := 1, kb := { db := fun _ _ _ _ => [], lp := fun _ t => match getV t.tmps 3 with | .sl a _ _ _ _ _ _ => [(True, .loop ((digs 8 n).length + 1) (wToS [(.o 1, a)] (dgI n 0)) (.exit 0) (dgI n (digs 8 n).length))] | _ => [], fx := fun id _ => bif Nat.beq id 2 then [.virt 3 1] else [] }, k := kSb 2 63 (digs 8 n) }
noncomputable def pcDg (n k : Nat) : Pc := { c := cB (cB (cL (cR (cR (bodyOf Tryz.f128))))), st := dgI n k, p := 1, kb := kb0, k := fun e t => match e with
 | .normal => match getV t.tmps 3 with
  | .sl a _ _ _ _ _ _ => some (wToS [(.o 1, a)] (dgI n (k + 1)))
  | _ => none
 | _ => some (wTo (dgI n k)) }
noncomputable def bdRp (n : Nat) (l : List UInt8) : Bd := { f := Tryz.f85, args := [sb (.o 0) l, .int .i64 n], pre := [(.o 0, bs l)], base := 1, kb := { db := fun k _ _ lo => bif Nat.beq k 128 then [{ val := sb (.o lo) (digs 8 n), post := [(.o lo, bs (digs 8 n))] }] else [] }, names := fun _ => [.o 63], k := kSb 4 63 (l ++ putN n) }
noncomputable def bdRp0 (n : Nat) : Bd := { f := Tryz.f85, args := [.snil, .int .i64 n], base := 1, kb := { db := fun k _ _ lo => bif Nat.beq k 128 then [{ val := sb (.o lo) (digs 8 n), post := [(.o lo, bs (digs 8 n))] }] else [] }, names := fun _ => [.o 63], k := kSb 4 63 (putN n) }
noncomputable def bdRt (l : List UInt8) (s : ByteArray) : Bd := { f := Tryz.f129, args := [sb (.o 0) l, .str s], pre := [(.o 0, bs l)], base := 1, kb := { db := fun k a _ lo => bif Nat.beq k 85 then cNew (l ++ putZ s.size) a lo else [] }, k := kSb 4 63 (l ++ textB s), names := fun _ => [.o 63] }
noncomputable def bdRpM (z : Int) (l : List UInt8) : Bd := { f := Tryz.f85, args := [sb (.o 0) l, .int .i64 z], pre := [(.o 0, bs l)], base := 1, kb := kb0, names := fun _ => [.o 63], k := kSb 4 63 l }
def reqsB (r : Nat → SReq) : Nat → List UInt8
 | 0 => []
 | k + 1 => reqsB r k ++ reqB (r k)
def batchB (b : SBatch) : List UInt8 := if b.noop then putZ 0 else putZ ((b.n + 1 : Nat) : Int) ++ reqsB b.req b.n
/-- A request's bytes ahead of its tag. -/
def reqH (l : List UInt8) (r : SReq) : List UInt8 := l ++ putZ r.client ++ putZ r.num ++ textB r.data
def rwI (l : List UInt8) (r : SReq) (k : Nat) : St := ⟨mkT 28 [(0, sb (.o 1) (reqH l r ++ segB (r.tag.take k))), (3, .ptr (.o 2) 0 0 0 0), (5, .int .i64 (k : Nat))], [(.o 1, bs (reqH l r ++ segB (r.tag.take k))), (.o 2, .flat r.c)], 3, []⟩
noncomputable def bdRw (l : List UInt8) (r : SReq) : Bd := { f := Tryz.f86, args := [sb (.o 0) l, .agg r.c], pre := [(.o 0, bs l)], base := 1, kb := { db := dbSeq 1 [(5, cNew (l ++ putZ r.client)), (8, cNew (l ++ putZ r.client ++ putZ r.num)), (11, cNew (l ++ putZ r.client ++ putZ r.num ++ textB r.data))], lp := fun _ t => match getV t.tmps 0, getV t.tmps 3 with | .sl a _ _ _ _ _ _, .ptr b _ _ _ _ => [(True, .loop 17 (wToS [(.o 1, a), (.o 2, b)] (rwI l r 0)) (.exit 0) (rwI l r 16))] | _, _ => [] }, names := fun _ => [.o 63], k := kSb 4 63 (l ++ reqB r) }
noncomputable def pcRw (l : List UInt8) (r : SReq) (k : Nat) : Pc := { c := cB (cB (cR (cL (cR (cR (bodyOf Tryz.f86)))))), st := rwI l r k, p := 1, kb := kb0, k := fun e t => match e with
 | .normal => match getV t.tmps 0 with
  | .sl a _ _ _ _ _ _ => some (wToS [(.o 1, a)] (rwI l r (k + 1)))
  | _ => none
 | _ => some (wTo (rwI l r k)) }
def rbI (l : List UInt8) (b : SBatch) (k : Nat) : St := ⟨mkT 31 [(0, sb (.o 1) (l ++ (putZ ((b.n + 1 : Nat) : Int) ++ reqsB b.req k))), (3, .ptr (.o 2) 0 0 0 0), (5, .int .i64 (k : Nat))], [(.o 1, bs (l ++ (putZ ((b.n + 1 : Nat) : Int) ++ reqsB b.req k))), (.o 2, .flat b.c)], 3, []⟩
noncomputable def pcPB (l : List UInt8) (b : SBatch) (k : Nat) : Pc := { c := cB (cB (cR (cL (cR (cR (cR (bodyOf Tryz.f52))))))), st := rbI l b k, p := 1, kb := { db := dbQ [(86, cN (l ++ (putZ ((b.n + 1 : Nat) : Int) ++ reqsB b.req (k + 1))))] }, k := fun e t => match e with
 | .normal => match getV t.tmps 0 with
  | .sl a _ _ _ _ _ _ => some (wToS [(.o 1, a)] (rbI l b (k + 1)))
  | _ => none
 | _ => some (wTo (rbI l b k)) }
def nmL : V → List Nm
 | .sl a _ _ _ _ _ _ => [a]
 | _ => []
noncomputable def bdPN (b : SBatch) : Bd := { f := Tryz.f52, args := [.snil, .agg b.c], kb := { db := dbQ [(85, fun args _ lo => cNew (bif b.noop then putZ 0 else putZ ((b.n + 1 : Nat) : Int)) args lo)], lp := fun _ t => match getV t.tmps 0, getV t.tmps 3 with | .sl a _ _ _ _ _ _, .ptr p _ _ _ _ => [(True, .loop (b.n + 1) (wToS [(.o 1, a), (.o 2, p)] (rbI [] b 0)) (.exit 0) (rbI [] b b.n))] | _, _ => [] }, names := fun t => nmL (getV t.tmps 4) }
end Go.Proofs.YtlakhciklfkocaaGreat
namespace Go.Proofs.YtlakhciklfkocaaGreat
open Go Sy Go.Proofs
theorem pcDa_p (n : Nat) :
  alongPc Tryz.prog (pcDa n) [] = (some (.normal, St.mk [.int .i64 ↑n, .any, .any, .any, .any, .any, .any, .any, .any, .any, .any, .any, .any, .any, .any] [] 1 [], [q (↑n : Int)]) : Option (Exit × St × List Prop)) := by kernel_rfl

theorem pcDb_p (n : Nat) :
  alongPc Tryz.prog (pcDb n) [] = (some (.normal, St.mk [.int .i64 ↑n, .any, .any, .snil, .any, .any, .any, .any, .any, .any, .any, .any, .any, .any, .any] [] 1 [], [q (↑n : Int)]) : Option (Exit × St × List Prop)) := by kernel_rfl

theorem pcDc_p (n : Nat) :
  alongPc Tryz.prog (pcDc n) [] = (some (.ret, St.mk [.any, .any, sb (.o 63) (digs 8 n), .any, .any, .any, .any, .any, .any, .any, .any, .any, .any, .any, .any] [(.o 63, bs (digs 8 n))] 130 [], [RLoop Tryz.prog none 1 (cB (cB (cL (Pc.c (pcDc n))))) (List.length (digs 8 n) + 1) (St.mk [.int .i64 (↑(n / nat_lit 1) : Int), .any, .any, .sl (.o 1) 1 0 0 0 (List.length (lastD n 0)) none, .any, .any, .any, .any, .any, .any, .any, .any, .any, .any, .any] [(.o 1, bs (lastD n 0))] 2 []) (.exit 0) (St.mk [.int .i64 (↑(n / 256 ^ List.length (digs 8 n)) : Int), .any, .any, .sl (.o 1) 1 0 0 0 (List.length (lastD n (List.length (digs 8 n)))) none, .any, .any, .any, .any, .any, .any, .any, .any, .any, .any, .any] [(.o 1, bs (lastD n (List.length (digs 8 n))))] 2 []), (0 : Nat) = List.length (lastD n (0 : Nat)), ∀ (k : Nat), k < (0 : Nat) → [] = bl (lastD n (0 : Nat)) k, true = false → true = false, (↑n : Int) = (↑(n / nat_lit 1) : Int), q0, q0, q0, (0 : Nat) = List.length (lastD n (0 : Nat)), (none : Option Nat) = none ∨ (none : Option Nat) = none, List.length (lastD n (List.length (digs (8 : Nat) n))) = List.length (digs (8 : Nat) n), ∀ (k : Nat), k < List.length (lastD n (List.length (digs (8 : Nat) n))) → bl (lastD n (List.length (digs (8 : Nat) n))) k = bl (digs (8 : Nat) n) k, true = false → true = false, q0, q0, q0, List.length (lastD n (List.length (digs (8 : Nat) n))) = List.length (digs (8 : Nat) n), (none : Option Nat) = none ∨ (none : Option Nat) = none]) : Option (Exit × St × List Prop)) := by kernel_rfl

theorem pcDg_p1 (n : Nat) (k : Nat) :
  alongPc Tryz.prog (pcDg n k) [true] = (some (.normal, St.mk [.int .i64 (↑(n / 256 ^ (k + 1)) : Int), .any, .any, .sl (.o 1) 1 0 0 0 (List.length (lastD n (k + 1))) none, .any, .any, .any, .any, .any, .any, .any, .any, .any, .any, .any] [(.o 1, bs (lastD n (k + 1)))] 2 [], [decide ((0 : Int) < (↑(n / (256 : Nat) ^ k) : Int)) = true, (0 : Int) ≤ (↑(n / (256 : Nat) ^ k) : Int) ∧ (0 : Int) < (256 : Int), q (1 : Nat), (0 : Nat) + List.length (lastD n k) ≤ List.length (lastD n k), ∀ (k_1 : Nat), k_1 < List.length (lastD n k) → true = true, ((1 : Nat) + List.length (lastD n k)) * (1 : Nat) ≤ (140737488355328 : Nat), (0 : Int) ≤ (↑(n / (256 : Nat) ^ k) : Int) ∧ (0 : Int) < (256 : Int) ∧ InR IntKind.i64 ((↑(n / (256 : Nat) ^ k) : Int) / (256 : Int)), (1 : Nat) + List.length (lastD n k) = List.length (lastD n (k + (1 : Nat))), ∀ (k_1 : Nat), k_1 < (1 : Nat) + List.length (lastD n k) → catF (1 : Nat) (getL [[V.int IntKind.u8 (IntKind.wrap IntKind.u8 ((↑(n / (256 : Nat) ^ k) : Int) % (256 : Int)))]]) (fun k_2 => bl (lastD n k) ((0 : Nat) + k_2)) k_1 = bl (lastD n (k + (1 : Nat))) k_1, true = false → true = false, (↑(n / (256 : Nat) ^ k) : Int) / (256 : Int) = (↑(n / (256 : Nat) ^ (k + (1 : Nat))) : Int), q0, q0, q0, (1 : Nat) + List.length (lastD n k) = List.length (lastD n (k + (1 : Nat))), (none : Option Nat) = none ∨ (none : Option Nat) = none]) : Option (Exit × St × List Prop)) := by kernel_rfl
theorem pcDg_p0 (n : Nat) (k : Nat) :
  alongPc Tryz.prog (pcDg n k) [false] = (some (.exit 0, St.mk [.int .i64 (↑(n / 256 ^ k) : Int), .any, .any, .sl (.o 1) 1 0 0 0 (List.length (lastD n k)) none, .any, .any, .any, .any, .any, .any, .any, .any, .any, .any, .any] [(.o 1, bs (lastD n k))] 2 [], [decide ((0 : Int) < (↑(n / (256 : Nat) ^ k) : Int)) = false, q (List.length (lastD n k)), ∀ (k_1 : Nat), k_1 < List.length (lastD n k) → bl (lastD n k) k_1 = bl (lastD n k) k_1, true = false → true = false, q (↑(n / (256 : Nat) ^ k) : Int), q0, q0, q0, q (List.length (lastD n k)), (none : Option Nat) = none ∨ (none : Option Nat) = none]) : Option (Exit × St × List Prop)) := by kernel_rfl

theorem bdRp_p0 (n : Nat) (l : List UInt8) :
  along Tryz.prog (bdRp n l) [false] = (some (.sl (.o 63) 1 0 0 0 (List.length (l ++ putN n)) none, [(.o 63, bs (l ++ putN n))], [q0, (0 : Nat) + List.length l ≤ List.length l, ∀ (k : Nat), k < List.length l → true = true, ((0 : Nat) + List.length l) * (1 : Nat) ≤ (140737488355328 : Nat), q false, T Tryz.prog 128 [.int .i64 ↑n] [] (sb (.o 513) (digs 8 n)) [(.o 513, bs (digs 8 n))], q ((0 : Nat) + List.length l), nat_lit 1 ≤ (1 : Nat), ∀ (k : Nat), k < (1 : Nat) → solid (getL [[V.int IntKind.u8 (IntKind.wrap IntKind.u8 (↑(List.length (digs (8 : Nat) n)) : Int))]] ((0 : Nat) + k)) = true, ((0 : Nat) + List.length l + (1 : Nat)) * (1 : Nat) ≤ (140737488355328 : Nat), q ((0 : Nat) + List.length l + (1 : Nat)), (0 : Nat) + List.length (digs (8 : Nat) n) ≤ List.length (digs (8 : Nat) n), ∀ (k : Nat), k < List.length (digs (8 : Nat) n) → true = true, ((0 : Nat) + List.length l + (1 : Nat) + List.length (digs (8 : Nat) n)) * (1 : Nat) ≤ (140737488355328 : Nat), (0 : Nat) + List.length l + (1 : Nat) + List.length (digs (8 : Nat) n) = List.length (l ++ putN n), ∀ (k : Nat), k < (0 : Nat) + List.length l + (1 : Nat) + List.length (digs (8 : Nat) n) → catF ((0 : Nat) + List.length l + (1 : Nat)) (catF ((0 : Nat) + List.length l) (catF (0 : Nat) (getL []) fun k => bl l ((0 : Nat) + k)) fun k => getL [[V.int IntKind.u8 (IntKind.wrap IntKind.u8 (↑(List.length (digs (8 : Nat) n)) : Int))]] ((0 : Nat) + k)) (fun k => bl (digs (8 : Nat) n) ((0 : Nat) + k)) k = bl (l ++ putN n) k, true = false → true = false, q0, q0, q0, (0 : Nat) + List.length l + (1 : Nat) + List.length (digs (8 : Nat) n) = List.length (l ++ putN n), (none : Option Nat) = none ∨ (none : Option Nat) = none]) : Option (V × Heap × List Prop)) := by kernel_rfl

theorem bdRp0_p0 (n : Nat) :
  along Tryz.prog (bdRp0 n) [false] = (some (.sl (.o 63) 1 0 0 0 (List.length (putN n)) none, [(.o 63, bs (putN n))], [q0, nat_lit 0 ≤ (140737488355328 : Nat), q false, T Tryz.prog 128 [.int .i64 ↑n] [] (sb (.o 513) (digs 8 n)) [(.o 513, bs (digs 8 n))], q (nat_lit 0), nat_lit 1 ≤ (1 : Nat), ∀ (k : Nat), k < (1 : Nat) → solid (getL [[V.int IntKind.u8 (IntKind.wrap IntKind.u8 (↑(List.length (digs (8 : Nat) n)) : Int))]] ((0 : Nat) + k)) = true, nat_lit 1 ≤ (140737488355328 : Nat), q (nat_lit 1), (0 : Nat) + List.length (digs (8 : Nat) n) ≤ List.length (digs (8 : Nat) n), ∀ (k : Nat), k < List.length (digs (8 : Nat) n) → true = true, (nat_lit 1 + List.length (digs (8 : Nat) n)) * (1 : Nat) ≤ (140737488355328 : Nat), nat_lit 1 + List.length (digs (8 : Nat) n) = List.length (putN n), ∀ (k : Nat), k < nat_lit 1 + List.length (digs (8 : Nat) n) → catF (nat_lit 1) (catF (nat_lit 0) (catF (0 : Nat) (getL []) fun x => []) fun k => getL [[V.int IntKind.u8 (IntKind.wrap IntKind.u8 (↑(List.length (digs (8 : Nat) n)) : Int))]] ((0 : Nat) + k)) (fun k => bl (digs (8 : Nat) n) ((0 : Nat) + k)) k = bl (putN n) k, true = false → true = false, q0, q0, q0, nat_lit 1 + List.length (digs (8 : Nat) n) = List.length (putN n), (none : Option Nat) = none ∨ (none : Option Nat) = none]) : Option (V × Heap × List Prop)) := by kernel_rfl

theorem bdRt_p (l : List UInt8) (s : ByteArray) :
  along Tryz.prog (bdRt l s) [] = (some (.sl (.o 63) 1 0 0 0 (List.length (l ++ textB s)) none, [(.o 63, bs (l ++ textB s))], [T Tryz.prog 85 [.sl (.o 0) 1 0 0 0 (List.length l) none, .int .i64 (↑(ByteArray.size s) : Int)] [(.o 0, bs l)] (sb (.o 257) (l ++ putZ (↑(ByteArray.size s) : Int))) [(.o 257, bs (l ++ putZ (↑(ByteArray.size s) : Int)))], q (List.length (l ++ putZ (↑(ByteArray.size s) : Int))), (List.length (l ++ putZ (↑(ByteArray.size s) : Int)) + ByteArray.size s) * (1 : Nat) ≤ (140737488355328 : Nat), List.length (l ++ putZ (↑(ByteArray.size s) : Int)) + ByteArray.size s = List.length (l ++ textB s), ∀ (k : Nat), k < List.length (l ++ putZ (↑(ByteArray.size s) : Int)) + ByteArray.size s → catF (List.length (l ++ putZ (↑(ByteArray.size s) : Int))) (bl (l ++ putZ (↑(ByteArray.size s) : Int))) (fun k => [V.int IntKind.u8 (byteAt s k)]) k = bl (l ++ textB s) k, true = false → true = false, q0, q0, q0, List.length (l ++ putZ (↑(ByteArray.size s) : Int)) + ByteArray.size s = List.length (l ++ textB s), (none : Option Nat) = none ∨ (none : Option Nat) = none]) : Option (V × Heap × List Prop)) := by kernel_rfl

theorem bdRpM_p1 (z : Int) (l : List UInt8) :
  along Tryz.prog (bdRpM z l) [true] = (some (.sl (.o 63) 1 0 0 0 (List.length l) none, [(.o 63, bs l)], [q0, (0 : Nat) + List.length l ≤ List.length l, ∀ (k : Nat), k < List.length l → true = true, ((0 : Nat) + List.length l) * (1 : Nat) ≤ (140737488355328 : Nat), decide (z < (0 : Int)) = true, (0 : Nat) + List.length l = List.length l, ∀ (k : Nat), k < (0 : Nat) + List.length l → [V.int IntKind.u8 (↑(UInt8.toNat (List.getD l ((0 : Nat) + (k - (0 : Nat))) (0 : UInt8))) : Int)] = bl l k, true = false → true = false, q0, q0, q0, (0 : Nat) + List.length l = List.length l, (none : Option Nat) = none ∨ (none : Option Nat) = none]) : Option (V × Heap × List Prop)) := by kernel_rfl

theorem bdRw_p (l : List UInt8) (r : SReq) :
  along Tryz.prog (bdRw l r) [] = (some (.sl (.o 63) 1 0 0 0 (List.length (l ++ reqB r)) none, [(.o 63, bs (l ++ reqB r))], [T Tryz.prog 85 [.sl (.o 0) 1 0 0 0 (List.length l) none, .int .i64 (SReq.client r)] [(.o 0, bs l)] (sb (.o 321) (l ++ putZ (SReq.client r))) [(.o 321, bs (l ++ putZ (SReq.client r)))], T Tryz.prog 85 [.sl (.o 321) 1 0 0 0 (List.length (l ++ putZ (SReq.client r))) none, .int .i64 (SReq.num r)] [(.o 321, bs (l ++ putZ (SReq.client r)))] (sb (.o 513) (l ++ putZ (SReq.client r) ++ putZ (SReq.num r))) [(.o 513, bs (l ++ putZ (SReq.client r) ++ putZ (SReq.num r)))], T Tryz.prog 129 [.sl (.o 513) 1 0 0 0 (List.length (l ++ putZ (SReq.client r) ++ putZ (SReq.num r))) none, .str (SReq.data r)] [(.o 513, bs (l ++ putZ (SReq.client r) ++ putZ (SReq.num r)))] (sb (.o 705) (l ++ putZ (SReq.client r) ++ putZ (SReq.num r) ++ textB (SReq.data r))) [(.o 705, bs (l ++ putZ (SReq.client r) ++ putZ (SReq.num r) ++ textB (SReq.data r)))], RLoop Tryz.prog none 1 (cB (cB (cR (cL (cR (cR (bodyOf (Bd.f (bdRw l r))))))))) 17 (St.mk [.sl (.o 1) 1 0 0 0 (List.length (reqH l r ++ segB [])) none, .any, .any, .ptr (.o 2) 0 0 0 0, .any, .int .i64 0, .any, .any, .any, .any, .any, .any, .any, .any, .any, .any, .any, .any, .any, .any, .any, .any, .any, .any, .any, .any, .any, .any] [(.o 1, bs (reqH l r ++ segB [])), (.o 2, .flat (SReq.c r))] 3 []) (.exit 0) (St.mk [.sl (.o 1) 1 0 0 0 (List.length (reqH l r ++ segB (List.take 16 (SReq.tag r)))) none, .any, .any, .ptr (.o 2) 0 0 0 0, .any, .int .i64 16, .any, .any, .any, .any, .any, .any, .any, .any, .any, .any, .any, .any, .any, .any, .any, .any, .any, .any, .any, .any, .any, .any] [(.o 1, bs (reqH l r ++ segB (List.take 16 (SReq.tag r)))), (.o 2, .flat (SReq.c r))] 3 []), List.length (l ++ putZ (SReq.client r) ++ putZ (SReq.num r) ++ textB (SReq.data r)) = List.length (reqH l r ++ segB []), ∀ (k : Nat), k < List.length (l ++ putZ (SReq.client r) ++ putZ (SReq.num r) ++ textB (SReq.data r)) → bl (l ++ putZ (SReq.client r) ++ putZ (SReq.num r) ++ textB (SReq.data r)) k = bl (reqH l r ++ segB []) k, true = false → true = false, q (SReq.client r), q (SReq.num r), q (SReq.data r), q (16 : Nat), q (SReq.tag r), q0, q0, q0, List.length (l ++ putZ (SReq.client r) ++ putZ (SReq.num r) ++ textB (SReq.data r)) = List.length (reqH l r ++ segB []), (none : Option Nat) = none ∨ (none : Option Nat) = none, q0, q0, q0, q1, List.length (reqH l r ++ segB (List.take (16 : Nat) (SReq.tag r))) = List.length (l ++ reqB r), ∀ (k : Nat), k < List.length (reqH l r ++ segB (List.take (16 : Nat) (SReq.tag r))) → bl (reqH l r ++ segB (List.take (16 : Nat) (SReq.tag r))) k = bl (l ++ reqB r) k, true = false → true = false, q0, q0, q0, List.length (reqH l r ++ segB (List.take (16 : Nat) (SReq.tag r))) = List.length (l ++ reqB r), (none : Option Nat) = none ∨ (none : Option Nat) = none]) : Option (V × Heap × List Prop)) := by kernel_rfl

theorem pcRw_p1 (l : List UInt8) (r : SReq) (k : Nat) :
  alongPc Tryz.prog (pcRw l r k) [true] = (some (.normal, St.mk [.sl (.o 1) 1 0 0 0 (List.length (reqH l r ++ segB (List.take (k + 1) (SReq.tag r)))) none, .any, .any, .ptr (.o 2) 0 0 0 0, .any, .int .i64 (↑(k + 1) : Int), .any, .any, .any, .any, .any, .any, .any, .any, .any, .any, .any, .any, .any, .any, .any, .any, .any, .any, .any, .any, .any, .any] [(.o 1, bs (reqH l r ++ segB (List.take (k + 1) (SReq.tag r)))), (.o 2, .flat (SReq.c r))] 3 [], [decide ((↑k : Int) < (16 : Int)) = true, (0 : Int) ≤ (↑k : Int) ∧ (↑k : Int) < (16 : Int), (0 : Nat) + Int.toNat (↑k : Int) < (16 : Nat), q (List.length (reqH l r ++ segB (List.take k (SReq.tag r)))), nat_lit 1 ≤ (1 : Nat), ∀ (k_1 : Nat), k_1 < (1 : Nat) → solid (getL [[V.int IntKind.u8 (List.getD (SReq.tag r) ((0 : Nat) + Int.toNat (↑k : Int)) (0 : Int))]] ((0 : Nat) + k_1)) = true, (List.length (reqH l r ++ segB (List.take k (SReq.tag r))) + (1 : Nat)) * (1 : Nat) ≤ (140737488355328 : Nat), InR IntKind.i64 ((↑k : Int) + (1 : Int)), List.length (reqH l r ++ segB (List.take k (SReq.tag r))) + (1 : Nat) = List.length (reqH l r ++ segB (List.take (k + (1 : Nat)) (SReq.tag r))), ∀ (k_1 : Nat), k_1 < List.length (reqH l r ++ segB (List.take k (SReq.tag r))) + (1 : Nat) → catF (List.length (reqH l r ++ segB (List.take k (SReq.tag r)))) (bl (reqH l r ++ segB (List.take k (SReq.tag r)))) (fun k_2 => getL [[V.int IntKind.u8 (List.getD (SReq.tag r) ((0 : Nat) + Int.toNat (↑k : Int)) (0 : Int))]] ((0 : Nat) + k_2)) k_1 = bl (reqH l r ++ segB (List.take (k + (1 : Nat)) (SReq.tag r))) k_1, true = false → true = false, q (SReq.client r), q (SReq.num r), q (SReq.data r), q (16 : Nat), q (SReq.tag r), q0, q0, q0, List.length (reqH l r ++ segB (List.take k (SReq.tag r))) + (1 : Nat) = List.length (reqH l r ++ segB (List.take (k + (1 : Nat)) (SReq.tag r))), (none : Option Nat) = none ∨ (none : Option Nat) = none, q0, q0, q0, (↑k : Int) + (1 : Int) = (↑(k + (1 : Nat)) : Int)]) : Option (Exit × St × List Prop)) := by kernel_rfl
theorem pcRw_p0 (l : List UInt8) (r : SReq) (k : Nat) :
  alongPc Tryz.prog (pcRw l r k) [false] = (some (.exit 0, St.mk [.sl (.o 1) 1 0 0 0 (List.length (reqH l r ++ segB (List.take k (SReq.tag r)))) none, .any, .any, .ptr (.o 2) 0 0 0 0, .any, .int .i64 ↑k, .any, .any, .any, .any, .any, .any, .any, .any, .any, .any, .any, .any, .any, .any, .any, .any, .any, .any, .any, .any, .any, .any] [(.o 1, bs (reqH l r ++ segB (List.take k (SReq.tag r)))), (.o 2, .flat (SReq.c r))] 3 [], [decide ((↑k : Int) < (16 : Int)) = false, q (List.length (reqH l r ++ segB (List.take k (SReq.tag r)))), ∀ (k_1 : Nat), k_1 < List.length (reqH l r ++ segB (List.take k (SReq.tag r))) → bl (reqH l r ++ segB (List.take k (SReq.tag r))) k_1 = bl (reqH l r ++ segB (List.take k (SReq.tag r))) k_1, true = false → true = false, q (SReq.client r), q (SReq.num r), q (SReq.data r), q (16 : Nat), q (SReq.tag r), q0, q0, q0, q (List.length (reqH l r ++ segB (List.take k (SReq.tag r)))), (none : Option Nat) = none ∨ (none : Option Nat) = none, q0, q0, q0, q (↑k : Int)]) : Option (Exit × St × List Prop)) := by kernel_rfl

theorem pcPB_p1 (l : List UInt8) (b : SBatch) (k : Nat) :
  alongPc Tryz.prog (pcPB l b k) [true] = (some (.normal, St.mk [.sl (.o 1) 1 0 0 0 (List.length (l ++ (putZ (↑(SBatch.n b + 1) : Int) ++ reqsB (SBatch.req b) (k + 1)))) none, .any, .any, .ptr (.o 2) 0 0 0 0, .any, .int .i64 (↑(k + 1) : Int), .any, .any, .any, .any, .any, .any, .any, .any, .any, .any, .any, .any, .any, .any, .any, .any, .any, .any, .any, .any, .any, .any, .any, .any, .any] [(.o 1, bs (l ++ (putZ (↑(SBatch.n b + 1) : Int) ++ reqsB (SBatch.req b) (k + 1)))), (.o 2, .flat (SBatch.c b))] 3 [], [decide ((↑k : Int) < (↑(SBatch.n b) : Int)) = true, (0 : Int) ≤ (↑k : Int) ∧ (↑k : Int) < (↑(SBatch.n b) : Int), T Tryz.prog 86 [.sl (.o 1) 1 0 0 0 (List.length (l ++ (putZ (↑(SBatch.n b + 1) : Int) ++ reqsB (SBatch.req b) k))) none, .agg [.int .i64 (SReq.client (SBatch.req b (Int.toNat (↑k : Int)))), .int .i64 (SReq.num (SBatch.req b (Int.toNat (↑k : Int)))), .str (SReq.data (SBatch.req b (Int.toNat (↑k : Int)))), .seg .u8 16 (SReq.tag (SBatch.req b (Int.toNat (↑k : Int))))]] [(.o 1, bs (l ++ (putZ (↑(SBatch.n b + 1) : Int) ++ reqsB (SBatch.req b) k)))] (sb (.o 707) (l ++ (putZ (↑(SBatch.n b + 1) : Int) ++ reqsB (SBatch.req b) (k + 1)))) [(.o 707, bs (l ++ (putZ (↑(SBatch.n b + 1) : Int) ++ reqsB (SBatch.req b) (k + 1))))], InR IntKind.i64 ((↑k : Int) + (1 : Int)), q (List.length (l ++ (putZ (↑(SBatch.n b + (1 : Nat)) : Int) ++ reqsB (SBatch.req b) (k + (1 : Nat))))), ∀ (k_1 : Nat), k_1 < List.length (l ++ (putZ (↑(SBatch.n b + (1 : Nat)) : Int) ++ reqsB (SBatch.req b) (k + (1 : Nat)))) → bl (l ++ (putZ (↑(SBatch.n b + (1 : Nat)) : Int) ++ reqsB (SBatch.req b) (k + (1 : Nat)))) k_1 = bl (l ++ (putZ (↑(SBatch.n b + (1 : Nat)) : Int) ++ reqsB (SBatch.req b) (k + (1 : Nat)))) k_1, true = false → true = false, q (SBatch.noop b), q (SBatch.n b), ∀ (k : Nat), k < SBatch.n b → SReq.c (SBatch.req b k) = SReq.c (SBatch.req b k), false = true → false = true, q0, q0, q0, q (List.length (l ++ (putZ (↑(SBatch.n b + (1 : Nat)) : Int) ++ reqsB (SBatch.req b) (k + (1 : Nat))))), (none : Option Nat) = none ∨ (none : Option Nat) = none, q0, q0, q0, (↑k : Int) + (1 : Int) = (↑(k + (1 : Nat)) : Int)]) : Option (Exit × St × List Prop)) := by kernel_rfl
theorem pcPB_p0 (l : List UInt8) (b : SBatch) (k : Nat) :
  alongPc Tryz.prog (pcPB l b k) [false] = (some (.exit 0, St.mk [.sl (.o 1) 1 0 0 0 (List.length (l ++ (putZ (↑(SBatch.n b + 1) : Int) ++ reqsB (SBatch.req b) k))) none, .any, .any, .ptr (.o 2) 0 0 0 0, .any, .int .i64 ↑k, .any, .any, .any, .any, .any, .any, .any, .any, .any, .any, .any, .any, .any, .any, .any, .any, .any, .any, .any, .any, .any, .any, .any, .any, .any] [(.o 1, bs (l ++ (putZ (↑(SBatch.n b + 1) : Int) ++ reqsB (SBatch.req b) k))), (.o 2, .flat (SBatch.c b))] 3 [], [decide ((↑k : Int) < (↑(SBatch.n b) : Int)) = false, q (List.length (l ++ (putZ (↑(SBatch.n b + (1 : Nat)) : Int) ++ reqsB (SBatch.req b) k))), ∀ (k_1 : Nat), k_1 < List.length (l ++ (putZ (↑(SBatch.n b + (1 : Nat)) : Int) ++ reqsB (SBatch.req b) k)) → bl (l ++ (putZ (↑(SBatch.n b + (1 : Nat)) : Int) ++ reqsB (SBatch.req b) k)) k_1 = bl (l ++ (putZ (↑(SBatch.n b + (1 : Nat)) : Int) ++ reqsB (SBatch.req b) k)) k_1, true = false → true = false, q (SBatch.noop b), q (SBatch.n b), ∀ (k : Nat), k < SBatch.n b → SReq.c (SBatch.req b k) = SReq.c (SBatch.req b k), false = true → false = true, q0, q0, q0, q (List.length (l ++ (putZ (↑(SBatch.n b + (1 : Nat)) : Int) ++ reqsB (SBatch.req b) k))), (none : Option Nat) = none ∨ (none : Option Nat) = none, q0, q0, q0, q (↑k : Int)]) : Option (Exit × St × List Prop)) := by kernel_rfl

theorem bdPN_p1 (b : SBatch) :
  along Tryz.prog (bdPN b) [true] = (some (.sl (.o 320) 1 0 0 0 (List.length (bif SBatch.noop b then putZ (0 : Int) else putZ (↑(SBatch.n b + 1) : Int))) none, [(.o 320, bs (bif SBatch.noop b then putZ (0 : Int) else putZ (↑(SBatch.n b + 1) : Int)))], [SBatch.noop b = true, T Tryz.prog 85 [.snil, .int .i64 0] [] (sb (.o 320) (bif SBatch.noop b then putZ (0 : Int) else putZ (↑(SBatch.n b + 1) : Int))) [(.o 320, bs (bif SBatch.noop b then putZ (0 : Int) else putZ (↑(SBatch.n b + 1) : Int)))]]) : Option (V × Heap × List Prop)) := by kernel_rfl
theorem bdPN_p0 (b : SBatch) :
  along Tryz.prog (bdPN b) [false] = (some (.sl (.o 1) 1 0 0 0 (List.length ([] ++ (putZ (↑(SBatch.n b + 1) : Int) ++ reqsB (SBatch.req b) (SBatch.n b)))) none, [(.o 1, bs ([] ++ (putZ (↑(SBatch.n b + 1) : Int) ++ reqsB (SBatch.req b) (SBatch.n b))))], [SBatch.noop b = false, InR IntKind.i64 ((↑(SBatch.n b) : Int) + (1 : Int)), T Tryz.prog 85 [.snil, .int .i64 ((↑(SBatch.n b) : Int) + (1 : Int))] [] (sb (.o 576) (bif SBatch.noop b then putZ (0 : Int) else putZ (↑(SBatch.n b + 1) : Int))) [(.o 576, bs (bif SBatch.noop b then putZ (0 : Int) else putZ (↑(SBatch.n b + 1) : Int)))], RLoop Tryz.prog none 0 (cB (cB (cR (cL (cR (cR (cR (bodyOf (Bd.f (bdPN b)))))))))) (SBatch.n b + 1) (St.mk [.sl (.o 1) 1 0 0 0 (List.length ([] ++ (putZ (↑(SBatch.n b + 1) : Int) ++ reqsB (SBatch.req b) 0))) none, .any, .any, .ptr (.o 2) 0 0 0 0, .any, .int .i64 0, .any, .any, .any, .any, .any, .any, .any, .any, .any, .any, .any, .any, .any, .any, .any, .any, .any, .any, .any, .any, .any, .any, .any, .any, .any] [(.o 1, bs ([] ++ (putZ (↑(SBatch.n b + 1) : Int) ++ reqsB (SBatch.req b) 0))), (.o 2, .flat (SBatch.c b))] 3 []) (.exit 0) (St.mk [.sl (.o 1) 1 0 0 0 (List.length ([] ++ (putZ (↑(SBatch.n b + 1) : Int) ++ reqsB (SBatch.req b) (SBatch.n b)))) none, .any, .any, .ptr (.o 2) 0 0 0 0, .any, .int .i64 (↑(SBatch.n b) : Int), .any, .any, .any, .any, .any, .any, .any, .any, .any, .any, .any, .any, .any, .any, .any, .any, .any, .any, .any, .any, .any, .any, .any, .any, .any] [(.o 1, bs ([] ++ (putZ (↑(SBatch.n b + 1) : Int) ++ reqsB (SBatch.req b) (SBatch.n b)))), (.o 2, .flat (SBatch.c b))] 3 []), List.length (bif SBatch.noop b then putZ (0 : Int) else putZ (↑(SBatch.n b + (1 : Nat)) : Int)) = List.length ([] ++ (putZ (↑(SBatch.n b + (1 : Nat)) : Int) ++ reqsB (SBatch.req b) (0 : Nat))), ∀ (k : Nat), k < List.length (bif SBatch.noop b then putZ (0 : Int) else putZ (↑(SBatch.n b + (1 : Nat)) : Int)) → bl (bif SBatch.noop b then putZ (0 : Int) else putZ (↑(SBatch.n b + (1 : Nat)) : Int)) k = bl ([] ++ (putZ (↑(SBatch.n b + (1 : Nat)) : Int) ++ reqsB (SBatch.req b) (0 : Nat))) k, true = false → true = false, q (SBatch.noop b), q (SBatch.n b), ∀ (k : Nat), k < SBatch.n b → SReq.c (SBatch.req b k) = SReq.c (SBatch.req b k), false = true → false = true, q0, q0, q0, List.length (bif SBatch.noop b then putZ (0 : Int) else putZ (↑(SBatch.n b + (1 : Nat)) : Int)) = List.length ([] ++ (putZ (↑(SBatch.n b + (1 : Nat)) : Int) ++ reqsB (SBatch.req b) (0 : Nat))), (none : Option Nat) = none ∨ (none : Option Nat) = none, q0, q0, q0, q1]) : Option (V × Heap × List Prop)) := by kernel_rfl

structure SegOk (n : Nat) (xs : List Int) : Prop where
 len : xs.length = n
 rng : ∀ x ∈ xs, 0 ≤ x ∧ x ≤ 255
theorem segB_len (xs : List Int) : (segB xs).length = xs.length := by simp [segB]
theorem strB_len (s : ByteArray) : (strB s).length = s.size := rfl
theorem putZ_pos {z : Int} (h : ¬ z < 0) : putZ z = putN z.toNat := if_neg h
theorem putZ_neg {z : Int} (h : z < 0) : putZ z = [] := if_pos h
theorem putZ_len {z : Int} (h : num63 z) : (putZ z).length ≤ 9 := by
 by_cases h0 : z < 0
 ·rw [putZ_neg h0]; simp
 ·rw [putZ_pos h0]; exact putN_len (by have := h.2; omega)
theorem num63_nat {n : Nat} (h : n < 9223372036854775808) : num63 (n : Int) := ⟨by omega, by omega⟩
theorem textB_eq (s : ByteArray) : textB s = putZ s.size ++ strB s := by rw [putZ_pos (by omega), Int.toNat_natCast]; rfl
theorem textB_len {s : ByteArray} (h : s.size ≤ 1099511627776) : (textB s).length ≤ 9 + s.size := by
 have := putZ_len (num63_nat (n := s.size) (by omega))
 rw [textB_eq, List.length_append, strB_len]; omega
theorem lastD0 (n : Nat) : lastD n 0 = [] := by simp [lastD]
theorem lastDe (n : Nat) : lastD n (digs 8 n).length = digs 8 n := by simp [lastD]
theorem lastD_len {n k : Nat} (h : k ≤ (digs 8 n).length) : (lastD n k).length = k := by simp [lastD]; omega
theorem lastD_s {n k : Nat} (h : n < 9223372036854775808) (hk : k < (digs 8 n).length) : lastD n (k + 1) = UInt8.ofNat (n / 256 ^ k % 256) :: lastD n k := by
 have hg := digs_get 8 n ((digs 8 n).length - (k + 1)) (digs8 h) (by omega)
 rw [show (digs 8 n).length - 1 - ((digs 8 n).length - (k + 1)) = k by omega] at hg
 have hi : (digs 8 n).length - (k + 1) < (digs 8 n).length := by omega
 rw [List.getElem?_eq_getElem hi, Option.some.injEq] at hg
 rw [lastD, List.drop_eq_getElem_cons hi, hg, lastD, show (digs 8 n).length - (k + 1) + 1 = (digs 8 n).length - k by omega]
theorem catF_ext {n : Nat} {f f' g g' : Nat → List V} (h : ∀ k, k < n → f k = f' k) (h' : ∀ k, g k = g' k) (k : Nat) : catF n f g k = catF n f' g' k := by
 unfold catF
 cases hb : Nat.blt k n with
 | true => exact h k (Nat.le_of_ble_eq_true hb)
 | false => exact h' _
theorem catF_cons (l : List UInt8) {v : Int} {x : UInt8} (h : v = (x.toNat : Int)) (k : Nat) : catF 1 (getL [[V.int .u8 v]]) (fun k => bl l (0 + k)) k = bl (x :: l) k := by
 rw [show x :: l = [x] ++ l from rfl, bl_append]
 refine catF_ext (n := 1) (fun j hj => ?_) (fun j => by rw [Nat.zero_add]) k
 rw [show j = 0 by omega, h]; rfl
theorem T_dg1 {n : Nat} (h : n < 9223372036854775808) : T Tryz.prog 128 [.int .i64 n] [] (sb (.o 63) (digs 8 n)) [(.o 63, bs (digs 8 n))] := by
 have h1 := digs_len 8 n (digs8 h)
 have hL : RLoop Tryz.prog none 1 (cB (cB (cL (cR (cR (bodyOf Tryz.f128)))))) ((digs 8 n).length + 1) (dgI n 0) (.exit 0) (dgI n (digs 8 n).length) := by
  refine RLoop.inv (dgI n) (digs 8 n).length (fun k hk => ?_) ?_ (by simp)
  ·refine R_alongPc NG MO _ (pcDg_p1 n k) ?_ (show 1 ≤ 2 by decide)
   have hp : 0 < n / 256 ^ k := h1.2.2 k hk
   have hq : n / 256 ^ k ≤ n := Nat.div_le_self _ _
   have e := lastD_s h hk
   have hl := lastD_len (n := n) (k := k) (by omega)
   have hv : IntKind.wrap IntKind.u8 (((n / 256 ^ k : Nat) : Int) % 256) = ((UInt8.ofNat (n / 256 ^ k % 256)).toNat : Int) := by
    rw [show ((n / 256 ^ k : Nat) : Int) % 256 = ((n / 256 ^ k % 256 : Nat) : Int) from rfl, wrap8']; simp
   have hd : ((n / 256 ^ k : Nat) : Int) / 256 = ((n / 256 ^ (k + 1) : Nat) : Int) := by
    rw [Nat.pow_succ, ← Nat.div_div_eq_div_mul]; rfl
   have hI : InR IntKind.i64 (((n / 256 ^ k : Nat) : Int) / 256) := by
    generalize n / 256 ^ k = q at hq
    simp [InR, IntKind.min, IntKind.max, IntKind.signed, IntKind.bits]; omega
   simp only [All]
   and_intros
   all_goals first
    | (rw [decide_eq_true_eq]; omega)
    | exact hd
    | exact hI.1
    | exact hI.2
    | (rw [e, List.length_cons]; omega)
    | (rw [e]; intro j _; exact catF_cons _ hv j)
    | omega
    | trivial
    | rfl
    | (intro _ _; rfl)
    | (simp [IntKind.min, IntKind.max, IntKind.signed, IntKind.bits] <;> omega)
  ·refine R_alongPc NG MO _ (pcDg_p0 n (digs 8 n).length) ?_ (show 1 ≤ 2 by decide)
   have hz := h1.2.1
   simp only [All]
   and_intros
   all_goals first
    | (rw [decide_eq_false_iff_not]; omega)
    | trivial
    | rfl
    | (intro _ _; rfl)
    | (simp; done)
 have ha := R_alongPc NG MO _ (pcDa_p n) (by simp [All]) (Nat.le_refl _)
 have hb := R_alongPc NG MO _ (pcDb_p n) (by simp [All]) (Nat.le_refl _)
 have hc := R_alongPc NG MO _ (pcDc_p n) (by
  simp only [All]
  and_intros
  all_goals first
   | exact hL
   | trivial
   | rfl
   | (simp only [lastD0]; rfl)
   | (simp only [lastDe]; done)
   | (simp only [Nat.div_one]; done)
   | (intro k hk; omega)
   | (rw [lastDe]; intro _ _; rfl)
   | (simp; done)) (Nat.le_refl _)
 exact T_of_end (c0 := []) Tryz.func128 (by kernel_rfl) (R.seq ha (R.seq hb hc)) (names := [.o 63]) (tl := none) rfl trivial (pinH_ok (by kernel_rfl)) (by kernel_rfl)
theorem T_dg {n : Nat} (h : n < 9223372036854775808) {m : Nat} : T Tryz.prog 128 [.int .i64 n] [] (sb (.o m) (digs 8 n)) [(.o m, bs (digs 8 n))] := by
 obtain ⟨σ, hσ, h1⟩ := T.at (T_dg1 h) [.o 63] [.o m] (by simp) (by simp) rfl
 simp only [List.map_cons, List.map_nil, List.cons.injEq, and_true] at hσ
 simpa [V.rens, V.ren, sb, bs, Heap.ren, B.ren, hσ] using h1
theorem put_catF (l D : List UInt8) {v : Int} {x : UInt8} (h : v = (x.toNat : Int)) (k : Nat) : catF (0 + l.length + 1) (catF (0 + l.length) (catF 0 (getL []) fun k => bl l (0 + k)) fun k => getL [[V.int .u8 v]] (0 + k)) (fun k => bl D (0 + k)) k = bl (l ++ x :: D) k := by
 rw [show l ++ x :: D = (l ++ [x]) ++ D by simp, bl_append, List.length_append, List.length_singleton]
 simp only [Nat.zero_add]
 refine catF_ext (fun j hj => ?_) (fun _ => rfl) k
 have := catF_bl1 l v x h j hj
 simp only [Nat.zero_add] at this
 exact this
theorem T_rp1 {n : Nat} (h : n < 9223372036854775808) {l : List UInt8} (hl : l.length ≤ 70368744177664) : T Tryz.prog 85 [sb (.o 0) l, .int .i64 n] [(.o 0, bs l)] (sb (.o 63) (l ++ putN n)) [(.o 63, bs (l ++ putN n))] := by
 have h1 := digs_len 8 n (digs8 h)
 have hv : IntKind.wrap IntKind.u8 ((digs 8 n).length : Int) = ((UInt8.ofNat (digs 8 n).length).toNat : Int) := wrap8 _
 refine T_al (bdRp_p0 n l) Tryz.func85 ?_
 simp only [All]
 and_intros
 all_goals first
  | exact T_dg h
  | omega
  | (intro k _; exact put_catF l (digs 8 n) hv k)
  | (intro k hk; rw [show k = 0 by omega]; rfl)
  | (simp [putN, IntKind.min, IntKind.max, IntKind.signed, IntKind.bits] <;> omega)
theorem T_rpM {z : Int} (h : z < 0) {l : List UInt8} (hl : l.length ≤ 70368744177664) : T Tryz.prog 85 [sb (.o 0) l, .int .i64 z] [(.o 0, bs l)] (sb (.o 63) l) [(.o 63, bs l)] := by
 refine T_al (bdRpM_p1 z l) Tryz.func85 ?_
 simp only [All]; and_intros
 all_goals first
  | exact True.intro
  | (intro k hk; rw [Nat.zero_add, Nat.sub_zero]; rfl)
  | (with_reducible assumption)
  | (rw [decide_eq_true_eq]; omega)
  | (rw [decide_eq_false_iff_not]; omega)
  | with_reducible rfl
  | (intro _ _; exact True.intro)
  | (intro _ _; with_reducible rfl)
  | (intro _ _; rfl)
  | (simp only [IntKind.min, IntKind.max, IntKind.signed, IntKind.bits, if_true]; omega)
  | omega
  | (intro h; exact h)
  | (intro h; cases h; done)
  | exact .inl rfl
  | exact .inl True.intro
  | exact .inr rfl
  | (simp; done)
theorem T_rp {z : Int} (h : num63 z) {l : List UInt8} (hl : l.length ≤ 70368744177664) {a m : Nat} (hne : a ≠ m) : T Tryz.prog 85 [sb (.o a) l, .int .i64 z] [(.o a, bs l)] (sb (.o m) (l ++ putZ z)) [(.o m, bs (l ++ putZ z))] := by
 have h0 : T Tryz.prog 85 [sb (.o 0) l, .int .i64 z] [(.o 0, bs l)] (sb (.o 63) (l ++ putZ z)) [(.o 63, bs (l ++ putZ z))] := by
  by_cases hz : z < 0
  ·rw [putZ_neg hz, List.append_nil]; exact T_rpM hz hl
  ·have e : ((z.toNat : Nat) : Int) = z := Int.toNat_of_nonneg (by omega)
   have h0 := T_rp1 (n := z.toNat) (by have := h.2; omega) hl
   rw [e] at h0
   rw [putZ_pos hz]; exact h0
 obtain ⟨σ, hσ, h1⟩ := T.at h0 [.o 0, .o 63] [.o a, .o m] (by simp) (by simp [hne]) rfl
 simp only [List.map_cons, List.map_nil, List.cons.injEq, and_true] at hσ
 simpa [V.rens, V.ren, sb, bs, Heap.ren, B.ren, hσ.1, hσ.2] using h1
theorem T_rp0 {n : Nat} (h : n < 9223372036854775808) : T Tryz.prog 85 [.snil, .int .i64 n] [] (sb (.o 63) (putN n)) [(.o 63, bs (putN n))] := by
 have h1 := digs_len 8 n (digs8 h)
 have hv : IntKind.wrap IntKind.u8 ((digs 8 n).length : Int) = ((UInt8.ofNat (digs 8 n).length).toNat : Int) := wrap8 _
 refine T_al (bdRp0_p0 n) Tryz.func85 ?_
 simp only [All]
 and_intros
 all_goals first
  | exact T_dg h
  | omega
  | (intro k _; exact put_catF [] (digs 8 n) hv k)
  | (intro k hk; rw [show k = 0 by omega]; rfl)
  | (simp [putN, IntKind.min, IntKind.max, IntKind.signed, IntKind.bits] <;> omega)
theorem T_rpNil {z : Int} (h0 : ¬ z < 0) (h : num63 z) {m : Nat} : T Tryz.prog 85 [.snil, .int .i64 z] [] (sb (.o m) (putZ z)) [(.o m, bs (putZ z))] := by
 have e : ((z.toNat : Nat) : Int) = z := Int.toNat_of_nonneg (by omega)
 have h1 := T_rp0 (n := z.toNat) (by have := h.2; omega)
 rw [e] at h1
 rw [putZ_pos h0]
 obtain ⟨σ, hσ, h1⟩ := T.at h1 [.o 63] [.o m] (by simp) (by simp) rfl
 simp only [List.map_cons, List.map_nil, List.cons.injEq, and_true] at hσ
 simpa [V.rens, V.ren, sb, bs, Heap.ren, B.ren, hσ] using h1
theorem T_rt1 {l : List UInt8} {s : ByteArray} (hl : l.length ≤ 17592186044416) (hs : s.size ≤ 1099511627776) : T Tryz.prog 129 [sb (.o 0) l, .str s] [(.o 0, bs l)] (sb (.o 63) (l ++ textB s)) [(.o 63, bs (l ++ textB s))] := by
 have hz := num63_nat (n := s.size) (by omega)
 have e : l ++ textB s = (l ++ putZ s.size) ++ strB s := by rw [textB_eq, List.append_assoc]
 have h9 := putZ_len hz
 have hlen : (l ++ putZ (s.size : Int)).length ≤ l.length + 9 := by rw [List.length_append]; omega
 have hle : (l ++ putZ (s.size : Int)).length + s.size = (l ++ textB s).length := by rw [e, List.length_append (bs := strB s), strB_len]
 refine T_al (bdRt_p l s) Tryz.func129 ?_
 simp only [All]
 and_intros
 all_goals first
  | exact T_rp hz (by omega) (by decide)
  | exact hle
  | omega
  | (rw [e, bl_append (l ++ putZ (s.size : Int)) (strB s)]; intro k _; rfl)
  | simp
theorem T_rt {l : List UInt8} {s : ByteArray} (hl : l.length ≤ 17592186044416) (hs : s.size ≤ 1099511627776) {a m : Nat} (hne : a ≠ m) : T Tryz.prog 129 [sb (.o a) l, .str s] [(.o a, bs l)] (sb (.o m) (l ++ textB s)) [(.o m, bs (l ++ textB s))] := by
 obtain ⟨σ, hσ, h1⟩ := T.at (T_rt1 hl hs) [.o 0, .o 63] [.o a, .o m] (by simp) (by simp [hne]) rfl
 simp only [List.map_cons, List.map_nil, List.cons.injEq, and_true] at hσ
 simpa [V.rens, V.ren, sb, bs, Heap.ren, B.ren, hσ.1, hσ.2] using h1
theorem segB_takeS {xs : List Int} {k : Nat} (h : k < xs.length) : segB (xs.take (k + 1)) = segB (xs.take k) ++ [UInt8.ofNat (xs.getD k 0).toNat] := by
 rw [List.take_add_one, List.getElem?_eq_getElem h, segB, segB, List.map_append, List.getD_eq_getElem?_getD, List.getElem?_eq_getElem h]; rfl
theorem seg_byte {n : Nat} {xs : List Int} (h : SegOk n xs) {k : Nat} (hk : k < xs.length) : xs.getD k 0 = ((UInt8.ofNat (xs.getD k 0).toNat).toNat : Int) := by
 have hx : xs.getD k 0 ∈ xs := by rw [List.getD_eq_getElem?_getD, List.getElem?_eq_getElem hk]; exact List.getElem_mem hk
 have := h.rng _ hx
 rw [UInt8.toNat_ofNat']
 omega
structure ReqOk (r : SReq) : Prop where
 client : num63 r.client
 num : num63 r.num
 data : r.data.size ≤ 1099511627776
 tag : SegOk 16 r.tag
theorem reqB_len {r : SReq} (h : ReqOk r) : (reqB r).length ≤ 43 + r.data.size := by
 have h1 := putZ_len h.client
 have h2 := putZ_len h.num
 have h3 := textB_len h.data
 have h4 := h.tag.len
 simp only [reqB, List.length_append, segB_len]; omega
theorem T_rw1 {l : List UInt8} {r : SReq} (hl : l.length ≤ 8796093022208) (h : ReqOk r) : T Tryz.prog 86 [sb (.o 0) l, .agg r.c] [(.o 0, bs l)] (sb (.o 63) (l ++ reqB r)) [(.o 63, bs (l ++ reqB r))] := by
 have h1 := putZ_len h.client
 have h2 := putZ_len h.num
 have h3 := textB_len h.data
 have hd := h.data
 have h4 := h.tag.len
 have ht : r.tag.take 16 = r.tag := List.take_of_length_le (by omega)
 have e : l ++ reqB r = reqH l r ++ segB r.tag := by simp [reqB, reqH]
 have l1 : (l ++ putZ r.client).length ≤ l.length + 9 := by simp only [List.length_append]; omega
 have l2 : (l ++ putZ r.client ++ putZ r.num).length ≤ l.length + 18 := by simp only [List.length_append]; omega
 have l3 : (reqH l r).length ≤ l.length + 27 + r.data.size := by simp only [reqH, List.length_append]; omega
 have hL : RLoop Tryz.prog none 1 (cB (cB (cR (cL (cR (cR (bodyOf Tryz.f86))))))) 17 (rwI l r 0) (.exit 0) (rwI l r 16) := by
  refine RLoop.inv (rwI l r) 16 (fun k hk => ?_) ?_ (by simp)
  ·have e := segB_takeS (xs := r.tag) (k := k) (by omega)
   have hv := seg_byte h.tag (k := k) (by omega)
   have hc := catF_bl1 (reqH l r ++ segB (r.tag.take k)) _ _ hv
   have hn : (reqH l r ++ segB (r.tag.take k)).length ≤ (reqH l r).length + 16 := by
    rw [List.length_append, segB_len, List.length_take]; omega
   refine R_alongPc NG MO _ (pcRw_p1 l r k) ?_ (show 1 ≤ 3 by decide)
   simp only [All, e, Int.toNat_natCast, Nat.zero_add, ← List.append_assoc]
   and_intros
   all_goals first
    | (rw [decide_eq_true_eq]; omega)
    | (simp only [Nat.zero_add] at hc; exact hc)
    | omega
    | (intro j hj; rw [show j = 0 by omega]; rfl)
    | (simp [IntKind.min, IntKind.max, IntKind.signed, IntKind.bits] <;> omega)
  ·refine R_alongPc NG MO _ (pcRw_p0 l r 16) ?_ (show 1 ≤ 3 by decide)
   simp [All]
 refine T_al (bdRw_p l r) Tryz.func86 ?_
 simp only [All]
 and_intros
 all_goals first
  | exact T_rp h.client (by omega) (by decide)
  | exact T_rp h.num (by omega) (by decide)
  | exact T_rt (by omega) h.data (by decide)
  | exact hL
  | trivial
  | rfl
  | (intro _ _; rfl)
  | (rw [ht, e]; done)
  | (rw [ht, e]; intro _ _; rfl)
  | (rw [reqH, show segB [] = [] from rfl, List.append_nil]; done)
  | (rw [reqH, show segB [] = [] from rfl, List.append_nil]; intro _ _; rfl)
  | (simp; done)
theorem T_rw {l : List UInt8} {r : SReq} (hl : l.length ≤ 8796093022208) (h : ReqOk r) {a m : Nat} (hne : a ≠ m) : T Tryz.prog 86 [sb (.o a) l, .agg r.c] [(.o a, bs l)] (sb (.o m) (l ++ reqB r)) [(.o m, bs (l ++ reqB r))] := by
 obtain ⟨σ, hσ, h1⟩ := T.at (T_rw1 hl h) [.o 0, .o 63] [.o a, .o m] (by simp) (by simp [hne]) rfl
 simp only [List.map_cons, List.map_nil, List.cons.injEq, and_true] at hσ
 simpa [V.rens, V.ren, sb, bs, Heap.ren, B.ren, SReq.c, hσ.1, hσ.2] using h1
structure BatchOk (b : SBatch) : Prop where
 n : b.n ≤ 100000
 req : ∀ k, k < b.n → ReqOk (b.req k)
 data : ∀ k, k < b.n → (b.req k).data.size ≤ 10000
theorem reqsB_len {b : SBatch} (h : BatchOk b) : ∀ k, k ≤ b.n → (reqsB b.req k).length ≤ k * 20000
 | 0, _ => by simp [reqsB]
 | k + 1, hk => by
  have ih := reqsB_len h k (by omega)
  have h1 := reqB_len (h.req k (by omega))
  have h2 := h.data k (by omega)
  rw [reqsB, List.length_append]; omega
theorem batchB_len {b : SBatch} (h : BatchOk b) : (batchB b).length ≤ 2000000009 := by
 unfold batchB
 have h1 := reqsB_len h b.n (Nat.le_refl _)
 have h2 := h.n
 have h3 := putZ_len (num63_nat (n := b.n + 1) (by omega))
 have h4 := putZ_len (num63_nat (n := 0) (by omega))
 split
 ·have : putZ 0 = putZ ((0 : Nat) : Int) := rfl
  rw [this]; omega
 ·rw [List.length_append]; omega
end Go.Proofs.YtlakhciklfkocaaGreat
namespace Go.Proofs.YtlakhciklfkocaaGreat
open Go Sy Go.Proofs
def obS (a : Nat) (l : List Int) : V := .sl (.o a) 1 0 0 0 l.length none
def obB (l : List Int) : B := .rows 1 l.length (ib l) true
def paI (l L : List Int) : St := ⟨mkT 34 [(0, rb l), (3, obS 0 L)], [(.o 0, obB L)], 1, []⟩
def paJ (l L : List Int) (j : Nat) : St := ⟨mkT 34 [(0, rb l), (3, obS 0 L), (4, .int .i64 (8 * (l.length : Int))), (5, .int .i64 (7 - (j : Nat)))], [(.o 0, obB L)], 1, []⟩
noncomputable def bdPa (l L0 : List Int) (z : Nat) (L1 L2 : List Int) : Bd := { f := Tryz.f83, args := [rb l], kb := { db := fun _ _ _ _ => [], lp := fun id t => bif Nat.beq id 0 then [(True, .loop (z + 1) (wToS [(.o 0, nmV (getV t.tmps 3))] (paI l L0)) (.exit 0) (paI l L1))] else [(True, .loop (8 + 1) (wTo (paJ l L1 0)) (.exit 2) (paJ l L2 8))] }, names := fun _ => [.o 0] }
noncomputable def pcPi (l L L2 : List Int) : Pc := { c := cB (cB (cL (cR (cR (bodyOf Tryz.f83))))), st := paI l L, kb := kb0, k := fun x_ t => match x_ with
 | .normal => some (wToS [(.o 0, nmV (getV t.tmps 3))] (paI l L2))
 | _ => some (wTo (paI l L)) }
noncomputable def pcPj (l L : List Int) (j : Nat) (L2 : List Int) : Pc := { c := cB (cB (cR (cL (cR (cR (cR (cR (bodyOf Tryz.f83)))))))), st := paJ l L j, kb := kb0, k := fun x_ t => match x_ with
 | .normal => some (wToS [(.o 0, nmV (getV t.tmps 3))] (paJ l L2 (j + 1)))
 | _ => some (wTo (paJ l L 8)) }
def z8L : List Int := List.replicate 8 0
def btI (h b w : List Int) (i : Nat) : St := ⟨mkT 191 [(1, rb b), (2, p0 0), (4, p0 2), (5, p0 1), (6, .int .i64 (i : Nat))], [(.o 0, .flat [.seg .u32 8 h]), (.o 1, .flat [.seg .u32 64 w]), (.o 2, .flat [.seg .u32 8 z8L])], 3, []⟩
def btJ (h w : List Int) (k : Nat) : St := ⟨mkT 191 [(2, p0 0), (4, p0 2), (5, p0 1), (7, .int .i64 ((16 + k : Nat) : Int))], [(.o 0, .flat [.seg .u32 8 h]), (.o 1, .flat [.seg .u32 64 w]), (.o 2, .flat [.seg .u32 8 z8L])], 3, []⟩
def btK (h w : List Int) (s : S8) (t : Nat) : St := ⟨mkT 191 [(2, p0 0), (4, p0 2), (5, p0 1), (10, p0 3), (11, .int .i64 (t : Nat))], [(.o 0, .flat [.seg .u32 8 h]), (.o 1, .flat [.seg .u32 64 w]), (.o 2, .flat [.seg .u32 8 z8L]), (.o 3, .flat [.seg .u32 8 [s.a, s.b, s.c, s.d, s.e, s.f, s.g, s.h]])], 4, []⟩
def btL (h l : List Int) (i : Nat) : St := ⟨mkT 191 [(2, p0 0), (4, p0 2), (10, p0 3), (16, .int .i64 (i : Nat))], [(.o 0, .flat [.seg .u32 8 h]), (.o 2, .flat [.seg .u32 8 z8L]), (.o 3, .flat [.seg .u32 8 l])], 4, []⟩
noncomputable def bdBt (h b w w2 : List Int) (s0 s : S8) (h2 : List Int) : Bd := { f := Tryz.f84, args := [.agg [.seg .u32 8 h], rb b], kb := { db := fun _ _ _ _ => [], lp := fun id t => bif Nat.beq id 0 then [(True, .loop (16 + 1) (wToS [(.o 0, nmV (getV t.tmps 2)), (.o 1, nmV (getV t.tmps 5)), (.o 2, nmV (getV t.tmps 4))] (btI h b (List.replicate 64 0) 0)) (.exit 0) (btI h b w 16))] else bif Nat.beq id 2 then [(True, .loop (48 + 1) (wTo (btJ h w 0)) (.exit 2) (btJ h w2 48))] else bif Nat.beq id 4 then [(True, .loop (64 + 1) (wToS [(.o 3, nmV (getV t.tmps 10))] (btK h w2 s0 0)) (.exit 4) (btK h w2 s 64))] else [(True, .loop (8 + 1) (wTo (btL h s.l 0)) (.exit 6) (btL h2 s.l 8))] } }
def rqDb : List V → Heap → Nat → List Cl := fun l _ _ => match l with
 | [.int _ x, .int _ n] => [{ val := .int .u32 (rr32 x n) }]
 | _ => []
noncomputable def pcTi (h b w : List Int) (i : Nat) (w2 : List Int) : Pc := { c := cB (cB (cR (cL (cR (cR (bodyOf Tryz.f84)))))), st := btI h b w i, kb := kb0, k := fun x_ _ => match x_ with
 | .normal => some (wTo (btI h b w2 (i + 1)))
 | _ => some (wTo (btI h b w 16)) }
noncomputable def pcTj (h w : List Int) (k : Nat) (w2 : List Int) : Pc := { c := cB (cB (cR (cL (cR (cR (cR (bodyOf Tryz.f84))))))), st := btJ h w k, kb := { db := dbQ [(126, rqDb)] }, k := fun x_ _ => match x_ with
 | .normal => some (wTo (btJ h w2 (k + 1)))
 | _ => some (wTo (btJ h w 48)) }
noncomputable def pcTk (h w : List Int) (s : S8) (t : Nat) (s2 : S8) : Pc := { c := cB (cB (cR (cL (cR (cR (cR (cR (cR (bodyOf Tryz.f84))))))))), st := btK h w s t, kb := { db := dbQ [(126, rqDb), (127, krDb)] }, k := fun x_ _ => match x_ with
 | .normal => some (wTo (btK h w s2 (t + 1)))
 | _ => some (wTo (btK h w s 64)) }
noncomputable def pcTl (h l : List Int) (i : Nat) (h2 : List Int) : Pc := { c := cB (cB (cR (cL (cR (cR (cR (cR (cR (cR (bodyOf Tryz.f84)))))))))), st := btL h l i, kb := kb0, k := fun x_ _ => match x_ with
 | .normal => some (wTo (btL h2 l (i + 1)))
 | _ => some (wTo (btL h l 8)) }
end Go.Proofs.YtlakhciklfkocaaGreat
