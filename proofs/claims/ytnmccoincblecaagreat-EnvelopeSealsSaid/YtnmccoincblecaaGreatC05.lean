/-
  Contracts and laws that the claim's theorem leans on, joined out of the texts Ta6 Ta7D Ta7 Ta8D Ta8 Ta5D Ta5 Ta9D Ta9 (own work of this seat): Contracts: what may be told; Contracts: what is the same; Contracts: what is the same; Contracts: which messages may be; Contracts: which messages may be; Contracts: a message's bytes; Contracts: a message's bytes; Contracts: the reader of bytes; Contracts: the reader of bytes.
-/
import Derived.Test.YtnmccoincblecaaGreatC04
set_option linter.unusedVariables false
set_option linter.unusedSimpArgs false
set_option maxHeartbeats 1000000
namespace Go.Proofs.YtnmccoincblecaaGreat
open Go Sy Go.Proofs
theorem a1_ (n : Int) (m : Int) :
  e9 zp (aZ_ n m) [true] = (some (.bool (decide (n ≤ m)), [], [decide ((0 : Int) ≤ n) = true]) : Option (V × c5 × List Prop)) := by kernel_rfl
theorem a0_ (n : Int) (m : Int) :
  e9 zp (aZ_ n m) [false] = (some (.bool false, [], [decide ((0 : Int) ≤ n) = false]) : Option (V × c5 × List Prop)) := by kernel_rfl
theorem bi7 (r : SReq) :
  e9 zp (bi4 r) [true, true] = (some (.bool (decide ((↑(ByteArray.size (SReq.data r)) : Int) ≤ (64 : Int))), [], [T zp 90 [.int .i64 (SReq.client r), .int .i64 8] [] (.bool (j6 (SReq.client r) (8 : Int))) [], j6 (SReq.client r) (8 : Int) = true, T zp 90 [.int .i64 (SReq.num r), .int .i64 1099511627776] [] (.bool (j6 (SReq.num r) (1099511627776 : Int))) [], j6 (SReq.num r) (1099511627776 : Int) = true]) : Option (V × c5 × List Prop)) := by kernel_rfl
theorem bi6 (r : SReq) :
  e9 zp (bi4 r) [true, false] = (some (.bool false, [], [T zp 90 [.int .i64 (SReq.client r), .int .i64 8] [] (.bool (j6 (SReq.client r) (8 : Int))) [], j6 (SReq.client r) (8 : Int) = true, T zp 90 [.int .i64 (SReq.num r), .int .i64 1099511627776] [] (.bool (j6 (SReq.num r) (1099511627776 : Int))) [], j6 (SReq.num r) (1099511627776 : Int) = false]) : Option (V × c5 × List Prop)) := by kernel_rfl
theorem bi5 (r : SReq) :
  e9 zp (bi4 r) [false, false] = (some (.bool false, [], [T zp 90 [.int .i64 (SReq.client r), .int .i64 8] [] (.bool (j6 (SReq.client r) (8 : Int))) [], j6 (SReq.client r) (8 : Int) = false, q false]) : Option (V × c5 × List Prop)) := by kernel_rfl
noncomputable def C4 (v : SVote) : Nat → List Prop
 | 0 => [decide (SVote.kind v = (1 : Int)) = true, q2, T zp 90 [.int .i64 (SVote.epoch v), .int .i64 1048576] [] (.bool (j6 (SVote.epoch v) (1048576 : Int))) []]
 | 1 => [j6 (SVote.epoch v) (1048576 : Int) = true, T zp 90 [.int .i64 (SVote.view v), .int .i64 1099511627776] [] (.bool (j6 (SVote.view v) (1099511627776 : Int))) []]
 | 2 => [decide (SVote.kind v = (2 : Int)) = true, T zp 90 [.int .i64 (SVote.epoch v), .int .i64 1048576] [] (.bool (j6 (SVote.epoch v) (1048576 : Int))) []]
 | 3 => [j6 (SVote.epoch v) (1048576 : Int) = true, T zp 90 [.int .i64 (SVote.view v), .int .i64 1099511627776] [] (.bool (j6 (SVote.view v) (1099511627776 : Int))) []]
 | _ => []
theorem aP3 (v : SVote) :
 e9 zp (ak2 v) [true, true, true, true] = (some (.bool (j6 (SVote.slot v) (1099511627776 : Int)), [], C4 v 0 ++ (C4 v 1 ++ [j6 (SVote.view v) (1099511627776 : Int) = true, T zp 90 [.int .i64 (SVote.slot v), .int .i64 1099511627776] [] (.bool (j6 (SVote.slot v) (1099511627776 : Int))) []])) : Option (V × c5 × List Prop)) := by kernel_rfl
theorem aP2 (v : SVote) :
 e9 zp (ak2 v) [true, true, true, false] = (some (.bool false, [], C4 v 0 ++ (C4 v 1 ++ [j6 (SVote.view v) (1099511627776 : Int) = false])) : Option (V × c5 × List Prop)) := by kernel_rfl
theorem aP1 (v : SVote) :
 e9 zp (ak2 v) [true, true, false, false] = (some (.bool false, [], C4 v 0 ++ [j6 (SVote.epoch v) (1048576 : Int) = false, q false]) : Option (V × c5 × List Prop)) := by kernel_rfl
theorem aP0 (v : SVote) :
 e9 zp (ak2 v) [false, true, true, true] = (some (.bool (j6 (SVote.slot v) (1099511627776 : Int)), [], [decide (SVote.kind v = (1 : Int)) = false] ++ (C4 v 2 ++ (C4 v 3 ++ [j6 (SVote.view v) (1099511627776 : Int) = true, T zp 90 [.int .i64 (SVote.slot v), .int .i64 1099511627776] [] (.bool (j6 (SVote.slot v) (1099511627776 : Int))) []]))) : Option (V × c5 × List Prop)) := by kernel_rfl
theorem aO_ (v : SVote) :
 e9 zp (ak2 v) [false, true, true, false] = (some (.bool false, [], [decide (SVote.kind v = (1 : Int)) = false] ++ (C4 v 2 ++ (C4 v 3 ++ [j6 (SVote.view v) (1099511627776 : Int) = false]))) : Option (V × c5 × List Prop)) := by kernel_rfl
theorem aO9 (v : SVote) :
 e9 zp (ak2 v) [false, true, false, false] = (some (.bool false, [], [decide (SVote.kind v = (1 : Int)) = false] ++ (C4 v 2 ++ [j6 (SVote.epoch v) (1048576 : Int) = false, q false])) : Option (V × c5 × List Prop)) := by kernel_rfl
theorem aO8 (v : SVote) :
 e9 zp (ak2 v) [false, false, false, false] = (some (.bool false, [], [decide (SVote.kind v = (1 : Int)) = false, decide (SVote.kind v = (2 : Int)) = false, q false, q false]) : Option (V × c5 × List Prop)) := by kernel_rfl
theorem bS9 (s : SSign) :
  e9 zp (bdMS s) [] = (some (.bool (j6 (SSign.node s) (64 : Int)), [], [T zp 90 [.int .i64 (SSign.node s), .int .i64 64] [] (.bool (j6 (SSign.node s) (64 : Int))) []]) : Option (V × c5 × List Prop)) := by kernel_rfl
theorem bC5 (e : SEnv) :
  e9 zp (bS7 e) [true] = (some (.bool (decide ((↑(ByteArray.size (SEnv.body e)) : Int) ≤ (4194304 : Int))), [], [T zp 90 [.int .i64 (SEnv.src e), .int .i64 64] [] (.bool (j6 (SEnv.src e) (64 : Int))) [], j6 (SEnv.src e) (64 : Int) = true]) : Option (V × c5 × List Prop)) := by kernel_rfl
theorem bC4 (e : SEnv) :
  e9 zp (bS7 e) [false] = (some (.bool false, [], [T zp 90 [.int .i64 (SEnv.src e), .int .i64 64] [] (.bool (j6 (SEnv.src e) (64 : Int))) [], j6 (SEnv.src e) (64 : Int) = false]) : Option (V × c5 × List Prop)) := by kernel_rfl
theorem bC3 (c : SCert) :
  e9 zp (bS6 c) [true] = (some (.bool (w4 (SCert.n c) 64 fun i => u7 (SCert.sig c i)), [], [T zp 88 [.agg (SVote.c (SCert.vote c))] [] (.bool (u0 (SCert.vote c))) [], u0 (SCert.vote c) = true, T zp 95 [.ros 17 (SCert.n c) (fun i => SSign.c (SCert.sig c i)) false, .int .i64 64, .fn (.func 96) [] []] [] (.bool (w4 (SCert.n c) 64 fun i => u7 (SCert.sig c i))) []]) : Option (V × c5 × List Prop)) := by kernel_rfl
theorem bC2 (c : SCert) :
  e9 zp (bS6 c) [false] = (some (.bool false, [], [T zp 88 [.agg (SVote.c (SCert.vote c))] [] (.bool (u0 (SCert.vote c))) [], u0 (SCert.vote c) = false]) : Option (V × c5 × List Prop)) := by kernel_rfl
theorem bi3 (b : SBatch) :
  e9 zp (bi0 b) [true, true] = (some (.bool (w4 (SBatch.n b) 4 fun i => w7 (SBatch.req b i)), [], [SBatch.noop b = true, (!decide ((0 : Int) < (↑(SBatch.n b) : Int))) = true, T zp 131 [.ros 19 (SBatch.n b) (fun i => SReq.c (SBatch.req b i)) false, .int .i64 4, .fn (.func 132) [] []] [] (.bool (w4 (SBatch.n b) 4 fun i => w7 (SBatch.req b i))) []]) : Option (V × c5 × List Prop)) := by kernel_rfl
theorem bi2 (b : SBatch) :
  e9 zp (bi0 b) [true, false] = (some (.bool false, [], [SBatch.noop b = true, (!decide ((0 : Int) < (↑(SBatch.n b) : Int))) = false]) : Option (V × c5 × List Prop)) := by kernel_rfl
theorem bi1 (b : SBatch) :
  e9 zp (bi0 b) [false, true] = (some (.bool (w4 (SBatch.n b) 4 fun i => w7 (SBatch.req b i)), [], [SBatch.noop b = false, q2, T zp 131 [.ros 19 (SBatch.n b) (fun i => SReq.c (SBatch.req b i)) false, .int .i64 4, .fn (.func 132) [] []] [] (.bool (w4 (SBatch.n b) 4 fun i => w7 (SBatch.req b i))) []]) : Option (V × c5 × List Prop)) := by kernel_rfl
theorem bC7 (h : SHeld) :
  e9 zp (bS8 h) [true] = (some (.bool (D2 (SHeld.cert h)), [], [T zp 91 [.agg (SBatch.c (SHeld.batch h))] [] (.bool (s8 (SHeld.batch h))) [], s8 (SHeld.batch h) = true, T zp 89 [.agg [.int .i64 (SVote.kind (SCert.vote (SHeld.cert h))), .int .i64 (SVote.epoch (SCert.vote (SHeld.cert h))), .int .i64 (SVote.view (SCert.vote (SHeld.cert h))), .int .i64 (SVote.slot (SCert.vote (SHeld.cert h))), .seg .u8 32 (SVote.digest (SCert.vote (SHeld.cert h))), sg (SCert.n (SHeld.cert h)) (SCert.sig (SHeld.cert h))]] [] (.bool (D2 (SHeld.cert h))) []]) : Option (V × c5 × List Prop)) := by kernel_rfl
theorem bC6 (h : SHeld) :
  e9 zp (bS8 h) [false] = (some (.bool false, [], [T zp 91 [.agg (SBatch.c (SHeld.batch h))] [] (.bool (s8 (SHeld.batch h))) [], s8 (SHeld.batch h) = false]) : Option (V × c5 × List Prop)) := by kernel_rfl
noncomputable def G2 (m : SMsg) : Nat → List Prop
 | 0 => [T zp 90 [.int .i64 (SMsg.cepoch m), .int .i64 1048576] [] (.bool (j6 (SMsg.cepoch m) (1048576 : Int))) []]
 | 1 => [j6 (SMsg.cepoch m) (1048576 : Int) = true, T zp 90 [.int .i64 (SMsg.cleader m), .int .i64 64] [] (.bool (j6 (SMsg.cleader m) (64 : Int))) []]
 | 2 => [j6 (SMsg.cleader m) (64 : Int) = true, T zp 90 [.int .i64 (SMsg.cview m), .int .i64 1099511627776] [] (.bool (j6 (SMsg.cview m) (1099511627776 : Int))) []]
 | _ => []
theorem aX_ (m : SMsg) :
 e9 zp (aO7 m) [true, true, true] = (some (.bool (w4 (SMsg.nheld m) 4 fun i => z5 (SMsg.held m i)), [], G2 m 0 ++ (G2 m 1 ++ (G2 m 2 ++ [j6 (SMsg.cview m) (1099511627776 : Int) = true, T zp 133 [.ros 39 (SMsg.nheld m) (fun i => SHeld.c (SMsg.held m i)) false, .int .i64 4, .fn (.func 134) [] []] [] (.bool (w4 (SMsg.nheld m) 4 fun i => z5 (SMsg.held m i))) []]))) : Option (V × c5 × List Prop)) := by kernel_rfl
theorem aX9 (m : SMsg) :
 e9 zp (aO7 m) [true, true, false] = (some (.bool false, [], G2 m 0 ++ (G2 m 1 ++ (G2 m 2 ++ [j6 (SMsg.cview m) (1099511627776 : Int) = false]))) : Option (V × c5 × List Prop)) := by kernel_rfl
theorem aX8 (m : SMsg) :
 e9 zp (aO7 m) [true, false, false] = (some (.bool false, [], G2 m 0 ++ (G2 m 1 ++ [j6 (SMsg.cleader m) (64 : Int) = false, q false])) : Option (V × c5 × List Prop)) := by kernel_rfl
theorem aX7 (m : SMsg) :
 e9 zp (aO7 m) [false, false, false] = (some (.bool false, [], G2 m 0 ++ [j6 (SMsg.cepoch m) (1048576 : Int) = false, q false, q false]) : Option (V × c5 × List Prop)) := by kernel_rfl
theorem bg6 (n : Nat) (r : Nat → SReq) (most : Int) (m : Nat) :
  e9 zp (ao7 n r most m) [true] = (some (.bool false, [], [decide (most < (↑n : Int)) = true]) : Option (V × c5 × List Prop)) := by kernel_rfl
theorem aW3 (n : Nat) (r : Nat → SReq) (most : Int) (m : Nat) :
  e9 zp (ao7 n r most m) [false, true] = (some (.bool true, [], [decide (most < (↑n : Int)) = false, f9 zp none 0 (cB (cB (cR (cL (cR (cR (f1 (Bd.f (ao7 n r most m))))))))) (n + 1) (St.mk (mkT 24 [(2, .fn (.func 132) [] []), (13, .ros 19 n (fun i => SReq.c (r i)) false), (14, .int .i64 ↑n), (15, .int .i64 0)]) [] 0 []) (.exit 0) (St.mk (mkT 24 [(2, .fn (.func 132) [] []), (13, .ros 19 n (fun i => SReq.c (r i)) false), (14, .int .i64 ↑n), (15, .int .i64 ↑n)]) [] 0 []), q n, ∀ (k : Nat), k < n → SReq.c (r k) = SReq.c (r k), false = true → false = true, q (↑n : Int), q1]) : Option (V × c5 × List Prop)) := by kernel_rfl
theorem aW2 (n : Nat) (r : Nat → SReq) (most : Int) (m : Nat) :
  e9 zp (ao7 n r most m) [false, false] = (some (.bool false, [], [decide (most < (↑n : Int)) = false, f9 zp none 0 (cB (cB (cR (cL (cR (cR (f1 (Bd.f (ao7 n r most m))))))))) (m + 1) (St.mk (mkT 24 [(2, .fn (.func 132) [] []), (13, .ros 19 n (fun i => SReq.c (r i)) false), (14, .int .i64 ↑n), (15, .int .i64 0)]) [] 0 []) .ret (St.mk (mkT 24 [(6, .bool false)]) [] 0 []), q n, ∀ (k : Nat), k < n → SReq.c (r k) = SReq.c (r k), false = true → false = true, q (↑n : Int), q1]) : Option (V × c5 × List Prop)) := by kernel_rfl
theorem bc7 (n : Nat) (r : Nat → SReq) (k : Nat) :
  i5 zp (aS9 n r k) [true, true] = (some (.ret, St.mk (mkT 24 [(6, .bool false)]) [] 0 [], [decide ((↑k : Int) < (↑n : Int)) = true, (0 : Int) ≤ (↑k : Int) ∧ (↑k : Int) < (↑n : Int), T zp 132 [.agg (SReq.c (r (Int.toNat (↑k : Int))))] [] (.bool (w7 (r k))) [], (!w7 (r k)) = true, q false]) : Option (Exit × St × List Prop)) := by kernel_rfl
theorem bc6 (n : Nat) (r : Nat → SReq) (k : Nat) :
  i5 zp (aS9 n r k) [true, false] = (some (.normal, St.mk (mkT 24 [(2, .fn (.func 132) [] []), (13, .ros 19 n (fun i => SReq.c (r i)) false), (14, .int .i64 ↑n), (15, .int .i64 (↑(k + 1) : Int))]) [] 0 [], [decide ((↑k : Int) < (↑n : Int)) = true, (0 : Int) ≤ (↑k : Int) ∧ (↑k : Int) < (↑n : Int), T zp 132 [.agg (SReq.c (r (Int.toNat (↑k : Int))))] [] (.bool (w7 (r k))) [], (!w7 (r k)) = false, InR .i64 ((↑k : Int) + (1 : Int)), q n, ∀ (k : Nat), k < n → SReq.c (r k) = SReq.c (r k), false = true → false = true, q (↑n : Int), (↑k : Int) + (1 : Int) = (↑(k + (1 : Nat)) : Int)]) : Option (Exit × St × List Prop)) := by kernel_rfl
theorem bp8 (n : Nat) (r : Nat → SReq) (k : Nat) :
  i5 zp (aS9 n r k) [false] = (some (.exit 0, St.mk (mkT 24 [(2, .fn (.func 132) [] []), (13, .ros 19 n (fun i => SReq.c (r i)) false), (14, .int .i64 ↑n), (15, .int .i64 ↑n)]) [] 0 [], [decide ((↑k : Int) < (↑n : Int)) = false, q n, ∀ (k : Nat), k < n → SReq.c (r k) = SReq.c (r k), false = true → false = true, q (↑n : Int), (↑k : Int) = (↑n : Int)]) : Option (Exit × St × List Prop)) := by kernel_rfl
theorem bg7 (n : Nat) (r : Nat → SSign) (most : Int) (m : Nat) :
  e9 zp (ao8 n r most m) [true] = (some (.bool false, [], [decide (most < (↑n : Int)) = true]) : Option (V × c5 × List Prop)) := by kernel_rfl
theorem aW5 (n : Nat) (r : Nat → SSign) (most : Int) (m : Nat) :
  e9 zp (ao8 n r most m) [false, true] = (some (.bool true, [], [decide (most < (↑n : Int)) = false, f9 zp none 0 (cB (cB (cR (cL (cR (cR (f1 (Bd.f (ao8 n r most m))))))))) (n + 1) (St.mk (mkT 24 [(2, .fn (.func 96) [] []), (13, .ros 17 n (fun i => SSign.c (r i)) false), (14, .int .i64 ↑n), (15, .int .i64 0)]) [] 0 []) (.exit 0) (St.mk (mkT 24 [(2, .fn (.func 96) [] []), (13, .ros 17 n (fun i => SSign.c (r i)) false), (14, .int .i64 ↑n), (15, .int .i64 ↑n)]) [] 0 []), q n, ∀ (k : Nat), k < n → SSign.c (r k) = SSign.c (r k), false = true → false = true, q (↑n : Int), q1]) : Option (V × c5 × List Prop)) := by kernel_rfl
theorem aW4 (n : Nat) (r : Nat → SSign) (most : Int) (m : Nat) :
  e9 zp (ao8 n r most m) [false, false] = (some (.bool false, [], [decide (most < (↑n : Int)) = false, f9 zp none 0 (cB (cB (cR (cL (cR (cR (f1 (Bd.f (ao8 n r most m))))))))) (m + 1) (St.mk (mkT 24 [(2, .fn (.func 96) [] []), (13, .ros 17 n (fun i => SSign.c (r i)) false), (14, .int .i64 ↑n), (15, .int .i64 0)]) [] 0 []) .ret (St.mk (mkT 24 [(6, .bool false)]) [] 0 []), q n, ∀ (k : Nat), k < n → SSign.c (r k) = SSign.c (r k), false = true → false = true, q (↑n : Int), q1]) : Option (V × c5 × List Prop)) := by kernel_rfl
theorem bc9 (n : Nat) (r : Nat → SSign) (k : Nat) :
  i5 zp (aS_ n r k) [true, true] = (some (.ret, St.mk (mkT 24 [(6, .bool false)]) [] 0 [], [decide ((↑k : Int) < (↑n : Int)) = true, (0 : Int) ≤ (↑k : Int) ∧ (↑k : Int) < (↑n : Int), T zp 96 [.agg (SSign.c (r (Int.toNat (↑k : Int))))] [] (.bool (u7 (r k))) [], (!u7 (r k)) = true, q false]) : Option (Exit × St × List Prop)) := by kernel_rfl
theorem bc8 (n : Nat) (r : Nat → SSign) (k : Nat) :
  i5 zp (aS_ n r k) [true, false] = (some (.normal, St.mk (mkT 24 [(2, .fn (.func 96) [] []), (13, .ros 17 n (fun i => SSign.c (r i)) false), (14, .int .i64 ↑n), (15, .int .i64 (↑(k + 1) : Int))]) [] 0 [], [decide ((↑k : Int) < (↑n : Int)) = true, (0 : Int) ≤ (↑k : Int) ∧ (↑k : Int) < (↑n : Int), T zp 96 [.agg (SSign.c (r (Int.toNat (↑k : Int))))] [] (.bool (u7 (r k))) [], (!u7 (r k)) = false, InR .i64 ((↑k : Int) + (1 : Int)), q n, ∀ (k : Nat), k < n → SSign.c (r k) = SSign.c (r k), false = true → false = true, q (↑n : Int), (↑k : Int) + (1 : Int) = (↑(k + (1 : Nat)) : Int)]) : Option (Exit × St × List Prop)) := by kernel_rfl
theorem bp9 (n : Nat) (r : Nat → SSign) (k : Nat) :
  i5 zp (aS_ n r k) [false] = (some (.exit 0, St.mk (mkT 24 [(2, .fn (.func 96) [] []), (13, .ros 17 n (fun i => SSign.c (r i)) false), (14, .int .i64 ↑n), (15, .int .i64 ↑n)]) [] 0 [], [decide ((↑k : Int) < (↑n : Int)) = false, q n, ∀ (k : Nat), k < n → SSign.c (r k) = SSign.c (r k), false = true → false = true, q (↑n : Int), (↑k : Int) = (↑n : Int)]) : Option (Exit × St × List Prop)) := by kernel_rfl
theorem bg5 (n : Nat) (r : Nat → SHeld) (most : Int) (m : Nat) :
  e9 zp (ao6 n r most m) [true] = (some (.bool false, [], [decide (most < (↑n : Int)) = true]) : Option (V × c5 × List Prop)) := by kernel_rfl
theorem aW1 (n : Nat) (r : Nat → SHeld) (most : Int) (m : Nat) :
  e9 zp (ao6 n r most m) [false, true] = (some (.bool true, [], [decide (most < (↑n : Int)) = false, f9 zp none 0 (cB (cB (cR (cL (cR (cR (f1 (Bd.f (ao6 n r most m))))))))) (n + 1) (St.mk (mkT 24 [(2, .fn (.func 134) [] []), (13, .ros 39 n (fun i => SHeld.c (r i)) false), (14, .int .i64 ↑n), (15, .int .i64 0)]) [] 0 []) (.exit 0) (St.mk (mkT 24 [(2, .fn (.func 134) [] []), (13, .ros 39 n (fun i => SHeld.c (r i)) false), (14, .int .i64 ↑n), (15, .int .i64 ↑n)]) [] 0 []), q n, ∀ (k : Nat), k < n → SHeld.c (r k) = SHeld.c (r k), false = true → false = true, q (↑n : Int), q1]) : Option (V × c5 × List Prop)) := by kernel_rfl
theorem aW0 (n : Nat) (r : Nat → SHeld) (most : Int) (m : Nat) :
  e9 zp (ao6 n r most m) [false, false] = (some (.bool false, [], [decide (most < (↑n : Int)) = false, f9 zp none 0 (cB (cB (cR (cL (cR (cR (f1 (Bd.f (ao6 n r most m))))))))) (m + 1) (St.mk (mkT 24 [(2, .fn (.func 134) [] []), (13, .ros 39 n (fun i => SHeld.c (r i)) false), (14, .int .i64 ↑n), (15, .int .i64 0)]) [] 0 []) .ret (St.mk (mkT 24 [(6, .bool false)]) [] 0 []), q n, ∀ (k : Nat), k < n → SHeld.c (r k) = SHeld.c (r k), false = true → false = true, q (↑n : Int), q1]) : Option (V × c5 × List Prop)) := by kernel_rfl
noncomputable def U6 (n : Nat) (r : Nat → SHeld) (k : Nat) : Nat → List Prop
 | 0 => [decide ((↑k : Int) < (↑n : Int)) = true, (0 : Int) ≤ (↑k : Int) ∧ (↑k : Int) < (↑n : Int), T zp 134 [.agg [.bool (SBatch.noop (SHeld.batch (r (Int.toNat (↑k : Int))))), rq (SBatch.n (SHeld.batch (r (Int.toNat (↑k : Int))))) (SBatch.req (SHeld.batch (r (Int.toNat (↑k : Int))))), .int .i64 (SVote.kind (SCert.vote (SHeld.cert (r (Int.toNat (↑k : Int)))))), .int .i64 (SVote.epoch (SCert.vote (SHeld.cert (r (Int.toNat (↑k : Int)))))), .int .i64 (SVote.view (SCert.vote (SHeld.cert (r (Int.toNat (↑k : Int)))))), .int .i64 (SVote.slot (SCert.vote (SHeld.cert (r (Int.toNat (↑k : Int)))))), .seg .u8 32 (SVote.digest (SCert.vote (SHeld.cert (r (Int.toNat (↑k : Int)))))), sg (SCert.n (SHeld.cert (r (Int.toNat (↑k : Int))))) (SCert.sig (SHeld.cert (r (Int.toNat (↑k : Int)))))]] [] (.bool (z5 (r k))) []]
 | _ => []
theorem bc5 (n : Nat) (r : Nat → SHeld) (k : Nat) :
 i5 zp (aS8 n r k) [true, true] = (some (.ret, St.mk (mkT 24 [(6, .bool false)]) [] 0 [], U6 n r k 0 ++ [(!z5 (r k)) = true, q false]) : Option (Exit × St × List Prop)) := by kernel_rfl
theorem bc4 (n : Nat) (r : Nat → SHeld) (k : Nat) :
 i5 zp (aS8 n r k) [true, false] = (some (.normal, St.mk (mkT 24 [(2, .fn (.func 134) [] []), (13, .ros 39 n (fun i => SHeld.c (r i)) false), (14, .int .i64 ↑n), (15, .int .i64 (↑(k + 1) : Int))]) [] 0 [], U6 n r k 0 ++ [(!z5 (r k)) = false, InR .i64 ((↑k : Int) + (1 : Int)), q n, ∀ (k : Nat), k < n → SHeld.c (r k) = SHeld.c (r k), false = true → false = true, q (↑n : Int), (↑k : Int) + (1 : Int) = (↑(k + (1 : Nat)) : Int)]) : Option (Exit × St × List Prop)) := by kernel_rfl
theorem bp7 (n : Nat) (r : Nat → SHeld) (k : Nat) :
 i5 zp (aS8 n r k) [false] = (some (.exit 0, St.mk (mkT 24 [(2, .fn (.func 134) [] []), (13, .ros 39 n (fun i => SHeld.c (r i)) false), (14, .int .i64 ↑n), (15, .int .i64 ↑n)]) [] 0 [], [decide ((↑k : Int) < (↑n : Int)) = false, q n, ∀ (k : Nat), k < n → SHeld.c (r k) = SHeld.c (r k), false = true → false = true, q (↑n : Int), (↑k : Int) = (↑n : Int)]) : Option (Exit × St × List Prop)) := by kernel_rfl
theorem bg4 (n : Nat) (r : Nat → SEnv) (most : Int) (m : Nat) :
  e9 zp (ao5 n r most m) [true] = (some (.bool false, [], [decide (most < (↑n : Int)) = true]) : Option (V × c5 × List Prop)) := by kernel_rfl
theorem aV_ (n : Nat) (r : Nat → SEnv) (most : Int) (m : Nat) :
  e9 zp (ao5 n r most m) [false, true] = (some (.bool true, [], [decide (most < (↑n : Int)) = false, f9 zp none 0 (cB (cB (cR (cL (cR (cR (f1 (Bd.f (ao5 n r most m))))))))) (n + 1) (St.mk (mkT 24 [(2, .fn (.func 94) [] []), (13, .ros 18 n (fun i => SEnv.c (r i)) false), (14, .int .i64 ↑n), (15, .int .i64 0)]) [] 0 []) (.exit 0) (St.mk (mkT 24 [(2, .fn (.func 94) [] []), (13, .ros 18 n (fun i => SEnv.c (r i)) false), (14, .int .i64 ↑n), (15, .int .i64 ↑n)]) [] 0 []), q n, ∀ (k : Nat), k < n → SEnv.c (r k) = SEnv.c (r k), false = true → false = true, q (↑n : Int), q1]) : Option (V × c5 × List Prop)) := by kernel_rfl
theorem aV9 (n : Nat) (r : Nat → SEnv) (most : Int) (m : Nat) :
  e9 zp (ao5 n r most m) [false, false] = (some (.bool false, [], [decide (most < (↑n : Int)) = false, f9 zp none 0 (cB (cB (cR (cL (cR (cR (f1 (Bd.f (ao5 n r most m))))))))) (m + 1) (St.mk (mkT 24 [(2, .fn (.func 94) [] []), (13, .ros 18 n (fun i => SEnv.c (r i)) false), (14, .int .i64 ↑n), (15, .int .i64 0)]) [] 0 []) .ret (St.mk (mkT 24 [(6, .bool false)]) [] 0 []), q n, ∀ (k : Nat), k < n → SEnv.c (r k) = SEnv.c (r k), false = true → false = true, q (↑n : Int), q1]) : Option (V × c5 × List Prop)) := by kernel_rfl
theorem bc3 (n : Nat) (r : Nat → SEnv) (k : Nat) :
  i5 zp (aS7 n r k) [true, true] = (some (.ret, St.mk (mkT 24 [(6, .bool false)]) [] 0 [], [decide ((↑k : Int) < (↑n : Int)) = true, (0 : Int) ≤ (↑k : Int) ∧ (↑k : Int) < (↑n : Int), T zp 94 [.agg (SEnv.c (r (Int.toNat (↑k : Int))))] [] (.bool (A3 (r k))) [], (!A3 (r k)) = true, q false]) : Option (Exit × St × List Prop)) := by kernel_rfl
theorem bc2 (n : Nat) (r : Nat → SEnv) (k : Nat) :
  i5 zp (aS7 n r k) [true, false] = (some (.normal, St.mk (mkT 24 [(2, .fn (.func 94) [] []), (13, .ros 18 n (fun i => SEnv.c (r i)) false), (14, .int .i64 ↑n), (15, .int .i64 (↑(k + 1) : Int))]) [] 0 [], [decide ((↑k : Int) < (↑n : Int)) = true, (0 : Int) ≤ (↑k : Int) ∧ (↑k : Int) < (↑n : Int), T zp 94 [.agg (SEnv.c (r (Int.toNat (↑k : Int))))] [] (.bool (A3 (r k))) [], (!A3 (r k)) = false, InR .i64 ((↑k : Int) + (1 : Int)), q n, ∀ (k : Nat), k < n → SEnv.c (r k) = SEnv.c (r k), false = true → false = true, q (↑n : Int), (↑k : Int) + (1 : Int) = (↑(k + (1 : Nat)) : Int)]) : Option (Exit × St × List Prop)) := by kernel_rfl
theorem bp6 (n : Nat) (r : Nat → SEnv) (k : Nat) :
  i5 zp (aS7 n r k) [false] = (some (.exit 0, St.mk (mkT 24 [(2, .fn (.func 94) [] []), (13, .ros 18 n (fun i => SEnv.c (r i)) false), (14, .int .i64 ↑n), (15, .int .i64 ↑n)]) [] 0 [], [decide ((↑k : Int) < (↑n : Int)) = false, q n, ∀ (k : Nat), k < n → SEnv.c (r k) = SEnv.c (r k), false = true → false = true, q (↑n : Int), (↑k : Int) = (↑n : Int)]) : Option (Exit × St × List Prop)) := by kernel_rfl
theorem U9 (p : Nat → Prop) : ∀ n, ∃ m, m ≤ n ∧ (∀ k, k < m → p k) ∧ (m = n ∨ ¬ p m)
 | 0 => ⟨0, Nat.le_refl _, fun k h => absurd h (Nat.not_lt_zero k), .inl rfl⟩
 | n + 1 => by
  obtain ⟨m, h1, h2, h3⟩ := U9 p n
  rcases h3 with rfl | h3
  ·by_cases h : p m
   ·refine ⟨m + 1, Nat.le_refl _, fun k hk => ?_, .inl rfl⟩
    rcases Nat.lt_or_ge k m with h4 | h4
    ·exact h2 k h4
    ·have : k = m := by omega
     subst this; exact h
   ·exact ⟨m, Nat.le_succ _, h2, .inr h⟩
  ·exact ⟨m, Nat.le_succ_of_le h1, h2, .inr h3⟩
theorem C2 (n m : Int) : T Tryz.prog 90 [.int .i64 n, .int .i64 m] [] (.bool (j6 n m)) [] := by
 by_cases h1 : 0 ≤ n
 ·refine T.bool (f3 (a1_ n m) Tryz.func90 ?_) (by simp [j6, h1] <;> omega)
  simp only [All]
  and_intros
  all_goals first | (simp [h1]; done)
 ·refine T.bool (f3 (a0_ n m) Tryz.func90 ?_) (by simp [j6, h1] <;> omega)
  simp only [All]
  and_intros
  all_goals first | (simp [h1]; done)
theorem bN6 (r : SReq) : T Tryz.prog 132 [.agg r.c] [] (.bool (w7 r)) [] := by
 by_cases h1 : j6 r.client 8 = true
 ·by_cases h2 : j6 r.num 1099511627776 = true
  ·refine T.bool (f3 (bi7 r) Tryz.func132 ?_) (by simp [w7, h1, h2] <;> omega)
   simp only [All]
   and_intros
   all_goals first | exact C2 _ _ | (simp [h1, h2]; done)
  ·refine T.bool (f3 (bi6 r) Tryz.func132 ?_) (by simp [w7, h1, h2] <;> omega)
   simp only [All]
   and_intros
   all_goals first | exact C2 _ _ | (simp [h1, h2]; done)
 ·refine T.bool (f3 (bi5 r) Tryz.func132 ?_) (by simp [w7, h1] <;> omega)
  simp only [All]
  and_intros
  all_goals first | exact C2 _ _ | (simp [h1]; done)
theorem bf7 (v : SVote) : T Tryz.prog 88 [.agg v.c] [] (.bool (u0 v)) [] := by
 by_cases h1 : v.kind = 1
 ·by_cases h2 : j6 v.epoch 1048576 = true
  ·by_cases h3 : j6 v.view 1099511627776 = true
   ·refine T.bool (f3 (aP3 v) Tryz.func88 ?_) (by simp [u0, h1, h2, h3] <;> omega)
    simp only [All, f6, C4]
    and_intros
    all_goals first | exact C2 _ _ | (simp [h1, h2, h3]; done)
   ·refine T.bool (f3 (aP2 v) Tryz.func88 ?_) (by simp [u0, h1, h2, h3] <;> omega)
    simp only [All, f6, C4]
    and_intros
    all_goals first | exact C2 _ _ | (simp [h1, h2, h3]; done)
  ·refine T.bool (f3 (aP1 v) Tryz.func88 ?_) (by simp [u0, h1, h2] <;> omega)
   simp only [All, f6, C4]
   and_intros
   all_goals first | exact C2 _ _ | (simp [h1, h2]; done)
 ·by_cases h2 : v.kind = 2
  ·by_cases h3 : j6 v.epoch 1048576 = true
   ·by_cases h4 : j6 v.view 1099511627776 = true
    ·refine T.bool (f3 (aP0 v) Tryz.func88 ?_) (by simp [u0, h1, h2, h3, h4] <;> omega)
     simp only [All, f6, C4]
     and_intros
     all_goals first | exact C2 _ _ | (simp [h1, h2, h3, h4]; done)
    ·refine T.bool (f3 (aO_ v) Tryz.func88 ?_) (by simp [u0, h1, h2, h3, h4] <;> omega)
     simp only [All, f6, C4]
     and_intros
     all_goals first | exact C2 _ _ | (simp [h1, h2, h3, h4]; done)
   ·refine T.bool (f3 (aO9 v) Tryz.func88 ?_) (by simp [u0, h1, h2, h3] <;> omega)
    simp only [All, f6, C4]
    and_intros
    all_goals first | exact C2 _ _ | (simp [h1, h2, h3]; done)
  ·refine T.bool (f3 (aO8 v) Tryz.func88 ?_) (by simp [u0, h1, h2] <;> omega)
   simp only [All, f6, C4]
   and_intros
   all_goals first | (simp [h1, h2]; done)
theorem bN7 (s : SSign) : T Tryz.prog 96 [.agg s.c] [] (.bool (u7 s)) [] := by
 refine T.bool (f3 (bS9 s) Tryz.func96 ?_) (by simp [u7, true_and] <;> omega)
 simp only [All]
 and_intros
 all_goals first | exact C2 _ _ | (simp [true_and]; done)
theorem bN3 (e : SEnv) : T Tryz.prog 94 [.agg e.c] [] (.bool (A3 e)) [] := by
 by_cases h1 : j6 e.src 64 = true
 ·refine T.bool (f3 (bC5 e) Tryz.func94 ?_) (by simp [A3, h1] <;> omega)
  simp only [All]
  and_intros
  all_goals first | exact C2 _ _ | (simp [h1]; done)
 ·refine T.bool (f3 (bC4 e) Tryz.func94 ?_) (by simp [A3, h1] <;> omega)
  simp only [All]
  and_intros
  all_goals first | exact C2 _ _ | (simp [h1]; done)
theorem bu4 {n : Nat} (r : Nat → SReq) {most : Nat} (hm : most ≤ 1000) : T Tryz.prog 131 [rq n r, .int .i64 most, .fn (.func 132) [] []] [] (.bool (w4 n most (fun i => w7 (r i)))) [] := by
 by_cases hn : n ≤ most
 ·have step : ∀ k, k < n → w7 (r k) = true → R Tryz.prog none 0 (cB (cB (cR (cL (cR (cR (f1 Tryz.f131))))))) (alI (rq n r) n 132 k) .normal (alI (rq n r) n 132 (k + 1)) := fun k hk hp => by
   refine f4 NG MO _ (bc6 n r k) ?_ (Nat.zero_le _)
   simp only [All, Int.toNat_natCast]
   and_intros
   all_goals first | exact bN6 (r k) | (simp [hk, hp, IntKind.min, IntKind.max, IntKind.signed, IntKind.bits] <;> omega)
  obtain ⟨m, h1, h2, h3⟩ := U9 (fun k => w7 (r k) = true) n
  by_cases hmn : m = n
  ·subst hmn
   refine T.bool (f3 (aW3 m r most m) Tryz.func131 ⟨by simp <;> omega, f9.inv (alI (rq m r) m 132) m (fun k hk => step k hk (h2 k hk)) (f4 NG MO _ (bp8 m r m) (by simp [All]) (Nat.zero_le _)) (by simp), ?_⟩) (by simp [w4, hn]; exact h2)
   simp [All]
  ·have hm' : m < n := by omega
   have h3 := h3.resolve_left hmn
   have bad : R Tryz.prog none 0 (cB (cB (cR (cL (cR (cR (f1 Tryz.f131))))))) (alI (rq n r) n 132 m) .ret alF := by
    refine f4 NG MO _ (bc7 n r m) ?_ (Nat.zero_le _)
    simp only [All, Int.toNat_natCast]
    and_intros
    all_goals first | exact bN6 (r m) | (simp [hm', h3] <;> omega)
   refine T.bool (f3 (aW2 n r most m) Tryz.func131 ⟨by simp <;> omega, f9.inv (alI (rq n r) n 132) m (fun k hk => step k (by omega) (h2 k hk)) bad (by simp), ?_⟩) (by
    have : ¬ ∀ i, i < n → w7 (r i) = true := fun h => h3 (h m hm')
    simp only [w4, this, decide_false, Bool.and_false])
   simp [All]
 ·exact T.bool (f3 (bg6 n r most 0) Tryz.func131 ⟨by simp <;> omega, trivial⟩) (by simp [w4, hn])
theorem bu5 {n : Nat} (r : Nat → SSign) {most : Nat} (hm : most ≤ 1000) : T Tryz.prog 95 [sg n r, .int .i64 most, .fn (.func 96) [] []] [] (.bool (w4 n most (fun i => u7 (r i)))) [] := by
 by_cases hn : n ≤ most
 ·have step : ∀ k, k < n → u7 (r k) = true → R Tryz.prog none 0 (cB (cB (cR (cL (cR (cR (f1 Tryz.f95))))))) (alI (sg n r) n 96 k) .normal (alI (sg n r) n 96 (k + 1)) := fun k hk hp => by
   refine f4 NG MO _ (bc8 n r k) ?_ (Nat.zero_le _)
   simp only [All, Int.toNat_natCast]
   and_intros
   all_goals first | exact bN7 (r k) | (simp [hk, hp, IntKind.min, IntKind.max, IntKind.signed, IntKind.bits] <;> omega)
  obtain ⟨m, h1, h2, h3⟩ := U9 (fun k => u7 (r k) = true) n
  by_cases hmn : m = n
  ·subst hmn
   refine T.bool (f3 (aW5 m r most m) Tryz.func95 ⟨by simp <;> omega, f9.inv (alI (sg m r) m 96) m (fun k hk => step k hk (h2 k hk)) (f4 NG MO _ (bp9 m r m) (by simp [All]) (Nat.zero_le _)) (by simp), ?_⟩) (by simp [w4, hn]; exact h2)
   simp [All]
  ·have hm' : m < n := by omega
   have h3 := h3.resolve_left hmn
   have bad : R Tryz.prog none 0 (cB (cB (cR (cL (cR (cR (f1 Tryz.f95))))))) (alI (sg n r) n 96 m) .ret alF := by
    refine f4 NG MO _ (bc9 n r m) ?_ (Nat.zero_le _)
    simp only [All, Int.toNat_natCast]
    and_intros
    all_goals first | exact bN7 (r m) | (simp [hm', h3] <;> omega)
   refine T.bool (f3 (aW4 n r most m) Tryz.func95 ⟨by simp <;> omega, f9.inv (alI (sg n r) n 96) m (fun k hk => step k (by omega) (h2 k hk)) bad (by simp), ?_⟩) (by
    have : ¬ ∀ i, i < n → u7 (r i) = true := fun h => h3 (h m hm')
    simp only [w4, this, decide_false, Bool.and_false])
   simp [All]
 ·exact T.bool (f3 (bg7 n r most 0) Tryz.func95 ⟨by simp <;> omega, trivial⟩) (by simp [w4, hn])
theorem ca1 {n : Nat} (r : Nat → SEnv) {most : Nat} (hm : most ≤ 1000) : T Tryz.prog 93 [nw n r, .int .i64 most, .fn (.func 94) [] []] [] (.bool (w4 n most (fun i => A3 (r i)))) [] := by
 by_cases hn : n ≤ most
 ·have step : ∀ k, k < n → A3 (r k) = true → R Tryz.prog none 0 (cB (cB (cR (cL (cR (cR (f1 Tryz.f93))))))) (alI (nw n r) n 94 k) .normal (alI (nw n r) n 94 (k + 1)) := fun k hk hp => by
   refine f4 NG MO _ (bc2 n r k) ?_ (Nat.zero_le _)
   simp only [All, Int.toNat_natCast]
   and_intros
   all_goals first | exact bN3 (r k) | (simp [hk, hp, IntKind.min, IntKind.max, IntKind.signed, IntKind.bits] <;> omega)
  obtain ⟨m, h1, h2, h3⟩ := U9 (fun k => A3 (r k) = true) n
  by_cases hmn : m = n
  ·subst hmn
   refine T.bool (f3 (aV_ m r most m) Tryz.func93 ⟨by simp <;> omega, f9.inv (alI (nw m r) m 94) m (fun k hk => step k hk (h2 k hk)) (f4 NG MO _ (bp6 m r m) (by simp [All]) (Nat.zero_le _)) (by simp), ?_⟩) (by simp [w4, hn]; exact h2)
   simp [All]
  ·have hm' : m < n := by omega
   have h3 := h3.resolve_left hmn
   have bad : R Tryz.prog none 0 (cB (cB (cR (cL (cR (cR (f1 Tryz.f93))))))) (alI (nw n r) n 94 m) .ret alF := by
    refine f4 NG MO _ (bc3 n r m) ?_ (Nat.zero_le _)
    simp only [All, Int.toNat_natCast]
    and_intros
    all_goals first | exact bN3 (r m) | (simp [hm', h3] <;> omega)
   refine T.bool (f3 (aV9 n r most m) Tryz.func93 ⟨by simp <;> omega, f9.inv (alI (nw n r) n 94) m (fun k hk => step k (by omega) (h2 k hk)) bad (by simp), ?_⟩) (by
    have : ¬ ∀ i, i < n → A3 (r i) = true := fun h => h3 (h m hm')
    simp only [w4, this, decide_false, Bool.and_false])
   simp [All]
 ·exact T.bool (f3 (bg4 n r most 0) Tryz.func93 ⟨by simp <;> omega, trivial⟩) (by simp [w4, hn])
theorem T_mc (c : SCert) : T Tryz.prog 89 [.agg c.c] [] (.bool (D2 c)) [] := by
 by_cases h1 : u0 c.vote = true
 ·refine T.bool (f3 (bC3 c) Tryz.func89 ?_) (by simp [D2, h1] <;> omega)
  simp only [All]
  and_intros
  all_goals first | exact bf7 c.vote | exact bu5 (most := 64) c.sig (by decide) | (simp [h1]; done)
 ·refine T.bool (f3 (bC2 c) Tryz.func89 ?_) (by simp [D2, h1] <;> omega)
  simp only [All]
  and_intros
  all_goals first | exact bf7 c.vote | (simp [h1]; done)
theorem bf6 (b : SBatch) : T Tryz.prog 91 [.agg b.c] [] (.bool (s8 b)) [] := by
 by_cases h1 : b.noop = true
 ·by_cases h2 : 0 < b.n
  ·refine T.bool (f3 (bi2 b) Tryz.func91 ?_) (by simp [s8, h1, h2] <;> omega)
   simp only [All]
   and_intros
   all_goals first | (simp [h1, h2]; done)
  ·refine T.bool (f3 (bi3 b) Tryz.func91 ?_) (by simp [s8, h1, h2] <;> omega)
   simp only [All]
   and_intros
   all_goals first | exact bu4 (most := 4) b.req (by decide) | (simp [h1, h2]; done)
 ·refine T.bool (f3 (bi1 b) Tryz.func91 ?_) (by simp [s8, h1] <;> omega)
  simp only [All]
  and_intros
  all_goals first | exact bu4 (most := 4) b.req (by decide) | (simp [h1]; done)
theorem bN4 (h : SHeld) : T Tryz.prog 134 [.agg h.c] [] (.bool (z5 h)) [] := by
 by_cases h1 : s8 h.batch = true
 ·refine T.bool (f3 (bC7 h) Tryz.func134 ?_) (by simp [z5, h1] <;> omega)
  simp only [All]
  and_intros
  all_goals first | exact bf6 h.batch | exact T_mc h.cert | (simp [h1]; done)
 ·refine T.bool (f3 (bC6 h) Tryz.func134 ?_) (by simp [z5, h1] <;> omega)
  simp only [All]
  and_intros
  all_goals first | exact bf6 h.batch | (simp [h1]; done)
theorem ca2 {n : Nat} (r : Nat → SHeld) {most : Nat} (hm : most ≤ 1000) : T Tryz.prog 133 [hl n r, .int .i64 most, .fn (.func 134) [] []] [] (.bool (w4 n most (fun i => z5 (r i)))) [] := by
 by_cases hn : n ≤ most
 ·have step : ∀ k, k < n → z5 (r k) = true → R Tryz.prog none 0 (cB (cB (cR (cL (cR (cR (f1 Tryz.f133))))))) (alI (hl n r) n 134 k) .normal (alI (hl n r) n 134 (k + 1)) := fun k hk hp => by
   refine f4 NG MO _ (bc4 n r k) ?_ (Nat.zero_le _)
   simp only [All, f6, U6, Int.toNat_natCast]
   and_intros
   all_goals first | exact bN4 (r k) | (simp [hk, hp, IntKind.min, IntKind.max, IntKind.signed, IntKind.bits] <;> omega)
  obtain ⟨m, h1, h2, h3⟩ := U9 (fun k => z5 (r k) = true) n
  by_cases hmn : m = n
  ·subst hmn
   refine T.bool (f3 (aW1 m r most m) Tryz.func133 ⟨by simp <;> omega, f9.inv (alI (hl m r) m 134) m (fun k hk => step k hk (h2 k hk)) (f4 NG MO _ (bp7 m r m) (by simp [All, f6, U6]) (Nat.zero_le _)) (by simp), ?_⟩) (by simp [w4, hn]; exact h2)
   simp [All, f6, U6]
  ·have hm' : m < n := by omega
   have h3 := h3.resolve_left hmn
   have bad : R Tryz.prog none 0 (cB (cB (cR (cL (cR (cR (f1 Tryz.f133))))))) (alI (hl n r) n 134 m) .ret alF := by
    refine f4 NG MO _ (bc5 n r m) ?_ (Nat.zero_le _)
    simp only [All, f6, U6, Int.toNat_natCast]
    and_intros
    all_goals first | exact bN4 (r m) | (simp [hm', h3] <;> omega)
   refine T.bool (f3 (aW0 n r most m) Tryz.func133 ⟨by simp <;> omega, f9.inv (alI (hl n r) n 134) m (fun k hk => step k (by omega) (h2 k hk)) bad (by simp), ?_⟩) (by
    have : ¬ ∀ i, i < n → z5 (r i) = true := fun h => h3 (h m hm')
    simp only [w4, this, decide_false, Bool.and_false])
   simp [All]
 ·exact T.bool (f3 (bg5 n r most 0) Tryz.func133 ⟨by simp <;> omega, trivial⟩) (by simp [w4, hn])
theorem T_mg (m : SMsg) : T Tryz.prog 92 [.agg (chC m)] [] (.bool (B4 m)) [] := by
 by_cases h1 : j6 m.cepoch 1048576 = true
 ·by_cases h2 : j6 m.cleader 64 = true
  ·by_cases h3 : j6 m.cview 1099511627776 = true
   ·refine T.bool (f3 (aX_ m) Tryz.func92 ?_) (by simp [B4, h1, h2, h3] <;> omega)
    simp only [All, f6, G2]
    and_intros
    all_goals first | exact C2 _ _ | exact ca2 (most := 4) m.held (by decide) | (simp [h1, h2, h3]; done)
   ·refine T.bool (f3 (aX9 m) Tryz.func92 ?_) (by simp [B4, h1, h2, h3] <;> omega)
    simp only [All, f6, G2]
    and_intros
    all_goals first | exact C2 _ _ | (simp [h1, h2, h3]; done)
  ·refine T.bool (f3 (aX8 m) Tryz.func92 ?_) (by simp [B4, h1, h2] <;> omega)
   simp only [All, f6, G2]
   and_intros
   all_goals first | exact C2 _ _ | (simp [h1, h2]; done)
 ·refine T.bool (f3 (aX7 m) Tryz.func92 ?_) (by simp [B4, h1] <;> omega)
  simp only [All, f6, G2]
  and_intros
  all_goals first | exact C2 _ _ | (simp [h1]; done)
def K3 (a b : SReq) : Bool := decide (a.client = b.client) && (decide (a.num = b.num) && (decide (a.data = b.data) && (decide (a.tag = b.tag) && true)))
def H8 (a b : SSign) : Bool := decide (a.node = b.node) && (decide (a.tag = b.tag) && true)
def X7 (a b : SEnv) : Bool := decide (a.src = b.src) && (decide (a.body = b.body) && (decide (a.tag = b.tag) && true))
def ah2 (a b : SVote) : Bool := decide (a.kind = b.kind) && (decide (a.epoch = b.epoch) && (decide (a.view = b.view) && (decide (a.slot = b.slot) && (decide (a.digest = b.digest) && true))))
def v6 (n n' : Nat) (p : Nat → Bool) : Bool := decide (n = n') && decide (∀ i, i < n → p i = true)
def w5 (a b : SBatch) : Bool := (a.noop == b.noop) && v6 a.n b.n (fun i => K3 (a.req i) (b.req i))
def B1 (a b : SCert) : Bool := ah2 a.vote b.vote && v6 a.n b.n (fun i => H8 (a.sig i) (b.sig i))
def E2 (a b : SHeld) : Bool := w5 a.batch b.batch && B1 a.cert b.cert
def E1 (a b : SMsg) : Bool := decide (a.cepoch = b.cepoch) && (decide (a.cleader = b.cleader) && (decide (a.cview = b.cview) && v6 a.nheld b.nheld (fun i => E2 (a.held i) (b.held i))))
def D4 (a b : SMsg) : Bool := decide (a.kind = b.kind) && (decide (a.epoch = b.epoch) && (decide (a.leader = b.leader) && (decide (a.view = b.view) && (decide (a.slot = b.slot) && (w5 a.batch b.batch && (ah2 a.vote b.vote && (E1 a b && (v6 a.nnews b.nnews (fun i => X7 (a.news i) (b.news i)) && (decide (a.digest = b.digest) && (B1 a.cert b.cert && (decide (a.state = b.state) && v6 a.n b.n (fun i => H8 (a.sig i) (b.sig i)))))))))))))
def smI (a b : V) (n isf k : Nat) : St := ⟨mkT 30 [(0, a), (1, b), (2, .fn (.func isf) [] []), (14, .int .i64 n), (15, .int .i64 k)], [], 0, []⟩
def smF (t nt : Nat) : St := ⟨mkT nt [(t, .bool false)], [], 0, []⟩
noncomputable def bk5 (f : Func) (a b : V) (n isf m : Nat) : Bd := { f := f, args := [a, b, .fn (.func isf) [] []], kb := { db := fun _ _ _ _ => [], lp := fun _ _ => [(True, .loop (n + 1) (wTo (smI a b n isf 0)) (.exit 0) (smI a b n isf n)), (True, .loop (m + 1) (wTo (smI a b n isf 0)) .ret (smF 6 30))] } }
noncomputable def br3 (f : Func) (a b : V) (n isf k : Nat) (p : Bool) : Pc := { c := cB (cB (cR (cL (cR (cR (f1 f)))))), st := smI a b n isf k, kb := { db := fun _ _ _ _ => [{ val := .bool p }] }, k := fun e _ => match e with
 | .normal => some (wTo (smI a b n isf (k + 1)))
 | .ret => some (wTo (smF 6 30))
 | _ => some (wTo (smI a b n isf n)) }
def sqI (a b : V) (n k : Nat) : St := ⟨mkT 26 [(0, a), (1, b), (12, .int .i64 n), (13, .int .i64 k)], [], 0, []⟩
noncomputable def aC0 (n n' : Nat) (a b : Nat → SReq) (m : Nat) : Bd := { f := Tryz.f143, args := [rq n a, rq n' b], kb := { db := fun _ _ _ _ => [], lp := fun _ _ => [(True, .loop (n + 1) (wTo (sqI (rq n a) (rq n' b) n 0)) (.exit 0) (sqI (rq n a) (rq n' b) n n)), (True, .loop (m + 1) (wTo (sqI (rq n a) (rq n' b) n 0)) .ret (smF 4 26))] } }
noncomputable def br7 (n n' : Nat) (a b : Nat → SReq) (k : Nat) : Pc := { c := cB (cB (cR (cL (cR (cR (f1 Tryz.f143)))))), st := sqI (rq n a) (rq n' b) n k, kb := kb0, k := fun e _ => match e with
 | .normal => some (wTo (sqI (rq n a) (rq n' b) n (k + 1)))
 | .ret => some (wTo (smF 4 26))
 | _ => some (wTo (sqI (rq n a) (rq n' b) n n)) }
noncomputable def bP8 (a b : SBatch) : Bd := { f := Tryz.f124, args := [.agg a.c, .agg b.c], kb := { db := dbV [(143, .bool (v6 a.n b.n (fun i => K3 (a.req i) (b.req i))))] } }
noncomputable def bdCS (a b : SCert) : Bd := { f := Tryz.f128, args := [.agg a.c, .agg b.c], kb := { db := dbV [(129, .bool (v6 a.n b.n (fun i => H8 (a.sig i) (b.sig i))))] } }
noncomputable def bdGS (a b : SMsg) : Bd := { f := Tryz.f125, args := [.agg (chC a), .agg (chC b)], kb := { db := dbV [(144, .bool (v6 a.nheld b.nheld (fun i => E2 (a.held i) (b.held i))))] } }
noncomputable def bdMM (a b : SMsg) : Bd := { f := Tryz.f86, args := [.agg a.c, .agg b.c], kb := { db := dbV [(124, .bool (w5 a.batch b.batch)), (125, .bool (E1 a b)), (126, .bool (v6 a.nnews b.nnews (fun i => X7 (a.news i) (b.news i)))), (128, .bool (B1 a.cert b.cert)), (129, .bool (v6 a.n b.n (fun i => H8 (a.sig i) (b.sig i))))] } }
noncomputable def bw2 (n n' : Nat) (a b : Nat → SSign) (m : Nat) : Bd := bk5 Tryz.f129 (sg n a) (sg n' b) n 130 m
noncomputable def ch2 (n n' : Nat) (a b : Nat → SSign) (k : Nat) : Pc := br3 Tryz.f129 (sg n a) (sg n' b) n 130 k (H8 (a k) (b k))
noncomputable def bw0 (n n' : Nat) (a b : Nat → SEnv) (m : Nat) : Bd := bk5 Tryz.f126 (nw n a) (nw n' b) n 127 m
noncomputable def ch0 (n n' : Nat) (a b : Nat → SEnv) (k : Nat) : Pc := br3 Tryz.f126 (nw n a) (nw n' b) n 127 k (X7 (a k) (b k))
noncomputable def bw1 (n n' : Nat) (a b : Nat → SHeld) (m : Nat) : Bd := bk5 Tryz.f144 (hl n a) (hl n' b) n 145 m
noncomputable def ch1 (n n' : Nat) (a b : Nat → SHeld) (k : Nat) : Pc := br3 Tryz.f144 (hl n a) (hl n' b) n 145 k (E2 (a k) (b k))
theorem bD_ (n : Nat) (n' : Nat) (a : Nat → SReq) (b : Nat → SReq) (m : Nat) :
  e9 zp (aC0 n n' a b m) [true] = (some (.bool false, [], [(!decide ((↑n : Int) = (↑n' : Int))) = true]) : Option (V × c5 × List Prop)) := by kernel_rfl
theorem bk7 (n : Nat) (n' : Nat) (a : Nat → SReq) (b : Nat → SReq) (m : Nat) :
  e9 zp (aC0 n n' a b m) [false, true] = (some (.bool true, [], [(!decide ((↑n : Int) = (↑n' : Int))) = false, f9 zp none 0 (cB (cB (cR (cL (cR (cR (f1 (Bd.f (aC0 n n' a b m))))))))) (n + 1) (St.mk (mkT 26 [(0, .ros 19 n (fun i => SReq.c (a i)) false), (1, .ros 19 n' (fun i => SReq.c (b i)) false), (12, .int .i64 ↑n), (13, .int .i64 0)]) [] 0 []) (.exit 0) (St.mk (mkT 26 [(0, .ros 19 n (fun i => SReq.c (a i)) false), (1, .ros 19 n' (fun i => SReq.c (b i)) false), (12, .int .i64 ↑n), (13, .int .i64 ↑n)]) [] 0 []), q n, ∀ (k : Nat), k < n → SReq.c (a k) = SReq.c (a k), false = true → false = true, q (n'), ∀ (k : Nat), k < n' → SReq.c (b k) = SReq.c (b k), false = true → false = true, q (↑n : Int), q1]) : Option (V × c5 × List Prop)) := by kernel_rfl
theorem bk6 (n : Nat) (n' : Nat) (a : Nat → SReq) (b : Nat → SReq) (m : Nat) :
  e9 zp (aC0 n n' a b m) [false, false] = (some (.bool false, [], [(!decide ((↑n : Int) = (↑n' : Int))) = false, f9 zp none 0 (cB (cB (cR (cL (cR (cR (f1 (Bd.f (aC0 n n' a b m))))))))) (m + 1) (St.mk (mkT 26 [(0, .ros 19 n (fun i => SReq.c (a i)) false), (1, .ros 19 n' (fun i => SReq.c (b i)) false), (12, .int .i64 ↑n), (13, .int .i64 0)]) [] 0 []) .ret (St.mk (mkT 26 [(4, .bool false)]) [] 0 []), q n, ∀ (k : Nat), k < n → SReq.c (a k) = SReq.c (a k), false = true → false = true, q (n'), ∀ (k : Nat), k < n' → SReq.c (b k) = SReq.c (b k), false = true → false = true, q (↑n : Int), q1]) : Option (V × c5 × List Prop)) := by kernel_rfl
theorem br9 (n : Nat) (n' : Nat) (a : Nat → SReq) (b : Nat → SReq) (k : Nat) :
  i5 zp (br7 n n' a b k) [true, true] = (some (.ret, St.mk (mkT 26 [(4, .bool false)]) [] 0 [], [decide ((↑k : Int) < (↑n : Int)) = true, (0 : Int) ≤ (↑k : Int) ∧ (↑k : Int) < (↑n : Int), (0 : Int) ≤ (↑k : Int) ∧ (↑k : Int) < (↑n' : Int), (!(decide (SReq.client (a (Int.toNat (↑k : Int))) = SReq.client (b (Int.toNat (↑k : Int)))) && (decide (SReq.num (a (Int.toNat (↑k : Int))) = SReq.num (b (Int.toNat (↑k : Int)))) && (decide (SReq.data (a (Int.toNat (↑k : Int))) = SReq.data (b (Int.toNat (↑k : Int)))) && (decide (SReq.tag (a (Int.toNat (↑k : Int))) = SReq.tag (b (Int.toNat (↑k : Int)))) && true))))) = true, q false]) : Option (Exit × St × List Prop)) := by kernel_rfl
theorem br8 (n : Nat) (n' : Nat) (a : Nat → SReq) (b : Nat → SReq) (k : Nat) :
  i5 zp (br7 n n' a b k) [true, false] = (some (.normal, St.mk (mkT 26 [(0, .ros 19 n (fun i => SReq.c (a i)) false), (1, .ros 19 n' (fun i => SReq.c (b i)) false), (12, .int .i64 ↑n), (13, .int .i64 (↑(k + 1) : Int))]) [] 0 [], [decide ((↑k : Int) < (↑n : Int)) = true, (0 : Int) ≤ (↑k : Int) ∧ (↑k : Int) < (↑n : Int), (0 : Int) ≤ (↑k : Int) ∧ (↑k : Int) < (↑n' : Int), (!(decide (SReq.client (a (Int.toNat (↑k : Int))) = SReq.client (b (Int.toNat (↑k : Int)))) && (decide (SReq.num (a (Int.toNat (↑k : Int))) = SReq.num (b (Int.toNat (↑k : Int)))) && (decide (SReq.data (a (Int.toNat (↑k : Int))) = SReq.data (b (Int.toNat (↑k : Int)))) && (decide (SReq.tag (a (Int.toNat (↑k : Int))) = SReq.tag (b (Int.toNat (↑k : Int)))) && true))))) = false, InR .i64 ((↑k : Int) + (1 : Int)), q n, ∀ (k : Nat), k < n → SReq.c (a k) = SReq.c (a k), false = true → false = true, q (n'), ∀ (k : Nat), k < n' → SReq.c (b k) = SReq.c (b k), false = true → false = true, q (↑n : Int), (↑k : Int) + (1 : Int) = (↑(k + (1 : Nat)) : Int)]) : Option (Exit × St × List Prop)) := by kernel_rfl
theorem bI1 (n : Nat) (n' : Nat) (a : Nat → SReq) (b : Nat → SReq) (k : Nat) :
  i5 zp (br7 n n' a b k) [false] = (some (.exit 0, St.mk (mkT 26 [(0, .ros 19 n (fun i => SReq.c (a i)) false), (1, .ros 19 n' (fun i => SReq.c (b i)) false), (12, .int .i64 ↑n), (13, .int .i64 ↑n)]) [] 0 [], [decide ((↑k : Int) < (↑n : Int)) = false, q n, ∀ (k : Nat), k < n → SReq.c (a k) = SReq.c (a k), false = true → false = true, q (n'), ∀ (k : Nat), k < n' → SReq.c (b k) = SReq.c (b k), false = true → false = true, q (↑n : Int), (↑k : Int) = (↑n : Int)]) : Option (Exit × St × List Prop)) := by kernel_rfl
theorem bA6 (a : SBatch) (b : SBatch) :
  e9 zp (bP8 a b) [true] = (some (.bool (v6 (SBatch.n a) (SBatch.n b) fun i => K3 (SBatch.req a i) (SBatch.req b i)), [], [(SBatch.noop a == SBatch.noop b) = true, T zp 143 [.ros 19 (SBatch.n a) (fun i => SReq.c (SBatch.req a i)) false, .ros 19 (SBatch.n b) (fun i => SReq.c (SBatch.req b i)) false] [] (.bool (v6 (SBatch.n a) (SBatch.n b) fun i => K3 (SBatch.req a i) (SBatch.req b i))) []]) : Option (V × c5 × List Prop)) := by kernel_rfl
theorem bA5 (a : SBatch) (b : SBatch) :
  e9 zp (bP8 a b) [false] = (some (.bool false, [], [(SBatch.noop a == SBatch.noop b) = false]) : Option (V × c5 × List Prop)) := by kernel_rfl
theorem bB2 (a : SCert) (b : SCert) :
  e9 zp (bdCS a b) [true] = (some (.bool (v6 (SCert.n a) (SCert.n b) fun i => H8 (SCert.sig a i) (SCert.sig b i)), [], [(decide (SVote.kind (SCert.vote a) = SVote.kind (SCert.vote b)) && (decide (SVote.epoch (SCert.vote a) = SVote.epoch (SCert.vote b)) && (decide (SVote.view (SCert.vote a) = SVote.view (SCert.vote b)) && (decide (SVote.slot (SCert.vote a) = SVote.slot (SCert.vote b)) && (decide (SVote.digest (SCert.vote a) = SVote.digest (SCert.vote b)) && true))))) = true, T zp 129 [.ros 17 (SCert.n a) (fun i => SSign.c (SCert.sig a i)) false, .ros 17 (SCert.n b) (fun i => SSign.c (SCert.sig b i)) false, .fn (.func 130) [] []] [] (.bool (v6 (SCert.n a) (SCert.n b) fun i => H8 (SCert.sig a i) (SCert.sig b i))) []]) : Option (V × c5 × List Prop)) := by kernel_rfl
theorem aX2 (a : SMsg) (b : SMsg) :
  e9 zp (bdGS a b) [true, true, true] = (some (.bool (v6 (SMsg.nheld a) (SMsg.nheld b) fun i => E2 (SMsg.held a i) (SMsg.held b i)), [], [decide (SMsg.cepoch a = SMsg.cepoch b) = true, decide (SMsg.cleader a = SMsg.cleader b) = true, decide (SMsg.cview a = SMsg.cview b) = true, T zp 144 [.ros 39 (SMsg.nheld a) (fun i => SHeld.c (SMsg.held a i)) false, .ros 39 (SMsg.nheld b) (fun i => SHeld.c (SMsg.held b i)) false, .fn (.func 145) [] []] [] (.bool (v6 (SMsg.nheld a) (SMsg.nheld b) fun i => E2 (SMsg.held a i) (SMsg.held b i))) []]) : Option (V × c5 × List Prop)) := by kernel_rfl
theorem ae2 (a : SMsg) (b : SMsg) :
  e9 zp (bdMM a b) [true, true, true, true, true, true, true, true, true, true, true, true] = (some (.bool (v6 (SMsg.n a) (SMsg.n b) fun i => H8 (SMsg.sig a i) (SMsg.sig b i)), [], [decide (SMsg.kind a = SMsg.kind b) = true, decide (SMsg.epoch a = SMsg.epoch b) = true, decide (SMsg.leader a = SMsg.leader b) = true, decide (SMsg.view a = SMsg.view b) = true, decide (SMsg.slot a = SMsg.slot b) = true, T zp 124 [.agg (SBatch.c (SMsg.batch a)), .agg (SBatch.c (SMsg.batch b))] [] (.bool (w5 (SMsg.batch a) (SMsg.batch b))) [], w5 (SMsg.batch a) (SMsg.batch b) = true, (decide (SVote.kind (SMsg.vote a) = SVote.kind (SMsg.vote b)) && (decide (SVote.epoch (SMsg.vote a) = SVote.epoch (SMsg.vote b)) && (decide (SVote.view (SMsg.vote a) = SVote.view (SMsg.vote b)) && (decide (SVote.slot (SMsg.vote a) = SVote.slot (SMsg.vote b)) && (decide (SVote.digest (SMsg.vote a) = SVote.digest (SMsg.vote b)) && true))))) = true, T zp 125 [.agg [.int .i64 (SMsg.cepoch a), .int .i64 (SMsg.cleader a), .int .i64 (SMsg.cview a), hl (SMsg.nheld a) (SMsg.held a)], .agg [.int .i64 (SMsg.cepoch b), .int .i64 (SMsg.cleader b), .int .i64 (SMsg.cview b), hl (SMsg.nheld b) (SMsg.held b)]] [] (.bool (E1 a b)) [], E1 a b = true, T zp 126 [.ros 18 (SMsg.nnews a) (fun i => SEnv.c (SMsg.news a i)) false, .ros 18 (SMsg.nnews b) (fun i => SEnv.c (SMsg.news b i)) false, .fn (.func 127) [] []] [] (.bool (v6 (SMsg.nnews a) (SMsg.nnews b) fun i => X7 (SMsg.news a i) (SMsg.news b i))) [], (v6 (SMsg.nnews a) (SMsg.nnews b) fun i => X7 (SMsg.news a i) (SMsg.news b i)) = true, decide (SMsg.digest a = SMsg.digest b) = true, T zp 128 [.agg [.int .i64 (SVote.kind (SCert.vote (SMsg.cert a))), .int .i64 (SVote.epoch (SCert.vote (SMsg.cert a))), .int .i64 (SVote.view (SCert.vote (SMsg.cert a))), .int .i64 (SVote.slot (SCert.vote (SMsg.cert a))), .seg .u8 32 (SVote.digest (SCert.vote (SMsg.cert a))), sg (SCert.n (SMsg.cert a)) (SCert.sig (SMsg.cert a))], .agg [.int .i64 (SVote.kind (SCert.vote (SMsg.cert b))), .int .i64 (SVote.epoch (SCert.vote (SMsg.cert b))), .int .i64 (SVote.view (SCert.vote (SMsg.cert b))), .int .i64 (SVote.slot (SCert.vote (SMsg.cert b))), .seg .u8 32 (SVote.digest (SCert.vote (SMsg.cert b))), sg (SCert.n (SMsg.cert b)) (SCert.sig (SMsg.cert b))]] [] (.bool (B1 (SMsg.cert a) (SMsg.cert b))) [], B1 (SMsg.cert a) (SMsg.cert b) = true, decide (SMsg.state a = SMsg.state b) = true, T zp 129 [.ros 17 (SMsg.n a) (fun i => SSign.c (SMsg.sig a i)) false, .ros 17 (SMsg.n b) (fun i => SSign.c (SMsg.sig b i)) false, .fn (.func 130) [] []] [] (.bool (v6 (SMsg.n a) (SMsg.n b) fun i => H8 (SMsg.sig a i) (SMsg.sig b i))) []]) : Option (V × c5 × List Prop)) := by kernel_rfl
theorem aZ9 (n : Nat) (n' : Nat) (a : Nat → SSign) (b : Nat → SSign) (m : Nat) :
  e9 zp (bw2 n n' a b m) [false, true] = (some (.bool true, [], [(!decide ((↑n : Int) = (↑n' : Int))) = false, f9 zp none 0 (cB (cB (cR (cL (cR (cR (f1 (Bd.f (bw2 n n' a b m))))))))) (n + 1) (St.mk (mkT 30 [(0, .ros 17 n (fun i => SSign.c (a i)) false), (1, .ros 17 n' (fun i => SSign.c (b i)) false), (2, .fn (.func 130) [] []), (14, .int .i64 ↑n), (15, .int .i64 0)]) [] 0 []) (.exit 0) (St.mk (mkT 30 [(0, .ros 17 n (fun i => SSign.c (a i)) false), (1, .ros 17 n' (fun i => SSign.c (b i)) false), (2, .fn (.func 130) [] []), (14, .int .i64 ↑n), (15, .int .i64 ↑n)]) [] 0 []), q n, ∀ (k : Nat), k < n → SSign.c (a k) = SSign.c (a k), false = true → false = true, q (n'), ∀ (k : Nat), k < n' → SSign.c (b k) = SSign.c (b k), false = true → false = true, q (↑n : Int), q1]) : Option (V × c5 × List Prop)) := by kernel_rfl
theorem br6 (n : Nat) (n' : Nat) (a : Nat → SSign) (b : Nat → SSign) (k : Nat) :
  i5 zp (ch2 n n' a b k) [false] = (some (.exit 0, St.mk (mkT 30 [(0, .ros 17 n (fun i => SSign.c (a i)) false), (1, .ros 17 n' (fun i => SSign.c (b i)) false), (2, .fn (.func 130) [] []), (14, .int .i64 ↑n), (15, .int .i64 ↑n)]) [] 0 [], [decide ((↑k : Int) < (↑n : Int)) = false, q n, ∀ (k : Nat), k < n → SSign.c (a k) = SSign.c (a k), false = true → false = true, q (n'), ∀ (k : Nat), k < n' → SSign.c (b k) = SSign.c (b k), false = true → false = true, q (↑n : Int), (↑k : Int) = (↑n : Int)]) : Option (Exit × St × List Prop)) := by kernel_rfl
theorem aZ7 (n : Nat) (n' : Nat) (a : Nat → SEnv) (b : Nat → SEnv) (m : Nat) :
  e9 zp (bw0 n n' a b m) [false, true] = (some (.bool true, [], [(!decide ((↑n : Int) = (↑n' : Int))) = false, f9 zp none 0 (cB (cB (cR (cL (cR (cR (f1 (Bd.f (bw0 n n' a b m))))))))) (n + 1) (St.mk (mkT 30 [(0, .ros 18 n (fun i => SEnv.c (a i)) false), (1, .ros 18 n' (fun i => SEnv.c (b i)) false), (2, .fn (.func 127) [] []), (14, .int .i64 ↑n), (15, .int .i64 0)]) [] 0 []) (.exit 0) (St.mk (mkT 30 [(0, .ros 18 n (fun i => SEnv.c (a i)) false), (1, .ros 18 n' (fun i => SEnv.c (b i)) false), (2, .fn (.func 127) [] []), (14, .int .i64 ↑n), (15, .int .i64 ↑n)]) [] 0 []), q n, ∀ (k : Nat), k < n → SEnv.c (a k) = SEnv.c (a k), false = true → false = true, q (n'), ∀ (k : Nat), k < n' → SEnv.c (b k) = SEnv.c (b k), false = true → false = true, q (↑n : Int), q1]) : Option (V × c5 × List Prop)) := by kernel_rfl
theorem br4 (n : Nat) (n' : Nat) (a : Nat → SEnv) (b : Nat → SEnv) (k : Nat) :
  i5 zp (ch0 n n' a b k) [false] = (some (.exit 0, St.mk (mkT 30 [(0, .ros 18 n (fun i => SEnv.c (a i)) false), (1, .ros 18 n' (fun i => SEnv.c (b i)) false), (2, .fn (.func 127) [] []), (14, .int .i64 ↑n), (15, .int .i64 ↑n)]) [] 0 [], [decide ((↑k : Int) < (↑n : Int)) = false, q n, ∀ (k : Nat), k < n → SEnv.c (a k) = SEnv.c (a k), false = true → false = true, q (n'), ∀ (k : Nat), k < n' → SEnv.c (b k) = SEnv.c (b k), false = true → false = true, q (↑n : Int), (↑k : Int) = (↑n : Int)]) : Option (Exit × St × List Prop)) := by kernel_rfl
theorem aZ8 (n : Nat) (n' : Nat) (a : Nat → SHeld) (b : Nat → SHeld) (m : Nat) :
  e9 zp (bw1 n n' a b m) [false, true] = (some (.bool true, [], [(!decide ((↑n : Int) = (↑n' : Int))) = false, f9 zp none 0 (cB (cB (cR (cL (cR (cR (f1 (Bd.f (bw1 n n' a b m))))))))) (n + 1) (St.mk (mkT 30 [(0, .ros 39 n (fun i => SHeld.c (a i)) false), (1, .ros 39 n' (fun i => SHeld.c (b i)) false), (2, .fn (.func 145) [] []), (14, .int .i64 ↑n), (15, .int .i64 0)]) [] 0 []) (.exit 0) (St.mk (mkT 30 [(0, .ros 39 n (fun i => SHeld.c (a i)) false), (1, .ros 39 n' (fun i => SHeld.c (b i)) false), (2, .fn (.func 145) [] []), (14, .int .i64 ↑n), (15, .int .i64 ↑n)]) [] 0 []), q n, ∀ (k : Nat), k < n → SHeld.c (a k) = SHeld.c (a k), false = true → false = true, q (n'), ∀ (k : Nat), k < n' → SHeld.c (b k) = SHeld.c (b k), false = true → false = true, q (↑n : Int), q1]) : Option (V × c5 × List Prop)) := by kernel_rfl
theorem br5 (n : Nat) (n' : Nat) (a : Nat → SHeld) (b : Nat → SHeld) (k : Nat) :
  i5 zp (ch1 n n' a b k) [false] = (some (.exit 0, St.mk (mkT 30 [(0, .ros 39 n (fun i => SHeld.c (a i)) false), (1, .ros 39 n' (fun i => SHeld.c (b i)) false), (2, .fn (.func 145) [] []), (14, .int .i64 ↑n), (15, .int .i64 ↑n)]) [] 0 [], [decide ((↑k : Int) < (↑n : Int)) = false, q n, ∀ (k : Nat), k < n → SHeld.c (a k) = SHeld.c (a k), false = true → false = true, q (n'), ∀ (k : Nat), k < n' → SHeld.c (b k) = SHeld.c (b k), false = true → false = true, q (↑n : Int), (↑k : Int) = (↑n : Int)]) : Option (Exit × St × List Prop)) := by kernel_rfl
theorem aw2 {a b : SReq} (h : K3 a b = true) : a.client = b.client ∧ a.num = b.num ∧ a.data = b.data ∧ a.tag = b.tag := by
 simpa [K3] using h
theorem aT_ {a b : SReq} (h : ¬ K3 a b = true) : (!(decide (a.client = b.client) && (decide (a.num = b.num) && (decide (a.data = b.data) && (decide (a.tag = b.tag) && true))))) = true := by
 rw [Bool.not_eq_true']; exact Bool.eq_false_iff.mpr h
theorem T_sq {n n' : Nat} (a b : Nat → SReq) (hn : n ≤ 1000000) : T Tryz.prog 143 [rq n a, rq n' b] [] (.bool (v6 n n' (fun i => K3 (a i) (b i)))) [] := by
 by_cases hnn : n = n'
 ·subst hnn
  have step : ∀ k, k < n → K3 (a k) (b k) = true → R Tryz.prog none 0 (cB (cB (cR (cL (cR (cR (f1 Tryz.f143))))))) (sqI (rq n a) (rq n b) n k) .normal (sqI (rq n a) (rq n b) n (k + 1)) := fun k hk hp => by
   refine f4 NG MO _ (br8 n n a b k) ?_ (Nat.zero_le _)
   simp only [All, Int.toNat_natCast]
   and_intros
   all_goals first | (simp [hk, aw2 hp, IntKind.min, IntKind.max, IntKind.signed, IntKind.bits] <;> omega)
  obtain ⟨m, h1, h2, h3⟩ := U9 (fun k => K3 (a k) (b k) = true) n
  by_cases hmn : m = n
  ·subst hmn
   refine T.bool (f3 (bk7 m m a b m) Tryz.func143 ⟨by simp, f9.inv (sqI (rq m a) (rq m b) m) m (fun k hk => step k hk (h2 k hk)) (f4 NG MO _ (bI1 m m a b m) (by simp [All]) (Nat.zero_le _)) (by simp), ?_⟩) (by simp [v6]; exact h2)
   simp [All]
  ·have hm' : m < n := by omega
   have h3 := h3.resolve_left hmn
   have bad : R Tryz.prog none 0 (cB (cB (cR (cL (cR (cR (f1 Tryz.f143))))))) (sqI (rq n a) (rq n b) n m) .ret (smF 4 26) := by
    refine f4 NG MO _ (br9 n n a b m) ?_ (Nat.zero_le _)
    simp only [All, Int.toNat_natCast]
    and_intros
    all_goals first | exact aT_ h3 | (simp [hm'] <;> omega)
   refine T.bool (f3 (bk6 n n a b m) Tryz.func143 ⟨by simp, f9.inv (sqI (rq n a) (rq n b) n) m (fun k hk => step k (by omega) (h2 k hk)) bad (by simp), ?_⟩) (by
    have : ¬ ∀ i, i < n → K3 (a i) (b i) = true := fun h => h3 (h m hm')
    simp only [v6, this, decide_false, Bool.and_false])
   simp [All]
 ·exact T.bool (f3 (bD_ n n' a b 0) Tryz.func143 ⟨by simp <;> omega, trivial⟩) (by simp [v6, hnn])
theorem T_bS (a b : SBatch) (hn : a.n ≤ 1000000) : T Tryz.prog 124 [.agg a.c, .agg b.c] [] (.bool (w5 a b)) [] := by
 by_cases h1 : (a.noop == b.noop) = true
 ·refine T.bool (f3 (bA6 a b) Tryz.func124 ?_) (by simp [w5, h1] <;> omega)
  simp only [All]
  and_intros
  all_goals first | exact T_sq a.req b.req hn | (simp [h1]; done)
 ·refine T.bool (f3 (bA5 a b) Tryz.func124 ?_) (by simp [w5, h1] <;> omega)
  simp only [All]
  and_intros
  all_goals first | (simp [h1]; done)
structure FitM (a : SMsg) : Prop where
 batch : a.batch.n ≤ 1000000
 nheld : a.nheld ≤ 1000000
 held : ∀ k, k < a.nheld → (a.held k).batch.n ≤ 1000000 ∧ (a.held k).cert.n ≤ 1000000
 nnews : a.nnews ≤ 1000000
 cert : a.cert.n ≤ 1000000
 n : a.n ≤ 1000000
def I6 : SVote := { digest := z32 }
def l6 (k : Int) : SMsg := { kind := k, vote := I6, digest := z32, cert := { vote := I6 } }
def cg7 (r : SMsg) : Exit → St → Option W := fun _ st => some ⟨[], [(2, .set (.ptr (.o 64) 0 0 0 0))], [(.o 64, .set (.flat r.c))], none, st.next⟩
def o1 (m : SMsg) : SMsg := { l6 m.kind with epoch := m.epoch, slot := m.slot, batch := m.batch }
def o2 (m : SMsg) : SMsg := { l6 m.kind with vote := m.vote }
def o3 (m : SMsg) : SMsg := { l6 m.kind with cepoch := m.cepoch, cleader := m.cleader, cview := m.cview, nheld := m.nheld, held := m.held }
def o4 (m : SMsg) : SMsg := { l6 m.kind with epoch := m.epoch, leader := m.leader, view := m.view, nnews := m.nnews, news := m.news }
def o5 (m : SMsg) : SMsg := { l6 m.kind with epoch := m.epoch, digest := m.digest }
def o6 (m : SMsg) : SMsg := { l6 m.kind with epoch := m.epoch, slot := m.slot }
def o7 (m : SMsg) : SMsg := { l6 m.kind with batch := m.batch, cert := m.cert }
def o8 (m : SMsg) : SMsg := { l6 m.kind with state := m.state, n := m.n, sig := m.sig }
def o9 (m : SMsg) : SMsg := l6 m.kind
def O2 (m : SMsg) : SMsg :=
 if m.kind = 2 then o2 m else if m.kind = 3 then o3 m else if m.kind = 4 then o4 m else if m.kind = 5 then o5 m else
 if m.kind = 1 then o1 m else if m.kind = 6 then o6 m else if m.kind = 7 then o7 m else if m.kind = 8 then o8 m else o9 m
noncomputable def aY1 (m r : SMsg) : Bd := { f := Tryz.f87, args := [.agg m.c], kb := kb0, k := cg7 r }
noncomputable def bdO1 (m : SMsg) : Bd := aY1 m (o1 m)
noncomputable def bdO2 (m : SMsg) : Bd := aY1 m (o2 m)
noncomputable def aX3 (m o : SMsg) : Bd := { f := Tryz.f52, args := [.agg m.c], kb := { db := dbV [(87, .agg o.c), (86, .bool (D4 m o)), (88, .bool (u0 m.vote)), (89, .bool (D2 m.cert)), (91, .bool (s8 m.batch)), (92, .bool (B4 m)), (93, .bool (w4 m.nnews 64 (fun i => A3 (m.news i)))), (95, .bool (w4 m.n 64 (fun i => u7 (m.sig i))))] } }
def az9 (m : SMsg) : Bool := decide (1 ≤ m.kind) && (decide (m.kind ≤ 8) && (D4 m (O2 m) && ((!decide (m.kind = 2) || u0 m.vote) && ((!decide (m.kind = 7) || D2 m.cert) && (j6 m.epoch 1048576 && (j6 m.slot 1099511627776 && (j6 m.view 1099511627776 && (j6 m.leader 64 && (s8 m.batch && (B4 m && (w4 m.nnews 64 (fun i => A3 (m.news i)) && (w4 m.n 64 (fun i => u7 (m.sig i)) && decide ((m.state.size : Int) ≤ 4194304)))))))))))))
theorem bC9 (m : SMsg) :
  e9 zp (bdO2 m) [true] = (some (.agg [.int .i64 (SMsg.kind m), .int .i64 0, .int .i64 0, .int .i64 0, .int .i64 0, .bool false, rq 0 fun x => SReq.mk (0 : Int) (0 : Int) ByteArray.empty [], .int .i64 (SVote.kind (SMsg.vote m)), .int .i64 (SVote.epoch (SMsg.vote m)), .int .i64 (SVote.view (SMsg.vote m)), .int .i64 (SVote.slot (SMsg.vote m)), .seg .u8 32 (SVote.digest (SMsg.vote m)), .int .i64 0, .int .i64 0, .int .i64 0, hl 0 fun x => SHeld.mk (SBatch.mk false 0 fun x => SReq.mk (0 : Int) (0 : Int) ByteArray.empty []) (SCert.mk (SVote.mk (0 : Int) (0 : Int) (0 : Int) (0 : Int) []) 0 fun x => SSign.mk (0 : Int) []), nw 0 fun x => SEnv.mk (0 : Int) ByteArray.empty [], .seg .u8 32 z32, .int .i64 0, .int .i64 0, .int .i64 0, .int .i64 0, .seg .u8 32 z32, sg 0 fun x => SSign.mk (0 : Int) [], .str ByteArray.empty, sg 0 fun x => SSign.mk (0 : Int) []], [], [decide (SMsg.kind m = (2 : Int)) = true, q (SMsg.kind m), q1, q1, q1, q1, q false, q0, q (SVote.kind (SMsg.vote m)), q (SVote.epoch (SMsg.vote m)), q (SVote.view (SMsg.vote m)), q (SVote.slot (SMsg.vote m)), q (32 : Nat), q (SVote.digest (SMsg.vote m)), q1, q1, q1, q0, q0, q (32 : Nat), q z32, q1, q1, q1, q1, q (32 : Nat), q z32, q0, q ByteArray.empty, q0, q0, q0, q0]) : Option (V × c5 × List Prop)) := by kernel_rfl
theorem aI8 (m : SMsg) :
  e9 zp (bdO1 m) [false, false, false, false, true] = (some (.agg [.int .i64 (SMsg.kind m), .int .i64 (SMsg.epoch m), .int .i64 0, .int .i64 0, .int .i64 (SMsg.slot m), .bool (SBatch.noop (SMsg.batch m)), rq (SBatch.n (SMsg.batch m)) (SBatch.req (SMsg.batch m)), .int .i64 0, .int .i64 0, .int .i64 0, .int .i64 0, .seg .u8 32 z32, .int .i64 0, .int .i64 0, .int .i64 0, hl 0 fun x => SHeld.mk (SBatch.mk false 0 fun x => SReq.mk (0 : Int) (0 : Int) ByteArray.empty []) (SCert.mk (SVote.mk (0 : Int) (0 : Int) (0 : Int) (0 : Int) []) 0 fun x => SSign.mk (0 : Int) []), nw 0 fun x => SEnv.mk (0 : Int) ByteArray.empty [], .seg .u8 32 z32, .int .i64 0, .int .i64 0, .int .i64 0, .int .i64 0, .seg .u8 32 z32, sg 0 fun x => SSign.mk (0 : Int) [], .str ByteArray.empty, sg 0 fun x => SSign.mk (0 : Int) []], [], [decide (SMsg.kind m = (2 : Int)) = false, decide (SMsg.kind m = (3 : Int)) = false, decide (SMsg.kind m = (4 : Int)) = false, decide (SMsg.kind m = (5 : Int)) = false, decide (SMsg.kind m = (1 : Int)) = true, q (SMsg.kind m), q (SMsg.epoch m), q1, q1, q (SMsg.slot m), q (SBatch.noop (SMsg.batch m)), q (SBatch.n (SMsg.batch m)), ∀ (k : Nat), k < SBatch.n (SMsg.batch m) → SReq.c (SBatch.req (SMsg.batch m) k) = SReq.c (SBatch.req (SMsg.batch m) k), false = true → false = true, q1, q1, q1, q1, q (32 : Nat), q z32, q1, q1, q1, q0, q0, q (32 : Nat), q z32, q1, q1, q1, q1, q (32 : Nat), q z32, q0, q ByteArray.empty, q0, q0, q0, q0]) : Option (V × c5 × List Prop)) := by kernel_rfl
theorem as3 (m : SMsg) (o : SMsg) :
  e9 zp (aX3 m o) [false, false, false, true, true, true] = (some (.bool false, [], [decide (SMsg.kind m < (1 : Int)) = false, decide ((8 : Int) < SMsg.kind m) = false, T zp 87 [.agg (SMsg.c m)] [] (.agg (SMsg.c o)) [], T zp 86 [.agg (SMsg.c m), .agg (SMsg.c o)] [] (.bool (D4 m o)) [], (!D4 m o) = false, decide (SMsg.kind m = (2 : Int)) = true, T zp 88 [.agg (SVote.c (SMsg.vote m))] [] (.bool (u0 (SMsg.vote m))) [], (!u0 (SMsg.vote m)) = true, q2]) : Option (V × c5 × List Prop)) := by kernel_rfl
theorem X3 (m : SMsg) (o : SMsg) :
  e9 zp (aX3 m o) [false, false, false, false, false, false, false, true, true, true, true, true, true, true, true] = (some (.bool (decide ((↑(ByteArray.size (SMsg.state m)) : Int) ≤ (4194304 : Int))), [], [decide (SMsg.kind m < (1 : Int)) = false, decide ((8 : Int) < SMsg.kind m) = false, T zp 87 [.agg (SMsg.c m)] [] (.agg (SMsg.c o)) [], T zp 86 [.agg (SMsg.c m), .agg (SMsg.c o)] [] (.bool (D4 m o)) [], (!D4 m o) = false, decide (SMsg.kind m = (2 : Int)) = false, q false, decide (SMsg.kind m = (7 : Int)) = false, q false, T zp 90 [.int .i64 (SMsg.epoch m), .int .i64 1048576] [] (.bool (j6 (SMsg.epoch m) (1048576 : Int))) [], j6 (SMsg.epoch m) (1048576 : Int) = true, T zp 90 [.int .i64 (SMsg.slot m), .int .i64 1099511627776] [] (.bool (j6 (SMsg.slot m) (1099511627776 : Int))) [], j6 (SMsg.slot m) (1099511627776 : Int) = true, T zp 90 [.int .i64 (SMsg.view m), .int .i64 1099511627776] [] (.bool (j6 (SMsg.view m) (1099511627776 : Int))) [], j6 (SMsg.view m) (1099511627776 : Int) = true, T zp 90 [.int .i64 (SMsg.leader m), .int .i64 64] [] (.bool (j6 (SMsg.leader m) (64 : Int))) [], j6 (SMsg.leader m) (64 : Int) = true, T zp 91 [.agg (SBatch.c (SMsg.batch m))] [] (.bool (s8 (SMsg.batch m))) [], s8 (SMsg.batch m) = true, T zp 92 [.agg [.int .i64 (SMsg.cepoch m), .int .i64 (SMsg.cleader m), .int .i64 (SMsg.cview m), hl (SMsg.nheld m) (SMsg.held m)]] [] (.bool (B4 m)) [], B4 m = true, T zp 93 [.ros 18 (SMsg.nnews m) (fun i => SEnv.c (SMsg.news m i)) false, .int .i64 64, .fn (.func 94) [] []] [] (.bool (w4 (SMsg.nnews m) 64 fun i => A3 (SMsg.news m i))) [], (w4 (SMsg.nnews m) (64 : Nat) fun i => A3 (SMsg.news m i)) = true, T zp 95 [.ros 17 (SMsg.n m) (fun i => SSign.c (SMsg.sig m i)) false, .int .i64 64, .fn (.func 96) [] []] [] (.bool (w4 (SMsg.n m) 64 fun i => u7 (SMsg.sig m i))) [], (w4 (SMsg.n m) (64 : Nat) fun i => u7 (SMsg.sig m i)) = true]) : Option (V × c5 × List Prop)) := by kernel_rfl
def bw9 (m : SMsg) : List UInt8 :=
 if m.kind = 1 then n5 [m.epoch, m.slot] ++ m7 m.batch else
 if m.kind = 2 then aU7 m.vote else
 if m.kind = 3 then n5 [m.cepoch, m.cleader, m.cview] ++ (n5 [(m.nheld : Int)] ++ aE4 m.held m.nheld) else
 if m.kind = 4 then n5 [m.epoch, m.leader, m.view] ++ (n5 [(m.nnews : Int)] ++ aR7 m.news m.nnews) else
 if m.kind = 5 then n5 [m.epoch] ++ K9 m.digest else
 if m.kind = 6 then n5 [m.epoch, m.slot] else
 if m.kind = 7 then m7 m.batch ++ aR2 m.cert else
 if m.kind = 8 then l5 m.state ++ (n5 [(m.n : Int)] ++ ar0 m.sig m.n) else []
def z4 (m : SMsg) : List UInt8 := f8 m.kind ++ bw9 m
def baL (l : List UInt8) : ByteArray := ⟨l.toArray⟩
def bx3 {α : Type} : List (Nat × Nat × α) → Nat → Nat → Option α
 | [], _, _ => none
 | p :: r, k, n => bif Nat.beq p.1 k && Nat.beq p.2.1 n then some p.2.2 else bx3 r k n
def aa7 (base : Nat) (l : List (Nat × Nat × (List V → c5 → Nat → List Cl))) : Nat → List V → c5 → Nat → List Cl := fun k args h lo => match bx3 l k ((lo - base) / 64) with
 | some f => f args h lo
 | none => []
def cg4 (m : SMsg) (g : Bool) : List (Nat × Nat × (List V → c5 → Nat → List Cl)) := [
 (52, 4, D8 (.bool g)),
 (53, 13, cW (f8 m.kind)),
 (53, 24, cW (f8 m.kind ++ n5 [m.epoch, m.slot])), (54, 28, cW (f8 m.kind ++ n5 [m.epoch, m.slot] ++ m7 m.batch)),
 (55, 23, cW (f8 m.kind ++ aU7 m.vote)),
 (53, 33, cW (f8 m.kind ++ n5 [m.cepoch, m.cleader, m.cview])), (56, 40, cW (f8 m.kind ++ n5 [m.cepoch, m.cleader, m.cview] ++ (n5 [(m.nheld : Int)] ++ aE4 m.held m.nheld))),
 (53, 32, cW (f8 m.kind ++ n5 [m.epoch, m.leader, m.view])), (58, 38, cW (f8 m.kind ++ n5 [m.epoch, m.leader, m.view] ++ (n5 [(m.nnews : Int)] ++ aR7 m.news m.nnews))),
 (53, 30, cW (f8 m.kind ++ n5 [m.epoch])), (60, 34, cW (f8 m.kind ++ n5 [m.epoch] ++ K9 m.digest)),
 (53, 34, cW (f8 m.kind ++ n5 [m.epoch, m.slot])),
 (54, 33, cW (f8 m.kind ++ m7 m.batch)), (61, 37, cW (f8 m.kind ++ m7 m.batch ++ aR2 m.cert)),
 (62, 35, cW (f8 m.kind ++ l5 m.state)), (63, 41, cW (f8 m.kind ++ l5 m.state ++ (n5 [(m.n : Int)] ++ ar0 m.sig m.n)))]
noncomputable def aO2 (m : SMsg) (g : Bool) : Bd := { f := Tryz.f19, args := [.agg m.c], kb := { db := aa7 0 (cg4 m g) } }
noncomputable def ah6 (m : SMsg) (g : Bool) : Nat → List Prop
 | 0 => [(!g) = false, T zp 53 [.ptr (.o 448) 0 0 0 0, .sl (.o 768) 1 0 0 0 1 (some 1)] [(.o 448, .flat [.snil]), (.o 768, .rows 1 1 (j3 [[.int .i64 (SMsg.kind m)]]) false)] (.tup []) [(.o 448, .flat [sb (.o 832) (f8 (SMsg.kind m))]), (.o 832, bs (f8 (SMsg.kind m))), (.o 768, .rows 1 1 (j3 [[.int .i64 (SMsg.kind m)]]) false)], decide (SMsg.kind m = (1 : Int)) = true, T zp 53 [.ptr (.o 448) 0 0 0 0, .sl (.o 1472) 1 0 0 0 2 (some 2)] [(.o 448, .flat [sb (.o 832) (f8 (SMsg.kind m))]), (.o 832, bs (f8 (SMsg.kind m))), (.o 1472, .rows 1 2 (j3 [[.int .i64 (SMsg.epoch m)], [.int .i64 (SMsg.slot m)]]) false)] (.tup []) [(.o 448, .flat [sb (.o 1536) (f8 (SMsg.kind m) ++ n5 [SMsg.epoch m, SMsg.slot m])]), (.o 1536, bs (f8 (SMsg.kind m) ++ n5 [SMsg.epoch m, SMsg.slot m])), (.o 1472, .rows 1 2 (j3 [[.int .i64 (SMsg.epoch m)], [.int .i64 (SMsg.slot m)]]) false)], T zp 54 [.ptr (.o 448) 0 0 0 0, .agg (SBatch.c (SMsg.batch m))] [(.o 448, .flat [sb (.o 1536) (f8 (SMsg.kind m) ++ n5 [SMsg.epoch m, SMsg.slot m])]), (.o 1536, bs (f8 (SMsg.kind m) ++ n5 [SMsg.epoch m, SMsg.slot m]))] (.tup []) [(.o 448, .flat [sb (.o 1792) (f8 (SMsg.kind m) ++ n5 [SMsg.epoch m, SMsg.slot m] ++ m7 (SMsg.batch m))]), (.o 1792, bs (f8 (SMsg.kind m) ++ n5 [SMsg.epoch m, SMsg.slot m] ++ m7 (SMsg.batch m)))]]
 | _ => []
theorem bh4 (m : SMsg) (g : Bool) :
 e9 zp (aO2 m g) [true] = (some (.tup [.str (ByteArray.mk (Array.mk [])), .int .i64 130], [], [T zp 52 [.agg (SMsg.c m)] [] (.bool g) [], (!g) = true]) : Option (V × c5 × List Prop)) := by kernel_rfl
theorem aO4 (m : SMsg) (g : Bool) :
 e9 zp (aO2 m g) [false, true, true] = (some (.tup [.str (ByteArray.mk (Array.mk [])), .int .i64 3], [], [T zp 52 [.agg (SMsg.c m)] [] (.bool g) []] ++ (ah6 m g 0 ++ ([decide ((4194304 : Int) < (↑(List.length (f8 (SMsg.kind m) ++ n5 [SMsg.epoch m, SMsg.slot m] ++ m7 (SMsg.batch m))) : Int)) = true]))) : Option (V × c5 × List Prop)) := by kernel_rfl
theorem aO3 (m : SMsg) (g : Bool) :
 e9 zp (aO2 m g) [false, true, false] = (some (.tup [.str (E5 (List.length (f8 (SMsg.kind m) ++ n5 [SMsg.epoch m, SMsg.slot m] ++ m7 (SMsg.batch m))) fun k => bl (f8 (SMsg.kind m) ++ n5 [SMsg.epoch m, SMsg.slot m] ++ m7 (SMsg.batch m)) (0 + k)), .int .i64 0], [], [T zp 52 [.agg (SMsg.c m)] [] (.bool g) []] ++ (ah6 m g 0 ++ ([decide ((4194304 : Int) < (↑(List.length (f8 (SMsg.kind m) ++ n5 [SMsg.epoch m, SMsg.slot m] ++ m7 (SMsg.batch m))) : Int)) = false, ∀ (k : Nat), k < List.length (f8 (SMsg.kind m) ++ n5 [SMsg.epoch m, SMsg.slot m] ++ m7 (SMsg.batch m)) → true = true, (0 : Nat) + List.length (f8 (SMsg.kind m) ++ n5 [SMsg.epoch m, SMsg.slot m] ++ m7 (SMsg.batch m)) ≤ List.length (f8 (SMsg.kind m) ++ n5 [SMsg.epoch m, SMsg.slot m] ++ m7 (SMsg.batch m)), ∀ (k : Nat), k < List.length (f8 (SMsg.kind m) ++ n5 [SMsg.epoch m, SMsg.slot m] ++ m7 (SMsg.batch m)) → true = true]))) : Option (V × c5 × List Prop)) := by kernel_rfl
theorem X6 (l : List UInt8) : E5 l.length (fun k => bl l (0 + k)) = baL l := by
 unfold E5 baL
 congr 2
 apply List.ext_getElem?
 intro i
 rcases Nat.lt_or_ge i l.length with h | h
 ·simp [h, bl, l9, List.getD_eq_getElem?_getD]
 ·rw [List.getElem?_eq_none (by simpa using h), List.getElem?_eq_none h]
theorem aS4 {a b : Int} (ha : r9 a) (hb : r9 b) : (n5 [a, b]).length ≤ 18 := by
 have h1 := z6 ha
 have h2 := z6 hb
 simp only [n5, List.length_append, List.length_nil]; omega
structure EncOk (m : SMsg) : Prop where
 kind : 1 ≤ m.kind ∧ m.kind ≤ 8
 epoch : r9 m.epoch
 leader : r9 m.leader
 view : r9 m.view
 slot : r9 m.slot
 cepoch : r9 m.cepoch
 cleader : r9 m.cleader
 cview : r9 m.cview
 batch : BatchOk m.batch
 vote : m.kind = 2 → VoteOk m.vote
 nheld : m.nheld ≤ 100
 held : ∀ k, k < m.nheld → HeldOk (m.held k)
 nnews : m.nnews ≤ 1000
 news : ∀ k, k < m.nnews → EnvOk (m.news k)
 digest : SegOk 32 m.digest
 cert : m.kind = 7 → CertOk m.cert
 state : m.state.size ≤ 10000000
 n : m.n ≤ 1000
 sig : ∀ k, k < m.n → SignOk (m.sig k)
def ak_ (m : SMsg) (g : Bool) : V := if g = true then (if 4194304 < (z4 m).length then .tup [.str (ByteArray.mk (Array.mk [])), .int .i64 3] else .tup [.str (baL (z4 m)), .int .i64 0]) else .tup [.str (ByteArray.mk (Array.mk [])), .int .i64 130]
theorem bM3 {m : SMsg} (hg : T Tryz.prog 52 [.agg m.c] [] (.bool true) []) (h : EncOk m) (hk : m.kind = 1) : T Tryz.prog 19 [.agg m.c] [] (ak_ m true) [] := by
 have e : z4 m = f8 m.kind ++ n5 [m.epoch, m.slot] ++ m7 m.batch := by simp [z4, bw9, hk]
 have h0 : r9 m.kind := by rw [hk]; exact ⟨by decide, by decide⟩
 have h9 := z6 h0
 have hs := h.state
 have hl0 := aS4 h.epoch h.slot
 by_cases hl : 4194304 < (z4 m).length
 ·refine T.val (f3 (aO4 m true) Tryz.func19 ?_) (by simp [ak_, hl])
  rw [e] at hl
  simp only [All, f6, ah6]
  and_intros
  all_goals first | exact hg | exact bu_ h0 (by decide) | exact bv0 (by first | omega | (simp only [List.length_append]; omega)) h.epoch h.slot (by decide) | exact bP1 (by first | omega | (simp only [List.length_append]; omega)) h.batch (by decide) | (rw [decide_eq_true_eq]; omega) | (simp [hk]; done)
 ·refine T.val (f3 (aO3 m true) Tryz.func19 ?_) (by rw [X6, ← e]; simp [ak_, hl])
  rw [e] at hl
  simp only [All, f6, ah6]
  and_intros
  all_goals first | exact hg | exact bu_ h0 (by decide) | exact bv0 (by first | omega | (simp only [List.length_append]; omega)) h.epoch h.slot (by decide) | exact bP1 (by first | omega | (simp only [List.length_append]; omega)) h.batch (by decide) | (rw [decide_eq_false_iff_not]; omega) | (simp [hk]; done)
structure RS where
 l : List UInt8 := []
 e : Int := 0
 bad : Bool := false
def rdB (s : RS) : B := .flat [.ros 1 s.l.length (bl s.l) false, .int .i64 s.e, .bool true]
def beN (xs : List UInt8) : Nat := xs.foldl (fun a x => a * 256 + x.toNat) 0
def kOf (l : List UInt8) : Nat := (l.getD 0 0).toNat
def nE (l : List UInt8) : Int := if l.length = 0 then 10 else if 8 < kOf l then 11 else if l.length ≤ kOf l then 10 else if 0 < kOf l ∧ (l.getD 1 0).toNat = 0 then 11 else if kOf l = 8 ∧ 127 < (l.getD 1 0).toNat then 11 else 0
def nV (l : List UInt8) : Int := if nE l = 0 then (beN ((l.drop 1).take (kOf l)) : Nat) else 0
def nS (l : List UInt8) : Int := if nE l = 0 then (kOf l + 1 : Nat) else 0
def RS.fail (s : RS) (e : Int) : RS := { l := [], e := e, bad := s.bad }
def RS.drop (s : RS) (n : Nat) : RS := { l := s.l.drop n, e := s.e, bad := s.bad }
def nE1 (most : Int) (l : List UInt8) : Int := if nE l = 0 ∧ most < nV l then 3 else nE l
def c6 (most : Int) (s : RS) : Int × RS := if s.e ≠ 0 then (0, s) else if nE1 most s.l ≠ 0 then (0, s.fail (nE1 most s.l)) else (nV s.l, s.drop (nS s.l).toNat)
def tE (most : Int) (l : List UInt8) : Int := if nE l ≠ 0 then nE l else if most < nV l then 3 else if (l.length : Int) - nS l < nV l then 10 else 0
def r6 (most : Int) (s : RS) : ByteArray × RS := if s.e ≠ 0 then (baL [], s) else if tE most s.l ≠ 0 then (baL [], s.fail (tE most s.l)) else (baL ((s.l.drop (nS s.l).toNat).take (nV s.l).toNat), (s.drop (nS s.l).toNat).drop (nV s.l).toNat)
def j1 (n : Int) (s : RS) : List UInt8 × RS := if s.e ≠ 0 then ([], s) else if n < 0 then ([], s.fail 2) else if (s.l.length : Int) < n then ([], s.fail 10) else (s.l.take n.toNat, s.drop n.toNat)
def B0 (s : RS) : Int := if s.e ≠ 0 then s.e else if 0 < s.l.length then 12 else 0
def roB (l : List UInt8) : V := .ros 1 l.length (bl l) false
def p0 : V := .ptr (.o 0) 0 0 0 0
def kRd (s : RS) (l : List (Nat × V)) : Exit → St → Option W := fun _ st => some ⟨[], ag4 l, [(.o 0, .set (rdB s))], none, st.next⟩
def n0 : St → List Nm := fun _ => [.o 0]
def dbF (l : List (Nat × (List V → c5 → Nat → List Cl))) : Nat → List V → c5 → Nat → List Cl := fun k args h lo => match ai1 l k with
 | some f => f args h lo
 | none => []
def cRd (v : V) (s : RS) : List V → c5 → Nat → List Cl := fun args _ _ => match args with
 | .ptr a _ _ _ _ :: _ => [{ pre := [a], val := v, post := [(a, rdB s)] }]
 | _ => []
def cg8 (l : List UInt8) : Exit → St → Option W := fun _ st => match m6 st.tmps 2 with
 | .ptr a _ _ _ _ => some ⟨[(.o 63, a)], [(2, .set (.ptr (.o 63) 0 0 0 0))], [(.o 63, .set (rdB { l := l }))], none, st.next⟩
 | _ => none
noncomputable def bT7 (l : List UInt8) : Bd := { f := Tryz.f24, args := [roB l], kb := kb0, k := cg8 l, names := fun _ => [.o 63] }
noncomputable def bU6 (s : RS) : Bd := { f := Tryz.f73, args := [p0], pre := [(.o 0, rdB s)], base := 1, kb := kb0, names := n0 }
noncomputable def ce2 (s : RS) : Bd := { f := Tryz.f78, args := [p0], pre := [(.o 0, rdB s)], base := 1, kb := kb0, names := n0 }
noncomputable def bS5 (s : RS) : Bd := { f := Tryz.f77, args := [p0], pre := [(.o 0, rdB s)], base := 1, kb := kb0, names := n0 }
noncomputable def aB7 (s : RS) : Bd := { f := Tryz.f28, args := [p0], pre := [(.o 0, rdB s)], base := 1, kb := { db := dbF [(78, cRd (.int .i64 s.e) s), (77, cRd (.int .i64 (s.l.length : Nat)) s)] }, names := n0 }
noncomputable def bR6 (s : RS) (e : Int) : Bd := { f := Tryz.f75, args := [p0, .int .i64 e], pre := [(.o 0, rdB s)], base := 1, kb := kb0, names := n0, k := kRd (s.fail e) [] }
noncomputable def bU7 (s : RS) (n : Nat) : Bd := { f := Tryz.f76, args := [p0, .int .i64 n], pre := [(.o 0, rdB s)], base := 1, kb := kb0, names := n0, k := kRd (s.drop n) [(4, .ros 1 n (bl (s.l.take n)) false)] }
def nbI (l : List UInt8) (s : RS) (k : Nat) : St := ⟨mkT 76 [(2, .int .i64 (beN ((l.drop 1).take k) : Nat)), (3, .int .i64 0), (4, .int .i64 0), (5, .int .i64 (kOf l : Nat)), (61, .ros 1 (kOf l) (bl (l.drop 1)) false), (62, .int .i64 (kOf l : Nat)), (63, .int .i64 k)], [(.o 0, rdB s)], 1, []⟩
noncomputable def E4 (s : RS) : Bd := { f := Tryz.f74, args := [p0], pre := [(.o 0, rdB s)], base := 1, kb := { db := fun _ _ _ _ => [], lp := fun _ _ => [(True, .loop (kOf s.l + 1) (wTo (nbI s.l s 0)) (.exit 1) (nbI s.l s (kOf s.l)))] }, names := n0 }
noncomputable def ac8 (s : RS) (k : Nat) : Pc := { c := cB (cB (cR (cL (cR (cR (cR (cR (f1 Tryz.f74)))))))), st := nbI s.l s k, p := 1, kb := kb0, k := fun e _ => match e with
 | .normal => some (wTo (nbI s.l s (k + 1)))
 | _ => some (wTo (nbI s.l s (kOf s.l))) }
def z9 (l : List UInt8) : V := .tup [.int .i64 (nV l), .int .i64 (nS l), .int .i64 (nE l)]
def aA1 (s : RS) : V := .bool (!decide (s.e = 0))
noncomputable def az3 (most : Int) (s : RS) : Bd := { f := Tryz.f25, args := [p0, .int .i64 most], pre := [(.o 0, rdB s)], base := 1, kb := { db := dbF [(73, cRd (aA1 s) s), (74, cRd (z9 s.l) s), (75, cRd (.tup []) (s.fail (nE1 most s.l))), (76, cRd (.ros 1 (nS s.l).toNat (bl (s.l.take (nS s.l).toNat)) false) (s.drop (nS s.l).toNat))] }, names := n0 }
def dbG (l : List (Nat × (List V → c5 → Nat → List Cl))) (g : List (Nat × (List V → c5 → Nat → List Cl))) : Nat → List V → c5 → Nat → List Cl := fun k args h lo => match ai1 l k with
 | some f => f args h lo
 | none => match ai1 g (lo / 64) with
  | some f => f args h lo
  | none => []
noncomputable def aa6 (most : Int) (s : RS) : Bd := { f := Tryz.f26, args := [p0, .int .i64 most], pre := [(.o 0, rdB s)], base := 1, kb := { db := dbG [(73, cRd (aA1 s) s), (74, cRd (z9 s.l) s), (77, cRd (.int .i64 (s.l.length : Nat)) s), (75, cRd (.tup []) (s.fail (tE most s.l)))] [(36, cRd (.ros 1 (nS s.l).toNat (bl (s.l.take (nS s.l).toNat)) false) (s.drop (nS s.l).toNat)), (41, cRd (.ros 1 (nV s.l).toNat (bl ((s.l.drop (nS s.l).toNat).take (nV s.l).toNat)) false) ((s.drop (nS s.l).toNat).drop (nV s.l).toNat))] }, names := n0 }
noncomputable def ao_ (n : Int) (s : RS) : Bd := { f := Tryz.f27, args := [p0, .int .i64 n], pre := [(.o 0, rdB s)], base := 1, kb := { db := dbF [(73, cRd (aA1 s) s), (77, cRd (.int .i64 (s.l.length : Nat)) s), (75, cRd (.tup []) (j1 n s).2), (76, cRd (.ros 1 n.toNat (bl (s.l.take n.toNat)) false) (s.drop n.toNat))] }, names := n0, k := kRd (j1 n s).2 [(4, roB (j1 n s).1)] }
theorem bj3 (l : List UInt8) :
  e9 zp (bT7 l) [] = some (V.ptr (Nm.o (63 : Nat)) (0 : Nat) (0 : Nat) (0 : Nat) (0 : Nat), [(Nm.o (63 : Nat), B.flat [V.ros (1 : Nat) (List.length l) (bl l) false, V.int .i64 (0 : Int), V.bool true])], [(0 : Nat) = (0 : Nat), ∀ (k : Nat), k < List.length l → true = true, ((0 : Nat) + List.length l) * (1 : Nat) ≤ (140737488355328 : Nat), (0 : Nat) + List.length l = List.length l, (0 : Nat) + ((0 : Nat) + List.length l) ≤ (0 : Nat) + List.length l, ∀ (k : Nat), k < (0 : Nat) + List.length l → [V.int .u8 (↑(UInt8.toNat (List.getD l ((0 : Nat) + k - (0 : Nat)) (0 : UInt8))) : Int)] = bl l k, false = true → none = some ((0 : Nat) + List.length l), (0 : Int) = (0 : Int), true = true, (0 : Nat) = (0 : Nat), (0 : Nat) = (0 : Nat), (0 : Nat) = (0 : Nat)]) := by kernel_rfl
theorem aQ1 (s : RS) :
  e9 zp (bU6 s) [false, false] = (some (.bool !decide (RS.e s = (0 : Int)), [(.o 0, rdB s)], [q false, q false]) : Option (V × c5 × List Prop)) := by kernel_rfl
theorem aX0 (s : RS) :
  e9 zp (ce2 s) [false, false] = (some (.int .i64 (RS.e s), [(.o 0, rdB s)], [q false, q false]) : Option (V × c5 × List Prop)) := by kernel_rfl
theorem bh_ (s : RS) :
  e9 zp (bS5 s) [] = (some (.int .i64 (↑(List.length (RS.l s)) : Int), [(.o 0, rdB s)], []) : Option (V × c5 × List Prop)) := by kernel_rfl
noncomputable def I9 (s : RS) : Nat → List Prop
 | 0 => [T zp 78 [.ptr (.o 0) 0 0 0 0] [(.o 0, rdB s)] (.int .i64 (RS.e s)) [(.o 0, rdB s)]]
 | 1 => [(!decide (RS.e s = (0 : Int))) = false, T zp 77 [.ptr (.o 0) 0 0 0 0] [(.o 0, rdB s)] (.int .i64 (↑(List.length (RS.l s)) : Int)) [(.o 0, rdB s)]]
 | _ => []
theorem aW_ (s : RS) :
 e9 zp (aB7 s) [true] = (some (.int .i64 (RS.e s), [(.o 0, rdB s)], I9 s 0 ++ [(!decide (RS.e s = (0 : Int))) = true]) : Option (V × c5 × List Prop)) := by kernel_rfl
theorem aN9 (s : RS) :
 e9 zp (aB7 s) [false, true] = (some (.int .i64 12, [(.o 0, rdB s)], I9 s 0 ++ (I9 s 1 ++ [decide ((0 : Int) < (↑(List.length (RS.l s)) : Int)) = true])) : Option (V × c5 × List Prop)) := by kernel_rfl
theorem aN8 (s : RS) :
 e9 zp (aB7 s) [false, false] = (some (.int .i64 0, [(.o 0, rdB s)], I9 s 0 ++ (I9 s 1 ++ [decide ((0 : Int) < (↑(List.length (RS.l s)) : Int)) = false])) : Option (V × c5 × List Prop)) := by kernel_rfl
theorem bh6 (s : RS) (e : Int) :
  e9 zp (bR6 s e) [] = (some (.tup [], [(.o 0, .flat [.ros 1 0 (bl []) false, .int .i64 e, .bool true])], [0 = (0 : Nat), q e, q2]) : Option (V × c5 × List Prop)) := by kernel_rfl
theorem bk8 (s : RS) (n : Nat) :
  e9 zp (bU7 s n) [] = (some (.ros 1 n (bl (List.take n (RS.l s))) false, [(.o 0, .flat [.ros 1 (List.length (List.drop n (RS.l s))) (bl (List.drop n (RS.l s))) false, .int .i64 (RS.e s), .bool true])], [(0 : Int) ≤ (↑n : Int) ∧ (↑n : Int) ≤ (↑(f2 none (List.length (RS.l s))) : Int), (0 : Int) ≤ (↑n : Int) ∧ (↑n : Int) ≤ (↑(f2 none (List.length (RS.l s))) : Int), f2 none (List.length (RS.l s)) - f2 (some (↑n : Int)) (0 : Nat) = List.length (List.drop n (RS.l s)), ∀ (k : Nat), k < f2 none (List.length (RS.l s)) - f2 (some (↑n : Int)) (0 : Nat) → [V.int .u8 (↑(UInt8.toNat (List.getD (RS.l s) (Int.toNat (↑n : Int) + k) (0 : UInt8))) : Int)] = bl (List.drop n (RS.l s)) k, false = true → false = true, q (RS.e s), q2, f2 (some (↑n : Int)) (List.length (RS.l s)) - 0 = n, ∀ (k : Nat), k < f2 (some (↑n : Int)) (List.length (RS.l s)) - 0 → [V.int .u8 (↑(UInt8.toNat (List.getD (RS.l s) k (0 : UInt8))) : Int)] = bl (List.take n (RS.l s)) k, false = true → false = true]) : Option (V × c5 × List Prop)) := by kernel_rfl
noncomputable def j9 (s : RS) : Nat → List Prop
 | 0 => [decide ((↑(List.length (RS.l s)) : Int) = (0 : Int)) = false, (0 : Int) ≤ (0 : Int) ∧ (0 : Int) < (↑(List.length (RS.l s)) : Int), InR .i64 (↑(UInt8.toNat (List.getD (RS.l s) 0 (0 : UInt8))) : Int)]
 | 1 => [decide ((8 : Int) < (↑(UInt8.toNat (List.getD (RS.l s) 0 (0 : UInt8))) : Int)) = false]
 | 2 => [decide ((↑(List.length (RS.l s)) : Int) ≤ (↑(UInt8.toNat (List.getD (RS.l s) 0 (0 : UInt8))) : Int)) = false]
 | 3 => [decide ((0 : Int) < (↑(UInt8.toNat (List.getD (RS.l s) 0 (0 : UInt8))) : Int)) = true, (0 : Int) ≤ (1 : Int) ∧ (1 : Int) < (↑(List.length (RS.l s)) : Int)]
 | 4 => [decide ((↑(UInt8.toNat (List.getD (RS.l s) 1 (0 : UInt8))) : Int) = (0 : Int)) = false]
 | 5 => [decide ((↑(UInt8.toNat (List.getD (RS.l s) 0 (0 : UInt8))) : Int) = (8 : Int)) = true, (0 : Int) ≤ (1 : Int) ∧ (1 : Int) < (↑(List.length (RS.l s)) : Int)]
 | _ => []
theorem aI7 (s : RS) :
 e9 zp (E4 s) [true] = (some (.tup [.int .i64 0, .int .i64 0, .int .i64 10], [(.o 0, rdB s)], [decide ((↑(List.length (RS.l s)) : Int) = (0 : Int)) = true]) : Option (V × c5 × List Prop)) := by kernel_rfl
theorem aB9 (s : RS) :
 e9 zp (E4 s) [false, true] = (some (.tup [.int .i64 0, .int .i64 0, .int .i64 11], [(.o 0, rdB s)], j9 s 0 ++ [decide ((8 : Int) < (↑(UInt8.toNat (List.getD (RS.l s) 0 (0 : UInt8))) : Int)) = true]) : Option (V × c5 × List Prop)) := by kernel_rfl
theorem ax7 (s : RS) :
 e9 zp (E4 s) [false, false, true] = (some (.tup [.int .i64 0, .int .i64 0, .int .i64 10], [(.o 0, rdB s)], j9 s 0 ++ (j9 s 1 ++ [decide ((↑(List.length (RS.l s)) : Int) ≤ (↑(UInt8.toNat (List.getD (RS.l s) 0 (0 : UInt8))) : Int)) = true])) : Option (V × c5 × List Prop)) := by kernel_rfl
theorem ak3 (s : RS) :
 e9 zp (E4 s) [false, false, false, true, true, true] = (some (.tup [.int .i64 0, .int .i64 0, .int .i64 11], [(.o 0, rdB s)], j9 s 0 ++ (j9 s 1 ++ (j9 s 2 ++ (j9 s 3 ++ [decide ((↑(UInt8.toNat (List.getD (RS.l s) 1 (0 : UInt8))) : Int) = (0 : Int)) = true, decide ((↑(UInt8.toNat (List.getD (RS.l s) 1 (0 : UInt8))) : Int) = (0 : Int)) = true])))) : Option (V × c5 × List Prop)) := by kernel_rfl
theorem aj1 (s : RS) :
 e9 zp (E4 s) [false, false, false, true, false, true, true] = (some (.tup [.int .i64 0, .int .i64 0, .int .i64 11], [(.o 0, rdB s)], j9 s 0 ++ (j9 s 1 ++ (j9 s 2 ++ (j9 s 3 ++ (j9 s 4 ++ (j9 s 5 ++ [decide ((127 : Int) < (↑(UInt8.toNat (List.getD (RS.l s) 1 (0 : UInt8))) : Int)) = true])))))) : Option (V × c5 × List Prop)) := by kernel_rfl
theorem aj0 (s : RS) :
 e9 zp (E4 s) [false, false, false, true, false, true, false] = (some (.tup [.int .i64 (↑(beN (List.take (kOf (RS.l s)) (List.drop 1 (RS.l s)))) : Int), .int .i64 ((1 : Int) + (↑(kOf (RS.l s)) : Int)), .int .i64 0], [(.o 0, rdB s)], j9 s 0 ++ (j9 s 1 ++ (j9 s 2 ++ (j9 s 3 ++ (j9 s 4 ++ (j9 s 5 ++ [decide ((127 : Int) < (↑(UInt8.toNat (List.getD (RS.l s) 1 (0 : UInt8))) : Int)) = false, InR .i64 ((1 : Int) + (↑(UInt8.toNat (List.getD (RS.l s) 0 (0 : UInt8))) : Int)), (0 : Int) ≤ (1 : Int) + (↑(UInt8.toNat (List.getD (RS.l s) 0 (0 : UInt8))) : Int) ∧ (1 : Int) + (↑(UInt8.toNat (List.getD (RS.l s) 0 (0 : UInt8))) : Int) ≤ (↑(f2 none (List.length (RS.l s))) : Int), (0 : Int) ≤ (1 : Int) ∧ (1 : Int) ≤ (↑(f2 (some ((1 : Int) + (↑(UInt8.toNat (List.getD (RS.l s) 0 (0 : UInt8))) : Int))) (List.length (RS.l s))) : Int), f9 zp none 1 (cB (cB (cR (cL (cR (cR (cR (cR (f1 (Bd.f (E4 s))))))))))) (kOf (RS.l s) + 1) (St.mk (mkT 76 [(2, .int .i64 0), (3, .int .i64 0), (4, .int .i64 0), (5, .int .i64 (↑(kOf (RS.l s)) : Int)), (61, .ros 1 (kOf (RS.l s)) (bl (List.drop 1 (RS.l s))) false), (62, .int .i64 (↑(kOf (RS.l s)) : Int)), (63, .int .i64 0)]) [(.o 0, rdB s)] 1 []) (.exit 1) (St.mk (mkT 76 [(2, .int .i64 (↑(beN (List.take (kOf (RS.l s)) (List.drop 1 (RS.l s)))) : Int)), (3, .int .i64 0), (4, .int .i64 0), (5, .int .i64 (↑(kOf (RS.l s)) : Int)), (61, .ros 1 (kOf (RS.l s)) (bl (List.drop 1 (RS.l s))) false), (62, .int .i64 (↑(kOf (RS.l s)) : Int)), (63, .int .i64 (↑(kOf (RS.l s)) : Int))]) [(.o 0, rdB s)] 1 []), q (List.length (RS.l s)), ∀ (k : Nat), k < List.length (RS.l s) → bl (RS.l s) k = bl (RS.l s) k, false = true → false = true, q (RS.e s), q2, q1, q1, q1, (↑(UInt8.toNat (List.getD (RS.l s) 0 (0 : UInt8))) : Int) = (↑(kOf (RS.l s)) : Int), f2 (some ((1 : Int) + (↑(UInt8.toNat (List.getD (RS.l s) 0 (0 : UInt8))) : Int))) (List.length (RS.l s)) - 1 = kOf (RS.l s), ∀ (k : Nat), k < f2 (some ((1 : Int) + (↑(UInt8.toNat (List.getD (RS.l s) 0 (0 : UInt8))) : Int))) (List.length (RS.l s)) - 1 → [V.int .u8 (↑(UInt8.toNat (List.getD (RS.l s) (1 + k) (0 : UInt8))) : Int)] = bl (List.drop (1 : Nat) (RS.l s)) k, false = true → false = true, (↑(f2 (some ((1 : Int) + (↑(UInt8.toNat (List.getD (RS.l s) 0 (0 : UInt8))) : Int))) (List.length (RS.l s)) - 1) : Int) = (↑(kOf (RS.l s)) : Int), q1, InR .i64 ((1 : Int) + (↑(kOf (RS.l s)) : Int))])))))) : Option (V × c5 × List Prop)) := by kernel_rfl
theorem ai_ (s : RS) :
 e9 zp (E4 s) [false, false, false, true, false, false, false] = (some (.tup [.int .i64 (↑(beN (List.take (kOf (RS.l s)) (List.drop 1 (RS.l s)))) : Int), .int .i64 ((1 : Int) + (↑(kOf (RS.l s)) : Int)), .int .i64 0], [(.o 0, rdB s)], j9 s 0 ++ (j9 s 1 ++ (j9 s 2 ++ (j9 s 3 ++ (j9 s 4 ++ [decide ((↑(UInt8.toNat (List.getD (RS.l s) 0 (0 : UInt8))) : Int) = (8 : Int)) = false, q false, InR .i64 ((1 : Int) + (↑(UInt8.toNat (List.getD (RS.l s) 0 (0 : UInt8))) : Int)), (0 : Int) ≤ (1 : Int) + (↑(UInt8.toNat (List.getD (RS.l s) 0 (0 : UInt8))) : Int) ∧ (1 : Int) + (↑(UInt8.toNat (List.getD (RS.l s) 0 (0 : UInt8))) : Int) ≤ (↑(f2 none (List.length (RS.l s))) : Int), (0 : Int) ≤ (1 : Int) ∧ (1 : Int) ≤ (↑(f2 (some ((1 : Int) + (↑(UInt8.toNat (List.getD (RS.l s) 0 (0 : UInt8))) : Int))) (List.length (RS.l s))) : Int), f9 zp none 1 (cB (cB (cR (cL (cR (cR (cR (cR (f1 (Bd.f (E4 s))))))))))) (kOf (RS.l s) + 1) (St.mk (mkT 76 [(2, .int .i64 0), (3, .int .i64 0), (4, .int .i64 0), (5, .int .i64 (↑(kOf (RS.l s)) : Int)), (61, .ros 1 (kOf (RS.l s)) (bl (List.drop 1 (RS.l s))) false), (62, .int .i64 (↑(kOf (RS.l s)) : Int)), (63, .int .i64 0)]) [(.o 0, rdB s)] 1 []) (.exit 1) (St.mk (mkT 76 [(2, .int .i64 (↑(beN (List.take (kOf (RS.l s)) (List.drop 1 (RS.l s)))) : Int)), (3, .int .i64 0), (4, .int .i64 0), (5, .int .i64 (↑(kOf (RS.l s)) : Int)), (61, .ros 1 (kOf (RS.l s)) (bl (List.drop 1 (RS.l s))) false), (62, .int .i64 (↑(kOf (RS.l s)) : Int)), (63, .int .i64 (↑(kOf (RS.l s)) : Int))]) [(.o 0, rdB s)] 1 []), q (List.length (RS.l s)), ∀ (k : Nat), k < List.length (RS.l s) → bl (RS.l s) k = bl (RS.l s) k, false = true → false = true, q (RS.e s), q2, q1, q1, q1, (↑(UInt8.toNat (List.getD (RS.l s) 0 (0 : UInt8))) : Int) = (↑(kOf (RS.l s)) : Int), f2 (some ((1 : Int) + (↑(UInt8.toNat (List.getD (RS.l s) 0 (0 : UInt8))) : Int))) (List.length (RS.l s)) - 1 = kOf (RS.l s), ∀ (k : Nat), k < f2 (some ((1 : Int) + (↑(UInt8.toNat (List.getD (RS.l s) 0 (0 : UInt8))) : Int))) (List.length (RS.l s)) - 1 → [V.int .u8 (↑(UInt8.toNat (List.getD (RS.l s) (1 + k) (0 : UInt8))) : Int)] = bl (List.drop (1 : Nat) (RS.l s)) k, false = true → false = true, (↑(f2 (some ((1 : Int) + (↑(UInt8.toNat (List.getD (RS.l s) 0 (0 : UInt8))) : Int))) (List.length (RS.l s)) - 1) : Int) = (↑(kOf (RS.l s)) : Int), q1, InR .i64 ((1 : Int) + (↑(kOf (RS.l s)) : Int))]))))) : Option (V × c5 × List Prop)) := by kernel_rfl
theorem ai9 (s : RS) :
 e9 zp (E4 s) [false, false, false, false, false, false, false] = (some (.tup [.int .i64 (↑(beN (List.take (kOf (RS.l s)) (List.drop 1 (RS.l s)))) : Int), .int .i64 ((1 : Int) + (↑(kOf (RS.l s)) : Int)), .int .i64 0], [(.o 0, rdB s)], j9 s 0 ++ (j9 s 1 ++ (j9 s 2 ++ [decide ((0 : Int) < (↑(UInt8.toNat (List.getD (RS.l s) 0 (0 : UInt8))) : Int)) = false, q false, decide ((↑(UInt8.toNat (List.getD (RS.l s) 0 (0 : UInt8))) : Int) = (8 : Int)) = false, q false, InR .i64 ((1 : Int) + (↑(UInt8.toNat (List.getD (RS.l s) 0 (0 : UInt8))) : Int)), (0 : Int) ≤ (1 : Int) + (↑(UInt8.toNat (List.getD (RS.l s) 0 (0 : UInt8))) : Int) ∧ (1 : Int) + (↑(UInt8.toNat (List.getD (RS.l s) 0 (0 : UInt8))) : Int) ≤ (↑(f2 none (List.length (RS.l s))) : Int), (0 : Int) ≤ (1 : Int) ∧ (1 : Int) ≤ (↑(f2 (some ((1 : Int) + (↑(UInt8.toNat (List.getD (RS.l s) 0 (0 : UInt8))) : Int))) (List.length (RS.l s))) : Int), f9 zp none 1 (cB (cB (cR (cL (cR (cR (cR (cR (f1 (Bd.f (E4 s))))))))))) (kOf (RS.l s) + 1) (St.mk (mkT 76 [(2, .int .i64 0), (3, .int .i64 0), (4, .int .i64 0), (5, .int .i64 (↑(kOf (RS.l s)) : Int)), (61, .ros 1 (kOf (RS.l s)) (bl (List.drop 1 (RS.l s))) false), (62, .int .i64 (↑(kOf (RS.l s)) : Int)), (63, .int .i64 0)]) [(.o 0, rdB s)] 1 []) (.exit 1) (St.mk (mkT 76 [(2, .int .i64 (↑(beN (List.take (kOf (RS.l s)) (List.drop 1 (RS.l s)))) : Int)), (3, .int .i64 0), (4, .int .i64 0), (5, .int .i64 (↑(kOf (RS.l s)) : Int)), (61, .ros 1 (kOf (RS.l s)) (bl (List.drop 1 (RS.l s))) false), (62, .int .i64 (↑(kOf (RS.l s)) : Int)), (63, .int .i64 (↑(kOf (RS.l s)) : Int))]) [(.o 0, rdB s)] 1 []), q (List.length (RS.l s)), ∀ (k : Nat), k < List.length (RS.l s) → bl (RS.l s) k = bl (RS.l s) k, false = true → false = true, q (RS.e s), q2, q1, q1, q1, (↑(UInt8.toNat (List.getD (RS.l s) 0 (0 : UInt8))) : Int) = (↑(kOf (RS.l s)) : Int), f2 (some ((1 : Int) + (↑(UInt8.toNat (List.getD (RS.l s) 0 (0 : UInt8))) : Int))) (List.length (RS.l s)) - 1 = kOf (RS.l s), ∀ (k : Nat), k < f2 (some ((1 : Int) + (↑(UInt8.toNat (List.getD (RS.l s) 0 (0 : UInt8))) : Int))) (List.length (RS.l s)) - 1 → [V.int .u8 (↑(UInt8.toNat (List.getD (RS.l s) (1 + k) (0 : UInt8))) : Int)] = bl (List.drop (1 : Nat) (RS.l s)) k, false = true → false = true, (↑(f2 (some ((1 : Int) + (↑(UInt8.toNat (List.getD (RS.l s) 0 (0 : UInt8))) : Int))) (List.length (RS.l s)) - 1) : Int) = (↑(kOf (RS.l s)) : Int), q1, InR .i64 ((1 : Int) + (↑(kOf (RS.l s)) : Int))]))) : Option (V × c5 × List Prop)) := by kernel_rfl
theorem aK7 (s : RS) (k : Nat) :
  i5 zp (ac8 s k) [true] = (some (.normal, St.mk (mkT 76 [(2, .int .i64 (↑(beN (List.take (k + 1) (List.drop 1 (RS.l s)))) : Int)), (3, .int .i64 0), (4, .int .i64 0), (5, .int .i64 (↑(kOf (RS.l s)) : Int)), (61, .ros 1 (kOf (RS.l s)) (bl (List.drop 1 (RS.l s))) false), (62, .int .i64 (↑(kOf (RS.l s)) : Int)), (63, .int .i64 (↑(k + 1) : Int))]) [(.o 0, rdB s)] 1 [], [decide ((↑k : Int) < (↑(kOf (RS.l s)) : Int)) = true, (0 : Int) ≤ (↑k : Int) ∧ (↑k : Int) < (↑(kOf (RS.l s)) : Int), (0 : Int) ≤ (8 : Int) ∧ (8 : Int) ≤ (64 : Int), InR .i64 ((↑(beN (List.take k (List.drop (1 : Nat) (RS.l s)))) : Int) * (256 : Int)), InR .i64 (↑(UInt8.toNat (List.getD (List.drop (1 : Nat) (RS.l s)) (Int.toNat (↑k : Int)) (0 : UInt8))) : Int), InR .i64 ((↑k : Int) + (1 : Int)), q (List.length (RS.l s)), ∀ (k : Nat), k < List.length (RS.l s) → bl (RS.l s) k = bl (RS.l s) k, false = true → false = true, q (RS.e s), q2, j8 (fun x x_1 y => x_1 ||| y) .i64 ((↑(beN (List.take k (List.drop (1 : Nat) (RS.l s)))) : Int) * (256 : Int)) (↑(UInt8.toNat (List.getD (List.drop (1 : Nat) (RS.l s)) (Int.toNat (↑k : Int)) (0 : UInt8))) : Int) = (↑(beN (List.take (k + (1 : Nat)) (List.drop (1 : Nat) (RS.l s)))) : Int), q1, q1, q (↑(kOf (RS.l s)) : Int), q (kOf (RS.l s)), ∀ (k : Nat), k < kOf (RS.l s) → bl (List.drop (1 : Nat) (RS.l s)) k = bl (List.drop (1 : Nat) (RS.l s)) k, false = true → false = true, q (↑(kOf (RS.l s)) : Int), (↑k : Int) + (1 : Int) = (↑(k + (1 : Nat)) : Int)]) : Option (Exit × St × List Prop)) := by kernel_rfl
theorem aK6 (s : RS) (k : Nat) :
  i5 zp (ac8 s k) [false] = (some (.exit 1, St.mk (mkT 76 [(2, .int .i64 (↑(beN (List.take (kOf (RS.l s)) (List.drop 1 (RS.l s)))) : Int)), (3, .int .i64 0), (4, .int .i64 0), (5, .int .i64 (↑(kOf (RS.l s)) : Int)), (61, .ros 1 (kOf (RS.l s)) (bl (List.drop 1 (RS.l s))) false), (62, .int .i64 (↑(kOf (RS.l s)) : Int)), (63, .int .i64 (↑(kOf (RS.l s)) : Int))]) [(.o 0, rdB s)] 1 [], [decide ((↑k : Int) < (↑(kOf (RS.l s)) : Int)) = false, q (List.length (RS.l s)), ∀ (k : Nat), k < List.length (RS.l s) → bl (RS.l s) k = bl (RS.l s) k, false = true → false = true, q (RS.e s), q2, (↑(beN (List.take k (List.drop (1 : Nat) (RS.l s)))) : Int) = (↑(beN (List.take (kOf (RS.l s)) (List.drop (1 : Nat) (RS.l s)))) : Int), q1, q1, q (↑(kOf (RS.l s)) : Int), q (kOf (RS.l s)), ∀ (k : Nat), k < kOf (RS.l s) → bl (List.drop (1 : Nat) (RS.l s)) k = bl (List.drop (1 : Nat) (RS.l s)) k, false = true → false = true, q (↑(kOf (RS.l s)) : Int), (↑k : Int) = (↑(kOf (RS.l s)) : Int)]) : Option (Exit × St × List Prop)) := by kernel_rfl
noncomputable def G3 (most : Int) (s : RS) : Nat → List Prop
 | 0 => [T zp 73 [.ptr (.o 0) 0 0 0 0] [(.o 0, rdB s)] (.bool !decide (RS.e s = (0 : Int))) [(.o 0, rdB s)]]
 | 1 => [(!decide (RS.e s = (0 : Int))) = false, T zp 74 [.ptr (.o 0) 0 0 0 0] [(.o 0, rdB s)] (.tup [.int .i64 (nV (RS.l s)), .int .i64 (nS (RS.l s)), .int .i64 (nE (RS.l s))]) [(.o 0, rdB s)]]
 | _ => []
theorem bi8 (most : Int) (s : RS) :
 e9 zp (az3 most s) [true] = (some (.int .i64 0, [(.o 0, rdB s)], G3 most s 0 ++ [(!decide (RS.e s = (0 : Int))) = true]) : Option (V × c5 × List Prop)) := by kernel_rfl
theorem aI6 (most : Int) (s : RS) :
 e9 zp (az3 most s) [false, true, true, true] = (some (.int .i64 0, [(.o 0, .flat [.ros 1 0 (bl []) false, .int .i64 (nE1 most (RS.l s)), .bool true])], G3 most s 0 ++ (G3 most s 1 ++ [decide (nE (RS.l s) = (0 : Int)) = true, decide (most < nV (RS.l s)) = true, q2, T zp 75 [.ptr (.o 0) 0 0 0 0, .int .i64 3] [(.o 0, rdB s)] (.tup []) [(.o 0, .flat [.ros 1 0 (bl []) false, .int .i64 (nE1 most (RS.l s)), .bool true])]])) : Option (V × c5 × List Prop)) := by kernel_rfl
theorem aI4 (most : Int) (s : RS) :
 e9 zp (az3 most s) [false, false, false, true] = (some (.int .i64 0, [(.o 0, .flat [.ros 1 0 (bl []) false, .int .i64 (nE1 most (RS.l s)), .bool true])], G3 most s 0 ++ (G3 most s 1 ++ [decide (nE (RS.l s) = (0 : Int)) = false, q false, (!decide (nE (RS.l s) = (0 : Int))) = true, T zp 75 [.ptr (.o 0) 0 0 0 0, .int .i64 (nE (RS.l s))] [(.o 0, rdB s)] (.tup []) [(.o 0, .flat [.ros 1 0 (bl []) false, .int .i64 (nE1 most (RS.l s)), .bool true])]])) : Option (V × c5 × List Prop)) := by kernel_rfl
theorem aI5 (most : Int) (s : RS) :
 e9 zp (az3 most s) [false, true, false, false] = (some (.int .i64 (nV (RS.l s)), [(.o 0, .flat [.ros 1 (List.length (List.drop (Int.toNat (nS (RS.l s))) (RS.l s))) (bl (List.drop (Int.toNat (nS (RS.l s))) (RS.l s))) false, .int .i64 (RS.e s), .bool true])], G3 most s 0 ++ (G3 most s 1 ++ [decide (nE (RS.l s) = (0 : Int)) = true, decide (most < nV (RS.l s)) = false, (!decide (nE (RS.l s) = (0 : Int))) = false, T zp 76 [.ptr (.o 0) 0 0 0 0, .int .i64 (nS (RS.l s))] [(.o 0, rdB s)] (.ros 1 (Int.toNat (nS (RS.l s))) (bl (List.take (Int.toNat (nS (RS.l s))) (RS.l s))) false) [(.o 0, .flat [.ros 1 (List.length (List.drop (Int.toNat (nS (RS.l s))) (RS.l s))) (bl (List.drop (Int.toNat (nS (RS.l s))) (RS.l s))) false, .int .i64 (RS.e s), .bool true])]])) : Option (V × c5 × List Prop)) := by kernel_rfl
noncomputable def w9 (most : Int) (s : RS) : Nat → List Prop
 | 0 => [T zp 73 [.ptr (.o 0) 0 0 0 0] [(.o 0, rdB s)] (.bool !decide (RS.e s = (0 : Int))) [(.o 0, rdB s)]]
 | 1 => [(!decide (RS.e s = (0 : Int))) = false, T zp 74 [.ptr (.o 0) 0 0 0 0] [(.o 0, rdB s)] (.tup [.int .i64 (nV (RS.l s)), .int .i64 (nS (RS.l s)), .int .i64 (nE (RS.l s))]) [(.o 0, rdB s)]]
 | 2 => [decide (most < nV (RS.l s)) = false, T zp 77 [.ptr (.o 0) 0 0 0 0] [(.o 0, rdB s)] (.int .i64 (↑(List.length (RS.l s)) : Int)) [(.o 0, rdB s)], InR .i64 ((↑(List.length (RS.l s)) : Int) - nS (RS.l s))]
 | _ => []
theorem aQ2 (most : Int) (s : RS) :
 e9 zp (aa6 most s) [true] = (some (.str (ByteArray.mk (Array.mk [])), [(.o 0, rdB s)], w9 most s 0 ++ [(!decide (RS.e s = (0 : Int))) = true]) : Option (V × c5 × List Prop)) := by kernel_rfl
theorem aC1 (most : Int) (s : RS) :
 e9 zp (aa6 most s) [false, true, true] = (some (.str (ByteArray.mk (Array.mk [])), [(.o 0, .flat [.ros 1 0 (bl []) false, .int .i64 (tE most (RS.l s)), .bool true])], w9 most s 0 ++ (w9 most s 1 ++ [(!decide (nE (RS.l s) = (0 : Int))) = true, (!decide (nE (RS.l s) = (0 : Int))) = true, T zp 75 [.ptr (.o 0) 0 0 0 0, .int .i64 (nE (RS.l s))] [(.o 0, rdB s)] (.tup []) [(.o 0, .flat [.ros 1 0 (bl []) false, .int .i64 (tE most (RS.l s)), .bool true])]])) : Option (V × c5 × List Prop)) := by kernel_rfl
theorem ax8 (most : Int) (s : RS) :
 e9 zp (aa6 most s) [false, false, true, true] = (some (.str (ByteArray.mk (Array.mk [])), [(.o 0, .flat [.ros 1 0 (bl []) false, .int .i64 (tE most (RS.l s)), .bool true])], w9 most s 0 ++ (w9 most s 1 ++ [(!decide (nE (RS.l s) = (0 : Int))) = false, decide (most < nV (RS.l s)) = true, q2, T zp 75 [.ptr (.o 0) 0 0 0 0, .int .i64 3] [(.o 0, rdB s)] (.tup []) [(.o 0, .flat [.ros 1 0 (bl []) false, .int .i64 (tE most (RS.l s)), .bool true])]])) : Option (V × c5 × List Prop)) := by kernel_rfl
theorem as6 (most : Int) (s : RS) :
 e9 zp (aa6 most s) [false, false, false, true, true] = (some (.str (ByteArray.mk (Array.mk [])), [(.o 0, .flat [.ros 1 0 (bl []) false, .int .i64 (tE most (RS.l s)), .bool true])], w9 most s 0 ++ (w9 most s 1 ++ ([(!decide (nE (RS.l s) = (0 : Int))) = false] ++ (w9 most s 2 ++ [decide ((↑(List.length (RS.l s)) : Int) - nS (RS.l s) < nV (RS.l s)) = true, q2, T zp 75 [.ptr (.o 0) 0 0 0 0, .int .i64 10] [(.o 0, rdB s)] (.tup []) [(.o 0, .flat [.ros 1 0 (bl []) false, .int .i64 (tE most (RS.l s)), .bool true])]])))) : Option (V × c5 × List Prop)) := by kernel_rfl
theorem as5 (most : Int) (s : RS) :
 e9 zp (aa6 most s) [false, false, false, false, false] = (some (.str (E5 (Int.toNat (nV (RS.l s))) (bl (List.take (Int.toNat (nV (RS.l s))) (List.drop (Int.toNat (nS (RS.l s))) (RS.l s))))), [(.o 0, .flat [.ros 1 (List.length (List.drop (Int.toNat (nV (RS.l s))) (List.drop (Int.toNat (nS (RS.l s))) (RS.l s)))) (bl (List.drop (Int.toNat (nV (RS.l s))) (List.drop (Int.toNat (nS (RS.l s))) (RS.l s)))) false, .int .i64 (RS.e s), .bool true])], w9 most s 0 ++ (w9 most s 1 ++ ([(!decide (nE (RS.l s) = (0 : Int))) = false] ++ (w9 most s 2 ++ [decide ((↑(List.length (RS.l s)) : Int) - nS (RS.l s) < nV (RS.l s)) = false, (!decide (nE (RS.l s) = (0 : Int))) = false, T zp 76 [.ptr (.o 0) 0 0 0 0, .int .i64 (nS (RS.l s))] [(.o 0, rdB s)] (.ros 1 (Int.toNat (nS (RS.l s))) (bl (List.take (Int.toNat (nS (RS.l s))) (RS.l s))) false) [(.o 0, .flat [.ros 1 (List.length (List.drop (Int.toNat (nS (RS.l s))) (RS.l s))) (bl (List.drop (Int.toNat (nS (RS.l s))) (RS.l s))) false, .int .i64 (RS.e s), .bool true])], T zp 76 [.ptr (.o 0) 0 0 0 0, .int .i64 (nV (RS.l s))] [(.o 0, .flat [.ros 1 (List.length (List.drop (Int.toNat (nS (RS.l s))) (RS.l s))) (bl (List.drop (Int.toNat (nS (RS.l s))) (RS.l s))) false, .int .i64 (RS.e s), .bool true])] (.ros 1 (Int.toNat (nV (RS.l s))) (bl (List.take (Int.toNat (nV (RS.l s))) (List.drop (Int.toNat (nS (RS.l s))) (RS.l s)))) false) [(.o 0, .flat [.ros 1 (List.length (List.drop (Int.toNat (nV (RS.l s))) (List.drop (Int.toNat (nS (RS.l s))) (RS.l s)))) (bl (List.drop (Int.toNat (nV (RS.l s))) (List.drop (Int.toNat (nS (RS.l s))) (RS.l s)))) false, .int .i64 (RS.e s), .bool true])], ∀ (k : Nat), k < Int.toNat (nV (RS.l s)) → true = true, ∀ (k : Nat), k < Int.toNat (nV (RS.l s)) → true = true])))) : Option (V × c5 × List Prop)) := by kernel_rfl
noncomputable def ak4 (n : Int) (s : RS) : Nat → List Prop
 | 0 => [T zp 73 [.ptr (.o 0) 0 0 0 0] [(.o 0, rdB s)] (.bool !decide (RS.e s = (0 : Int))) [(.o 0, rdB s)]]
 | _ => []
theorem aY8 (n : Int) (s : RS) :
 e9 zp (ao_ n s) [true] = (some (.ros 1 (List.length (Prod.fst (j1 n s))) (bl (Prod.fst (j1 n s))) false, [(.o 0, .flat [.ros 1 (List.length (RS.l (j1 n s).2)) (bl (RS.l (j1 n s).2)) false, .int .i64 (RS.e (j1 n s).2), .bool true])], ak4 n s 0 ++ [(!decide (RS.e s = (0 : Int))) = true, List.length (RS.l s) = List.length (RS.l (j1 n s).2), ∀ (k : Nat), k < List.length (RS.l s) → bl (RS.l s) k = bl (RS.l (j1 n s).2) k, false = true → false = true, RS.e s = RS.e (j1 n s).2, q2, List.length (Prod.fst (j1 n s)) = (0 : Nat)]) : Option (V × c5 × List Prop)) := by kernel_rfl
theorem aP7 (n : Int) (s : RS) :
 e9 zp (ao_ n s) [false, true] = (some (.ros 1 (List.length (Prod.fst (j1 n s))) (bl (Prod.fst (j1 n s))) false, [(.o 0, .flat [.ros 1 (List.length (RS.l (j1 n s).2)) (bl (RS.l (j1 n s).2)) false, .int .i64 (RS.e (j1 n s).2), .bool true])], ak4 n s 0 ++ [(!decide (RS.e s = (0 : Int))) = false, decide (n < (0 : Int)) = true, T zp 75 [.ptr (.o 0) 0 0 0 0, .int .i64 2] [(.o 0, rdB s)] (.tup []) [(.o 0, .flat [.ros 1 (List.length (RS.l (j1 n s).2)) (bl (RS.l (j1 n s).2)) false, .int .i64 (RS.e (j1 n s).2), .bool true])], q (List.length (RS.l (j1 n s).2)), ∀ (k : Nat), k < List.length (RS.l (j1 n s).2) → bl (RS.l (j1 n s).2) k = bl (RS.l (j1 n s).2) k, false = true → false = true, q (RS.e (j1 n s).2), q2, List.length (Prod.fst (j1 n s)) = (0 : Nat)]) : Option (V × c5 × List Prop)) := by kernel_rfl
theorem aJ9 (n : Int) (s : RS) :
 e9 zp (ao_ n s) [false, false, true] = (some (.ros 1 (List.length (Prod.fst (j1 n s))) (bl (Prod.fst (j1 n s))) false, [(.o 0, .flat [.ros 1 (List.length (RS.l (j1 n s).2)) (bl (RS.l (j1 n s).2)) false, .int .i64 (RS.e (j1 n s).2), .bool true])], ak4 n s 0 ++ [(!decide (RS.e s = (0 : Int))) = false, decide (n < (0 : Int)) = false, T zp 77 [.ptr (.o 0) 0 0 0 0] [(.o 0, rdB s)] (.int .i64 (↑(List.length (RS.l s)) : Int)) [(.o 0, rdB s)], decide ((↑(List.length (RS.l s)) : Int) < n) = true, T zp 75 [.ptr (.o 0) 0 0 0 0, .int .i64 10] [(.o 0, rdB s)] (.tup []) [(.o 0, .flat [.ros 1 (List.length (RS.l (j1 n s).2)) (bl (RS.l (j1 n s).2)) false, .int .i64 (RS.e (j1 n s).2), .bool true])], q (List.length (RS.l (j1 n s).2)), ∀ (k : Nat), k < List.length (RS.l (j1 n s).2) → bl (RS.l (j1 n s).2) k = bl (RS.l (j1 n s).2) k, false = true → false = true, q (RS.e (j1 n s).2), q2, List.length (Prod.fst (j1 n s)) = (0 : Nat)]) : Option (V × c5 × List Prop)) := by kernel_rfl
theorem aJ8 (n : Int) (s : RS) :
  e9 zp (ao_ n s) [false, false, false] = some (V.ros (1 : Nat) (List.length (Prod.fst (j1 n s))) (bl (Prod.fst (j1 n s))) false, [(Nm.o (0 : Nat), B.flat [V.ros (1 : Nat) (List.length (RS.l (j1 n s).2)) (bl (RS.l (j1 n s).2)) false, V.int .i64 (RS.e (j1 n s).2), V.bool true])], [T zp (73 : Nat) [V.ptr (Nm.o (0 : Nat)) (0 : Nat) (0 : Nat) (0 : Nat) (0 : Nat)] [(Nm.o (0 : Nat), rdB s)] (V.bool !decide (RS.e s = (0 : Int))) [(Nm.o (0 : Nat), rdB s)], (!decide (RS.e s = (0 : Int))) = false, decide (n < (0 : Int)) = false, T zp (77 : Nat) [V.ptr (Nm.o (0 : Nat)) (0 : Nat) (0 : Nat) 0 (0 : Nat)] [(Nm.o (0 : Nat), rdB s)] (V.int .i64 (↑(List.length (RS.l s)) : Int)) [(Nm.o (0 : Nat), rdB s)], decide ((↑(List.length (RS.l s)) : Int) < n) = false, T zp (76 : Nat) [V.ptr (Nm.o (0 : Nat)) (0 : Nat) (0 : Nat) 0 (0 : Nat), V.int .i64 n] [(Nm.o (0 : Nat), rdB s)] (V.ros (1 : Nat) (Int.toNat n) (bl (List.take (Int.toNat n) (RS.l s))) false) [(Nm.o (0 : Nat), B.flat [V.ros (1 : Nat) (List.length (List.drop (Int.toNat n) (RS.l s))) (bl (List.drop (Int.toNat n) (RS.l s))) false, V.int .i64 (RS.e s), V.bool true])], (0 : Nat) = (0 : Nat), ∀ (k : Nat), k < Int.toNat n → true = true, ((0 : Nat) + Int.toNat n) * (1 : Nat) ≤ (140737488355328 : Nat), List.length (List.drop (Int.toNat n) (RS.l s)) = List.length (RS.l (j1 n s).2), ∀ (k : Nat), k < List.length (List.drop (Int.toNat n) (RS.l s)) → bl (List.drop (Int.toNat n) (RS.l s)) k = bl (RS.l (j1 n s).2) k, false = true → false = true, RS.e s = RS.e (j1 n s).2, true = true, (0 : Nat) + Int.toNat n = List.length (Prod.fst (j1 n s)), (0 : Nat) + ((0 : Nat) + Int.toNat n) ≤ (0 : Nat) + Int.toNat n, ∀ (k : Nat), k < (0 : Nat) + Int.toNat n → [V.int .u8 (↑(UInt8.toNat (List.getD (List.take (Int.toNat n) (RS.l s)) ((0 : Nat) + k - (0 : Nat)) (0 : UInt8))) : Int)] = bl (Prod.fst (j1 n s)) k, false = true → none = some ((0 : Nat) + Int.toNat n)]) := by kernel_rfl
theorem e64 : (2 : Nat) ^ IntKind.i64.bits = 18446744073709551616 := by kernel_rfl
theorem C5 {n : Int} (h : -9223372036854775808 ≤ n) (h2 : n ≤ 9223372036854775807) : IntKind.i64.min ≤ n := (InR64.2 ⟨h, h2⟩).1
theorem C6 {n : Int} (h : -9223372036854775808 ≤ n) (h2 : n ≤ 9223372036854775807) : n ≤ IntKind.i64.max := (InR64.2 ⟨h, h2⟩).2
set_option maxRecDepth 8000 in
theorem bX3 {a b : Nat} (h : a * 256 + b < 9223372036854775808) (hb : b < 256) : j8 (fun _ x y => x ||| y) IntKind.i64 ((a : Int) * 256) (b : Int) = ((a * 256 + b : Nat) : Int) := by
 have h1 : a * 256 ||| b = a * 256 + b := by
  have := Nat.shiftLeft_add_eq_or_of_lt (b := b) (i := 8) (by simpa using hb) a
  rw [Nat.shiftLeft_eq] at this
  simpa using this.symm
 have e1 : ((a : Int) * 256) = ((a * 256 : Nat) : Int) := by simp
 unfold j8
 have hr : InR .i64 ((a * 256 + b : Nat) : Int) := InR64.2 ⟨by omega, by omega⟩
 have hc : ((BitVec.ofInt IntKind.i64.bits ((a : Int) * 256)) ||| (BitVec.ofInt IntKind.i64.bits (b : Int))).toNat = a * 256 + b := by
  rw [BitVec.toNat_or, e1, BitVec.ofInt_natCast, BitVec.ofInt_natCast, BitVec.toNat_ofNat, BitVec.toNat_ofNat, Nat.mod_eq_of_lt (a := a * 256), Nat.mod_eq_of_lt (a := b), h1]
  ·rw [e64]; omega
  ·rw [e64]; omega
 rw [hc]
 exact hr.wrap
theorem ak6 (xs : List UInt8) (x : UInt8) : beN (xs ++ [x]) = beN xs * 256 + x.toNat := by
 unfold beN
 rw [List.foldl_append]; rfl
theorem aR1 : ∀ (xs : List UInt8) (a : Nat), xs.foldl (fun a x => a * 256 + x.toNat) a < (a + 1) * 256 ^ xs.length
 | [], a => by simp
 | x :: xs, a => by
  have h := aR1 xs (a * 256 + x.toNat)
  have hx := x.toNat_lt
  rw [List.foldl_cons, List.length_cons, Nat.pow_succ]
  refine Nat.lt_of_lt_of_le h ?_
  have : (a * 256 + x.toNat + 1) ≤ (a + 1) * 256 := by omega
  calc (a * 256 + x.toNat + 1) * 256 ^ xs.length ≤ ((a + 1) * 256) * 256 ^ xs.length := Nat.mul_le_mul_right _ this
   _ = (a + 1) * (256 ^ xs.length * 256) := by rw [Nat.mul_assoc, Nat.mul_comm 256]
theorem bW0 (xs : List UInt8) : beN xs < 256 ^ xs.length := by
 have := aR1 xs 0
 simpa [beN] using this
theorem bE4 {xs : List UInt8} (h : xs.length ≤ 8) (h1 : xs.length = 8 → (xs.getD 0 0).toNat ≤ 127) : beN xs < 9223372036854775808 := by
 by_cases e : xs.length = 8
 ·match xs, e, h1 with
  | x :: t, e, h1 =>
   have h2 := h1 e
   have h3 := aR1 t (0 * 256 + x.toNat)
   have e4 : t.length = 7 := by simpa using e
   have h5 : x.toNat ≤ 127 := by simpa using h2
   rw [e4] at h3
   show List.foldl _ 0 (x :: t) < _
   rw [List.foldl_cons]
   refine Nat.lt_of_lt_of_le h3 ?_
   calc (0 * 256 + x.toNat + 1) * 256 ^ 7 ≤ 128 * 256 ^ 7 := Nat.mul_le_mul_right _ (by omega)
    _ ≤ _ := by decide
 ·have h2 := bW0 xs
  have : 256 ^ xs.length ≤ 256 ^ 7 := Nat.pow_le_pow_right (by decide) (by omega)
  omega
theorem ag_ {d : List UInt8} {k : Nat} (h : k < d.length) : d.take (k + 1) = d.take k ++ [d.getD k 0] := by
 rw [List.take_succ_eq_append_getElem h, List.getD_eq_getElem?_getD, List.getElem?_eq_getElem h, Option.getD_some]
structure NumOk (l : List UInt8) : Prop where
 k : kOf l ≤ 8
 len : kOf l < l.length
 top : kOf l = 8 → (l.getD 1 0).toNat ≤ 127
theorem NumOk.lt {l : List UInt8} (h : NumOk l) : beN ((l.drop 1).take (kOf l)) < 9223372036854775808 := by
 have hl := h.len
 have hk := h.k
 refine bE4 (by rw [List.length_take]; omega) fun e => ?_
 rw [List.length_take, List.length_drop] at e
 have := h.top (by omega)
 rw [List.getD_eq_getElem?_getD] at this ⊢
 rw [List.getElem?_take_of_lt (by omega), List.getElem?_drop]
 simpa using this
theorem ak5 {d : List UInt8} : ∀ {j k : Nat}, j ≤ k → k ≤ d.length → beN (d.take j) ≤ beN (d.take k)
 | j, 0, h, _ => by have : j = 0 := by omega
                    subst this; exact Nat.le_refl _
 | j, k + 1, h, hk => by
  by_cases e : j = k + 1
  ·subst e; exact Nat.le_refl _
  ·have h1 := ak5 (d := d) (j := j) (k := k) (by omega) (by omega)
   rw [ag_ (by omega), ak6]; omega
theorem bF4 {a b c : Nat} (h : a * 256 + b < 9223372036854775808) (hb : b < 256) (hc : c = a * 256 + b) : j8 (fun _ x y => x ||| y) IntKind.i64 ((a : Int) * 256) (b : Int) = (c : Int) := by
 rw [bX3 h hb, hc]
theorem bF3 {s : RS} (h : NumOk s.l) (k : Nat) (hk : k < kOf s.l) : R Tryz.prog none 1 (ac8 s 0).c (nbI s.l s k) .normal (nbI s.l s (k + 1)) := by
 have hl := h.len
 have h8 := h.k
 have hd : k < (s.l.drop 1).length := by rw [List.length_drop]; omega
 have e := ag_ hd
 have hx := ((s.l.drop 1).getD k 0).toNat_lt
 have hm := ak5 (d := s.l.drop 1) (j := k + 1) (k := kOf s.l) (by omega) (by rw [List.length_drop]; omega)
 have hlt := h.lt
 have e2 := ak6 ((s.l.drop 1).take k) ((s.l.drop 1).getD k 0)
 rw [← e] at e2
 refine f4 NG MO _ (aK7 s k) ?_ (Nat.le_refl _)
 simp only [All]
 exact ⟨decide_eq_true (by omega), ⟨by omega, by omega⟩, ⟨by decide, by decide⟩, InR64.2 ⟨by omega, by omega⟩, InR64.2 ⟨by rw [Int.toNat_natCast]; omega, by rw [Int.toNat_natCast]; omega⟩, InR64.2 ⟨by omega, by omega⟩, trivial, fun _ _ => trivial, fun h => h, trivial, trivial, bF4 (by rw [Int.toNat_natCast]; omega) (by rw [Int.toNat_natCast]; omega) (by rw [Int.toNat_natCast, e2]), trivial, trivial, trivial, trivial, fun _ _ => trivial, fun h => h, trivial, by omega, trivial⟩
theorem au2 {s : RS} (h : NumOk s.l) : f9 Tryz.prog none 1 (ac8 s 0).c (kOf s.l + 1) (nbI s.l s 0) (.exit 1) (nbI s.l s (kOf s.l)) :=
 f9.inv (nbI s.l s) (kOf s.l) (fun k hk => bF3 h k hk) (f4 NG MO _ (aK6 s (kOf s.l)) (by simp [All]) (Nat.le_refl _)) (by simp)
theorem aE8 (l : List UInt8) : kOf l < 256 := (l.getD 0 0).toNat_lt
theorem I7 (s : RS) : T Tryz.prog 74 [p0] [(.o 0, rdB s)] (z9 s.l) [(.o 0, rdB s)] := by
 have hk := aE8 s.l
 have hk0 : (s.l.getD 0 0).toNat < 256 := aE8 s.l
 by_cases h1 : s.l.length = 0
 ·refine T.conv (f3 (aI7 s) Tryz.func74 ?_) rfl rfl (by simp [z9, nV, nS, nE, h1]) rfl
  simp [All, f6, j9, h1]
 by_cases h2 : 8 < kOf s.l
 ·refine T.conv (f3 (aB9 s) Tryz.func74 ?_) rfl rfl (by simp [z9, nV, nS, nE, h1, h2]) rfl
  have h2' : 8 < (s.l.getD 0 0).toNat := h2
  simp only [All, f6, j9]; and_intros
  all_goals first | (rw [decide_eq_false_iff_not]; omega) | (rw [decide_eq_true_eq]; omega) | omega | exact C5 (by omega) (by omega) | exact C6 (by omega) (by omega) | trivial
 by_cases h3 : s.l.length ≤ kOf s.l
 ·refine T.conv (f3 (ax7 s) Tryz.func74 ?_) rfl rfl (by simp [z9, nV, nS, nE, h1, h2, h3]) rfl
  have h2' : ¬ 8 < (s.l.getD 0 0).toNat := h2
  have h3' : s.l.length ≤ (s.l.getD 0 0).toNat := h3
  simp only [All, f6, j9]; and_intros
  all_goals first | (rw [decide_eq_false_iff_not]; omega) | (rw [decide_eq_true_eq]; omega) | omega | exact C5 (by omega) (by omega) | exact C6 (by omega) (by omega) | trivial
 by_cases h4 : 0 < kOf s.l ∧ (s.l.getD 1 0).toNat = 0
 ·refine T.conv (f3 (ak3 s) Tryz.func74 ?_) rfl rfl (by simp only [z9, nV, nS, nE, if_neg h1, if_neg h2, if_neg h3, if_pos h4]; rfl) rfl
  have h2' : ¬ 8 < (s.l.getD 0 0).toNat := h2
  have h3' : ¬ s.l.length ≤ (s.l.getD 0 0).toNat := h3
  have h4' : 0 < (s.l.getD 0 0).toNat ∧ (s.l.getD 1 0).toNat = 0 := h4
  simp only [All, f6, j9]; and_intros
  all_goals first | (rw [decide_eq_false_iff_not]; omega) | (rw [decide_eq_true_eq]; omega) | omega | exact C5 (by omega) (by omega) | exact C6 (by omega) (by omega) | trivial
 by_cases h5 : kOf s.l = 8 ∧ 127 < (s.l.getD 1 0).toNat
 ·refine T.conv (f3 (aj1 s) Tryz.func74 ?_) rfl rfl (by simp only [z9, nV, nS, nE, if_neg h1, if_neg h2, if_neg h3, if_neg h4, if_pos h5]; rfl) rfl
  have h2' : ¬ 8 < (s.l.getD 0 0).toNat := h2
  have h3' : ¬ s.l.length ≤ (s.l.getD 0 0).toNat := h3
  have h4' : ¬ (0 < (s.l.getD 0 0).toNat ∧ (s.l.getD 1 0).toNat = 0) := h4
  have h5' : (s.l.getD 0 0).toNat = 8 ∧ 127 < (s.l.getD 1 0).toNat := h5
  simp only [All, f6, j9]; and_intros
  all_goals first | (rw [decide_eq_false_iff_not]; omega) | (rw [decide_eq_true_eq]; omega) | omega | exact C5 (by omega) (by omega) | exact C6 (by omega) (by omega) | trivial
 have hok : NumOk s.l := ⟨by omega, by omega, fun h => by omega⟩
 have hv : z9 s.l = .tup [.int .i64 (beN ((s.l.drop 1).take (kOf s.l)) : Nat), .int .i64 (1 + (kOf s.l : Int)), .int .i64 0] := by
  simp only [z9, nV, nS, nE, if_neg h1, if_neg h2, if_neg h3, if_neg h4, if_neg h5, if_true]
  rw [Int.add_comm]; rfl
 have h2' : ¬ 8 < (s.l.getD 0 0).toNat := h2
 have h3' : ¬ s.l.length ≤ (s.l.getD 0 0).toNat := h3
 have h4' : ¬ (0 < (s.l.getD 0 0).toNat ∧ (s.l.getD 1 0).toNat = 0) := h4
 have h5' : ¬ ((s.l.getD 0 0).toNat = 8 ∧ 127 < (s.l.getD 1 0).toNat) := h5
 have hkk : (s.l.getD 0 0).toNat = kOf s.l := rfl
 by_cases h6 : 0 < kOf s.l
 ·by_cases h7 : kOf s.l = 8
  ·refine T.conv (f3 (aj0 s) Tryz.func74 ?_) rfl rfl hv.symm rfl
   simp only [All, f6, j9]; and_intros
   all_goals first | exact au2 hok | exact fun _ _ => trivial | (simp only [f2]; omega) | (intro k _; simp [bl, kOf, List.getD_eq_getElem?_getD, Nat.add_comm]; done) | (rw [decide_eq_false_iff_not]; omega) | (rw [decide_eq_true_eq]; omega) | omega | exact C5 (by omega) (by omega) | exact C6 (by omega) (by omega) | trivial
  ·refine T.conv (f3 (ai_ s) Tryz.func74 ?_) rfl rfl hv.symm rfl
   simp only [All, f6, j9]; and_intros
   all_goals first | exact au2 hok | exact fun _ _ => trivial | (simp only [f2]; omega) | (intro k _; simp [bl, kOf, List.getD_eq_getElem?_getD, Nat.add_comm]; done) | (rw [decide_eq_false_iff_not]; omega) | (rw [decide_eq_true_eq]; omega) | omega | exact C5 (by omega) (by omega) | exact C6 (by omega) (by omega) | trivial
 ·refine T.conv (f3 (ai9 s) Tryz.func74 ?_) rfl rfl hv.symm rfl
  simp only [All, f6, j9]; and_intros
  all_goals first | exact au2 hok | exact fun _ _ => trivial | (simp only [f2]; omega) | (rw [decide_eq_false_iff_not]; omega) | omega | exact C5 (by omega) (by omega) | exact C6 (by omega) (by omega) | trivial
theorem E3 (s : RS) : T Tryz.prog 73 [p0] [(.o 0, rdB s)] (aA1 s) [(.o 0, rdB s)] :=
 f3 (aQ1 s) Tryz.func73 (by simp [All])
theorem ao0 (s : RS) : T Tryz.prog 78 [p0] [(.o 0, rdB s)] (.int .i64 s.e) [(.o 0, rdB s)] :=
 f3 (aX0 s) Tryz.func78 (by simp [All])
theorem U0 (s : RS) : T Tryz.prog 77 [p0] [(.o 0, rdB s)] (.int .i64 (s.l.length : Nat)) [(.o 0, rdB s)] :=
 f3 (bh_ s) Tryz.func77 (by simp [All])
theorem O7 (s : RS) {e e' : Int} (h : e = e') : T Tryz.prog 75 [p0, .int .i64 e] [(.o 0, rdB s)] (.tup []) [(.o 0, rdB (s.fail e'))] := by
 subst h
 exact f3 (bh6 s e) Tryz.func75 (by simp [All])
theorem ah8 (l : List UInt8) (n k : Nat) : bl (l.drop n) k = bl l (n + k) := by simp [bl, List.getD_eq_getElem?_getD]
theorem as9 (l : List UInt8) {n k : Nat} (h : k < n) : bl (l.take n) k = bl l k := by simp [bl, List.getD_eq_getElem?_getD, List.getElem?_take_of_lt h]
theorem ah3 (s : RS) {z : Int} {n : Nat} (hz : z = (n : Int)) (h : n ≤ s.l.length) : T Tryz.prog 76 [p0, .int .i64 z] [(.o 0, rdB s)] (.ros 1 n (bl (s.l.take n)) false) [(.o 0, rdB (s.drop n))] := by
 subst hz
 refine f3 (bk8 s n) Tryz.func76 ?_
 simp only [All, f2, Int.toNat_natCast]; and_intros
 all_goals first | omega | trivial | (rw [List.length_drop]; done) | (intro k hk; rw [ah8]; rfl) | (intro k hk; rw [as9 _ (by omega)]; rfl)
theorem az_ {l : List UInt8} : 0 ≤ nS l ∧ nS l ≤ l.length := by
 unfold nS
 split
 ·rename_i h
  unfold nE at h
  split at h <;> try contradiction
  split at h <;> try contradiction
  split at h <;> try contradiction
  omega
 ·omega
theorem cg_ {l : List UInt8} (h : nE l = 0) : NumOk l := by
 unfold nE at h
 split at h <;> try contradiction
 split at h <;> try contradiction
 split at h <;> try contradiction
 split at h <;> try contradiction
 split at h <;> try contradiction
 exact ⟨by omega, by omega, fun e => by omega⟩
theorem aS3 {l : List UInt8} : 0 ≤ nV l ∧ nV l < 9223372036854775808 := by
 unfold nV
 split
 ·rename_i h
  have := (cg_ h).lt
  omega
 ·omega
theorem bN_ (most : Int) (s : RS) : T Tryz.prog 25 [p0, .int .i64 most] [(.o 0, rdB s)] (.int .i64 (c6 most s).1) [(.o 0, rdB (c6 most s).2)] := by
 have hS := @az_ s.l
 by_cases h1 : s.e = 0
 ·by_cases h2 : nE s.l = 0
  ·by_cases h3 : most < nV s.l
   ·have e1 : nE1 most s.l = 3 := by simp [nE1, h2, h3]
    have e : c6 most s = (0, s.fail (nE1 most s.l)) := by simp [c6, h1, e1]
    rw [e]
    refine f3 (aI6 most s) Tryz.func25 ?_
    simp only [All, f6, G3]; and_intros
    all_goals first | exact E3 s | exact I7 s | exact O7 s e1.symm | (simp [h1, h2, h3]; done)
   ·have e1 : nE1 most s.l = 0 := by simp [nE1, h2, h3]
    have e : c6 most s = (nV s.l, s.drop (nS s.l).toNat) := by simp [c6, h1, e1]
    rw [e]
    refine f3 (aI5 most s) Tryz.func25 ?_
    simp only [All, f6, G3]; and_intros
    all_goals first | exact E3 s | exact I7 s | exact ah3 s (by omega) (by omega) | (simp [h1, h2, h3]; done)
  ·have e1 : nE1 most s.l = nE s.l := by simp [nE1, h2]
   have e : c6 most s = (0, s.fail (nE1 most s.l)) := by simp [c6, h1, e1, h2]
   rw [e]
   refine f3 (aI4 most s) Tryz.func25 ?_
   simp only [All, f6, G3]; and_intros
   all_goals first | exact E3 s | exact I7 s | exact O7 s e1.symm | (simp [h1, h2]; done)
 ·have e : c6 most s = (0, s) := by simp [c6, h1]
  rw [e]
  refine f3 (bi8 most s) Tryz.func25 ?_
  simp only [All, f6, G3]; and_intros
  all_goals first | exact E3 s | (simp [h1]; done)
theorem bf_ (most : Int) (s : RS) (hl : s.l.length ≤ 1000000000) : T Tryz.prog 26 [p0, .int .i64 most] [(.o 0, rdB s)] (.str (r6 most s).1) [(.o 0, rdB (r6 most s).2)] := by
 have hS := @az_ s.l
 have hV := @aS3 s.l
 by_cases h1 : s.e = 0
 ·by_cases h2 : nE s.l = 0
  ·by_cases h3 : most < nV s.l
   ·have e1 : tE most s.l = 3 := by simp [tE, h2, h3]
    have e : r6 most s = (baL [], s.fail (tE most s.l)) := by simp [r6, h1, e1]
    rw [e]
    refine f3 (ax8 most s) Tryz.func26 ?_
    simp only [All, f6, w9]; and_intros
    all_goals first | exact E3 s | exact I7 s | exact O7 s e1.symm | (simp [h1, h2, h3]; done)
   ·by_cases h4 : (s.l.length : Int) - nS s.l < nV s.l
    ·have e1 : tE most s.l = 10 := by simp [tE, h2, h3, h4]
     have e : r6 most s = (baL [], s.fail (tE most s.l)) := by simp [r6, h1, e1]
     rw [e]
     refine f3 (as6 most s) Tryz.func26 ?_
     simp only [All, f6, w9]; and_intros
     all_goals first | exact E3 s | exact I7 s | exact U0 s | exact O7 s e1.symm | exact C5 (by omega) (by omega) | exact C6 (by omega) (by omega) | (simp [h1, h2, h3, h4]; done)
    ·have e1 : tE most s.l = 0 := by simp [tE, h2, h3, h4]
     have e : r6 most s = (baL ((s.l.drop (nS s.l).toNat).take (nV s.l).toNat), (s.drop (nS s.l).toNat).drop (nV s.l).toNat) := by simp [r6, h1, e1]
     rw [e]
     have hlen : ((s.l.drop (nS s.l).toNat).take (nV s.l).toNat).length = (nV s.l).toNat := by rw [List.length_take, List.length_drop]; omega
     have hb : E5 (nV s.l).toNat (bl ((s.l.drop (nS s.l).toNat).take (nV s.l).toNat)) = baL ((s.l.drop (nS s.l).toNat).take (nV s.l).toNat) := by
      have := X6 ((s.l.drop (nS s.l).toNat).take (nV s.l).toNat)
      rw [hlen] at this
      simpa only [Nat.zero_add] using this
     refine T.conv (f3 (as5 most s) Tryz.func26 ?_) rfl rfl (by rw [hb]) rfl
     simp only [All, f6, w9]; and_intros
     all_goals first | exact E3 s | exact I7 s | exact U0 s | exact ah3 s (by omega) (by omega) | exact ah3 (s.drop (nS s.l).toNat) (by omega) (by simp only [RS.drop, List.length_drop]; omega) | exact C5 (by omega) (by omega) | exact C6 (by omega) (by omega) | (simp [h1, h2, h3, h4]; done)
  ·have e1 : tE most s.l = nE s.l := by simp [tE, h2]
   have e : r6 most s = (baL [], s.fail (tE most s.l)) := by simp [r6, h1, e1, h2]
   rw [e]
   refine f3 (aC1 most s) Tryz.func26 ?_
   simp only [All, f6, w9]; and_intros
   all_goals first | exact E3 s | exact I7 s | exact O7 s e1.symm | (simp [h1, h2]; done)
 ·have e : r6 most s = (baL [], s) := by simp [r6, h1]
  rw [e]
  refine f3 (aQ2 most s) Tryz.func26 ?_
  simp only [All, f6, w9]; and_intros
  all_goals first | exact E3 s | (simp [h1]; done)
theorem bz8 (n : Int) (s : RS) (hl : s.l.length ≤ 1000000000) : T Tryz.prog 27 [p0, .int .i64 n] [(.o 0, rdB s)] (roB (j1 n s).1) [(.o 0, rdB (j1 n s).2)] := by
 by_cases h1 : s.e = 0
 ·by_cases h2 : n < 0
  ·have e : j1 n s = ([], s.fail 2) := by simp [j1, h1, h2]
   refine f3 (aP7 n s) Tryz.func27 ?_
   simp only [e, All]; and_intros
   all_goals first | exact E3 s | exact O7 s rfl | trivial | (simp [h1, h2]; done)
  ·by_cases h3 : (s.l.length : Int) < n
   ·have e : j1 n s = ([], s.fail 10) := by simp [j1, h1, h2, h3]
    refine f3 (aJ9 n s) Tryz.func27 ?_
    simp only [e, All]; and_intros
    all_goals first | exact E3 s | exact U0 s | exact O7 s rfl | trivial | (simp [h1, h2, h3]; done)
   ·have e : j1 n s = (s.l.take n.toNat, s.drop n.toNat) := by simp [j1, h1, h2, h3]
    have hlen : (s.l.take n.toNat).length = n.toNat := by rw [List.length_take]; omega
    refine f3 (aJ8 n s) Tryz.func27 ?_
    simp only [e, All, RS.drop]; and_intros
    all_goals first | exact E3 s | exact U0 s | exact ah3 s (by omega) (by omega) | trivial | omega | (simp [h1, h2, h3]; done) | (intro k hk; simp [bl]; done)
 ·have e : j1 n s = ([], s) := by simp [j1, h1]
  refine f3 (aY8 n s) Tryz.func27 ?_
  simp only [e, All]; and_intros
  all_goals first | exact E3 s | trivial | (simp [h1]; done)
theorem bz0 (s : RS) : T Tryz.prog 28 [p0] [(.o 0, rdB s)] (.int .i64 (B0 s)) [(.o 0, rdB s)] := by
 by_cases h1 : s.e = 0
 ·by_cases h2 : 0 < s.l.length
  ·refine T.val (f3 (aN9 s) Tryz.func28 ?_) (by simp [B0, h1, h2])
   simp only [All, f6, I9]; and_intros
   all_goals first | exact ao0 s | exact U0 s | (simp [h1]; done) | (rw [decide_eq_true_eq]; omega)
  ·refine T.val (f3 (aN8 s) Tryz.func28 ?_) (by simp [B0, h1, h2])
   simp only [All, f6, I9]; and_intros
   all_goals first | exact ao0 s | exact U0 s | (simp [h1]; done) | (rw [decide_eq_false_iff_not]; omega)
 ·refine T.val (f3 (aW_ s) Tryz.func28 ?_) (by simp [B0, h1])
  simp only [All, f6, I9]; and_intros
  all_goals first | exact ao0 s | (simp [h1]; done)
theorem bz9 (l : List UInt8) (hl : l.length ≤ 1000000000) : T Tryz.prog 24 [roB l] [] (.ptr (.o 63) 0 0 0 0) [(.o 63, rdB { l := l })] := by
 refine f3 (bj3 l) Tryz.func24 ?_
 simp only [All]; and_intros
 all_goals first | trivial | omega | (intro k _; simp [bl]; done) | simp
end Go.Proofs.YtnmccoincblecaaGreat
