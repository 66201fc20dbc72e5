/-
  Contracts and laws that the claim's theorem leans on, joined out of the texts Kc0 Kc1D Kc1 Qc0D Qc0 Qb0 Qb2 Rs1 Rs3 Rs4 Td0D (own work of this seat): Contracts: macs and tags by the document; Contracts: macs and tags by the program; Contracts: macs and tags by the program; Contracts: the example that each statement of envelopes asks for; Contracts: the example that each statement of envelopes asks for; The document's reader of bytes: what it keeps; The plain law: what reading never does; Contracts of small functions; Contracts: what is looked at; Contracts: what is looked at, continued; Contracts: is a message not more than is looked at.
-/
import Derived.Test.YtnmccoincblecaaGreatC04
import Derived.Test.YtnmccoincblecaaGreatC06
import Derived.Test.YtnmccoincblecaaGreatC09
import Derived.Test.YtnmccoincblecaaGreatC10
import Derived.Test.YtnmccoincblecaaGreatC11
set_option linter.unusedVariables false
set_option linter.unusedSimpArgs false
set_option maxHeartbeats 1000000
namespace Go.Proofs.YtnmccoincblecaaGreat
open Go Sy Go.Proofs
theorem bS3 (k : List Int) (x : Int) (L : List Int) :
  f4 zp (ci5 k x L) [false] = (some (.sl (.o 0) 1 0 0 0 (List.length L) none, [(.o 0, .rows 1 (List.length L) (ib L) true)], [decide ((64 : Int) < (↑(List.length k) : Int)) = false, i5 zp none 0 (cB (cB (cR (cL (cR (cR (cR (f8 (Bd.f (ci5 k x L)))))))))) 65 (St.mk (mkT 33 [(0, .ros 1 (List.length k) (ib k) false), (1, .int .u8 x), (5, .sl (.o 0) 1 0 0 0 0 none), (6, .int .i64 0)]) [(.o 0, .rows 1 0 (ib []) true)] 1 []) (.exit 0) (St.mk (mkT 33 [(0, .ros 1 (List.length k) (ib k) false), (1, .int .u8 x), (5, .sl (.o 0) 1 0 0 0 (List.length L) none), (6, .int .i64 64)]) [(.o 0, .rows 1 (List.length L) (ib L) true)] 1 []), (0 : Nat) = 0, ∀ (k : Nat), k < (0 : Nat) → [] = [V.int .u8 (0 : Int)], true = false → true = false, q (List.length k), ∀ (k_1 : Nat), k_1 < List.length k → [V.int .u8 (List.getD k k_1 (0 : Int))] = [V.int .u8 (List.getD k k_1 (0 : Int))], false = true → false = true, q x, q0, q0, q0, (0 : Nat) = 0, (none : Option Nat) = none ∨ (none : Option Nat) = none, q1]) : Option (V × c5 × List Prop)) := by kernel_rfl
theorem bG6 (k : List Int) (x : Int) (L : List Int) (j : Nat) (L2 : List Int) :
  i6 zp (bG4 k x L j L2) [true, true] = (some (.normal, St.mk (mkT 33 [(0, .ros 1 (List.length k) (ib k) false), (1, .int .u8 x), (5, .sl (.o 0) 1 0 0 0 (List.length L2) none), (6, .int .i64 (↑(j + 1) : Int))]) [(.o 0, .rows 1 (List.length L2) (ib L2) true)] 1 [], [decide ((↑j : Int) < (64 : Int)) = true, decide ((↑j : Int) < (↑(List.length k) : Int)) = true, (0 : Int) ≤ (↑j : Int) ∧ (↑j : Int) < (↑(List.length k) : Int), q (List.length L), 1 ≤ (1 : Nat), ∀ (k_1 : Nat), k_1 < (1 : Nat) → s6 (j4 [[V.int .u8 (n6 (fun x x_1 y => x_1 ^^^ y) .u8 (List.getD k (Int.toNat (↑j : Int)) (0 : Int)) x)]] ((0 : Nat) + k_1)) = true, (List.length L + (1 : Nat)) * (1 : Nat) ≤ (140737488355328 : Nat), InR .i64 ((↑j : Int) + (1 : Int)), List.length L + (1 : Nat) = List.length L2, ∀ (k_1 : Nat), k_1 < List.length L + (1 : Nat) → r6 (List.length L) (ib L) (fun k_2 => j4 [[V.int .u8 (n6 (fun x x_1 y => x_1 ^^^ y) .u8 (List.getD k (Int.toNat (↑j : Int)) (0 : Int)) x)]] ((0 : Nat) + k_2)) k_1 = [V.int .u8 (List.getD L2 k_1 (0 : Int))], true = false → true = false, q (List.length k), ∀ (k_1 : Nat), k_1 < List.length k → [V.int .u8 (List.getD k k_1 (0 : Int))] = [V.int .u8 (List.getD k k_1 (0 : Int))], false = true → false = true, q x, q0, q0, q0, List.length L + (1 : Nat) = List.length L2, (none : Option Nat) = none ∨ (none : Option Nat) = none, (↑j : Int) + (1 : Int) = (↑(j + (1 : Nat)) : Int)]) : Option (Exit × St × List Prop)) := by kernel_rfl
theorem bG5 (k : List Int) (x : Int) (L : List Int) (j : Nat) (L2 : List Int) :
  i6 zp (bG4 k x L j L2) [true, false] = (some (.normal, St.mk (mkT 33 [(0, .ros 1 (List.length k) (ib k) false), (1, .int .u8 x), (5, .sl (.o 0) 1 0 0 0 (List.length L2) none), (6, .int .i64 (↑(j + 1) : Int))]) [(.o 0, .rows 1 (List.length L2) (ib L2) true)] 1 [], [decide ((↑j : Int) < (64 : Int)) = true, decide ((↑j : Int) < (↑(List.length k) : Int)) = false, q (List.length L), 1 ≤ (1 : Nat), ∀ (k : Nat), k < (1 : Nat) → s6 (j4 [[V.int .u8 (n6 (fun x x_1 y => x_1 ^^^ y) .u8 (0 : Int) x)]] ((0 : Nat) + k)) = true, (List.length L + (1 : Nat)) * (1 : Nat) ≤ (140737488355328 : Nat), InR .i64 ((↑j : Int) + (1 : Int)), List.length L + (1 : Nat) = List.length L2, ∀ (k : Nat), k < List.length L + (1 : Nat) → r6 (List.length L) (ib L) (fun k => j4 [[V.int .u8 (n6 (fun x x_1 y => x_1 ^^^ y) .u8 (0 : Int) x)]] ((0 : Nat) + k)) k = [V.int .u8 (List.getD L2 k (0 : Int))], true = false → true = false, q (List.length k), ∀ (k_1 : Nat), k_1 < List.length k → [V.int .u8 (List.getD k k_1 (0 : Int))] = [V.int .u8 (List.getD k k_1 (0 : Int))], false = true → false = true, q x, q0, q0, q0, List.length L + (1 : Nat) = List.length L2, (none : Option Nat) = none ∨ (none : Option Nat) = none, (↑j : Int) + (1 : Int) = (↑(j + (1 : Nat)) : Int)]) : Option (Exit × St × List Prop)) := by kernel_rfl
theorem bY8 (k : List Int) (x : Int) (L : List Int) (j : Nat) (L2 : List Int) :
  i6 zp (bG4 k x L j L2) [false] = (some (.exit 0, St.mk (mkT 33 [(0, .ros 1 (List.length k) (ib k) false), (1, .int .u8 x), (5, .sl (.o 0) 1 0 0 0 (List.length L) none), (6, .int .i64 64)]) [(.o 0, .rows 1 (List.length L) (ib L) true)] 1 [], [decide ((↑j : Int) < (64 : Int)) = false, q (List.length L), ∀ (k : Nat), k < List.length L → [V.int .u8 (List.getD L k (0 : Int))] = [V.int .u8 (List.getD L k (0 : Int))], true = false → true = false, q (List.length k), ∀ (k_1 : Nat), k_1 < List.length k → [V.int .u8 (List.getD k k_1 (0 : Int))] = [V.int .u8 (List.getD k k_1 (0 : Int))], false = true → false = true, q x, q0, q0, q0, q (List.length L), (none : Option Nat) = none ∨ (none : Option Nat) = none, (↑j : Int) = (64 : Int)]) : Option (Exit × St × List Prop)) := by kernel_rfl
theorem ci0 (k : List Int) (b : List Int) (p1 : List Int) (p2 : List Int) (d1 : List Int) (d2 : List Int) :
  f4 zp (bdMc k b p1 p2 d1 d2) [] = (some (.agg [.seg .u8 32 d2], [], [T zp 100 [.ros 1 (List.length k) (ib k) false, .int .u8 54] [] (.sl (.o 128) 1 0 0 0 (List.length p1) none) [(.o 128, .rows 1 (List.length p1) (ib p1) true)], q (List.length p1), ∀ (k : Nat), k < List.length b → true = true, (List.length p1 + List.length b) * (1 : Nat) ≤ (140737488355328 : Nat), T zp 99 [.sl (.o 256) 1 0 0 0 (List.length p1 + List.length b) none] [(.o 256, .rows 1 (List.length p1 + List.length b) (r6 (List.length p1) (ib p1) (ib b)) true)] (.agg [.seg .u8 32 d1]) [(.o 256, .rows 1 (List.length p1 + List.length b) (r6 (List.length p1) (ib p1) (ib b)) true)], T zp 100 [.ros 1 (List.length k) (ib k) false, .int .u8 92] [] (.sl (.o 576) 1 0 0 0 (List.length p2) none) [(.o 576, .rows 1 (List.length p2) (ib p2) true)], T zp 101 [.agg [.seg .u8 32 d1]] [] (.sl (.o 704) 1 0 0 0 (List.length d1) none) [(.o 704, .rows 1 (List.length d1) (ib d1) true)], q (List.length p2), (0 : Nat) + List.length d1 ≤ List.length d1, ∀ (k : Nat), k < List.length d1 → true = true, (List.length p2 + List.length d1) * (1 : Nat) ≤ (140737488355328 : Nat), T zp 99 [.sl (.o 768) 1 0 0 0 (List.length p2 + List.length d1) none] [(.o 768, .rows 1 (List.length p2 + List.length d1) (r6 (List.length p2) (ib p2) fun k => [.int .u8 (List.getD d1 (0 + k) (0 : Int))]) true)] (.agg [.seg .u8 32 d2]) [(.o 768, .rows 1 (List.length p2 + List.length d1) (r6 (List.length p2) (ib p2) fun k => [.int .u8 (List.getD d1 (0 + k) (0 : Int))]) true)]]) : Option (V × c5 × List Prop)) := by kernel_rfl
theorem cj8 (s : ByteArray) :
  f4 zp (bdRz s) [] = (some (.sl (.o 63) 1 0 0 0 (List.length (j3 s)) none, [(.o 63, bs (j3 s))], [T zp 37 [.snil, .int .i64 (↑(ByteArray.size s) : Int)] [] (sb (.o 257) (c6 (↑(ByteArray.size s) : Int))) [(.o 257, bs (c6 (↑(ByteArray.size s) : Int)))], q (List.length (c6 (↑(ByteArray.size s) : Int))), (List.length (c6 (↑(ByteArray.size s) : Int)) + ByteArray.size s) * (1 : Nat) ≤ (140737488355328 : Nat), List.length (c6 (↑(ByteArray.size s) : Int)) + ByteArray.size s = List.length (j3 s), ∀ (k : Nat), k < List.length (c6 (↑(ByteArray.size s) : Int)) + ByteArray.size s → r6 (List.length (c6 (↑(ByteArray.size s) : Int))) (bl (c6 (↑(ByteArray.size s) : Int))) (fun k => [V.int .u8 (B1 s k)]) k = bl (j3 s) k, true = false → true = false, q0, q0, q0, List.length (c6 (↑(ByteArray.size s) : Int)) + ByteArray.size s = List.length (j3 s), (none : Option Nat) = none ∨ (none : Option Nat) = none]) : Option (V × c5 × List Prop)) := by kernel_rfl
theorem ch5 (s : ByteArray) (n : Int) (id : Int) (l1 : List UInt8) (l2 : List UInt8) (d : List Int) :
  f4 zp (bdKy s n id l1 l2 d) [] = (some (.sl (.o 512) 1 0 0 0 (List.length d) none, [(.o 512, .rows 1 (List.length d) (ib d) true)], [T zp 36 [.snil, .str s] [] (sb (.o 256) l1) [(.o 256, bs l1)], T zp 37 [.sl (.o 256) 1 0 0 0 (List.length l1) none, .int .i64 id] [(.o 256, bs l1)] (sb (.o 384) l2) [(.o 384, bs l2)], T zp 99 [.sl (.o 384) 1 0 0 0 (List.length l2) none] [(.o 384, bs l2)] (.agg [.seg .u8 32 d]) [(.o 384, bs l2)], T zp 101 [.agg [.seg .u8 32 d]] [] (.sl (.o 512) 1 0 0 0 (List.length d) none) [(.o 512, .rows 1 (List.length d) (ib d) true)]]) : Option (V × c5 × List Prop)) := by kernel_rfl
theorem bz_ (s : ByteArray) (n : Int) (id : Int) (b : ByteArray) (k : List Int) (d : List Int) (t : List Int) :
  f4 zp (bc9 s n id b k d t) [true, true] = (some (.tup [.agg [.seg .u8 16 z16], .int .i64 2], [], [decide (id < (0 : Int)) = true, q2]) : Option (V × c5 × List Prop)) := by kernel_rfl
theorem bz9 (s : ByteArray) (n : Int) (id : Int) (b : ByteArray) (k : List Int) (d : List Int) (t : List Int) :
  f4 zp (bc9 s n id b k d t) [false, true] = (some (.tup [.agg [.seg .u8 16 z16], .int .i64 2], [], [decide (id < (0 : Int)) = false, decide (n ≤ id) = true]) : Option (V × c5 × List Prop)) := by kernel_rfl
theorem bz8 (s : ByteArray) (n : Int) (id : Int) (b : ByteArray) (k : List Int) (d : List Int) (t : List Int) :
  f4 zp (bc9 s n id b k d t) [false, false] = (some (.tup [.agg [.seg .u8 16 t], .int .i64 0], [], [decide (id < (0 : Int)) = false, decide (n ≤ id) = false, T zp 66 [.agg [.str s, .int .i64 n], .int .i64 id] [] (.sl (.o 896) 1 0 0 0 (List.length k) none) [(.o 896, .rows 1 (List.length k) (ib k) true)], T zp 65 [.sl (.o 896) 1 0 0 0 (List.length k) none, .ros 1 (ByteArray.size b) (fun q => [.int .u8 (B1 b q)]) false] [(.o 896, .rows 1 (List.length k) (ib k) true)] (.agg [.seg .u8 32 d]) [(.o 896, .rows 1 (List.length k) (ib k) true)], i5 zp none 0 (cB (cB (cR (cL (cR (cR (cR (cR (f8 (Bd.f (bc9 s n id b k d t))))))))))) 17 (St.mk (mkT 36 [(6, .ptr (.o 0) 0 0 0 0), (8, .ptr (.o 1) 0 0 0 0), (9, .ptr (.o 2) 0 0 0 0), (10, .int .i64 0)]) [(.o 0, .flat [.seg .u8 16 z16]), (.o 1, .flat [.seg .u8 16 z16]), (.o 2, .flat [.seg .u8 32 d])] 3 []) (.exit 0) (St.mk (mkT 36 [(6, .ptr (.o 0) 0 0 0 0), (8, .ptr (.o 1) 0 0 0 0), (9, .ptr (.o 2) 0 0 0 0), (10, .int .i64 16)]) [(.o 0, .flat [.seg .u8 16 z16]), (.o 1, .flat [.seg .u8 16 t]), (.o 2, .flat [.seg .u8 32 d])] 3 []), q (16 : Nat), q z16, q (16 : Nat), q z16, q (32 : Nat), q d, q0, q0, q0, q0, q0, q0, q0, q0, q0, q1]) : Option (V × c5 × List Prop)) := by kernel_rfl
theorem bZ4 (d : List Int) (L : List Int) (j : Nat) (L2 : List Int) :
  i6 zp (cn3 d L j L2) [true] = (some (.normal, St.mk (mkT 36 [(6, .ptr (.o 0) 0 0 0 0), (8, .ptr (.o 1) 0 0 0 0), (9, .ptr (.o 2) 0 0 0 0), (10, .int .i64 (↑(j + 1) : Int))]) [(.o 0, .flat [.seg .u8 16 z16]), (.o 1, .flat [.seg .u8 16 L2]), (.o 2, .flat [.seg .u8 32 d])] 3 [], [decide ((↑j : Int) < (16 : Int)) = true, (0 : Int) ≤ (↑j : Int) ∧ (↑j : Int) < (32 : Int), (0 : Nat) + Int.toNat (↑j : Int) < (32 : Nat), (0 : Int) ≤ (↑j : Int) ∧ (↑j : Int) < (16 : Int), (0 : Nat) + Int.toNat (↑j : Int) < (16 : Nat), InR .i64 ((↑j : Int) + (1 : Int)), q (16 : Nat), q z16, q (16 : Nat), List.set L ((0 : Nat) + Int.toNat (↑j : Int)) (List.getD d ((0 : Nat) + Int.toNat (↑j : Int)) (0 : Int)) = L2, q (32 : Nat), q d, q0, q0, q0, q0, q0, q0, q0, q0, q0, (↑j : Int) + (1 : Int) = (↑(j + (1 : Nat)) : Int)]) : Option (Exit × St × List Prop)) := by kernel_rfl
theorem bZ3 (d : List Int) (L : List Int) (j : Nat) (L2 : List Int) :
  i6 zp (cn3 d L j L2) [false] = (some (.exit 0, St.mk (mkT 36 [(6, .ptr (.o 0) 0 0 0 0), (8, .ptr (.o 1) 0 0 0 0), (9, .ptr (.o 2) 0 0 0 0), (10, .int .i64 16)]) [(.o 0, .flat [.seg .u8 16 z16]), (.o 1, .flat [.seg .u8 16 L]), (.o 2, .flat [.seg .u8 32 d])] 3 [], [decide ((↑j : Int) < (16 : Int)) = false, q (16 : Nat), q z16, q (16 : Nat), q L, q (32 : Nat), q d, q0, q0, q0, q0, q0, q0, q0, q0, q0, (↑j : Int) = (16 : Int)]) : Option (Exit × St × List Prop)) := by kernel_rfl
theorem cd_ {k : List Int} (hk : k.length ≤ 64) (x : Int) (m : Nat) : T Tryz.prog 100 [rb k, .int .u8 x] [] (obS m (w6 k x)) [(.o m, obB (w6 k x))] := by
 have hl : ∀ j, j ≤ 64 → ((w6 k x).take j).length = j := fun j hj => by rw [List.length_take, W8]; omega
 have hL : i5 Tryz.prog none 0 (cB (cB (cR (cL (cR (cR (cR (f8 Tryz.f100)))))))) (64 + 1) (pdI k x ((w6 k x).take 0) 0) (.exit 0) (pdI k x ((w6 k x).take 64) 64) := by
  have hstep : ∀ j, j < 64 → R Tryz.prog none 0 (cB (cB (cR (cL (cR (cR (cR (f8 Tryz.f100)))))))) (pdI k x ((w6 k x).take j) j) .normal (pdI k x ((w6 k x).take (j + 1)) (j + 1)) := by
   intro j hj
   have e1 := hl j (by omega)
   have e2 := hl (j + 1) (by omega)
   have hc := ctb ((w6 k x).take j) (x8 (k.getD j 0) x)
   rw [← br7 hj] at hc
   simp only [Nat.zero_add] at hc
   by_cases hjk : j < k.length
   ·refine f9 NG MO _ (bG6 k x ((w6 k x).take j) j ((w6 k x).take (j + 1))) ?_ (Nat.zero_le _)
    simp only [All, Int.toNat_natCast, Nat.zero_add]; and_intros
    all_goals first | exact True.intro | (intro j hj; exact hc j hj) | (intro j hj; exact aG9 _ j hj) | (rw [decide_eq_true_eq]; omega) | (intro _ _; exact True.intro) | (simp only [IntKind.min, IntKind.max, IntKind.signed, IntKind.bits, if_true]; omega) | omega | (intro h; exact h) | exact .inl True.intro
   ·have e3 : k.getD j 0 = 0 := by rw [List.getD_eq_getElem?_getD, List.getElem?_eq_none (by omega)]; rfl
    rw [e3] at hc
    refine f9 NG MO _ (bG5 k x ((w6 k x).take j) j ((w6 k x).take (j + 1))) ?_ (Nat.zero_le _)
    simp only [All, Int.toNat_natCast, Nat.zero_add]; and_intros
    all_goals first | exact True.intro | (intro j hj; exact hc j hj) | (intro j hj; exact aG9 _ j hj) | (rw [decide_eq_true_eq]; omega) | (rw [decide_eq_false_iff_not]; omega) | (intro _ _; exact True.intro) | (simp only [IntKind.min, IntKind.max, IntKind.signed, IntKind.bits, if_true]; omega) | omega | (intro h; exact h) | exact .inl True.intro
  have hend : R Tryz.prog none 0 (cB (cB (cR (cL (cR (cR (cR (f8 Tryz.f100)))))))) (pdI k x ((w6 k x).take 64) 64) (.exit 0) (pdI k x ((w6 k x).take 64) 64) := by
   refine f9 NG MO _ (bY8 k x ((w6 k x).take 64) 64 []) ?_ (Nat.zero_le _)
   simp only [All]; and_intros
   all_goals first | exact True.intro | (rw [decide_eq_false_iff_not]; omega) | (intro _ _; exact True.intro) | omega | (intro h; exact h) | exact .inl True.intro
  exact i5.inv (fun j => pdI k x ((w6 k x).take j) j) 64 hstep hend (by simp)
 rw [List.take_zero, show (w6 k x).take 64 = w6 k x from List.take_of_length_le (by rw [W8]; omega)] at hL
 generalize w6 k x = L at hL
 have h : T Tryz.prog 100 [rb k, .int .u8 x] [] (obS 0 L) [(.o 0, obB L)] := by
  refine f5 (bS3 k x L) Tryz.func100 ?_
  simp only [All]; and_intros
  all_goals first | exact True.intro | exact hL | (rw [decide_eq_false_iff_not]; omega) | (intro _ _; exact True.intro) | omega | (intro h; exact h) | exact .inl True.intro
 obtain ⟨σ, hσ, h3⟩ := T.at h [.o 0] [.o m] (by decide) (by simp) rfl
 simp only [List.map_cons, List.map_nil, List.cons.injEq, and_true] at hσ
 simpa [V.rens, V.ren, c5.ren, Sy.B.ren, obS, obB, rb, hσ] using h3
theorem bJ8 {d : List Int} (hd : d.length = 32) (m : Nat) : T Tryz.prog 101 [agD d] [] (obS m d) [(.o m, obB d)] := by
 obtain ⟨σ, hσ, h3⟩ := T.at (T_by hd) [.o 1] [.o m] (by decide) (by simp) rfl
 simp only [List.map_cons, List.map_nil, List.cons.injEq, and_true] at hσ
 simpa [V.rens, V.ren, c5.ren, Sy.B.ren, obS, obB, agD, hσ] using h3
theorem a_6 (l : List Int) (hb : l.length ≤ 10000000000) {n : Nat} (hn : n = l.length) {f : Nat → List V} (hf : ∀ k, k < n → f k = ib l k) (a : Nat) : T Tryz.prog 99 [.sl (.o a) 1 0 0 0 n none] [(.o a, .rows 1 n f true)] (agD (C9 l)) [(.o a, .rows 1 n f true)] := by
 have h : T Tryz.prog 99 [.sl (.o 1) 1 0 0 0 n none] [(.o 1, .rows 1 n f true)] (agD (C9 l)) [(.o 1, .rows 1 n f true)] := by
  refine T.lendG (T_du l hb) rfl ?_ (G3.agg rfl) (by simp) (by rintro n ⟨b, hb⟩; cases hb)
  and_intros
  all_goals first | exact True.intro | (intro k hk; rw [Nat.zero_add]; exact hf k hk) | (with_reducible assumption) | omega | (intro h; cases h; done)
 obtain ⟨σ, hσ, h3⟩ := T.at h [.o 1] [.o a] (by decide) (by simp) rfl
 simp only [List.map_cons, List.map_nil, List.cons.injEq, and_true] at hσ
 simpa [V.rens, V.ren, c5.ren, Sy.B.ren, agD, hσ] using h3
theorem cs5 {k b : List Int} (hk : k.length ≤ 64) (hb : b.length ≤ 1000000000) : T Tryz.prog 65 [rb k, rb b] [] (agD (W0 k b)) [] := by
 have hl1 := W8 k 54
 have hl2 := W8 k 92
 have h1 := cd_ hk 54 128
 have h2 := a_6 (w6 k 54 ++ b) (by rw [List.length_append]; omega) (n := (w6 k 54).length + b.length) (by rw [List.length_append]) (f := r6 (w6 k 54).length (ib (w6 k 54)) (ib b)) (fun k _ => by rw [bq1]) 256
 have h3 := cd_ hk 92 576
 have h4 := bJ8 (T4 (w6 k 54 ++ b)) 704
 have hl3 := T4 (w6 k 54 ++ b)
 generalize hd : C9 (w6 k 54 ++ b) = d1 at h2 h4 hl3
 have h5 := a_6 (w6 k 92 ++ d1) (by rw [List.length_append]; omega) (n := (w6 k 92).length + d1.length) (by rw [List.length_append]) (f := r6 (w6 k 92).length (ib (w6 k 92)) (fun k => [V.int IntKind.u8 (List.getD d1 (0 + k) 0)])) (fun k _ => by rw [bq1]; simp only [Nat.zero_add]; rfl) 768
 have e : W0 k b = C9 (w6 k 92 ++ d1) := by rw [W0, hd]
 rw [e]
 generalize C9 (w6 k 92 ++ d1) = d2 at h5
 generalize w6 k 54 = p1 at *
 generalize w6 k 92 = p2 at *
 refine f5 (ci0 k b p1 p2 d1 d2) Tryz.func65 ?_
 simp only [All]; and_intros
 all_goals first | exact True.intro | exact h1 | exact h2 | exact h3 | exact h4 | exact h5 | (intro _ _; exact True.intro) | omega
theorem T_rz {s : ByteArray} (hs : s.size ≤ 1099511627776) (m : Nat) : T Tryz.prog 36 [.snil, .str s] [] (sb (.o m) (j3 s)) [(.o m, bs (j3 s))] := by
 have hz := D2 (n := s.size) (by omega)
 have e : j3 s = c6 s.size ++ m4 s := am4 s
 have h9 := m9 hz
 have hle : (c6 (s.size : Int)).length + s.size = (j3 s).length := by rw [e, List.length_append (bs := m4 s), K4]
 have h : T Tryz.prog 36 [.snil, .str s] [] (sb (.o 63) (j3 s)) [(.o 63, bs (j3 s))] := by
  refine f5 (cj8 s) Tryz.func36 ?_
  simp only [All]; and_intros
  all_goals first | exact bO6 hz | exact hle | omega | (rw [e, I2 (c6 (s.size : Int)) (m4 s)]; intro k _; rfl) | simp
 obtain ⟨σ, hσ, h3⟩ := T.at h [.o 63] [.o m] (by decide) (by simp) rfl
 simp only [List.map_cons, List.map_nil, List.cons.injEq, and_true] at hσ
 simpa [V.rens, V.ren, c5.ren, Sy.B.ren, sb, bs, hσ] using h3
theorem bd_ (l : List UInt8) (k : Nat) : bl l k = ib (uI l) k := by
 show [V.int .u8 ((l.getD k 0).toNat : Int)] = [V.int .u8 ((uI l).getD k 0)]
 rw [bv4]
theorem T_ky {s : ByteArray} {n id : Int} (hs : s.size ≤ 1000) (hi : p9 id) (m : Nat) : T Tryz.prog 66 [kyV s n, .int .i64 id] [] (obS m (C9 (uI (j3 s ++ c6 id)))) [(.o m, obB (C9 (uI (j3 s ++ c6 id))))] := by
 have ht := Q2 (s := s) (by omega)
 have hp := m9 hi
 have h1 := T_rz (s := s) (by omega) 256
 have h2 := T_rp hi (l := j3 s) (by omega) (a := 256) (m := 384) (by decide)
 have hll : (j3 s ++ c6 id).length ≤ 2000 := by rw [List.length_append]; omega
 generalize j3 s ++ c6 id = l2 at *
 generalize j3 s = l1 at *
 have h3 := a_6 (uI l2) (by rw [ac6]; omega) (n := l2.length) (by rw [ac6]) (f := bl l2) (fun k _ => bd_ l2 k) 384
 have h4 := bJ8 (T4 (uI l2)) 512
 generalize C9 (uI l2) = d at *
 have h : T Tryz.prog 66 [kyV s n, .int .i64 id] [] (obS 512 d) [(.o 512, obB d)] := by
  refine f5 (ch5 s n id l1 l2 d) Tryz.func66 ?_
  simp only [All]; and_intros
  all_goals first | exact True.intro | exact h1 | exact h2 | exact h3 | exact h4
 obtain ⟨σ, hσ, h3⟩ := T.at h [.o 512] [.o m] (by decide) (by simp) rfl
 simp only [List.map_cons, List.map_nil, List.cons.injEq, and_true] at hσ
 simpa [V.rens, V.ren, c5.ren, Sy.B.ren, obS, obB, kyV, hσ] using h3
theorem cs6 {k : List Int} (hk : k.length ≤ 64) {b : ByteArray} (hb : b.size ≤ 1000000000) (m : Nat) : T Tryz.prog 65 [obS m k, .ros 1 b.size (fun q => [V.int IntKind.u8 (B1 b q)]) false] [(.o m, obB k)] (agD (W0 k (bI b))) [(.o m, obB k)] := by
 have h : T Tryz.prog 65 [obS 1 k, .ros 1 b.size (fun q => [V.int IntKind.u8 (B1 b q)]) false] [(.o 1, obB k)] (agD (W0 k (bI b))) [(.o 1, obB k)] := by
  refine T.lendG (cs5 hk (b := bI b) (by rw [ay7]; exact hb)) rfl ?_ (G3.agg rfl) (by simp) (by rintro n ⟨b, hb⟩; cases hb)
  and_intros
  all_goals first | exact True.intro | (exact (ay7 b).symm) | (intro k hk; rw [Nat.zero_add]) | (intro k hk; show _ = [V.int .u8 ((bI b).getD k 0)]; rw [bi3]) | with_reducible rfl | omega | (intro h; exact h) | (intro h; cases h; done)
 obtain ⟨σ, hσ, h3⟩ := T.at h [.o 1] [.o m] (by decide) (by simp) rfl
 simp only [List.map_cons, List.map_nil, List.cons.injEq, and_true] at hσ
 simpa [V.rens, V.ren, c5.ren, Sy.B.ren, agD, obS, obB, hσ] using h3
def C2 (s : ByteArray) (n id : Int) (b : ByteArray) : List Int := if 0 ≤ id ∧ id < n then aq8 (j3 s ++ c6 id) b else List.replicate 16 0
def K3 (n id : Int) : Int := if 0 ≤ id ∧ id < n then 0 else 2
theorem ce8 {s : ByteArray} (hs : s.size ≤ 1000) {n id : Int} (hi : id < 9223372036854775808) {b : ByteArray} (hb : b.size ≤ 1000000000) : T Tryz.prog 20 [kyV s n, .int .i64 id, .str b] [] (.tup [.agg [.seg .u8 16 (C2 s n id b)], .int .i64 (K3 n id)]) [] := by
 by_cases h0 : id < 0
 ·rw [C2, K3, if_neg (by omega), if_neg (by omega)]
  refine f5 (bz_ s n id b [] [] []) Tryz.func20 ?_
  simp only [All]; and_intros
  all_goals first | exact True.intro | (rw [decide_eq_true_eq]; omega)
 ·by_cases h1 : n ≤ id
  ·rw [C2, K3, if_neg (by omega), if_neg (by omega)]
   refine f5 (bz9 s n id b [] [] []) Tryz.func20 ?_
   simp only [All]; and_intros
   all_goals first | exact True.intro | (rw [decide_eq_true_eq]; omega) | (rw [decide_eq_false_iff_not]; omega)
  ·rw [C2, K3, if_pos (by omega), if_pos (by omega)]
   have hky := T_ky (s := s) (n := n) (id := id) hs ⟨by omega, by omega⟩ 896
   have hkl := T4 (uI (j3 s ++ c6 id))
   rw [aq8]
   generalize C9 (uI (j3 s ++ c6 id)) = k at hky hkl
   have hmc := cs6 (k := k) (by omega) hb 896
   have hml := aS5 k (bI b)
   generalize W0 k (bI b) = d at hmc hml
   have hL : i5 Tryz.prog none 0 (cB (cB (cR (cL (cR (cR (cR (cR (f8 Tryz.f20))))))))) (16 + 1) (sgI d (K5 d 0) 0) (.exit 0) (sgI d (K5 d 16) 16) := by
    have hstep : ∀ j, j < 16 → R Tryz.prog none 0 (cB (cB (cR (cL (cR (cR (cR (cR (f8 Tryz.f20))))))))) (sgI d (K5 d j) j) .normal (sgI d (K5 d (j + 1)) (j + 1)) := by
     intro j hj
     have e := bJ1 d hj
     refine f9 NG MO _ (bZ4 d (K5 d j) j (K5 d (j + 1))) ?_ (Nat.zero_le _)
     simp only [All, Int.toNat_natCast, Nat.zero_add]; and_intros
     all_goals first | exact True.intro | exact e | (with_reducible assumption) | (rw [decide_eq_true_eq]; omega) | (simp only [IntKind.min, IntKind.max, IntKind.signed, IntKind.bits, if_true]; omega) | omega
    have hend : R Tryz.prog none 0 (cB (cB (cR (cL (cR (cR (cR (cR (f8 Tryz.f20))))))))) (sgI d (K5 d 16) 16) (.exit 0) (sgI d (K5 d 16) 16) := by
     refine f9 NG MO _ (bZ3 d (K5 d 16) 16 []) ?_ (Nat.zero_le _)
     simp only [All]; and_intros
     all_goals first | exact True.intro | (rw [decide_eq_false_iff_not]; omega) | omega
    exact i5.inv (fun j => sgI d (K5 d j) j) 16 hstep hend (by simp)
   rw [bv1, bJ0] at hL
   generalize ac4 d = t at hL
   refine f5 (bz8 s n id b k d t) Tryz.func20 ?_
   simp only [All]; and_intros
   all_goals first | exact True.intro | exact hky | exact hmc | exact hL | (rw [decide_eq_false_iff_not]; omega)
def V7 (s : ByteArray) (n id : Int) (b : ByteArray) (t : List Int) : Bool := decide (0 ≤ id ∧ id < n) && decide (aq8 (j3 s ++ c6 id) b = t)
def msI (x : Int) (K : List Int) (ls : Nat → List Int) (L : List Int) (j : Nat) : St := ⟨mkT 24 [(0, .int .u8 x), (1, rbs 1 ls), (5, p0K 2), (6, p0K 1), (9, .int .i64 (j : Nat))], [(.o 0, .flat [.seg .u8 64 K]), (.o 1, .flat [.seg .u8 64 L]), (.o 2, .flat [.seg .u8 32 v7])], 3, []⟩
def apF (xs : List Int) (g : Nat → List V) : Nat → List V := r6 1 (fun _ => [rb xs]) g
def apP : Prim → List V → c5 → Nat → List Cl := fun pr vs h lo => match pr with
 | .append _ _ => match vs with
  | [.sl y _ _ _ _ _ _, .ros _ n g _] => match B3 y h with
   | some (.flat [.sl b _ _ _ _ _ _], _) => match B3 b h with
    | some (.flat [.seg _ _ xs], _) => [{ pre := [y, b], val := .sl (.o lo) 1 0 0 0 (1 + n) none, post := [(.o lo, .rows 1 (1 + n) (apF xs g) true)] }]
    | _ => []
   | _ => []
  | _ => []
 | _ => []
def suC (d : List Int) : List V → c5 → Nat → List Cl := fun a _ _ => match a with
 | [.sl y _ _ _ _ _ _] => [{ pre := [y], val := agD d }]
 | _ => []
noncomputable def ci2 (x : Int) (K : List Int) (ls : Nat → List Int) (L d : List Int) : Bd := { f := Tryz.f106, args := [.int .u8 x, rbs 1 ls, p0K 0], pre := [(.o 0, .flat [.seg .u8 64 K])], base := 1, kb := { db := dbQ [(82, suC d)], pr := apP, lp := fun _ t => [(True, .loop (64 + 1) (B6 [(.o 1, nmV (r9 t.tmps 6)), (.o 2, nmV (r9 t.tmps 5))] (msI x K ls K 0)) (.exit 0) (msI x K ls L 64))] }, names := fun _ => [.o 0] }
noncomputable def cm_ (x : Int) (K : List Int) (ls : Nat → List Int) (L : List Int) (j : Nat) (L2 : List Int) : Pc := { c := cB (cB (cR (cL (cR (cR (f8 Tryz.f106)))))), st := msI x K ls L j, p := 1, kb := kb0, k := fun x_ _ => match x_ with
 | .normal => some (wTo (msI x K ls L2 (j + 1)))
 | _ => some (wTo (msI x K ls L 64)) }
def maC (d1 d2 : List Int) : List V → c5 → Nat → List Cl := fun a h _ => match a with
 | [.int _ 54, _, .ptr n _ _ _ _] => [{ rd := [n], val := agD d1 }]
 | [.int _ 92, .sl y _ _ _ _ _ _, .ptr n _ _ _ _] => match B3 y h with
  | some (.flat [.sl b _ _ _ _ _ _], _) => match B3 n h with
   | some (blk, _) => [{ pre := [n, y, b], val := agD d2, post := [(n, blk)] }]
   | none => []
  | _ => []
 | _ => []
noncomputable def bdMa (k : List Int) (ls : Nat → List Int) (d1 d2 : List Int) : Bd := { f := Tryz.f83, args := [rb k, rbs 1 ls], kb := { db := dbQ [(106, maC d1 d2)] } }
def kyB (s : ByteArray) (n : Int) : B := .flat [.str s, .int .i64 n]
noncomputable def bdLe (s : ByteArray) (n : Int) : Bd := { f := Tryz.f40, args := [p0K 0], pre := [(.o 0, kyB s n)], base := 1, kb := kb0, names := fun _ => [.o 0] }
noncomputable def bdDe (s : ByteArray) (n : Int) : Bd := { f := Tryz.f39, args := [.str s, .int .i64 n], kb := kb0, names := fun t => match r9 t.tmps 4 with | .ptr a _ _ _ _ => [a] | _ => [] }
noncomputable def bdRe (s : ByteArray) (n : Int) : Bd := { f := Tryz.f38, args := [.str s, .int .i64 n], kb := kb0 }
noncomputable def bdTz (s : ByteArray) : Bd := { f := Tryz.f34, args := [.snil, .str s], base := 1, kb := { db := fun k a _ lo => bif Nat.beq k 35 then F6 (c6 s.size) a lo else [] }, k := kSb 4 63 (j3 s), names := fun _ => [.o 63] }
def sgS (kd m : List Int) : Nat → List V → c5 → Nat → List Cl := dbQ [
 (82, fun a h _ => match a with
  | [.sl y _ _ _ _ _ _] => match B3 y h with
   | some (.flat [.sl b _ _ _ _ _ _, .sl c _ _ _ _ _ _], _) => [{ pre := [y, b, c], val := agD kd }]
   | _ => []
  | _ => []),
 (83, fun a _ _ => match a with
  | [.sl y _ _ _ _ _ _, .sl b _ _ _ _ _ _] => [{ pre := [y, b], val := agD m }]
  | _ => [])]
def cpP (t : List Int) : Prim → List V → c5 → Nat → List Cl := fun pr vs _ _ => match pr with
 | .copy _ _ => match vs with
  | [.sl a _ _ _ _ _ _, .sl b _ _ _ _ _ _] => [{ pre := [a, b], val := .int .i64 16, post := [(a, .flat [.seg .u8 16 t])] }]
  | _ => []
 | _ => []
noncomputable def bA6 (s : ByteArray) (n id : Int) (b : ByteArray) (l1 l2 : List UInt8) (kd m t : List Int) : Bd := { f := Tryz.f41, args := [p0K 0, .int .i64 id, .str b], pre := [(.o 0, kyB s n)], base := 1, kb := { db := fun k a h lo => bif Nat.beq k 40 then [{ rd := [.o 0], val := .int .i64 n }] else bif Nat.beq k 34 then ubC l1 a h lo else bif Nat.beq k 35 then ubC l2 a h lo else sgS kd m k a h lo, pr := cpP t }, names := fun _ => [.o 0] }
noncomputable def cg7 (s : ByteArray) (n id : Int) (b : ByteArray) (t u : List Int) (e : Int) : Bd := { f := Tryz.f23, args := [p0K 0, .int .i64 id, .str b, .agg [.seg .u8 16 t]], pre := [(.o 0, kyB s n)], base := 1, kb := { db := fun k _ _ _ => bif Nat.beq k 41 then [{ rd := [.o 0], val := .tup [.agg [.seg .u8 16 u], .int .i64 e] }] else [] }, names := fun _ => [.o 0] }
theorem ci3 (x : Int) (K : List Int) (ls : Nat → List Int) (L : List Int) (d : List Int) :
  f4 zp (ci2 x K ls L d) [] = (some (.agg [.seg .u8 32 d], [(.o 0, .flat [.seg .u8 64 K])], [i5 zp none 1 (cB (cB (cR (cL (cR (cR (f8 (Bd.f (ci2 x K ls L d))))))))) 65 (St.mk (mkT 24 [(0, .int .u8 x), (1, .ros 1 1 (fun k => [.ros 1 (List.length (ls k)) (ib (ls k)) false]) false), (5, .ptr (.o 2) 0 0 0 0), (6, .ptr (.o 1) 0 0 0 0), (9, .int .i64 0)]) [(.o 0, .flat [.seg .u8 64 K]), (.o 1, .flat [.seg .u8 64 K]), (.o 2, .flat [.seg .u8 32 v7])] 3 []) (.exit 0) (St.mk (mkT 24 [(0, .int .u8 x), (1, .ros 1 1 (fun k => [.ros 1 (List.length (ls k)) (ib (ls k)) false]) false), (5, .ptr (.o 2) 0 0 0 0), (6, .ptr (.o 1) 0 0 0 0), (9, .int .i64 64)]) [(.o 0, .flat [.seg .u8 64 K]), (.o 1, .flat [.seg .u8 64 L]), (.o 2, .flat [.seg .u8 32 v7])] 3 []), q (64 : Nat), q K, q (64 : Nat), q K, q (32 : Nat), z32 = v7, q x, q (1 : Nat), ∀ (k : Nat), k < (1 : Nat) → [V.ros (1 : Nat) (List.length (ls k)) (ib (ls k)) false] = [V.ros (1 : Nat) (List.length (ls k)) (ib (ls k)) false], false = true → false = true, q0, q0, q0, q0, q0, q0, q1, TO zp (Prim.append (171 : Nat) (171 : Nat)) [V.sl (Nm.o 67) (0 : Nat) (0 : Nat) (0 : Nat) (0 : Nat) (1 : Nat) (some (1 : Nat)), V.ros (1 : Nat) (1 : Nat) (fun k => [V.ros (1 : Nat) (List.length (ls k)) (ib (ls k)) false]) false] [(Nm.o 67, B.flat [V.sl (Nm.o (1 : Nat)) (0 : Nat) (0 : Nat) (0 : Nat) 0 64 (some 64)]), (Nm.o (1 : Nat), B.flat [V.seg .u8 (64 : Nat) L])] (V.sl (Nm.o 195) (1 : Nat) (0 : Nat) (0 : Nat) (0 : Nat) 2 none) [(Nm.o 195, B.rows (1 : Nat) 2 (apF L fun k => [V.ros (1 : Nat) (List.length (ls k)) (ib (ls k)) false]) true)], T zp 82 [.sl (.o 195) 1 0 0 0 2 none] [(.o 195, .rows 1 2 (apF L fun k => [.ros 1 (List.length (ls k)) (ib (ls k)) false]) true)] (.agg [.seg .u8 32 d]) []]) : Option (V × c5 × List Prop)) := by kernel_rfl
theorem bY7 (x : Int) (K : List Int) (ls : Nat → List Int) (L : List Int) (j : Nat) (L2 : List Int) :
  i6 zp (cm_ x K ls L j L2) [true] = (some (.normal, St.mk (mkT 24 [(0, .int .u8 x), (1, .ros 1 1 (fun k => [.ros 1 (List.length (ls k)) (ib (ls k)) false]) false), (5, .ptr (.o 2) 0 0 0 0), (6, .ptr (.o 1) 0 0 0 0), (9, .int .i64 (↑(j + 1) : Int))]) [(.o 0, .flat [.seg .u8 64 K]), (.o 1, .flat [.seg .u8 64 L2]), (.o 2, .flat [.seg .u8 32 v7])] 3 [], [decide ((↑j : Int) < (64 : Int)) = true, (0 : Int) ≤ (↑j : Int) ∧ (↑j : Int) < (64 : Int), (0 : Nat) + Int.toNat (↑j : Int) < (64 : Nat), (0 : Int) ≤ (↑j : Int) ∧ (↑j : Int) < (64 : Int), (0 : Nat) + Int.toNat (↑j : Int) < (64 : Nat), InR .i64 ((↑j : Int) + (1 : Int)), q (64 : Nat), q K, q (64 : Nat), List.set L ((0 : Nat) + Int.toNat (↑j : Int)) (n6 (fun x x_1 y => x_1 ^^^ y) .u8 (List.getD L ((0 : Nat) + Int.toNat (↑j : Int)) (0 : Int)) x) = L2, q (32 : Nat), q v7, q x, q (1 : Nat), ∀ (k : Nat), k < (1 : Nat) → [V.ros (1 : Nat) (List.length (ls k)) (ib (ls k)) false] = [V.ros (1 : Nat) (List.length (ls k)) (ib (ls k)) false], false = true → false = true, q0, q0, q0, q0, q0, q0, (↑j : Int) + (1 : Int) = (↑(j + (1 : Nat)) : Int)]) : Option (Exit × St × List Prop)) := by kernel_rfl
theorem bY6 (x : Int) (K : List Int) (ls : Nat → List Int) (L : List Int) (j : Nat) (L2 : List Int) :
  i6 zp (cm_ x K ls L j L2) [false] = (some (.exit 0, St.mk (mkT 24 [(0, .int .u8 x), (1, .ros 1 1 (fun k => [.ros 1 (List.length (ls k)) (ib (ls k)) false]) false), (5, .ptr (.o 2) 0 0 0 0), (6, .ptr (.o 1) 0 0 0 0), (9, .int .i64 64)]) [(.o 0, .flat [.seg .u8 64 K]), (.o 1, .flat [.seg .u8 64 L]), (.o 2, .flat [.seg .u8 32 v7])] 3 [], [decide ((↑j : Int) < (64 : Int)) = false, q (64 : Nat), q K, q (64 : Nat), q L, q (32 : Nat), q v7, q x, q (1 : Nat), ∀ (k : Nat), k < (1 : Nat) → [V.ros (1 : Nat) (List.length (ls k)) (ib (ls k)) false] = [V.ros (1 : Nat) (List.length (ls k)) (ib (ls k)) false], false = true → false = true, q0, q0, q0, q0, q0, q0, (↑j : Int) = (64 : Int)]) : Option (Exit × St × List Prop)) := by kernel_rfl
theorem bR9 (k : List Int) (ls : Nat → List Int) (d1 : List Int) (d2 : List Int) :
  f4 zp (bdMa k ls d1 d2) [false] = (some (.agg [.seg .u8 32 d2], [], [decide ((64 : Int) < (↑(List.length k) : Int)) = false, 64 ≤ (64 : Nat), ∀ (q : Nat), q < List.length k → true = true, T zp 106 [.int .u8 54, .ros 1 1 (fun k => [.ros 1 (List.length (ls k)) (ib (ls k)) false]) false, .ptr (.o 256) 0 0 0 0] [(.o 256, .flat [.seg .u8 64 (z5 64 (List.replicate 64 (0 : Int)) 0 (Nat.min (List.length k) 64) (ib k))])] (.agg [.seg .u8 32 d1]) [(.o 256, .flat [.seg .u8 64 (z5 64 (List.replicate 64 (0 : Int)) 0 (Nat.min (List.length k) 64) (ib k))])], T zp 106 [.int .u8 92, .sl (.o 1088) 0 0 0 0 1 (some 1), .ptr (.o 256) 0 0 0 0] [(.o 256, .flat [.seg .u8 64 (z5 64 (List.replicate 64 (0 : Int)) 0 (Nat.min (List.length k) 64) (ib k))]), (.o 1088, .flat [.sl (.o 832) 0 0 0 0 32 (some 32)]), (.o 832, .flat [.seg .u8 32 d1])] (.agg [.seg .u8 32 d2]) [(.o 256, .flat [.seg .u8 64 (z5 64 (List.replicate 64 (0 : Int)) 0 (Nat.min (List.length k) 64) (ib k))])]]) : Option (V × c5 × List Prop)) := by kernel_rfl
theorem bR2 (s : ByteArray) (n : Int) :
  f4 zp (bdLe s n) [false] = (some (.int .i64 n, [(.o 0, .flat [.str s, .int .i64 n])], [q false]) : Option (V × c5 × List Prop)) := by kernel_rfl
theorem bj1 (s : ByteArray) (n : Int) :
  f4 zp (bdDe s n) [false, false, false] = (some (.ptr (.o 960) 0 0 0 0, [(.o 960, .flat [.str s, .int .i64 n])], [decide (n < (1 : Int)) = false, decide ((4096 : Int) < n) = false, decide ((64 : Int) < (↑(ByteArray.size s) : Int)) = false]) : Option (V × c5 × List Prop)) := by kernel_rfl
theorem bl5 (s : ByteArray) (n : Int) :
  f4 zp (bdRe s n) [false, false, false] = (some (.tup [.agg [.str s, .int .i64 n], .bool true], [], [decide (n < (1 : Int)) = false, decide ((4096 : Int) < n) = false, decide ((64 : Int) < (↑(ByteArray.size s) : Int)) = false]) : Option (V × c5 × List Prop)) := by kernel_rfl
theorem ck2 (s : ByteArray) :
  f4 zp (bdTz s) [] = (some (.sl (.o 63) 1 0 0 0 (List.length (j3 s)) none, [(.o 63, bs (j3 s))], [T zp 35 [.snil, .int .i64 (↑(ByteArray.size s) : Int)] [] (sb (.o 257) (c6 (↑(ByteArray.size s) : Int))) [(.o 257, bs (c6 (↑(ByteArray.size s) : Int)))], q (List.length (c6 (↑(ByteArray.size s) : Int))), (List.length (c6 (↑(ByteArray.size s) : Int)) + ByteArray.size s) * (1 : Nat) ≤ (140737488355328 : Nat), List.length (c6 (↑(ByteArray.size s) : Int)) + ByteArray.size s = List.length (j3 s), ∀ (k : Nat), k < List.length (c6 (↑(ByteArray.size s) : Int)) + ByteArray.size s → r6 (List.length (c6 (↑(ByteArray.size s) : Int))) (bl (c6 (↑(ByteArray.size s) : Int))) (fun k => [V.int .u8 (B1 s k)]) k = bl (j3 s) k, true = false → true = false, q0, q0, q0, List.length (c6 (↑(ByteArray.size s) : Int)) + ByteArray.size s = List.length (j3 s), (none : Option Nat) = none ∨ (none : Option Nat) = none]) : Option (V × c5 × List Prop)) := by kernel_rfl
theorem bm1 (s : ByteArray) (n : Int) (id : Int) (b : ByteArray) (l1 : List UInt8) (l2 : List UInt8) (kd : List Int) (m : List Int) (t : List Int) :
  f4 zp (bA6 s n id b l1 l2 kd m t) [false, true, true] = (some (.tup [.agg [.seg .u8 16 z16], .int .i64 2], [(.o 0, .flat [.str s, .int .i64 n])], [T zp 40 [.ptr (.o 0) 0 0 0 0] [(.o 0, .flat [.str s, .int .i64 n])] (.int .i64 n) [(.o 0, .flat [.str s, .int .i64 n])], decide (n = (0 : Int)) = false, decide (id < (0 : Int)) = true, q2]) : Option (V × c5 × List Prop)) := by kernel_rfl
theorem bm0 (s : ByteArray) (n : Int) (id : Int) (b : ByteArray) (l1 : List UInt8) (l2 : List UInt8) (kd : List Int) (m : List Int) (t : List Int) :
  f4 zp (bA6 s n id b l1 l2 kd m t) [false, false, true] = (some (.tup [.agg [.seg .u8 16 z16], .int .i64 2], [(.o 0, .flat [.str s, .int .i64 n])], [T zp 40 [.ptr (.o 0) 0 0 0 0] [(.o 0, .flat [.str s, .int .i64 n])] (.int .i64 n) [(.o 0, .flat [.str s, .int .i64 n])], decide (n = (0 : Int)) = false, decide (id < (0 : Int)) = false, decide (n ≤ id) = true]) : Option (V × c5 × List Prop)) := by kernel_rfl
theorem bl_ (s : ByteArray) (n : Int) (id : Int) (b : ByteArray) (l1 : List UInt8) (l2 : List UInt8) (kd : List Int) (m : List Int) (t : List Int) :
  f4 zp (bA6 s n id b l1 l2 kd m t) [false, false, false] = (some (.tup [.agg [.seg .u8 16 t], .int .i64 0], [(.o 0, .flat [.str s, .int .i64 n])], [T zp 40 [.ptr (.o 0) 0 0 0 0] [(.o 0, .flat [.str s, .int .i64 n])] (.int .i64 n) [(.o 0, .flat [.str s, .int .i64 n])], decide (n = (0 : Int)) = false, decide (id < (0 : Int)) = false, decide (n ≤ id) = false, T zp 34 [.snil, .str s] [] (sb (.o 1217) l1) [(.o 1217, bs l1)], T zp 35 [.snil, .int .i64 id] [] (sb (.o 1345) l2) [(.o 1345, bs l2)], T zp 82 [.sl (.o 1409) 0 0 0 0 2 (some 2)] [(.o 1409, .flat [.sl (.o 1217) 1 0 0 0 (List.length l1) none, .sl (.o 1345) 1 0 0 0 (List.length l2) none]), (.o 1217, bs l1), (.o 1345, bs l2)] (.agg [.seg .u8 32 kd]) [], T zp 83 [.sl (.o 1537) 0 0 0 0 32 (some 32), .sl (.o 1857) 1 0 0 0 1 (some 1)] [(.o 1537, .flat [.seg .u8 32 kd]), (.o 1857, .rows 1 1 (j4 [[.ros 1 (ByteArray.size b) (fun q => [.int .u8 (B1 b q)]) false]]) false)] (.agg [.seg .u8 32 m]) [], TO zp (Prim.copy (22 : Nat) (22 : Nat)) [V.sl (Nm.o 1) (0 : Nat) (0 : Nat) (0 : Nat) 0 16 (some 16), V.sl (Nm.o 1985) (0 : Nat) (0 : Nat) (0 : Nat) 0 32 (some 32)] [(Nm.o 1, B.flat [V.seg .u8 (16 : Nat) z16]), (Nm.o 1985, B.flat [V.seg .u8 (32 : Nat) m])] (V.int .i64 (16 : Int)) [(Nm.o 1, B.flat [V.seg .u8 (16 : Nat) t])]]) : Option (V × c5 × List Prop)) := by kernel_rfl
theorem bQ0 (s : ByteArray) (n : Int) (id : Int) (b : ByteArray) (t : List Int) (u : List Int) (e : Int) :
  f4 zp (cg7 s n id b t u e) [true] = (some (.bool (decide (u = t)), [(.o 0, .flat [.str s, .int .i64 n])], [T zp 41 [.ptr (.o 0) 0 0 0 0, .int .i64 id, .str b] [(.o 0, .flat [.str s, .int .i64 n])] (.tup [.agg [.seg .u8 16 u], .int .i64 e]) [(.o 0, .flat [.str s, .int .i64 n])], decide (e = (0 : Int)) = true]) : Option (V × c5 × List Prop)) := by kernel_rfl
theorem bP_ (s : ByteArray) (n : Int) (id : Int) (b : ByteArray) (t : List Int) (u : List Int) (e : Int) :
  f4 zp (cg7 s n id b t u e) [false] = (some (.bool false, [(.o 0, .flat [.str s, .int .i64 n])], [T zp 41 [.ptr (.o 0) 0 0 0 0, .int .i64 id, .str b] [(.o 0, .flat [.str s, .int .i64 n])] (.tup [.agg [.seg .u8 16 u], .int .i64 e]) [(.o 0, .flat [.str s, .int .i64 n])], decide (e = (0 : Int)) = false]) : Option (V × c5 × List Prop)) := by kernel_rfl
def k0 (k : List Int) : List Int := (List.range 64).map fun i => k.getD i 0
theorem cs8 {k : List Int} {x : Int} {ls : Nat → List Int} (hb : (ls 0).length ≤ 1000000000) : T Tryz.prog 106 [.int .u8 x, rbs 1 ls, p0K 0] [(.o 0, .flat [.seg .u8 64 (k0 k)])] (agD (C9 (w6 k x ++ ls 0))) [(.o 0, .flat [.seg .u8 64 (k0 k)])] := by
 have hL : i5 Tryz.prog none 1 (cB (cB (cR (cL (cR (cR (f8 Tryz.f106))))))) (64 + 1) (msI x (k0 k) ls (H4 k x 0) 0) (.exit 0) (msI x (k0 k) ls (H4 k x 64) 64) := by
  have hstep : ∀ j, j < 64 → R Tryz.prog none 1 (cB (cB (cR (cL (cR (cR (f8 Tryz.f106))))))) (msI x (k0 k) ls (H4 k x j) j) .normal (msI x (k0 k) ls (H4 k x (j + 1)) (j + 1)) := by
   intro j hj
   have e := bE9 k x hj
   refine f9 NG MO _ (bY7 x (k0 k) ls (H4 k x j) j (H4 k x (j + 1))) ?_ (by show 1 ≤ 3; decide)
   simp only [All, Int.toNat_natCast, Nat.zero_add]; and_intros
   all_goals first | exact True.intro | exact e | (with_reducible assumption) | (rw [decide_eq_true_eq]; omega) | (intro _ _; exact True.intro) | (simp only [IntKind.min, IntKind.max, IntKind.signed, IntKind.bits, if_true]; omega) | omega | (intro h; exact h)
  have hend : R Tryz.prog none 1 (cB (cB (cR (cL (cR (cR (f8 Tryz.f106))))))) (msI x (k0 k) ls (H4 k x 64) 64) (.exit 0) (msI x (k0 k) ls (H4 k x 64) 64) := by
   refine f9 NG MO _ (bY6 x (k0 k) ls (H4 k x 64) 64 []) ?_ (by show 1 ≤ 3; decide)
   simp only [All]; and_intros
   all_goals first | exact True.intro | (rw [decide_eq_false_iff_not]; omega) | (intro _ _; exact True.intro) | omega | (intro h; exact h)
  exact i5.inv (fun j => msI x (k0 k) ls (H4 k x j) j) 64 hstep hend (by simp)
 have hpl := W8 k x
 rw [show H4 k x 0 = k0 k from br6 k x, bE7] at hL
 generalize k0 k = K at *
 generalize w6 k x = L at *
 have hT : TO Tryz.prog (.append 171 171) [.sl (.o 67) 0 0 0 0 1 (some 1), rbs 1 ls] [(.o 67, .flat [.sl (.o 1) 0 0 0 0 64 (some 64)]), (.o 1, .flat [.seg .u8 64 L])] (.sl (.o 195) 1 0 0 0 2 none) [(.o 195, .rows 1 2 (apF L fun k => [rb (ls k)]) true)] := by
  refine TO.frz (args := [.ros 1 1 (fun _ => [rb L]) true, rbs 1 ls]) (ca9 (base := 195) (cs := [∀ k, k < 1 → s6 [rb (ls k)] = true, 0 < 1, (1 + 1) * 24 ≤ 140737488355328]) (by kernel_rfl) ?_ (fun ρ h => h _ ⟨_, List.mem_cons_self ..⟩)) ?_ ?_
  ·simp only [All]; and_intros
   all_goals first | exact True.intro | (intro k _; rfl) | omega
  ·intro U ρ w xs H hv
   obtain ⟨y, z, rfl, h1, h2⟩ := aL8 hv
   rw [j1]; refine ⟨y, _, rfl, ?_, ?_⟩
   ·refine ah7 H (List.mem_cons_self ..) h1 (fun _ => rfl) (by simp [V.cell]) fun i hi => ⟨rfl, .sl (.o 1) 0 0 0 0 64 (some 64), by obtain rfl : i = 0 := (by omega); rfl, fun z hz => ?_⟩
    exact aC3 (m := 64) (xs := L) H (List.mem_cons_of_mem _ (List.mem_cons_self ..)) (by rw [hpl]; exact hz) (by omega) (fun _ _ => rfl)
   ·rw [j1]; refine ⟨z, _, rfl, e9.ros (H8 H).1 h2, ?_⟩
    rw [j1]
  ·rintro n ⟨b, hb⟩ ⟨b', hb'⟩
   simp only [List.mem_cons, List.mem_nil_iff, or_false, Prod.mk.injEq] at hb hb'
   rw [hb.1] at hb'
   rcases hb' with ⟨h, _⟩ | ⟨h, _⟩ <;> cases h
 have hS : T Tryz.prog 82 [.sl (.o 195) 1 0 0 0 2 none] [(.o 195, .rows 1 2 (apF L fun k => [rb (ls k)]) true)] (agD (C9 (L ++ ls 0))) [] := by
  refine T.frz (bK8 (fun i => if i = 0 then L else ls 0) (by simp only [if_true]; rw [if_neg (by decide)]; omega)) (aB0 rfl ?_) (by rintro n ⟨b, hb⟩; cases hb)
  and_intros
  all_goals first | exact True.intro | (intro k hk; rcases k with _ | _ | k <;> first | rfl | omega) | with_reducible rfl | omega | (intro h; cases h; done)
 generalize C9 (L ++ ls 0) = d at *
 refine f5 (ci3 x K ls L d) Tryz.func106 ?_
 simp only [All]; and_intros
 all_goals first | exact True.intro | exact hL | exact hT | exact hS | rfl | (intro _ _; exact True.intro) | (intro h; exact h)
theorem bK1 {k : List Int} {x : Int} {ls : Nat → List Int} (hb : (ls 0).length ≤ 1000000000) (m : Nat) : T Tryz.prog 106 [.int .u8 x, rbs 1 ls, p0K m] [(.o m, .flat [.seg .u8 64 (k0 k)])] (agD (C9 (w6 k x ++ ls 0))) [(.o m, .flat [.seg .u8 64 (k0 k)])] := by
 obtain ⟨σ, hσ, h3⟩ := T.at (cs8 (k := k) (x := x) hb) [.o 0] [.o m] (by decide) (by simp) rfl
 simp only [List.map_cons, List.map_nil, List.cons.injEq, and_true] at hσ
 simpa [V.rens, V.ren, c5.ren, Sy.B.ren, agD, rbs, p0K, hσ] using h3
theorem cl3 {k : List Int} (hk : k.length ≤ 64) : z5 64 (List.replicate 64 0) 0 (Nat.min k.length 64) (ib k) = k0 k := by
 unfold z5 k0
 apply List.map_congr_left
 intro q hq
 have hq := List.mem_range.1 hq
 have hm : Nat.min k.length 64 = k.length := Nat.min_eq_left hk
 rw [hm]
 have hb : q.blt (0 + k.length) = decide (q < k.length) := by rw [Bool.eq_iff_iff, Nat.blt_eq, decide_eq_true_eq]; omega
 have h0 : Nat.ble 0 q = true := by rw [Nat.ble_eq]; exact Nat.zero_le _
 rw [h0, hb]
 by_cases h : q < k.length
 ·rw [decide_eq_true h]; rfl
 ·rw [decide_eq_false h]
  show (List.replicate 64 (0 : Int)).getD q 0 = _
  rw [List.getD_eq_getElem?_getD, List.getD_eq_getElem?_getD, List.getElem?_eq_none (l := k) (by omega), List.getElem?_replicate, if_pos hq]; rfl
theorem cs7 {k d : List Int} {x : Int} (hd : d.length = 32) : T Tryz.prog 106 [.int .u8 x, .sl (.o 1088) 0 0 0 0 1 (some 1), p0K 256] [(.o 256, .flat [.seg .u8 64 (k0 k)]), (.o 1088, .flat [.sl (.o 832) 0 0 0 0 32 (some 32)]), (.o 832, .flat [.seg .u8 32 d])] (agD (C9 (w6 k x ++ d))) [(.o 256, .flat [.seg .u8 64 (k0 k)])] := by
 refine T.frzH (pre1 := [(.o 1088, .flat [.sl (.o 832) 0 0 0 0 32 (some 32)]), (.o 832, .flat [.seg .u8 32 d])]) (bK1 (k := k) (x := x) (ls := fun _ => d) (by rw [hd]; decide) 256) ?_ ?_
 ·intro U ρ w xs H hv
  rw [j1] at hv
  obtain ⟨a, r, rfl, h0, hv⟩ := hv
  obtain ⟨y, z, rfl, h1, h2⟩ := aL8 hv
  rw [j1]; refine ⟨a, _, rfl, e9.mono (H8 H).1 (fun _ _ h => h) h0, ?_⟩
  rw [j1]; refine ⟨y, _, rfl, ?_, ?_⟩
  ·refine ah7 (f := fun _ => rb d) H (List.mem_cons_self ..) h1 (fun h => by cases h) (by simp [V.cell]) fun i hi => ⟨rfl, .sl (.o 832) 0 0 0 0 32 (some 32), by obtain rfl : i = 0 := (by omega); rfl, fun z hz => ?_⟩
   exact aC3 (m := 32) (xs := d) H (List.mem_cons_of_mem _ (List.mem_cons_self ..)) (by rw [hd]; exact hz) (by omega) (fun _ _ => rfl)
  ·rw [j1]; refine ⟨z, _, rfl, e9.mono (H8 H).1 (fun _ _ h => h) h2, ?_⟩
   rw [j1]
 ·rintro n ⟨b, hb⟩ ⟨b', hb'⟩
  simp only [List.mem_cons, List.mem_nil_iff, or_false, Prod.mk.injEq] at hb hb'
  rw [hb.1] at hb'
  rcases hb' with ⟨h, _⟩ | ⟨h, _⟩ <;> cases h
theorem T_ma {k : List Int} (hk : k.length ≤ 64) {ls : Nat → List Int} (hb : (ls 0).length ≤ 1000000000) : T Tryz.prog 83 [rb k, rbs 1 ls] [] (agD (W0 k (ls 0))) [] := by
 have hs := cl3 hk
 have h1 := bK1 (k := k) (x := 54) hb 256
 have hl := T4 (w6 k 54 ++ ls 0)
 have h2 := cs7 (k := k) (x := 92) hl
 have e : W0 k (ls 0) = C9 (w6 k 92 ++ C9 (w6 k 54 ++ ls 0)) := rfl
 rw [← e] at h2
 generalize W0 k (ls 0) = d2 at *
 generalize C9 (w6 k 54 ++ ls 0) = d1 at *
 rw [← hs] at h1 h2
 refine f5 (bR9 k ls d1 d2) Tryz.func83 ?_
 simp only [All]; and_intros
 all_goals first | exact True.intro | exact h1 | exact h2 | (rw [decide_eq_false_iff_not]; omega) | (intro _ _; exact True.intro) | omega
theorem a_7 (s : ByteArray) (n : Int) : T Tryz.prog 40 [p0K 0] [(.o 0, kyB s n)] (.int .i64 n) [(.o 0, kyB s n)] := by
 refine f5 (bR2 s n) Tryz.func40 ?_
 simp only [All]; and_intros
 all_goals first | exact True.intro
theorem T_de {s : ByteArray} {n : Int} (hs : s.size ≤ 64) (hn : 1 ≤ n ∧ n ≤ 4096) (m : Nat) : T Tryz.prog 39 [.str s, .int .i64 n] [] (p0K m) [(.o m, kyB s n)] := by
 have h : T Tryz.prog 39 [.str s, .int .i64 n] [] (p0K 960) [(.o 960, kyB s n)] := by
  refine f5 (bj1 s n) Tryz.func39 ?_
  simp only [All]; and_intros
  all_goals first | exact True.intro | (rw [decide_eq_false_iff_not]; omega)
 obtain ⟨σ, hσ, h3⟩ := T.at h [.o 960] [.o m] (by decide) (by simp) rfl
 simp only [List.map_cons, List.map_nil, List.cons.injEq, and_true] at hσ
 simpa [V.rens, V.ren, c5.ren, Sy.B.ren, kyB, p0K, hσ] using h3
theorem T_re {s : ByteArray} {n : Int} (hs : s.size ≤ 64) (hn : 1 ≤ n ∧ n ≤ 4096) : T Tryz.prog 38 [.str s, .int .i64 n] [] (.tup [kyV s n, .bool true]) [] := by
 refine f5 (bl5 s n) Tryz.func38 ?_
 simp only [All]; and_intros
 all_goals first | exact True.intro | (rw [decide_eq_false_iff_not]; omega)
theorem T_tz {s : ByteArray} (hs : s.size ≤ 1099511627776) (m : Nat) : T Tryz.prog 34 [.snil, .str s] [] (sb (.o m) (j3 s)) [(.o m, bs (j3 s))] := by
 have hz := D2 (n := s.size) (by omega)
 have e : j3 s = c6 s.size ++ m4 s := am4 s
 have h9 := m9 hz
 have hle : (c6 (s.size : Int)).length + s.size = (j3 s).length := by rw [e, List.length_append (bs := m4 s), K4]
 have h : T Tryz.prog 34 [.snil, .str s] [] (sb (.o 63) (j3 s)) [(.o 63, bs (j3 s))] := by
  refine f5 (ck2 s) Tryz.func34 ?_
  simp only [All]; and_intros
  all_goals first | exact au0 hz | exact hle | omega | (rw [e, I2 (c6 (s.size : Int)) (m4 s)]; intro k _; rfl) | simp
 obtain ⟨σ, hσ, h3⟩ := T.at h [.o 63] [.o m] (by decide) (by simp) rfl
 simp only [List.map_cons, List.map_nil, List.cons.injEq, and_true] at hσ
 simpa [V.rens, V.ren, c5.ren, Sy.B.ren, sb, bs, hσ] using h3
theorem cw_ (b : ByteArray) : V.ros 1 b.size (fun q => [V.int IntKind.u8 (B1 b q)]) false = rb (bI b) := by
 rw [rb, ay7]
 congr 1
 funext q
 show _ = [V.int .u8 ((bI b).getD q 0)]
 rw [bi3]
theorem ca7 (m : List Int) : z5 16 (List.replicate 16 0) 0 (Nat.min 32 16) (ib m) = ac4 m := by
 unfold z5 ac4
 apply List.map_congr_left
 intro q hq
 have hq := List.mem_range.1 hq
 have hb : q.blt (0 + Nat.min 32 16) = true := by rw [Nat.blt_eq]; show q < 0 + 16; omega
 have h0 : Nat.ble 0 q = true := by rw [Nat.ble_eq]; exact Nat.zero_le _
 rw [h0, hb]; rfl
theorem bw1 {s : ByteArray} (hs : s.size ≤ 1000) {n id : Int} (hn : n ≠ 0) (hi : id < 9223372036854775808) {b : ByteArray} (hb : b.size ≤ 1000000000) : T Tryz.prog 41 [p0K 0, .int .i64 id, .str b] [(.o 0, kyB s n)] (.tup [.agg [.seg .u8 16 (C2 s n id b)], .int .i64 (K3 n id)]) [(.o 0, kyB s n)] := by
 have hle := a_7 s n
 by_cases h0 : id < 0
 ·rw [C2, K3, if_neg (by omega), if_neg (by omega)]
  refine f5 (bm1 s n id b [] [] [] [] []) Tryz.func41 ?_
  simp only [All]; and_intros
  all_goals first | exact True.intro | exact hle | (rw [decide_eq_true_eq]; omega) | (rw [decide_eq_false_iff_not]; omega)
 ·by_cases h1 : n ≤ id
  ·rw [C2, K3, if_neg (by omega), if_neg (by omega)]
   refine f5 (bm0 s n id b [] [] [] [] []) Tryz.func41 ?_
   simp only [All]; and_intros
   all_goals first | exact True.intro | exact hle | (rw [decide_eq_true_eq]; omega) | (rw [decide_eq_false_iff_not]; omega)
  ·rw [C2, K3, if_pos (by omega), if_pos (by omega)]
   have hi2 : p9 id := ⟨by omega, by omega⟩
   have hta := T_tz (s := s) (by omega) 1217
   have htb := au0 hi2 (m := 1345)
   have hl1 := Q2 (s := s) (by omega)
   have hl2 := m9 hi2
   rw [aq8, cp5]
   generalize j3 s = l1 at *
   generalize c6 id = l2 at *
   have hsu : T Tryz.prog 82 [.sl (.o 1409) 0 0 0 0 2 (some 2)] [(.o 1409, .flat [.sl (.o 1217) 1 0 0 0 l1.length none, .sl (.o 1345) 1 0 0 0 l2.length none]), (.o 1217, bs l1), (.o 1345, bs l2)] (agD (C9 (uI l1 ++ uI l2))) [] := by
    refine T.frz (bK8 (fun i => if i = 0 then uI l1 else uI l2) (by simp only [if_true]; rw [if_neg (by decide), ac6, ac6]; omega)) ?_ (by rintro n ⟨b, hb⟩; cases hb)
    intro U ρ w xs H hv
    rw [j1] at hv
    obtain ⟨y, r, rfl, h1, h2⟩ := hv
    rw [j1]; refine ⟨y, _, rfl, ?_, by rw [j1] at h2 ⊢; exact h2⟩
    refine ah7 H (List.mem_cons_self ..) h1 (fun h => by cases h) (by simp [V.cell]) fun i hi => ?_
    rcases i with _ | _ | i
    ·refine ⟨rfl, .sl (.o 1217) 1 0 0 0 l1.length none, rfl, fun z hz => e9.ros (Imm.le_refl _) (Y5 (H8 H).1 (H8 H).2.1 _ (rb (uI l1)) _ z rfl ?_ hz)⟩
     and_intros
     all_goals first | exact True.intro | exact (ac6 l1).symm | (intro k _; rw [Nat.zero_add]; exact bd_ l1 k) | omega | (intro h; cases h; done)
    ·refine ⟨rfl, .sl (.o 1345) 1 0 0 0 l2.length none, rfl, fun z hz => e9.ros (Imm.le_refl _) (Y5 (H8 H).1 (H8 H).2.1 _ (rb (uI l2)) _ z rfl ?_ hz)⟩
     and_intros
     all_goals first | exact True.intro | exact (ac6 l2).symm | (intro k _; rw [Nat.zero_add]; exact bd_ l2 k) | omega | (intro h; cases h; done)
    ·omega
   have hkl := T4 (uI l1 ++ uI l2)
   generalize C9 (uI l1 ++ uI l2) = kd at *
   have hma : T Tryz.prog 83 [.sl (.o 1537) 0 0 0 0 32 (some 32), .sl (.o 1857) 1 0 0 0 1 (some 1)] [(.o 1537, .flat [.seg .u8 32 kd]), (.o 1857, .rows 1 1 (j4 [[.ros 1 b.size (fun q => [V.int IntKind.u8 (B1 b q)]) false]]) false)] (agD (W0 kd (bI b))) [] := by
    refine T.frz (T_ma (k := kd) (by omega) (ls := fun _ => bI b) (by rw [ay7]; exact hb)) (aB0 rfl ?_) (by rintro n ⟨b, hb⟩; cases hb)
    and_intros
    all_goals first | exact True.intro | exact hkl.symm | (intro k hk; obtain rfl : k = 0 := (by omega); show [V.ros 1 b.size (fun q => [V.int IntKind.u8 (B1 b q)]) false] = [rb (bI b)]; rw [cw_]) | (intro k hk; rw [Nat.zero_add]; rfl) | with_reducible rfl | omega | (intro h; cases h; done)
   have hml := aS5 kd (bI b)
   generalize W0 kd (bI b) = m at *
   have hcp : TO Tryz.prog (.copy 22 22) [.sl (.o 1) 0 0 0 0 16 (some 16), .sl (.o 1985) 0 0 0 0 32 (some 32)] [(.o 1, .flat [.seg .u8 16 (List.replicate 16 0)]), (.o 1985, .flat [.seg .u8 32 m])] (.int .i64 16) [(.o 1, .flat [.seg .u8 16 (ac4 m)])] := by
    rw [← ca7 m]
    refine TO.frzH (pre0 := [(.o 1, .flat [.seg .u8 16 (List.replicate 16 0)])]) (pre1 := [(.o 1985, .flat [.seg .u8 32 m])]) (ca_ (d := .sl (.o 1) 0 0 0 0 16 (some 16)) (s := .ros 1 32 (ib m) false) (cs := [0 + 16 ≤ 16, ∀ q, q < 32 → isK .u8 (ib m q) = true]) (by kernel_rfl) ?_) (aB0 rfl ?_) ?_
    ·simp only [All]; and_intros
     all_goals first | exact True.intro | (intro q _; rfl) | omega
    ·and_intros
     all_goals first | exact True.intro | exact .inr rfl | (intro k hk; rw [Nat.zero_add]; rfl) | with_reducible rfl | omega | (intro h; cases h; done)
    ·rintro n ⟨b, hb⟩ ⟨b', hb'⟩
     simp only [List.mem_cons, List.mem_nil_iff, or_false, Prod.mk.injEq] at hb hb'
     rw [hb.1] at hb'
     cases hb'.1
   generalize ac4 m = tg at *
   refine f5 (bl_ s n id b l1 l2 kd m tg) Tryz.func41 ?_
   simp only [All]; and_intros
   all_goals first | exact True.intro | exact hle | exact hta | exact htb | exact hsu | exact hma | exact hcp | (rw [decide_eq_false_iff_not]; omega)
theorem cb1 {s : ByteArray} (hs : s.size ≤ 1000) {n id : Int} (hn : n ≠ 0) (hi : id < 9223372036854775808) {b : ByteArray} (hb : b.size ≤ 1000000000) (t : List Int) : T Tryz.prog 23 [p0K 0, .int .i64 id, .str b, .agg [.seg .u8 16 t]] [(.o 0, kyB s n)] (.bool (V7 s n id b t)) [(.o 0, kyB s n)] := by
 have h := bw1 hs (n := n) hn hi hb
 by_cases h0 : 0 ≤ id ∧ id < n
 ·have e : V7 s n id b t = decide (C2 s n id b = t) := by rw [V7, decide_eq_true h0, Bool.true_and, C2, if_pos h0]
  have e2 : K3 n id = 0 := by rw [K3, if_pos h0]
  rw [e]
  generalize C2 s n id b = u at *
  refine f5 (bQ0 s n id b t u (K3 n id)) Tryz.func23 ?_
  simp only [All]; and_intros
  all_goals first | exact True.intro | exact h | (rw [decide_eq_true_eq]; omega)
 ·have e : V7 s n id b t = false := by rw [V7, decide_eq_false h0, Bool.false_and]
  have e2 : K3 n id = 2 := by rw [K3, if_neg h0]
  rw [e]
  generalize C2 s n id b = u at *
  refine f5 (bP_ s n id b t u (K3 n id)) Tryz.func23 ?_
  simp only [All]; and_intros
  all_goals first | exact True.intro | exact h | (rw [decide_eq_false_iff_not]; omega)
def rS : ByteArray := ByteArray.mk (Array.mk [114])
def xB : ByteArray := ByteArray.mk (Array.mk [120])
def eB : ByteArray := ByteArray.mk (Array.mk [])
def rqP (t : List Int) : SReq := { client := 1, num := 1, data := xB, tag := t }
def bP : ByteArray := baL (U8 (rqP []))
def K2 (r : SReq) : SMsg := { j2 1 with epoch := 1, slot := 1, batch := { noop := false, n := 1, req := fun _ => r } }
def clP (t : List Int) : SEnv := { src := 5, body := bP, tag := t }
def clR (cs : List V) : B := .rows 18 1 (fun _ => cs) true
def clS (n : Nm) : V := .sl n 18 0 0 0 1 none
noncomputable def bdKs : Bd := { f := Tryz.f12, args := [], kb := { db := dbQ [(39, fun _ _ lo => [{ val := p0K lo, post := [(.o lo, kyB rS 72)] }]), (38, O3 (.tup [kyV rS 72, .bool true]))] }, names := fun t => match r9 t.tmps 0 with | .ptr a _ _ _ _ => [a] | _ => [] }
noncomputable def bdMy (t : List Int) : Bd := { f := Tryz.f67, args := [.int .i64 8, .agg (rqP t).c], kb := kb0 }
noncomputable def bdMk (t : List Int) : Bd := { f := Tryz.f21, args := [p0K 0, .int .i64 4, .int .i64 1, .int .i64 1, .str xB], pre := [(.o 0, kyB rS 72)], base := 1, kb := { db := dbQ [(40, fun _ _ _ => [{ rd := [.o 0], val := .int .i64 72 }]), (67, O3 (.bool true)), (68, O3 (.str bP)), (41, fun _ _ _ => [{ rd := [.o 0], val := .tup [.agg [.seg .u8 16 t], .int .i64 0] }])] }, names := fun _ => [.o 0] }
noncomputable def cu0 (m : SMsg) (s : ByteArray) (e : Int) : Bd := { f := Tryz.f102, args := [.agg m.c], kb := { db := dbQ [(19, O3 (.tup [.str s, .int .i64 e]))] } }
noncomputable def cw4 (v : SVote) (s : ByteArray) : Bd := { f := Tryz.f72, args := [.agg v.c], kb := { db := dbQ [(102, O3 (.str s))] } }
def kC1 (cs : List V) : Exit → St → Option W := fun _ st => match B3 (.o 0) st.heap with
 | some (.flat [.sl a _ _ _ _ _ _], _) => some ⟨[(.o 63, a)], [], [(.o 0, .set (.flat [clS (.o 63)])), (.o 63, .set (clR cs)), (.o 1, .keep)], none, st.next⟩
 | _ => none
noncomputable def bdC1 (t : List Int) : Bd := { f := Tryz.f69, args := [.agg [.bool false, rq 1 (fun _ => rqP t)], .ptr (.o 0) 0 0 0 0, .ptr (.o 1) 0 0 0 0], pre := [(.o 0, .flat [.snil]), (.o 1, .flat [.int .i64 4])], base := 2, kb := { db := dbQ [(68, O3 (.str bP))], lp := fun _ _ => [(True, .rounds 2)] }, names := fun _ => [.o 0, .o 63, .o 1], k := kC1 (clP t).c }
noncomputable def bdC2 (s : Nat → SSign) (b : ByteArray) : Bd := { f := Tryz.f70, args := [sg 0 s, .str b, .any], kb := { db := fun _ _ _ _ => [], lp := fun _ _ => [(True, .rounds 1)] } }
def fnB : B := .flat [.fn (.func 69) [] [.ptr (.o 2) 0 0 0 0, .ptr (.o 3) 0 0 0 0]]
def fnS : B := .flat [.fn (.func 70) [] [.ptr (.o 2) 0 0 0 0]]
def kC3 (cs : List V) : Exit → St → Option W := fun _ st => match B3 (.o 2) st.heap with
 | some (.flat [.sl a _ _ _ _ _ _], _) => some ⟨[(.o 63, a)], [], [(.o 2, .set (.flat [clS (.o 63)])), (.o 63, .set (clR cs)), (.o 0, .set fnB), (.o 1, .set fnS), (.o 3, .keep)], none, st.next⟩
 | _ => none
def c1C (t : List Int) : List V → c5 → Nat → List Cl := fun _ _ lo => [{ pre := [.o 2], rd := [.o 3], val := .tup [], post := [(.o 2, .flat [clS (.o lo)]), (.o lo, clR (clP t).c)] }]
noncomputable def bdC3 (t : List Int) : Bd := { f := Tryz.f71, args := [.agg (K2 (rqP t)).c, .ptr (.o 0) 0 0 0 0, .ptr (.o 1) 0 0 0 0], pre := [(.o 2, .flat [.snil]), (.o 0, fnB), (.o 1, fnS), (.o 3, .flat [.int .i64 4])], base := 4, kb := { db := dbQ [(69, c1C t), (70, O3 (.tup [])), (72, O3 (.str eB))], lp := fun _ _ => [(True, .rounds 1)] }, names := fun _ => [.o 2, .o 63, .o 0, .o 1, .o 3], k := kC3 (clP t).c }
def c3C (t : List Int) : List V → c5 → Nat → List Cl := fun a h lo => match a with
 | [_, .ptr c7 _ _ _ _, .ptr c8 _ _ _ _] => match B3 c7 h with
  | some (.flat [.fn _ _ [.ptr o _ _ _ _, .ptr n _ _ _ _]], _) => [{ pre := [o], rd := [c7, c8, n], val := .tup [], post := [(o, .flat [clS (.o lo)]), (.o lo, clR (clP t).c)] }]
  | _ => []
 | _ => []
def nmCl (st : St) : List Nm := match r9 st.tmps 4 with
 | .ptr c _ _ _ _ => match B3 c st.heap with
  | some (.flat [.sl a _ _ _ _ _ _], _) => [a]
  | _ => []
 | _ => []
noncomputable def bdCl (t : List Int) (s : ByteArray) : Bd := { f := Tryz.f22, args := [.int .i64 4, .str s], kb := { db := dbQ [(42, O3 (.tup [.agg (K2 (rqP t)).c, .int .i64 0])), (71, c3C t)], lp := fun _ _ => [(True, .rounds 1)] }, names := nmCl }
def rdK (v : V) : List V → c5 → Nat → List Cl := fun a _ _ => match a with
 | .ptr k _ _ _ _ :: _ => [{ rd := [k], val := v }]
 | _ => []
def enC (s : ByteArray) : List V → c5 → Nat → List Cl := fun a _ _ => match a with
 | [.agg (_ :: _ :: _ :: _ :: _ :: _ :: .sl n _ _ _ _ _ _ :: _)] => [{ pre := [n], val := .tup [.str s, .int .i64 0] }]
 | _ => []
def ksC : List V → c5 → Nat → List Cl := fun _ _ lo => [{ val := .tup [p0K lo, kyV rS 72], post := [(.o lo, kyB rS 72)] }]
def clC (t : List Int) : List V → c5 → Nat → List Cl := fun _ _ lo => [{ val := clS (.o lo), post := [(.o lo, clR (clP t).c)] }]
noncomputable def bdLv (t : List Int) (s : ByteArray) : Bd := { f := Tryz.f7, args := [], kb := { db := dbQ [(12, ksC), (21, rdK (.tup [.agg (rqP t).c, .int .i64 0])), (19, enC s), (22, clC t), (23, rdK (.bool true))] } }
theorem ch4 :
  f4 zp (bdKs) [] = (some (.tup [.ptr (.o 576) 0 0 0 0, .agg [.str rS, .int .i64 72]], [(.o 576, .flat [.str rS, .int .i64 72])], [T zp 38 [.str (ByteArray.mk (Array.mk [(114 : UInt8)])), .int .i64 72] [] (.tup [.agg [.str rS, .int .i64 72], .bool true]) [], T zp 39 [.str (ByteArray.mk (Array.mk [(114 : UInt8)])), .int .i64 72] [] (.ptr (.o 576) 0 0 0 0) [(.o 576, .flat [.str rS, .int .i64 72])]]) : Option (V × c5 × List Prop)) := by kernel_rfl
theorem bc1 (t : List Int) :
  f4 zp (bdMy t) [true, true, true, true] = (some (.bool true, [], [q2, q2, q2, q2]) : Option (V × c5 × List Prop)) := by kernel_rfl
theorem aW5 (t : List Int) :
  f4 zp (bdMk t) [false, false, false, false, false] = (some (.tup [.agg [.int .i64 1, .int .i64 1, .str xB, .seg .u8 16 t], .int .i64 0], [(.o 0, .flat [.str rS, .int .i64 72])], [T zp 40 [.ptr (.o 0) 0 0 0 0] [(.o 0, .flat [.str rS, .int .i64 72])] (.int .i64 72) [(.o 0, .flat [.str rS, .int .i64 72])], q false, T zp 67 [.int .i64 8, .agg [.int .i64 1, .int .i64 1, .str xB, .seg .u8 16 z16]] [] (.bool true) [], q false, q false, q false, InR .i64 (5 : Int), T zp 68 [.agg [.int .i64 1, .int .i64 1, .str xB, .seg .u8 16 z16]] [] (.str bP) [], T zp 41 [.ptr (.o 0) 0 0 0 0, .int .i64 5, .str bP] [(.o 0, .flat [.str rS, .int .i64 72])] (.tup [.agg [.seg .u8 16 t], .int .i64 0]) [(.o 0, .flat [.str rS, .int .i64 72])], q false]) : Option (V × c5 × List Prop)) := by kernel_rfl
theorem bP5 (m : SMsg) (s : ByteArray) (e : Int) :
  f4 zp (cu0 m s e) [] = (some (.str s, [], [T zp 19 [.agg (SMsg.c m)] [] (.tup [.str s, .int .i64 e]) []]) : Option (V × c5 × List Prop)) := by kernel_rfl
theorem bT4 (v : SVote) (s : ByteArray) :
  f4 zp (cw4 v s) [] = (some (.str s, [], [T zp 102 [.agg [.int .i64 2, .int .i64 0, .int .i64 0, .int .i64 0, .int .i64 0, .bool false, .snil, .int .i64 (SVote.kind v), .int .i64 (SVote.epoch v), .int .i64 (SVote.view v), .int .i64 (SVote.slot v), .seg .u8 32 (SVote.digest v), .int .i64 0, .int .i64 0, .int .i64 0, .snil, .snil, .seg .u8 32 z32, .int .i64 0, .int .i64 0, .int .i64 0, .int .i64 0, .seg .u8 32 z32, .snil, .str ByteArray.empty, .snil]] [] (.str s) []]) : Option (V × c5 × List Prop)) := by kernel_rfl
theorem bx2 (t : List Int) :
  f4 zp (bdC1 t) [true, false] = (some (.tup [], [(.o 0, .flat [.sl (.o 63) 18 0 0 0 1 none]), (.o 63, .rows 18 1 (fun x => SEnv.c (SEnv.mk (5 : Int) bP t)) true), (.o 1, .flat [.int .i64 4])], [q2, (0 : Int) ≤ (0 : Int) ∧ (0 : Int) < (1 : Int), InR .i64 (5 : Int), T zp 68 [.agg [.int .i64 1, .int .i64 1, .str xB, .seg .u8 16 t]] [] (.str bP) [], 1 ≤ (1 : Nat), ∀ (k : Nat), k < (1 : Nat) → s6 (j4 [[V.int .i64 (5 : Int), V.str bP, V.seg .u8 (16 : Nat) t]] ((0 : Nat) + k)) = true, 40 ≤ (140737488355328 : Nat), InR .i64 (1 : Int), q false, q0, q0, q0, 1 = (1 : Nat), (none : Option Nat) = none ∨ (none : Option Nat) = none, 1 = (1 : Nat), ∀ (k : Nat), k < 1 → r6 (0 : Nat) (fun x => []) (fun k => j4 [[V.int .i64 (5 : Int), V.str bP, V.seg .u8 (16 : Nat) t]] ((0 : Nat) + k)) k = SEnv.c (SEnv.mk (5 : Int) bP t), true = false → true = false, q2]) : Option (V × c5 × List Prop)) := by kernel_rfl
theorem bP6 (s : Nat → SSign) (b : ByteArray) :
  f4 zp (bdC2 s b) [false] = (some (.tup [], [], [q false]) : Option (V × c5 × List Prop)) := by kernel_rfl
theorem bP7 (t : List Int) :
  f4 zp (bdC3 t) [false] = (some (.tup [], [(.o 2, .flat [.sl (.o 63) 18 0 0 0 1 none]), (.o 63, .rows 18 1 (fun x => SEnv.c (SEnv.mk (5 : Int) bP t)) true), (.o 0, .flat [.fn (.func (69 : FuncId)) [] [.ptr (.o 2) 0 0 0 0, .ptr (.o 3) 0 0 0 0]]), (.o 1, .flat [.fn (.func (70 : FuncId)) [] [.ptr (.o 2) 0 0 0 0]]), (.o 3, .flat [.int .i64 4])], [T zp (69 : FuncId) [.agg [.bool false, rq 1 fun x => SReq.mk (1 : Int) (1 : Int) xB t], .ptr (.o 2) 0 0 0 0, .ptr (.o 3) 0 0 0 0] [(.o 2, .flat [.snil]), (.o 3, .flat [.int .i64 4])] (.tup []) [(.o 2, .flat [.sl (.o 260) 18 0 0 0 1 none]), (.o 260, .rows 18 1 (fun x => SEnv.c (SEnv.mk (5 : Int) bP t)) true), (.o 3, .flat [.int .i64 4])], q false, T zp 72 [.agg [.int .i64 0, .int .i64 0, .int .i64 0, .int .i64 0, .seg .u8 32 z32]] [] (.str eB) [], T zp (70 : FuncId) [.ros 17 0 (fun i => SSign.c (SSign.mk (0 : Int) [])) false, .str eB, .ptr (.o 2) 0 0 0 0] [] (.tup []) [], T zp (70 : FuncId) [.ros 17 0 (fun i => SSign.c (SSign.mk (0 : Int) [])) false, .str (ByteArray.mk (Array.mk [])), .ptr (.o 2) 0 0 0 0] [] (.tup []) [], q0, q0, q0, q (1 : Nat), (none : Option Nat) = none ∨ (none : Option Nat) = none, q (1 : Nat), ∀ (k : Nat), k < (1 : Nat) → SEnv.c (SEnv.mk (5 : Int) bP t) = SEnv.c (SEnv.mk (5 : Int) bP t), true = false → true = false, q0, q0, q0, q0, q0, q0, q0, q0, q0, q2]) : Option (V × c5 × List Prop)) := by kernel_rfl
theorem ba6 (t : List Int) (s : ByteArray) :
  f4 zp (bdCl t s) [false, false, false, false] = (some (.sl (.o 1920) 18 0 0 0 1 none, [(.o 1920, .rows 18 1 (fun x => SEnv.c (SEnv.mk (5 : Int) bP t)) true)], [T zp 42 [.str s] [] (.tup [.agg (SMsg.c (SMsg.mk (1 : Int) (1 : Int) (0 : Int) (0 : Int) (1 : Int) (SBatch.mk false 1 fun x => SReq.mk (1 : Int) (1 : Int) xB t) L4 (0 : Int) (0 : Int) (0 : Int) 0 (fun x => SHeld.mk (SBatch.mk false 0 fun x => SReq.mk (0 : Int) (0 : Int) ByteArray.empty []) (SCert.mk (SVote.mk (0 : Int) (0 : Int) (0 : Int) (0 : Int) []) 0 fun x => SSign.mk (0 : Int) [])) 0 (fun x => SEnv.mk (0 : Int) ByteArray.empty []) z32 (SCert.mk L4 0 fun x => SSign.mk (0 : Int) []) ByteArray.empty 0 fun x => SSign.mk (0 : Int) [])), .int .i64 0]) [], q false, q false, q false, T zp 71 [.agg [.int .i64 1, .int .i64 1, .int .i64 0, .int .i64 0, .int .i64 1, .bool false, rq 1 fun x => SReq.mk (1 : Int) (1 : Int) xB t, .int .i64 0, .int .i64 0, .int .i64 0, .int .i64 0, .seg .u8 32 z32, .int .i64 0, .int .i64 0, .int .i64 0, hl 0 fun x => SHeld.mk (SBatch.mk false 0 fun x => SReq.mk (0 : Int) (0 : Int) ByteArray.empty []) (SCert.mk (SVote.mk (0 : Int) (0 : Int) (0 : Int) (0 : Int) []) 0 fun x => SSign.mk (0 : Int) []), nw 0 fun x => SEnv.mk (0 : Int) ByteArray.empty [], .seg .u8 32 z32, .int .i64 0, .int .i64 0, .int .i64 0, .int .i64 0, .seg .u8 32 z32, sg 0 fun x => SSign.mk (0 : Int) [], .str ByteArray.empty, sg 0 fun x => SSign.mk (0 : Int) []], .ptr (.o 1344) 0 0 0 0, .ptr (.o 1536) 0 0 0 0] [(.o 64, .flat [.snil]), (.o 1344, .flat [.fn (.func 69) [] [.ptr (.o 64) 0 0 0 0, .ptr (.o 0) 0 0 0 0]]), (.o 1536, .flat [.fn (.func 70) [] [.ptr (.o 64) 0 0 0 0]]), (.o 0, .flat [.int .i64 4])] (.tup []) [(.o 64, .flat [.sl (.o 1920) 18 0 0 0 1 none]), (.o 1920, .rows 18 1 (fun x => SEnv.c (SEnv.mk (5 : Int) bP t)) true), (.o 1344, .flat [.fn (.func 69) [] [.ptr (.o 64) 0 0 0 0, .ptr (.o 0) 0 0 0 0]]), (.o 1536, .flat [.fn (.func 70) [] [.ptr (.o 64) 0 0 0 0]]), (.o 0, .flat [.int .i64 4])], q false]) : Option (V × c5 × List Prop)) := by kernel_rfl
theorem bb3 (t : List Int) (s : ByteArray) :
  f4 zp (bdLv t s) [true, true, true, true] = (some (.bool true, [], [T zp 12 [] [] (.tup [.ptr (.o 64) 0 0 0 0, .agg [.str rS, .int .i64 72]]) [(.o 64, .flat [.str rS, .int .i64 72])], T zp 21 [.ptr (.o 64) 0 0 0 0, .int .i64 4, .int .i64 1, .int .i64 1, .str (ByteArray.mk (Array.mk [(120 : UInt8)]))] [(.o 64, .flat [.str rS, .int .i64 72])] (.tup [.agg (SReq.c (SReq.mk (1 : Int) (1 : Int) xB t)), .int .i64 0]) [(.o 64, .flat [.str rS, .int .i64 72])], T zp 19 [.agg [.int .i64 1, .int .i64 1, .int .i64 0, .int .i64 0, .int .i64 1, .bool false, .sl (.o 1088) 19 0 0 0 1 (some 1), .int .i64 0, .int .i64 0, .int .i64 0, .int .i64 0, .seg .u8 32 z32, .int .i64 0, .int .i64 0, .int .i64 0, .snil, .snil, .seg .u8 32 z32, .int .i64 0, .int .i64 0, .int .i64 0, .int .i64 0, .seg .u8 32 z32, .snil, .str ByteArray.empty, .snil]] [(.o 1088, .rows 19 1 (j4 [[.int .i64 1, .int .i64 1, .str xB, .seg .u8 16 t]]) false)] (.tup [.str s, .int .i64 0]) [], T zp 22 [.int .i64 4, .str s] [] (.sl (.o 1728) 18 0 0 0 1 none) [(.o 1728, .rows 18 1 (fun x => SEnv.c (SEnv.mk (5 : Int) bP t)) true)], q2, q2, q2, (0 : Int) ≤ (0 : Int) ∧ (0 : Int) < (1 : Int), 0 < (1 : Nat), q2, (0 : Int) ≤ (0 : Int) ∧ (0 : Int) < (1 : Int), 0 < (1 : Nat), (0 : Int) ≤ (0 : Int) ∧ (0 : Int) < (1 : Int), 0 < (1 : Nat), T zp 23 [.ptr (.o 64) 0 0 0 0, .int .i64 5, .str bP, .agg [.seg .u8 16 t]] [(.o 64, .flat [.str rS, .int .i64 72])] (.bool true) [(.o 64, .flat [.str rS, .int .i64 72])]]) : Option (V × c5 × List Prop)) := by kernel_rfl
theorem T.res {P : Program} {f : FuncId} {args : List V} {pre : c5} {val val' : V} {post : c5} {cs : List Prop} (h : T P f args pre val post) (hl : leV [] val val' = some cs) (hc : All cs) : T P f args pre val' post := by
 intro U ρ w xs hh ha hf
 refine Calls.mono (h U ρ w xs hh ha hf) ?_
 rintro e w' ⟨x, U', ρ', he, L⟩
 exact ⟨x, U', ρ', he, { L with val := Y5 (Imm.le_refl U') (fun n b hb => absurd hb List.not_mem_nil) _ _ _ _ hl hc L.val }⟩
theorem cp8 (x : Int) : 0 ≤ w8 x ∧ w8 x ≤ 255 := by
 simp only [w8, IntKind.wrap, IntKind.signed, IntKind.bits]
 simp
 omega
theorem bo3 (H : List Int) : ∀ i, ∀ x ∈ dA H i, 0 ≤ x ∧ x ≤ 255
 | 0, x, h => by
  obtain ⟨_, rfl⟩ := List.mem_replicate.1 h
  decide
 | i + 1, x, h => by
  rcases List.mem_or_eq_of_mem_set h with h | rfl
  ·exact bo3 H i x h
  ·exact cp8 _
theorem bJ3 {d : List Int} (h : ∀ x ∈ d, 0 ≤ x ∧ x ≤ 255) : SegOk 16 (ac4 d) := by
 refine ⟨bJ2 d, fun x hx => ?_⟩
 obtain ⟨i, _, rfl⟩ := List.mem_map.1 hx
 rw [List.getD_eq_getElem?_getD]
 cases hq : d[i]? with
 | none => decide
 | some y => exact h y (List.mem_of_getElem? hq)
theorem ca6 (kb : List UInt8) (body : ByteArray) : SegOk 16 (aq8 kb body) := bJ3 (bo3 _ _)
theorem cq1 : SegOk 16 (List.replicate 16 0) := ⟨rfl, fun x h => by obtain ⟨_, rfl⟩ := List.mem_replicate.1 h; decide⟩
theorem ca2 (s : ByteArray) (n id : Int) (b : ByteArray) : SegOk 16 (C2 s n id b) := by
 unfold C2
 split
 ·exact ca6 _ _
 ·exact cq1
def tgP : List Int := C2 rS 72 5 bP
theorem cp3 : SegOk 16 tgP := ca2 _ _ _ _
theorem U5 : rS.size = 1 := rfl
theorem aY6 : bP.size = 8 := by kernel_rfl
theorem cc9 (m : Nat) : T Tryz.prog 12 [] [] (.tup [p0K m, kyV rS 72]) [(.o m, kyB rS 72)] := by
 have h1 := fun m => T_de (s := rS) (n := 72) (by rw [U5]; decide) (by decide) m
 have h2 := T_re (s := rS) (n := 72) (by rw [U5]; decide) (by decide)
 have h : T Tryz.prog 12 [] [] (.tup [p0K 576, kyV rS 72]) [(.o 576, kyB rS 72)] := by
  refine f5 ch4 Tryz.func12 ?_
  simp only [All]; and_intros
  all_goals first | exact True.intro | exact h2 | exact h1 _
 obtain ⟨σ, hσ, h3⟩ := T.at h [.o 576] [.o m] (by decide) (by simp) rfl
 simp only [List.map_cons, List.map_nil, List.cons.injEq, and_true] at hσ
 simpa [V.rens, V.ren, c5.ren, Sy.B.ren, kyB, kyV, p0K, hσ] using h3
theorem T_my (t : List Int) : T Tryz.prog 67 [.int .i64 8, .agg (rqP t).c] [] (.bool true) [] := by
 refine f5 (bc1 t) Tryz.func67 ?_
 simp only [All]; and_intros
 all_goals first | exact True.intro
theorem cb0 (t : List Int) : T Tryz.prog 68 [.agg (rqP t).c] [] (.str bP) [] :=
 cs_ (r := rqP t) (by show p9 1; exact ⟨by decide, by decide⟩) (by show p9 1; exact ⟨by decide, by decide⟩) (by show 1 ≤ _; decide)
theorem T_mk (m : Nat) : T Tryz.prog 21 [p0K m, .int .i64 4, .int .i64 1, .int .i64 1, .str xB] [(.o m, kyB rS 72)] (.tup [.agg (rqP tgP).c, .int .i64 0]) [(.o m, kyB rS 72)] := by
 have h1 := a_7 rS 72
 have h2 := T_my z16
 have h3 := cb0 z16
 have h4 := bw1 (s := rS) (by rw [U5]; decide) (n := 72) (id := 5) (by decide) (by decide) (b := bP) (by rw [aY6]; decide)
 rw [show K3 72 5 = 0 from rfl] at h4
 have h : T Tryz.prog 21 [p0K 0, .int .i64 4, .int .i64 1, .int .i64 1, .str xB] [(.o 0, kyB rS 72)] (.tup [.agg (rqP tgP).c, .int .i64 0]) [(.o 0, kyB rS 72)] := by
  unfold tgP
  generalize C2 rS 72 5 bP = t at *
  refine f5 (aW5 t) Tryz.func21 ?_
  simp only [All]; and_intros
  all_goals first | exact True.intro | exact h1 | exact h2 | exact h3 | exact h4 | (simp only [IntKind.min, IntKind.max, IntKind.signed, IntKind.bits, if_true]; omega)
 obtain ⟨σ, hσ, h5⟩ := T.at h [.o 0] [.o m] (by decide) (by simp) rfl
 simp only [List.map_cons, List.map_nil, List.cons.injEq, and_true] at hσ
 simpa [V.rens, V.ren, c5.ren, Sy.B.ren, kyB, p0K, SReq.c, hσ] using h5
theorem cq9 (m : Nat) : T Tryz.prog 23 [p0K m, .int .i64 5, .str bP, .agg [.seg .u8 16 tgP]] [(.o m, kyB rS 72)] (.bool true) [(.o m, kyB rS 72)] := by
 have h := cb1 (s := rS) (by rw [U5]; decide) (n := 72) (id := 5) (by decide) (by decide) (b := bP) (by rw [aY6]; decide) tgP
 have e : V7 rS 72 5 bP tgP = true := by
  rw [V7, tgP, C2, if_pos (by decide), decide_eq_true (by decide : (0 : Int) ≤ 5 ∧ (5 : Int) < 72)]; simp
 rw [e] at h
 obtain ⟨σ, hσ, h5⟩ := T.at h [.o 0] [.o m] (by decide) (by simp) rfl
 simp only [List.map_cons, List.map_nil, List.cons.injEq, and_true] at hσ
 simpa [V.rens, V.ren, c5.ren, Sy.B.ren, kyB, p0K, hσ] using h5
theorem ct8 : T Tryz.prog 72 [.agg L4.c] [] (.str eB) [] := by
 have hE := aN1 (m := j2 2) ⟨by decide, by decide, fun k hk => absurd hk (Nat.not_lt_zero k), by decide, by decide, by decide⟩ ⟨fun i hi => absurd hi (Nat.not_lt_zero i), C7, fun i hi => absurd hi (Nat.not_lt_zero i), fun i hi => absurd hi (Nat.not_lt_zero i), C7, ⟨C7, fun i hi => absurd hi (Nat.not_lt_zero i)⟩, fun i hi => absurd hi (Nat.not_lt_zero i)⟩
 have e1 : ab_ (j2 2) = 130 := by kernel_rfl
 have e2 : ak3 (j2 2) = eB := by rw [ak3, if_neg (by rw [e1]; decide)]; rfl
 rw [e1, e2] at hE
 have hB : T Tryz.prog 102 [.agg (j2 2).c] [] (.str eB) [] := by
  refine f5 (bP5 (j2 2) eB 130) Tryz.func102 ?_
  simp only [All]; and_intros
  all_goals first | exact True.intro | exact hE
 refine f5 (bT4 L4 eB) Tryz.func72 ?_
 refine ⟨T.args hB rfl ?_, trivial⟩
 simp [All, j2, L4]
theorem T_c1 (t : List Int) (o n m : Nat) (hn : [Nm.o o, Nm.o n, Nm.o m].Nodup) : T Tryz.prog 69 [.agg [.bool false, rq 1 (fun _ => rqP t)], .ptr (.o o) 0 0 0 0, .ptr (.o n) 0 0 0 0] [(.o o, .flat [.snil]), (.o n, .flat [.int .i64 4])] (.tup []) [(.o o, .flat [clS (.o m)]), (.o m, clR (clP t).c), (.o n, .flat [.int .i64 4])] := by
 have h3 := cb0 t
 have h : T Tryz.prog 69 [.agg [.bool false, rq 1 (fun _ => rqP t)], .ptr (.o 0) 0 0 0 0, .ptr (.o 1) 0 0 0 0] [(.o 0, .flat [.snil]), (.o 1, .flat [.int .i64 4])] (.tup []) [(.o 0, .flat [clS (.o 63)]), (.o 63, clR (clP t).c), (.o 1, .flat [.int .i64 4])] := by
  refine f5 (bx2 t) Tryz.func69 ?_
  simp only [All]; and_intros
  all_goals first | exact True.intro | exact h3 | (intro k hk; obtain rfl : k = 0 := (by omega); rfl) | (simp only [IntKind.min, IntKind.max, IntKind.signed, IntKind.bits, if_true]; omega) | omega | (intro h; exact h) | exact .inl True.intro
 obtain ⟨σ, hσ, h5⟩ := T.at h [.o 0, .o 1, .o 63] [.o o, .o n, .o m] (by decide) hn rfl
 simp only [List.map_cons, List.map_nil, List.cons.injEq, and_true] at hσ
 simpa [V.rens, V.ren, c5.ren, Sy.B.ren, clS, clR, clP, SEnv.c, rq, hσ.1, hσ.2.1, hσ.2.2] using h5
theorem T_c2 (s : Nat → SSign) (b : ByteArray) : T Tryz.prog 70 [sg 0 s, .str b, .any] [] (.tup []) [] := by
 refine f5 (bP6 s b) Tryz.func70 ?_
 simp only [All]; and_intros
 all_goals first | exact True.intro
theorem T_c3 (t : List Int) (o n a b m : Nat) (hn : [Nm.o o, Nm.o n, Nm.o a, Nm.o b, Nm.o m].Nodup) : T Tryz.prog 71 [.agg (K2 (rqP t)).c, .ptr (.o a) 0 0 0 0, .ptr (.o b) 0 0 0 0] [(.o o, .flat [.snil]), (.o a, .flat [.fn (.func 69) [] [.ptr (.o o) 0 0 0 0, .ptr (.o n) 0 0 0 0]]), (.o b, .flat [.fn (.func 70) [] [.ptr (.o o) 0 0 0 0]]), (.o n, .flat [.int .i64 4])] (.tup [])
  [(.o o, .flat [clS (.o m)]), (.o m, clR (clP t).c), (.o a, .flat [.fn (.func 69) [] [.ptr (.o o) 0 0 0 0, .ptr (.o n) 0 0 0 0]]), (.o b, .flat [.fn (.func 70) [] [.ptr (.o o) 0 0 0 0]]), (.o n, .flat [.int .i64 4])] := by
 have h1 := T_c1 t 2 3 260 (by decide)
 have h2 : ∀ (s : Nat → SSign) (b : ByteArray), T Tryz.prog 70 [sg 0 s, .str b, .ptr (.o 2) 0 0 0 0] [] (.tup []) [] := fun s b => T.args (T_c2 s b) rfl (by simp [All])
 have h4 := ct8
 have h : T Tryz.prog 71 [.agg (K2 (rqP t)).c, .ptr (.o 0) 0 0 0 0, .ptr (.o 1) 0 0 0 0] [(.o 2, .flat [.snil]), (.o 0, fnB), (.o 1, fnS), (.o 3, .flat [.int .i64 4])] (.tup []) [(.o 2, .flat [clS (.o 63)]), (.o 63, clR (clP t).c), (.o 0, fnB), (.o 1, fnS), (.o 3, .flat [.int .i64 4])] := by
  refine f5 (bP7 t) Tryz.func71 ?_
  simp only [All]; and_intros
  all_goals first | exact True.intro | exact h1 | exact h4 | exact h2 _ _ | (intro _ _; exact True.intro) | (intro h; exact h) | exact .inl True.intro
 obtain ⟨σ, hσ, h5⟩ := T.at h [.o 2, .o 3, .o 0, .o 1, .o 63] [.o o, .o n, .o a, .o b, .o m] (by decide) hn rfl
 simp only [List.map_cons, List.map_nil, List.cons.injEq, and_true] at hσ
 simpa [V.rens, V.ren, c5.ren, Sy.B.ren, fnB, fnS, clS, clR, clP, SEnv.c, SMsg.c, SBatch.c, SVote.c, SCert.c, rq, Sy.hl, nw, sg, hσ.1, hσ.2.1, hσ.2.2.1, hσ.2.2.2.1, hσ.2.2.2.2] using h5
theorem ap6 (t : List Int) : v5 (K2 (rqP t)) = true := by
 have e : m5 (K2 (rqP t)) = K2 (rqP t) := by kernel_rfl
 have hb : p8 (K2 (rqP t)).batch = true := by kernel_rfl
 exact V9.2 ⟨by show (1 : Int) ≤ 1 ∧ (1 : Int) ≤ 8; decide, by rw [e]; exact I1 _, fun h => absurd h (by show ¬ (1 : Int) = 2; decide), fun h => absurd h (by show ¬ (1 : Int) = 7; decide), by show (0 : Int) ≤ 1 ∧ (1 : Int) ≤ _; decide, by show (0 : Int) ≤ 1 ∧ (1 : Int) ≤ _; decide, by show (0 : Int) ≤ 0 ∧ (0 : Int) ≤ _; decide, by show (0 : Int) ≤ 0 ∧ (0 : Int) ≤ _; decide, hb, by show (0 : Int) ≤ 0 ∧ (0 : Int) ≤ _; decide, by show (0 : Int) ≤ 0 ∧ (0 : Int) ≤ _; decide, by show (0 : Int) ≤ 0 ∧ (0 : Int) ≤ _; decide,
  ⟨Nat.zero_le _, fun i hi => absurd hi (Nat.not_lt_zero i)⟩, ⟨Nat.zero_le _, fun i hi => absurd hi (Nat.not_lt_zero i)⟩, ⟨Nat.zero_le _, fun i hi => absurd hi (Nat.not_lt_zero i)⟩, by show (0 : Nat) ≤ _; decide⟩
theorem aS9 {t : List Int} (h : SegOk 16 t) : segMsg (K2 (rqP t)) := ⟨fun i hi => h, C7, fun i hi => absurd hi (Nat.not_lt_zero i), fun i hi => absurd hi (Nat.not_lt_zero i), C7, ⟨C7, fun i hi => absurd hi (Nat.not_lt_zero i)⟩, fun i hi => absurd hi (Nat.not_lt_zero i)⟩
theorem aS8 {t : List Int} (h : SegOk 16 t) : (p7 (K2 (rqP t))).length ≤ 4194304 := by
 obtain ⟨a, b⟩ := h
 match t, a with
 | [a0, a1, a2, a3, a4, a5, a6, a7, a8, a9, b0, b1, b2, b3, b4, b5], _ =>
  rw [show (p7 (K2 (rqP [a0, a1, a2, a3, a4, a5, a6, a7, a8, a9, b0, b1, b2, b3, b4, b5]))).length = 31 by kernel_rfl]; decide
theorem cb2 {t : List Int} (h : SegOk 16 t) : T Tryz.prog 42 [.str (baL (p7 (K2 (rqP t))))] [] (.tup [.agg (K2 (rqP t)).c, .int .i64 0]) [] := by
 have hD := bJ9 (baL (p7 (K2 (rqP t))))
 rw [ac3] at hD
 obtain ⟨d1, d2⟩ := aY_ (ap6 t) (aS9 h) (aS8 h)
 rw [d1] at hD
 generalize (D4 (p7 (K2 (rqP t)))).1 = x at *
 have g := X9.1 d2
 have gb := H5.1 g.batch
 have gc := I9.1 g.cert
 have g1 : x.kind = 1 := g.kind
 have g2 : x.epoch = 1 := g.epoch
 have g3 : x.leader = 0 := g.leader
 have g4 : x.view = 0 := g.view
 have g5 : x.slot = 1 := g.slot
 have g6 : x.batch.noop = false := gb.1
 have g7 : x.batch.n = 1 := gb.2.1
 have g8 : x.vote = L4 := g.vote
 have g9 : x.nheld = 0 := g.held.1
 have g10 : x.nnews = 0 := g.news.1
 have g11 : x.digest = z32 := g.digest
 have g12 : x.cert.vote = L4 := gc.1
 have g13 : x.cert.n = 0 := gc.2.1
 have g14 : x.state = ByteArray.empty := g.state
 have g15 : x.n = 0 := g.sig.1
 have g16 : ∀ k, k < x.batch.n → (x.batch.req k).c = (rqP t).c := fun k hk => congrArg SReq.c (gb.2.2 k hk)
 refine T.res hD rfl ?_
 simp only [All]; and_intros
 all_goals first | exact True.intro | exact g.kind | exact g.epoch | exact g.leader | exact g.view | exact g.slot | exact gb.1 | exact gb.2.1 | exact g16 | exact g.held.1 | exact g.news.1 | exact g.digest | exact gc.2.1 | exact g.state | exact g.sig.1 | exact g.cepoch | exact g.cleader | exact g.cview | (rw [g8]; rfl) | (rw [g12]; rfl) | (rw [g9]; intro k hk; exact absurd hk (Nat.not_lt_zero k)) | (rw [g10]; intro k hk; exact absurd hk (Nat.not_lt_zero k)) | (rw [g13]; intro k hk; exact absurd hk (Nat.not_lt_zero k)) | (rw [g15]; intro k hk; exact absurd hk (Nat.not_lt_zero k)) | (intro h; exact h)
theorem T_cl {t : List Int} (ht : SegOk 16 t) (m : Nat) : T Tryz.prog 22 [.int .i64 4, .str (baL (p7 (K2 (rqP t))))] [] (clS (.o m)) [(.o m, clR (clP t).c)] := by
 have h1 := cb2 ht
 have h2 := T_c3 t 64 0 1344 1536 1920 (by decide)
 have h : T Tryz.prog 22 [.int .i64 4, .str (baL (p7 (K2 (rqP t))))] [] (clS (.o 1920)) [(.o 1920, clR (clP t).c)] := by
  refine f5 (ba6 t (baL (p7 (K2 (rqP t))))) Tryz.func22 ?_
  simp only [All]; and_intros
  all_goals first | exact True.intro | exact h1 | exact h2
 obtain ⟨σ, hσ, h5⟩ := T.at h [.o 1920] [.o m] (by decide) (by simp) rfl
 simp only [List.map_cons, List.map_nil, List.cons.injEq, and_true] at hσ
 simpa [V.rens, V.ren, c5.ren, Sy.B.ren, clS, clR, clP, SEnv.c, hσ] using h5
theorem T_lv : T Tryz.prog 7 [] [] (.bool true) [] := by
 have ht := cp3
 have h1 := cc9
 have h2 := T_mk
 have h4 := T_cl ht
 have h5 := cq9
 have hE := aN1 (aH_ (ap6 tgP)) (aS9 ht)
 have e1 : ab_ (K2 (rqP tgP)) = 0 := by rw [ab_, if_pos (ap6 tgP), if_neg (by have := aS8 ht; omega)]
 rw [e1, ak3, if_pos e1] at hE
 have h3 : T Tryz.prog 19 [.agg [.int .i64 1, .int .i64 1, .int .i64 0, .int .i64 0, .int .i64 1, .bool false, .sl (.o 1088) 19 0 0 0 1 (some 1), .int .i64 0, .int .i64 0, .int .i64 0, .int .i64 0, .seg .u8 32 z32, .int .i64 0, .int .i64 0, .int .i64 0, .snil, .snil, .seg .u8 32 z32, .int .i64 0, .int .i64 0, .int .i64 0, .int .i64 0, .seg .u8 32 z32, .snil, .str ByteArray.empty, .snil]] [(.o 1088, .rows 19 1 (j4 [(rqP tgP).c]) false)] (.tup [.str (baL (p7 (K2 (rqP tgP)))), .int .i64 0]) [] := by
  refine T.frz hE (aB0 rfl ?_) (by rintro n ⟨b, hb⟩; cases hb)
  simp only [All]; and_intros
  all_goals first | exact True.intro | (intro k hk; obtain rfl : k = 0 := (by omega); rfl) | exact rfl | omega | (intro h; cases h; done)
 generalize baL (p7 (K2 (rqP tgP))) = s at *
 generalize tgP = t at *
 refine f5 (bb3 t s) Tryz.func7 ?_
 simp only [All]; and_intros
 all_goals first | exact True.intro | exact h1 _ | exact h2 _ | exact h3 | exact h4 _ | exact h5 _ | omega
def rx (L : List UInt8) (p : Nat) (e : Int) : B := .flat [roB L, .int .i64 (p : Nat), .int .i64 e]
def Ok (L : List UInt8) (s : RS) : Prop := s.e = 0 → s.bad = false ∧ s.l.length ≤ L.length ∧ s.l = L.drop (L.length - s.l.length)
theorem Ok.bad {L : List UInt8} {s : RS} (h : s.e ≠ 0) : Ok L s := fun h' => absurd h' h
theorem Ok.fail {L : List UInt8} {s : RS} {e : Int} (h : e ≠ 0) : Ok L (s.fail e) := Ok.bad h
theorem Ok.drop {L : List UInt8} {s : RS} (h : Ok L s) (n : Nat) : Ok L (s.drop n) := by
 intro he
 obtain ⟨h1, h2, h3⟩ := h he
 refine ⟨h1, ?_, ?_⟩
 ·show (s.l.drop n).length ≤ _
  rw [List.length_drop]; omega
 ·show s.l.drop n = L.drop (L.length - (s.l.drop n).length)
  rw [List.length_drop]
  by_cases hn : n ≤ s.l.length
  ·rw [show L.length - (s.l.length - n) = L.length - s.l.length + n by omega, ← List.drop_drop, ← h3]
  ·rw [List.drop_eq_nil_of_le (by omega), List.drop_eq_nil_of_le (by omega)]
theorem Ok.num {L : List UInt8} {s : RS} (h : Ok L s) (most : Int) : Ok L (f1 most s).2 := by
 unfold f1
 split
 ·exact h
 ·split
  ·rename_i h1; exact Ok.fail h1
  ·exact h.drop _
theorem Ok.text {L : List UInt8} {s : RS} (h : Ok L s) (most : Int) : Ok L (v6 most s).2 := by
 unfold v6
 split
 ·exact h
 ·split
  ·rename_i h1; exact Ok.fail h1
  ·exact (h.drop _).drop _
theorem Ok.raw {L : List UInt8} {s : RS} (h : Ok L s) (n : Int) : Ok L (l6 n s).2 := by
 unfold l6
 split
 ·exact h
 ·split
  ·exact Ok.fail (by decide)
  ·split
   ·exact Ok.fail (by decide)
   ·exact h.drop _
def Ev (s s' : RS) : Prop := (s.e ≠ 140 → s'.e ≠ 140) ∧ ∀ L, Ok L s → Ok L s'
theorem Ev.refl (s : RS) : Ev s s := ⟨id, fun _ h => h⟩
theorem Ev.trans {a b c : RS} (h : Ev a b) (h' : Ev b c) : Ev a c := ⟨fun e => h'.1 (h.1 e), fun L o => h'.2 L (h.2 L o)⟩
theorem br0 (l : List UInt8) : nE l = 0 ∨ nE l = 10 ∨ nE l = 11 := by
 unfold nE
 repeat' split
 all_goals simp
theorem B2 (m : Int) (s : RS) : Ev s (f1 m s).2 := by
 refine ⟨?_, fun L h => h.num m⟩
 intro h
 unfold f1
 split
 ·exact h
 ·split
  ·show nE1 m s.l ≠ 140
   have := br0 s.l
   unfold nE1
   split <;> omega
  ·exact h
theorem ax8 (m : Int) (s : RS) : Ev s (v6 m s).2 := by
 refine ⟨?_, fun L h => h.text m⟩
 intro h
 unfold v6
 split
 ·exact h
 ·split
  ·show tE m s.l ≠ 140
   have := br0 s.l
   unfold tE
   repeat' split
   all_goals omega
  ·exact h
theorem aG8 (n : Int) (s : RS) : Ev s (l6 n s).2 := by
 refine ⟨?_, fun L h => h.raw n⟩
 intro h
 unfold l6
 split
 ·exact h
 ·split
  ·show (2 : Int) ≠ 140; decide
  ·split
   ·show (10 : Int) ≠ 140; decide
   ·exact h
theorem b_7 (s : RS) : Ev s (i7 s).2 := (((B2 8 s).trans (B2 _ _)).trans (ax8 _ _)).trans (aG8 _ _)
theorem bq4 {α : Type} {one : RS → α × RS} (h : ∀ s, Ev s (one s).2) : ∀ k s, Ev s (itR one k s).2
 | 0, s => Ev.refl s
 | k + 1, s => (h s).trans (bq4 h k _)
theorem an2 (s : RS) : Ev s (l7 s).2 := (B2 5 s).trans (bq4 b_7 _ _)
theorem a6_ (s : RS) : Ev s (M1 s).2 := aG8 16 s
theorem aZ0 (s : RS) : Ev s (J3 s).2 := aG8 32 s
theorem aU_ (s : RS) : Ev s (w4 s).2 := (B2 64 s).trans (a6_ _)
theorem bU5 (s : RS) : Ev s (E0 s).2 := ((B2 64 s).trans (ax8 _ _)).trans (a6_ _)
theorem bv5 (s : RS) : Ev s (A7 s) := by
 unfold A7
 split
 ·exact ⟨fun _ => by show (2 : Int) ≠ 140; decide, fun L _ => Ok.bad (by show (2 : Int) ≠ 0; decide)⟩
 ·exact B2 2 s
theorem aV3 (s : RS) : Ev s (z9 s).2 := ((((bv5 s).trans (B2 _ _)).trans (B2 _ _)).trans (B2 _ _)).trans (aZ0 _)
theorem bu9 {α : Type} {one : RS → α × RS} (h : ∀ s, Ev s (one s).2) (s : RS) : ∀ k, Ev s (stR one s k)
 | 0 => Ev.refl s
 | k + 1 => (bu9 h s k).trans (h _)
theorem ar6 {α : Type} {one : RS → α × RS} (h : ∀ s, Ev s (one s).2) (most : Int) (s : RS) : Ev s (O9 one most s) :=
 (B2 most s).trans (bu9 h _ _)
theorem aQ5 (s : RS) : Ev s (G4 s).2 := (aV3 s).trans (ar6 aU_ _ _)
theorem bC_ (s : RS) : Ev s (B8 s).2 := (an2 s).trans (aQ5 _)
theorem bd8 (m : SMsg) (s : RS) : Ev s (j9 m s).2 := by
 unfold j9
 repeat' split
 ·exact ((B2 _ _).trans (B2 _ _)).trans (an2 _)
 ·exact aV3 _
 ·exact (((B2 _ _).trans (B2 _ _)).trans (B2 _ _)).trans (ar6 bC_ _ _)
 ·exact (((B2 _ _).trans (B2 _ _)).trans (B2 _ _)).trans (ar6 bU5 _ _)
 ·exact (B2 _ _).trans (aZ0 _)
 ·exact (B2 _ _).trans (B2 _ _)
 ·exact (an2 _).trans (aQ5 _)
 ·exact (ax8 _ _).trans (ar6 aU_ _ _)
 ·exact Ev.refl s
theorem bU1 (l : List UInt8) : (D4 l).2 ≠ 140 := by
 have h := ((B2 8 { l := l }).trans (bd8 (j2 (J2 l)) (F7 l))).1 (by show (0 : Int) ≠ 140; decide)
 have h : (w5 l).2.e ≠ 140 := h
 unfold D4
 repeat' split
 ·show (3 : Int) ≠ 140; decide
 ·show (130 : Int) ≠ 140; decide
 ·show (130 : Int) ≠ 140; decide
 ·show D6 (w5 l).2 ≠ 140
  unfold D6
  repeat' split
  ·exact h
  ·decide
  ·decide
 ·show (0 : Int) ≠ 140; decide
theorem az1 (n : Int) (more : Int) (most : Int) :
  f4 zp (aL9 n more most) [true, true, true] = some (V.int .i64 (most + 1), [], [decide (most < n) = true, true = true, true = true, InR .i64 (most + 1)]) := by kernel_rfl
theorem az0 (n : Int) (more : Int) (most : Int) :
  f4 zp (aL9 n more most) [false, true, true] = some (V.int .i64 (most + 1), [], [decide (most < n) = false, decide (most < more) = true, true = true, InR .i64 (most + 1)]) := by kernel_rfl
theorem ay_ (n : Int) (more : Int) (most : Int) :
  f4 zp (aL9 n more most) [false, false, true] = some (V.int .i64 (most + 1), [], [decide (most < n) = false, decide (most < more) = false, InR .i64 (most - more), decide (most - more < n) = true, InR .i64 (most + 1)]) := by kernel_rfl
theorem ay9 (n : Int) (more : Int) (most : Int) :
  f4 zp (aL9 n more most) [false, false, false] = some (V.int .i64 (n + more), [], [decide (most < n) = false, decide (most < more) = false, InR .i64 (most - more), decide (most - more < n) = false, InR .i64 (n + more)]) := by kernel_rfl
def E7 (n more most : Int) : Int := if most < n ∨ most < more ∨ most - more < n then most + 1 else n + more
theorem a_2 {n more : Int} (h1 : 0 ≤ n) (h2 : 0 ≤ more) (h3 : more ≤ 9223372036854775807) : T Tryz.prog 51 [.int .i64 n, .int .i64 more, .int .i64 4000] [] (.int .i64 (E7 n more 4000)) [] := by
 by_cases a : (4000 : Int) < n
 ·exact T.val (f5 (az1 n more 4000) Tryz.func51 (by simp [All, M5, a])) (by simp [E7, a])
 by_cases b : (4000 : Int) < more
 ·exact T.val (f5 (az0 n more 4000) Tryz.func51 (by simp [All, M5, a, b] <;> omega)) (by simp [E7, b])
 by_cases c : (4000 : Int) - more < n
 ·exact T.val (f5 (ay_ n more 4000) Tryz.func51 (by simp [All, M5, a, b, c] <;> omega)) (by simp [E7, c])
 ·exact T.val (f5 (ay9 n more 4000) Tryz.func51 (by simp [All, M5, a, b, c] <;> omega)) (by simp [E7, a, b, c])
def w7 (n0 : Int) (r : Nat → SReq) : Nat → Int
 | 0 => n0
 | k + 1 => E7 (E7 (w7 n0 r k) 20 4000) (r k).data.size 4000
def U0 (b : SBatch) (n0 : Int) (k : Nat) : St := ⟨mkT 47 [(0, .sl (.o 0) 2 0 0 0 1 (some 1)), (3, .int .i64 (w7 n0 b.req k)), (4, .int .i64 0), (5, .int .i64 k)], [(.o 0, .rows 2 1 (j4 [b.c]) false)], 1, []⟩
def bL4 : Nat → List V → c5 → Nat → List Cl
 | 51, [.int _ a, .int _ c, _], _, _ => [{ val := .int .i64 (E7 a c 4000) }]
 | _, _, _, _ => []
def bW7 (b : SBatch) (m : Nat) : Nat → St → List (Prop × Hint)
 | 0, _ => [(True, .rounds 2)]
 | _, _ => [(True, .loop (m + 1) (wTo (U0 b 5 0)) (.exit 2) (U0 b 5 m))]
noncomputable def bF6 (b : SBatch) (n0 : Int) (m k : Nat) : Pc := { c := cB (cB (cR (cR (cB (cL (cR (cB (cB (cR (cL (cR (cR (f8 Tryz.f50))))))))))))), st := U0 b n0 k, p := 1, kb := { db := bL4 }, k := fun e _ => match e with
 | .normal => some (wTo (U0 b n0 (k + 1)))
 | _ => some (wTo (U0 b n0 m)) }
noncomputable def aY7 (b : SBatch) (m : Nat) : Bd := { f := Tryz.f50, args := [.sl (.o 0) 2 0 0 0 1 (some 1)], pre := [(.o 0, .rows 2 1 (j4 [b.c]) false)], base := 1, kb := { db := bL4, lp := bW7 b m }, names := fun _ => [.o 0] }
theorem aK7 (b : SBatch) (m : Nat) :
  f4 zp (aY7 b m) [true, true, false, false] = some (V.bool (decide (w7 (5 : Int) (SBatch.req b) m ≤ (4000 : Int))), [(Nm.o (0 : Nat), B.rows (2 : Nat) (1 : Nat) (j4 [SBatch.c b]) false)], [true = true, true = true, T zp (51 : Nat) [V.int .i64 (0 : Int), V.int .i64 (5 : Int), V.int .i64 (4000 : Int)] [] (V.int .i64 (5 : Int)) [], i5 zp none 1 (cB (cB (cR (cR (cB (cL (cR (cB (cB (cR (cL (cR (cR (f8 (Bd.f (aY7 b m)))))))))))))))) (m + (1 : Nat)) (St.mk (mkT 47 [(0, V.sl (Nm.o (0 : Nat)) (2 : Nat) (0 : Nat) (0 : Nat) (0 : Nat) (1 : Nat) (some (1 : Nat))), (3, V.int .i64 (5 : Int)), (4, V.int .i64 (0 : Int)), (5, V.int .i64 (0 : Int))]) [(Nm.o (0 : Nat), B.rows (2 : Nat) (1 : Nat) (j4 [SBatch.c b]) false)] 1 []) (Exit.exit (2 : Nat)) (St.mk (mkT 47 [(0, V.sl (Nm.o (0 : Nat)) (2 : Nat) (0 : Nat) (0 : Nat) (0 : Nat) (1 : Nat) (some (1 : Nat))), (3, V.int .i64 (w7 (5 : Int) (SBatch.req b) m)), (4, V.int .i64 (0 : Int)), (5, V.int .i64 (↑m : Int))]) [(Nm.o (0 : Nat), B.rows (2 : Nat) (1 : Nat) (j4 [SBatch.c b]) false)] (1 : Nat) []), (1 : Nat) = (1 : Nat), ∀ (k : Nat), k < (1 : Nat) → j4 [SBatch.c b] k = j4 [SBatch.c b] k, false = false → false = false, (0 : Nat) = (0 : Nat), (0 : Nat) = (0 : Nat), (0 : Nat) = (0 : Nat), (1 : Nat) = (1 : Nat), some (1 : Nat) = none ∨ some (1 : Nat) = some (1 : Nat), (5 : Int) = (5 : Int), (0 : Int) = (0 : Int), (0 : Int) = (0 : Int), InR .i64 (1 : Int), false = false, false = false]) := by kernel_rfl
theorem bF8 (b : SBatch) (n0 : Int) (m : Nat) (k : Nat) :
  i6 zp (bF6 b n0 m k) [true, true] = some (Exit.normal, St.mk (mkT 47 [(0, V.sl (Nm.o (0 : Nat)) (2 : Nat) (0 : Nat) (0 : Nat) (0 : Nat) (1 : Nat) (some (1 : Nat))), (3, V.int .i64 (w7 n0 (SBatch.req b) (k + (1 : Nat)))), (4, V.int .i64 (0 : Int)), (5, V.int .i64 (↑(k + (1 : Nat)) : Int))]) [(Nm.o (0 : Nat), B.rows (2 : Nat) (1 : Nat) (j4 [SBatch.c b]) false)] 1 [], [(0 : Int) ≤ (0 : Int) ∧ (0 : Int) < (1 : Int), 0 < (1 : Nat), decide ((↑k : Int) < (↑(SBatch.n b) : Int)) = true, decide (w7 n0 (SBatch.req b) k ≤ (4000 : Int)) = true, T zp (51 : Nat) [V.int .i64 (w7 n0 (SBatch.req b) k), V.int .i64 (20 : Int), V.int .i64 (4000 : Int)] [] (V.int .i64 (E7 (w7 n0 (SBatch.req b) k) (20 : Int) (4000 : Int))) [], (0 : Int) ≤ (0 : Int) ∧ (0 : Int) < (1 : Int), 0 < (1 : Nat), (0 : Int) ≤ (↑k : Int) ∧ (↑k : Int) < (↑(SBatch.n b) : Int), T zp (51 : Nat) [V.int .i64 (E7 (w7 n0 (SBatch.req b) k) (20 : Int) (4000 : Int)), V.int .i64 (↑(ByteArray.size (SReq.data (SBatch.req b (Int.toNat (↑k : Int))))) : Int), V.int .i64 (4000 : Int)] [] (V.int .i64 (E7 (E7 (w7 n0 (SBatch.req b) k) (20 : Int) (4000 : Int)) (↑(ByteArray.size (SReq.data (SBatch.req b (Int.toNat (↑k : Int))))) : Int) (4000 : Int))) [], InR .i64 ((↑k : Int) + (1 : Int)), (1 : Nat) = (1 : Nat), ∀ (k : Nat), k < (1 : Nat) → j4 [SBatch.c b] k = j4 [SBatch.c b] k, false = false → false = false, (0 : Nat) = (0 : Nat), (0 : Nat) = (0 : Nat), (0 : Nat) = (0 : Nat), (1 : Nat) = (1 : Nat), some (1 : Nat) = none ∨ some (1 : Nat) = some (1 : Nat), E7 (E7 (w7 n0 (SBatch.req b) k) (20 : Int) (4000 : Int)) (↑(ByteArray.size (SReq.data (SBatch.req b (Int.toNat (↑k : Int))))) : Int) (4000 : Int) = w7 n0 (SBatch.req b) (k + (1 : Nat)), (0 : Int) = (0 : Int), (↑k : Int) + (1 : Int) = (↑(k + (1 : Nat)) : Int)]) := by kernel_rfl
theorem bF7 (b : SBatch) (n0 : Int) (m : Nat) (k : Nat) :
  i6 zp (bF6 b n0 m k) [true, false] = some (Exit.exit (2 : Nat), St.mk (mkT 47 [(0, V.sl (Nm.o (0 : Nat)) (2 : Nat) (0 : Nat) (0 : Nat) (0 : Nat) (1 : Nat) (some (1 : Nat))), (3, V.int .i64 (w7 n0 (SBatch.req b) m)), (4, V.int .i64 (0 : Int)), (5, V.int .i64 (↑m : Int))]) [(Nm.o (0 : Nat), B.rows (2 : Nat) (1 : Nat) (j4 [SBatch.c b]) false)] 1 [], [(0 : Int) ≤ (0 : Int) ∧ (0 : Int) < (1 : Int), 0 < (1 : Nat), decide ((↑k : Int) < (↑(SBatch.n b) : Int)) = true, decide (w7 n0 (SBatch.req b) k ≤ (4000 : Int)) = false, (1 : Nat) = (1 : Nat), ∀ (k : Nat), k < (1 : Nat) → j4 [SBatch.c b] k = j4 [SBatch.c b] k, false = false → false = false, (0 : Nat) = (0 : Nat), (0 : Nat) = (0 : Nat), (0 : Nat) = (0 : Nat), (1 : Nat) = (1 : Nat), some (1 : Nat) = none ∨ some (1 : Nat) = some (1 : Nat), w7 n0 (SBatch.req b) k = w7 n0 (SBatch.req b) m, (0 : Int) = (0 : Int), (↑k : Int) = (↑m : Int)]) := by kernel_rfl
theorem aT7 (b : SBatch) (n0 : Int) (m : Nat) (k : Nat) :
  i6 zp (bF6 b n0 m k) [false, false] = some (Exit.exit (2 : Nat), St.mk (mkT 47 [(0, V.sl (Nm.o (0 : Nat)) (2 : Nat) (0 : Nat) (0 : Nat) (0 : Nat) (1 : Nat) (some (1 : Nat))), (3, V.int .i64 (w7 n0 (SBatch.req b) m)), (4, V.int .i64 (0 : Int)), (5, V.int .i64 (↑m : Int))]) [(Nm.o (0 : Nat), B.rows (2 : Nat) (1 : Nat) (j4 [SBatch.c b]) false)] 1 [], [(0 : Int) ≤ (0 : Int) ∧ (0 : Int) < (1 : Int), 0 < (1 : Nat), decide ((↑k : Int) < (↑(SBatch.n b) : Int)) = false, false = false, (1 : Nat) = (1 : Nat), ∀ (k : Nat), k < (1 : Nat) → j4 [SBatch.c b] k = j4 [SBatch.c b] k, false = false → false = false, (0 : Nat) = (0 : Nat), (0 : Nat) = (0 : Nat), (0 : Nat) = (0 : Nat), (1 : Nat) = (1 : Nat), some (1 : Nat) = none ∨ some (1 : Nat) = some (1 : Nat), w7 n0 (SBatch.req b) k = w7 n0 (SBatch.req b) m, (0 : Int) = (0 : Int), (↑k : Int) = (↑m : Int)]) := by kernel_rfl
theorem at6 (p : Nat → Prop) : ∀ n, ∃ m, m ≤ n ∧ (∀ k, k < m → p k) ∧ (m = n ∨ ¬ p m)
 | 0 => ⟨0, Nat.le_refl _, fun k h => absurd h (Nat.not_lt_zero k), .inl rfl⟩
 | n + 1 => by
  obtain ⟨m, h1, h2, h3⟩ := at6 p n
  rcases h3 with rfl | h3
  ·by_cases h : p m
   ·refine ⟨m + 1, Nat.le_refl _, fun k hk => ?_, .inl rfl⟩
    rcases Nat.lt_or_ge k m with h4 | h4
    ·exact h2 k h4
    ·have : k = m := by omega
     subst this; exact h
   ·exact ⟨m, Nat.le_succ _, h2, .inr h⟩
  ·exact ⟨m, Nat.le_succ_of_le h1, h2, .inr h3⟩
theorem aj5 {n more : Int} (h1 : 0 ≤ n) (h2 : 0 ≤ more) : 0 ≤ E7 n more 4000 ∧ E7 n more 4000 ≤ 4001 := by
 unfold E7; split <;> omega
theorem ar2 {n more : Int} (h : E7 n more 4000 ≤ 4000) : n ≤ 4000 ∧ more ≤ 4000 ∧ E7 n more 4000 = n + more := by
 unfold E7 at h ⊢; split at h
 ·omega
 ·rename_i h'; simp only [not_or, Int.not_lt] at h'; rw [if_neg (by omega)]; omega
theorem ap4 {n0 : Int} (h : 0 ≤ n0 ∧ n0 ≤ 4001) (r : Nat → SReq) : ∀ k, 0 ≤ w7 n0 r k ∧ w7 n0 r k ≤ 4001
 | 0 => h
 | k + 1 => by
  rw [w7]
  exact aj5 (aj5 (ap4 h r k).1 (by decide)).1 (by omega)
theorem aI1 {n0 : Int} (r : Nat → SReq) : ∀ k, w7 n0 r k ≤ 4000 → n0 + 20 * k ≤ w7 n0 r k
 | 0, _ => by simp [w7]
 | k + 1, h => by
  rw [w7] at h ⊢
  have h1 := ar2 h
  have h2 := ar2 h1.1
  have := aI1 r k h2.1
  rw [h1.2.2, h2.2.2]; omega
theorem at7 {n0 : Int} (r : Nat → SReq) {m : Nat} : ∀ k, m ≤ k → w7 n0 r k ≤ 4000 → w7 n0 r m ≤ 4000
 | 0, h, h1 => by have : m = 0 := by omega
                  subst this; exact h1
 | k + 1, h, h1 => by
  rcases Nat.lt_or_ge m (k + 1) with h2 | h2
  ·rw [w7] at h1
   exact at7 r k (by omega) (ar2 (ar2 h1).1).1
  ·have : m = k + 1 := by omega
   subst this; exact h1
def B7 (b : SBatch) : Bool := decide (w7 5 b.req b.n ≤ 4000)
theorem aS0 {b : SBatch} (h : B7 b = true) : b.n ≤ 200 := by
 have := of_decide_eq_true h
 have := aI1 b.req b.n this
 omega
theorem L_li (b : SBatch) {m : Nat} (hm : m ≤ b.n) (hd : ∀ k, k < b.n → (b.req k).data.size ≤ 9223372036854775807) (h1 : ∀ k, k < m → w7 5 b.req k ≤ 4000) (h2 : m = b.n ∨ ¬ w7 5 b.req m ≤ 4000) (hn : b.n ≤ 9223372036854775807) :
  i5 Tryz.prog none 1 (cB (cB (cR (cR (cB (cL (cR (cB (cB (cR (cL (cR (cR (f8 Tryz.f50)))))))))))))) (m + 1) (U0 b 5 0) (.exit 2) (U0 b 5 m) :=
 i5.inv (U0 b 5) m (fun k hk => by
  have h3 := h1 k hk
  have hkn : k < b.n := by omega
  have h4 := ap4 (n0 := 5) (by decide) b.req k
  have h5 := aj5 h4.1 (more := 20) (by decide)
  have hdk : (((b.req (Int.toNat (k : Int))).data.size : Nat) : Int) ≤ 9223372036854775807 := by
   have := hd k hkn
   rw [Int.toNat_natCast]; omega
  refine f9 NG MO _ (bF8 b 5 m k) ?_ (Nat.le_refl _)
  simp only [All]
  and_intros
  all_goals first | exact a_2 h4.1 (by decide) (by decide) | exact a_2 h5.1 (by omega) hdk | (simp [h3, hkn, w7, IntKind.min, IntKind.max, IntKind.signed, IntKind.bits] <;> omega))
  (by
   rcases h2 with h2 | h2
   ·refine f9 NG MO _ (aT7 b 5 m m) ?_ (Nat.le_refl _)
    simp [All, h2]
   ·by_cases h3 : m < b.n
    ·refine f9 NG MO _ (bF7 b 5 m m) ?_ (Nat.le_refl _)
     simp [All, h2, h3]
    ·refine f9 NG MO _ (aT7 b 5 m m) ?_ (Nat.le_refl _)
     simp [All, h3]) (by simp)
theorem bv9 (b : SBatch) (hd : ∀ k, k < b.n → (b.req k).data.size ≤ 9223372036854775807) (hn : b.n ≤ 9223372036854775807) :
  T Tryz.prog 50 [.sl (.o 0) 2 0 0 0 1 (some 1)] [(.o 0, .rows 2 1 (j4 [b.c]) false)] (.bool (B7 b)) [(.o 0, .rows 2 1 (j4 [b.c]) false)] := by
 obtain ⟨m, h1, h2, h3⟩ := at6 (fun k => w7 5 b.req k ≤ 4000) b.n
 refine T.bool (f5 (aK7 b m) Tryz.func50 ?_) ?_
 ·simp only [All]
  and_intros
  all_goals first | exact a_2 (n := 0) (more := 5) (by decide) (by decide) (by decide) | exact L_li b h1 hd h2 h3 hn | simp [IntKind.min, IntKind.max, IntKind.signed, IntKind.bits]
 ·unfold B7
  rw [decide_eq_decide]
  rcases h3 with rfl | h3
  ·exact Iff.rfl
  ·exact ⟨fun h => absurd h h3, fun h => at7 b.req b.n h1 h⟩
theorem L7 (b : SBatch) (hd : ∀ k, k < b.n → (b.req k).data.size ≤ 9223372036854775807) (hn : b.n ≤ 9223372036854775807) (a : Nat) :
  T Tryz.prog 50 [.sl (.o a) 2 0 0 0 1 (some 1)] [(.o a, .rows 2 1 (j4 [b.c]) false)] (.bool (B7 b)) [(.o a, .rows 2 1 (j4 [b.c]) false)] :=
 T.conv (T.swap (.o 0) (.o a) (bv9 b hd hn)) (by simp [V.rens, V.ren, Nm.swap]) (by simp [c5.ren, B.ren, Nm.swap]) (by simp [V.ren]) (by simp [c5.ren, B.ren, Nm.swap])
def A8 (e : Nat → SEnv) : Nat → Int
 | 0 => 0
 | k + 1 => E7 (A8 e k) (e k).body.size 6000
def F9 (h : SHeld) : Bool := B7 h.batch && decide (h.cert.n ≤ 100)
def n8 (m : SMsg) : Bool := B7 m.batch && (decide (m.state.size ≤ 6000) && (decide (m.n ≤ 100) && (decide (m.cert.n ≤ 100) && (decide (m.nheld ≤ 20) && (decide (m.nnews ≤ 100) && (decide (∀ i, i < m.nheld → F9 (m.held i) = true) && decide (∀ i, i < m.nnews → A8 m.news (i + 1) ≤ 6000)))))))
def ah4 (m : SMsg) (k : Nat) : St := ⟨mkT 81 [(1, .ptr (.o 0) 0 0 0 0), (3, .int .i64 0), (47, hl m.nheld m.held), (48, .int .i64 m.nheld), (49, .int .i64 k)], [(.o 0, .flat m.c)], 1, []⟩
def ah5 (m : SMsg) (k : Nat) : St := ⟨mkT 81 [(1, .ptr (.o 0) 0 0 0 0), (3, .int .i64 (A8 m.news k)), (67, nw m.nnews m.news), (68, .int .i64 m.nnews), (69, .int .i64 k)], [(.o 0, .flat m.c)], 1, []⟩
def bn7 (b : SBatch) : List V → c5 → Nat → List Cl := fun args _ _ => match args with
 | .sl a _ _ _ _ _ _ :: _ => [{ rd := [a], val := .bool (B7 b) }]
 | _ => []
noncomputable def V5 (m : SMsg) (j : Nat) : Bd := { f := Tryz.f18, args := [.agg m.c], kb := { db := dbF [(50, bn7 m.batch)], lp := fun id _ => match id with
 | 0 => [(True, .loop (m.nheld + 1) (wTo (ah4 m 0)) (.exit 0) (ah4 m m.nheld)), (True, .loop (j + 1) (wTo (ah4 m 0)) .ret (smF 2 81))]
 | _ => [(True, .loop (m.nnews + 1) (wTo (ah5 m 0)) (.exit 2) (ah5 m m.nnews)), (True, .loop (j + 1) (wTo (ah5 m 0)) .ret (smF 2 81))] } }
noncomputable def aM4 (m : SMsg) (k : Nat) : Pc := { c := cB (cB (cR (cL (cR (cR (cR (f8 Tryz.f18))))))), st := ah4 m k, kb := { db := dbF [(50, bn7 (m.held k).batch)] }, k := fun e _ => match e with
 | .normal => some (wTo (ah4 m (k + 1)))
 | .ret => some (wTo (smF 2 81))
 | _ => some (wTo (ah4 m m.nheld)) }
noncomputable def bg0 (m : SMsg) (k : Nat) : Pc := { c := cB (cB (cR (cL (cR (cR (cR (cR (f8 Tryz.f18)))))))), st := ah5 m k, kb := { db := dbF [(51, fun _ _ _ => [{ val := .int .i64 (A8 m.news (k + 1)) }])] }, k := fun e _ => match e with
 | .normal => some (wTo (ah5 m (k + 1)))
 | .ret => some (wTo (smF 2 81))
 | _ => some (wTo (ah5 m m.nnews)) }
end Go.Proofs.YtnmccoincblecaaGreat
