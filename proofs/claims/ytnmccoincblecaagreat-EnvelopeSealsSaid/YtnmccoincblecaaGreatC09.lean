/-
  Contracts and laws that the claim's theorem leans on, joined out of the texts Va0 SySeal Kc0D Kc0 Kc1D Kc1 Ts0 Qc1D Qc1 Qe1D Qe1 Qb0 Qj1D (own work of this seat): Contracts: numbers and texts as bytes, as the document's answer has them; Macs and tags, plainly; Contracts: macs and tags by the document; Contracts: macs and tags by the document; Contracts: macs and tags by the program; Contracts: macs and tags by the program; Contracts: the two messages of the example of envelopes: which is good, which is not; its bytes; the same with as little as may be; Contracts: the example that each statement of envelopes asks for; Contracts: the example that each statement of envelopes asks for; Contracts: a message is sealed, and opened; Contracts: a message is sealed, and opened; The document's reader of bytes: what it keeps; Contracts: the document's reader of bytes, with its place: numbers, texts, raw bytes.
-/
import Derived.Test.YtnmccoincblecaaGreatC07
import Derived.Test.YtnmccoincblecaaGreatC08
set_option linter.unusedVariables false
set_option linter.unusedSimpArgs false
set_option maxHeartbeats 1000000
namespace Go.Proofs.YtnmccoincblecaaGreat
open Go Sy Go.Proofs
theorem bX9 (n : Nat) :
  i5 zp (pcDa n) [] = (some (.normal, St.mk (mkT 15 [(0, .int .i64 ↑n)]) [] 1 [], [q (↑n : Int)]) : Option (Exit × St × List Prop)) := by kernel_rfl
theorem bX_ (n : Nat) :
  i5 zp (pcDb n) [] = (some (.normal, St.mk (mkT 15 [(0, .int .i64 ↑n), (3, .snil)]) [] 1 [], [q (↑n : Int)]) : Option (Exit × St × List Prop)) := by kernel_rfl
theorem bY1 (n : Nat) :
  i5 zp (bY0 n) [] = (some (.ret, St.mk (mkT 15 [(2, sb (.o 63) (i4 8 n))]) [(.o 63, bs (i4 8 n))] 130 [], [f9 zp none 1 (cB (cB (cL (Pc.c (bY0 n))))) (List.length (i4 8 n) + 1) (St.mk (mkT 15 [(0, .int .i64 (↑(n / 1) : Int)), (3, .sl (.o 1) 1 0 0 0 (List.length (p9 n 0)) none)]) [(.o 1, bs (p9 n 0))] 2 []) (.exit 0) (St.mk (mkT 15 [(0, .int .i64 (↑(n / 256 ^ List.length (i4 8 n)) : Int)), (3, .sl (.o 1) 1 0 0 0 (List.length (p9 n (List.length (i4 8 n)))) none)]) [(.o 1, bs (p9 n (List.length (i4 8 n))))] 2 []), (0 : Nat) = List.length (p9 n (0 : Nat)), ∀ (k : Nat), k < (0 : Nat) → [] = bl (p9 n (0 : Nat)) k, true = false → true = false, (↑n : Int) = (↑(n / 1) : Int), q0, q0, q0, (0 : Nat) = List.length (p9 n (0 : Nat)), (none : Option Nat) = none ∨ (none : Option Nat) = none, List.length (p9 n (List.length (i4 (8 : Nat) n))) = List.length (i4 (8 : Nat) n), ∀ (k : Nat), k < List.length (p9 n (List.length (i4 (8 : Nat) n))) → bl (p9 n (List.length (i4 (8 : Nat) n))) k = bl (i4 (8 : Nat) n) k, true = false → true = false, q0, q0, q0, List.length (p9 n (List.length (i4 (8 : Nat) n))) = List.length (i4 (8 : Nat) n), (none : Option Nat) = none ∨ (none : Option Nat) = none]) : Option (Exit × St × List Prop)) := by kernel_rfl
theorem bG3 (n : Nat) (k : Nat) :
  i5 zp (bY2 n k) [true] = (some (.normal, St.mk (mkT 15 [(0, .int .i64 (↑(n / 256 ^ (k + 1)) : Int)), (3, .sl (.o 1) 1 0 0 0 (List.length (p9 n (k + 1))) none)]) [(.o 1, bs (p9 n (k + 1)))] 2 [], [decide ((0 : Int) < (↑(n / (256 : Nat) ^ k) : Int)) = true, (0 : Int) ≤ (↑(n / (256 : Nat) ^ k) : Int) ∧ (0 : Int) < (256 : Int), q (1 : Nat), (0 : Nat) + List.length (p9 n k) ≤ List.length (p9 n k), ∀ (k_1 : Nat), k_1 < List.length (p9 n k) → true = true, ((1 : Nat) + List.length (p9 n k)) * (1 : Nat) ≤ (140737488355328 : Nat), (0 : Int) ≤ (↑(n / (256 : Nat) ^ k) : Int) ∧ (0 : Int) < (256 : Int) ∧ InR .i64 ((↑(n / (256 : Nat) ^ k) : Int) / (256 : Int)), (1 : Nat) + List.length (p9 n k) = List.length (p9 n (k + (1 : Nat))), ∀ (k_1 : Nat), k_1 < (1 : Nat) + List.length (p9 n k) → m5 (1 : Nat) (j3 [[V.int .u8 (IntKind.wrap .u8 ((↑(n / (256 : Nat) ^ k) : Int) % (256 : Int)))]]) (fun k_2 => bl (p9 n k) ((0 : Nat) + k_2)) k_1 = bl (p9 n (k + (1 : Nat))) k_1, true = false → true = false, (↑(n / (256 : Nat) ^ k) : Int) / (256 : Int) = (↑(n / (256 : Nat) ^ (k + (1 : Nat))) : Int), q0, q0, q0, (1 : Nat) + List.length (p9 n k) = List.length (p9 n (k + (1 : Nat))), (none : Option Nat) = none ∨ (none : Option Nat) = none]) : Option (Exit × St × List Prop)) := by kernel_rfl
theorem bG2 (n : Nat) (k : Nat) :
  i5 zp (bY2 n k) [false] = (some (.exit 0, St.mk (mkT 15 [(0, .int .i64 (↑(n / 256 ^ k) : Int)), (3, .sl (.o 1) 1 0 0 0 (List.length (p9 n k)) none)]) [(.o 1, bs (p9 n k))] 2 [], [decide ((0 : Int) < (↑(n / (256 : Nat) ^ k) : Int)) = false, q (List.length (p9 n k)), ∀ (k_1 : Nat), k_1 < List.length (p9 n k) → bl (p9 n k) k_1 = bl (p9 n k) k_1, true = false → true = false, q (↑(n / (256 : Nat) ^ k) : Int), q0, q0, q0, q (List.length (p9 n k)), (none : Option Nat) = none ∨ (none : Option Nat) = none]) : Option (Exit × St × List Prop)) := by kernel_rfl
theorem bD7 (n : Nat) (l : List UInt8) :
  e9 zp (bdRp n l) [false] = (some (.sl (.o 63) 1 0 0 0 (List.length (l ++ j4 n)) none, [(.o 63, bs (l ++ j4 n))], [q0, (0 : Nat) + List.length l ≤ List.length l, ∀ (k : Nat), k < List.length l → true = true, ((0 : Nat) + List.length l) * (1 : Nat) ≤ (140737488355328 : Nat), q false, T zp 81 [.int .i64 ↑n] [] (sb (.o 513) (i4 8 n)) [(.o 513, bs (i4 8 n))], q ((0 : Nat) + List.length l), 1 ≤ (1 : Nat), ∀ (k : Nat), k < (1 : Nat) → m8 (j3 [[V.int .u8 (IntKind.wrap .u8 (↑(List.length (i4 (8 : Nat) n)) : Int))]] ((0 : Nat) + k)) = true, ((0 : Nat) + List.length l + (1 : Nat)) * (1 : Nat) ≤ (140737488355328 : Nat), q ((0 : Nat) + List.length l + (1 : Nat)), (0 : Nat) + List.length (i4 (8 : Nat) n) ≤ List.length (i4 (8 : Nat) n), ∀ (k : Nat), k < List.length (i4 (8 : Nat) n) → true = true, ((0 : Nat) + List.length l + (1 : Nat) + List.length (i4 (8 : Nat) n)) * (1 : Nat) ≤ (140737488355328 : Nat), (0 : Nat) + List.length l + (1 : Nat) + List.length (i4 (8 : Nat) n) = List.length (l ++ j4 n), ∀ (k : Nat), k < (0 : Nat) + List.length l + (1 : Nat) + List.length (i4 (8 : Nat) n) → m5 ((0 : Nat) + List.length l + (1 : Nat)) (m5 ((0 : Nat) + List.length l) (m5 (0 : Nat) (j3 []) fun k => bl l ((0 : Nat) + k)) fun k => j3 [[V.int .u8 (IntKind.wrap .u8 (↑(List.length (i4 (8 : Nat) n)) : Int))]] ((0 : Nat) + k)) (fun k => bl (i4 (8 : Nat) n) ((0 : Nat) + k)) k = bl (l ++ j4 n) k, true = false → true = false, q0, q0, q0, (0 : Nat) + List.length l + (1 : Nat) + List.length (i4 (8 : Nat) n) = List.length (l ++ j4 n), (none : Option Nat) = none ∨ (none : Option Nat) = none]) : Option (V × c5 × List Prop)) := by kernel_rfl
theorem bj7 (n : Nat) :
  e9 zp (ce_ n) [false] = (some (.sl (.o 63) 1 0 0 0 (List.length (j4 n)) none, [(.o 63, bs (j4 n))], [q0, 0 ≤ (140737488355328 : Nat), q false, T zp 81 [.int .i64 ↑n] [] (sb (.o 513) (i4 8 n)) [(.o 513, bs (i4 8 n))], q 0, 1 ≤ (1 : Nat), ∀ (k : Nat), k < (1 : Nat) → m8 (j3 [[V.int .u8 (IntKind.wrap .u8 (↑(List.length (i4 (8 : Nat) n)) : Int))]] ((0 : Nat) + k)) = true, 1 ≤ (140737488355328 : Nat), q 1, (0 : Nat) + List.length (i4 (8 : Nat) n) ≤ List.length (i4 (8 : Nat) n), ∀ (k : Nat), k < List.length (i4 (8 : Nat) n) → true = true, (1 + List.length (i4 (8 : Nat) n)) * (1 : Nat) ≤ (140737488355328 : Nat), 1 + List.length (i4 (8 : Nat) n) = List.length (j4 n), ∀ (k : Nat), k < 1 + List.length (i4 (8 : Nat) n) → m5 1 (m5 0 (m5 (0 : Nat) (j3 []) fun x => []) fun k => j3 [[V.int .u8 (IntKind.wrap .u8 (↑(List.length (i4 (8 : Nat) n)) : Int))]] ((0 : Nat) + k)) (fun k => bl (i4 (8 : Nat) n) ((0 : Nat) + k)) k = bl (j4 n) k, true = false → true = false, q0, q0, q0, 1 + List.length (i4 (8 : Nat) n) = List.length (j4 n), (none : Option Nat) = none ∨ (none : Option Nat) = none]) : Option (V × c5 × List Prop)) := by kernel_rfl
theorem bW_ (n : Nat) : p9 n 0 = [] := by simp [p9]
theorem bb5 (n : Nat) : p9 n (i4 8 n).length = i4 8 n := by simp [p9]
theorem bb4 {n k : Nat} (h : k ≤ (i4 8 n).length) : (p9 n k).length = k := by simp [p9]; omega
theorem bF1 {n k : Nat} (h : n < 9223372036854775808) (hk : k < (i4 8 n).length) : p9 n (k + 1) = UInt8.ofNat (n / 256 ^ k % 256) :: p9 n k := by
 have hg := ak9 8 n ((i4 8 n).length - (k + 1)) (N9 h) (by omega)
 rw [show (i4 8 n).length - 1 - ((i4 8 n).length - (k + 1)) = k by omega] at hg
 have hi : (i4 8 n).length - (k + 1) < (i4 8 n).length := by omega
 rw [List.getElem?_eq_getElem hi, Option.some.injEq] at hg
 rw [p9, List.drop_eq_getElem_cons hi, hg, p9, show (i4 8 n).length - (k + 1) + 1 = (i4 8 n).length - k by omega]
theorem aC6 {n : Nat} {f f' g g' : Nat → List V} (h : ∀ k, k < n → f k = f' k) (h' : ∀ k, g k = g' k) (k : Nat) : m5 n f g k = m5 n f' g' k := by
 unfold m5
 cases hb : Nat.blt k n with
 | true => exact h k (Nat.le_of_ble_eq_true hb)
 | false => exact h' _
theorem a_5 (l : List UInt8) {v : Int} {x : UInt8} (h : v = (x.toNat : Int)) (k : Nat) : m5 1 (j3 [[V.int .u8 v]]) (fun k => bl l (0 + k)) k = bl (x :: l) k := by
 rw [show x :: l = [x] ++ l from rfl, J0]
 refine aC6 (n := 1) (fun j hj => ?_) (fun j => by rw [Nat.zero_add]) k
 rw [show j = 0 by omega, h]; rfl
theorem aG6 (l D : List UInt8) {v : Int} {x : UInt8} (h : v = (x.toNat : Int)) (k : Nat) : m5 (0 + l.length + 1) (m5 (0 + l.length) (m5 0 (j3 []) fun k => bl l (0 + k)) fun k => j3 [[V.int .u8 v]] (0 + k)) (fun k => bl D (0 + k)) k = bl (l ++ x :: D) k := by
 rw [show l ++ x :: D = (l ++ [x]) ++ D by simp, J0, List.length_append, List.length_singleton]
 simp only [Nat.zero_add]
 refine aC6 (fun j hj => ?_) (fun _ => rfl) k
 have := V8 l v x h j hj
 simp only [Nat.zero_add] at this
 exact this
theorem ca7 {n : Nat} (h : n < 9223372036854775808) : T Tryz.prog 81 [.int .i64 n] [] (sb (.o 63) (i4 8 n)) [(.o 63, bs (i4 8 n))] := by
 have h1 := F7 8 n (N9 h)
 have hL : f9 Tryz.prog none 1 (cB (cB (cL (cR (cR (f1 Tryz.f81)))))) ((i4 8 n).length + 1) (dgI n 0) (.exit 0) (dgI n (i4 8 n).length) := by
  refine f9.inv (dgI n) (i4 8 n).length (fun k hk => ?_) ?_ (by simp)
  ·refine f4 NG MO _ (bG3 n k) ?_ (show 1 ≤ 2 by decide)
   have hp : 0 < n / 256 ^ k := h1.2.2 k hk
   have hq : n / 256 ^ k ≤ n := Nat.div_le_self _ _
   have e := bF1 h hk
   have hl := bb4 (n := n) (k := k) (by omega)
   have hv : IntKind.wrap IntKind.u8 (((n / 256 ^ k : Nat) : Int) % 256) = ((UInt8.ofNat (n / 256 ^ k % 256)).toNat : Int) := by
    rw [show ((n / 256 ^ k : Nat) : Int) % 256 = ((n / 256 ^ k % 256 : Nat) : Int) from rfl, bf3]; simp
   have hd : ((n / 256 ^ k : Nat) : Int) / 256 = ((n / 256 ^ (k + 1) : Nat) : Int) := by
    rw [Nat.pow_succ, ← Nat.div_div_eq_div_mul]; rfl
   have hI : InR IntKind.i64 (((n / 256 ^ k : Nat) : Int) / 256) := by
    generalize n / 256 ^ k = q at hq
    simp [InR, IntKind.min, IntKind.max, IntKind.signed, IntKind.bits]; omega
   simp only [All]
   and_intros
   all_goals first | (rw [decide_eq_true_eq]; omega) | exact hd | exact hI.1 | exact hI.2 | (rw [e, List.length_cons]; omega) | (rw [e]; intro j _; exact a_5 _ hv j) | omega | trivial | (simp [IntKind.min, IntKind.max, IntKind.signed, IntKind.bits] <;> omega)
  ·refine f4 NG MO _ (bG2 n (i4 8 n).length) ?_ (show 1 ≤ 2 by decide)
   have hz := h1.2.1
   simp only [All]
   and_intros
   all_goals first | (rw [decide_eq_false_iff_not]; omega) | trivial | (simp; done)
 have ha := f4 NG MO _ (bX9 n) (by simp [All]) (Nat.le_refl _)
 have hb := f4 NG MO _ (bX_ n) (by simp [All]) (Nat.le_refl _)
 have hc := f4 NG MO _ (bY1 n) (by
  simp only [All]
  and_intros
  all_goals first | exact hL | trivial | (simp only [bW_]; rfl) | (simp only [bb5]; done) | (simp only [Nat.div_one]; done) | (intro k hk; omega) | (rw [bb5]; intro _ _; rfl)) (Nat.le_refl _)
 exact aA7 (c0 := []) Tryz.func81 (by kernel_rfl) (R.seq ha (R.seq hb hc)) (names := [.o 63]) (tl := none) rfl trivial (N3 (by kernel_rfl)) (by kernel_rfl)
theorem bM2 {n : Nat} (h : n < 9223372036854775808) {m : Nat} : T Tryz.prog 81 [.int .i64 n] [] (sb (.o m) (i4 8 n)) [(.o m, bs (i4 8 n))] := by
 obtain ⟨σ, hσ, h1⟩ := T.at (ca7 h) [.o 63] [.o m] (by simp) (by simp) rfl
 simp only [List.map_cons, List.map_nil, List.cons.injEq, and_true] at hσ
 simpa [V.rens, V.ren, sb, bs, c5.ren, B.ren, hσ] using h1
theorem cc9 {n : Nat} (h : n < 9223372036854775808) {l : List UInt8} (hl : l.length ≤ 70368744177664) : T Tryz.prog 37 [sb (.o 0) l, .int .i64 n] [(.o 0, bs l)] (sb (.o 63) (l ++ j4 n)) [(.o 63, bs (l ++ j4 n))] := by
 have h1 := F7 8 n (N9 h)
 have hv : IntKind.wrap IntKind.u8 ((i4 8 n).length : Int) = ((UInt8.ofNat (i4 8 n).length).toNat : Int) := ai8 _
 refine f3 (bD7 n l) Tryz.func37 ?_
 simp only [All]
 and_intros
 all_goals first | exact bM2 h | omega | (intro k _; exact aG6 l (i4 8 n) hv k) | (intro k hk; rw [show k = 0 by omega]; rfl) | (simp [j4, IntKind.min, IntKind.max, IntKind.signed, IntKind.bits] <;> omega)
theorem T_rp {z : Int} (h : r9 z) {l : List UInt8} (hl : l.length ≤ 70368744177664) {a m : Nat} (hne : a ≠ m) : T Tryz.prog 37 [sb (.o a) l, .int .i64 z] [(.o a, bs l)] (sb (.o m) (l ++ f8 z)) [(.o m, bs (l ++ f8 z))] := by
 have e : ((z.toNat : Nat) : Int) = z := Int.toNat_of_nonneg h.1
 have h0 := cc9 (n := z.toNat) (by have := h.2; omega) hl
 rw [e] at h0
 obtain ⟨σ, hσ, h1⟩ := T.at h0 [.o 0, .o 63] [.o a, .o m] (by simp) (by simp [hne]) rfl
 simp only [List.map_cons, List.map_nil, List.cons.injEq, and_true] at hσ
 simpa [V.rens, V.ren, sb, bs, c5.ren, B.ren, hσ.1, hσ.2, f8] using h1
theorem cc8 {n : Nat} (h : n < 9223372036854775808) : T Tryz.prog 37 [.snil, .int .i64 n] [] (sb (.o 63) (j4 n)) [(.o 63, bs (j4 n))] := by
 have h1 := F7 8 n (N9 h)
 have hv : IntKind.wrap IntKind.u8 ((i4 8 n).length : Int) = ((UInt8.ofNat (i4 8 n).length).toNat : Int) := ai8 _
 refine f3 (bj7 n) Tryz.func37 ?_
 simp only [All]
 and_intros
 all_goals first | exact bM2 h | omega | (intro k _; exact aG6 [] (i4 8 n) hv k) | (intro k hk; rw [show k = 0 by omega]; rfl) | (simp [j4, IntKind.min, IntKind.max, IntKind.signed, IntKind.bits] <;> omega)
theorem bA0 {z : Int} (h : r9 z) {m : Nat} : T Tryz.prog 37 [.snil, .int .i64 z] [] (sb (.o m) (f8 z)) [(.o m, bs (f8 z))] := by
 have e : ((z.toNat : Nat) : Int) = z := Int.toNat_of_nonneg h.1
 have h0 := cc8 (n := z.toNat) (by have := h.2; omega)
 rw [e] at h0
 obtain ⟨σ, hσ, h1⟩ := T.at h0 [.o 63] [.o m] (by simp) (by simp) rfl
 simp only [List.map_cons, List.map_nil, List.cons.injEq, and_true] at hσ
 simpa [V.rens, V.ren, sb, bs, c5.ren, B.ren, hσ, f8] using h1
end Go.Proofs.YtnmccoincblecaaGreat
namespace Sy
open Go
def x8 (x y : Int) : Int := j8 (fun _ x y => x ^^^ y) .u8 x y
def r5 (k : List Int) (x : Int) : List Int := (List.range 64).map fun i => x8 (k.getD i 0) x
def D3 (k : List Int) (x : Int) (j : Nat) : List Int := (List.range 64).map fun i => if i < j then x8 (k.getD i 0) x else k.getD i 0
theorem P9 (k : List Int) (x : Int) : (r5 k x).length = 64 := by simp [r5]
theorem am3 (k : List Int) (x : Int) (j : Nat) : (D3 k x j).length = 64 := by simp [D3]
theorem bp2 (k : List Int) (x : Int) : D3 k x 64 = r5 k x := by
 unfold D3 r5
 apply List.map_congr_left
 intro i hi
 rw [if_pos (List.mem_range.1 hi)]
theorem bp3 (k : List Int) (x : Int) (j : Nat) {i : Nat} (h : i < 64) : (D3 k x j).getD i 0 = if i < j then x8 (k.getD i 0) x else k.getD i 0 := by
 rw [D3, List.getD_eq_getElem?_getD, List.getElem?_map, List.getElem?_range h]; rfl
theorem bp4 (k : List Int) (x : Int) {j : Nat} (h : j < 64) : (D3 k x j).set j (x8 ((D3 k x j).getD j 0) x) = D3 k x (j + 1) := by
 apply List.ext_getElem?
 intro i
 rw [List.getElem?_set]
 by_cases hi : i < 64
 ·have e : ∀ j', (D3 k x j')[i]? = some (if i < j' then x8 (k.getD i 0) x else k.getD i 0) := fun j' => by
   rw [D3, List.getElem?_map, List.getElem?_range hi]; rfl
  rw [e, e]
  by_cases h1 : j = i
  ·subst h1
   rw [if_pos rfl, if_pos (by rw [am3]; exact h), bp3 k x j h, if_neg (Nat.lt_irrefl j), if_pos (Nat.lt_succ_self j)]
  ·rw [if_neg h1]
   by_cases h2 : i < j
   ·rw [if_pos h2, if_pos (by omega)]
   ·rw [if_neg h2, if_neg (by omega)]
 ·have e : ∀ j', (D3 k x j')[i]? = none := fun j' => by rw [List.getElem?_eq_none_iff, am3]; omega
  rw [e, e, am3]
  by_cases h1 : j = i
  ·subst h1; rw [if_pos rfl, if_neg (by omega)]
  ·rw [if_neg h1]
theorem bc0 (k : List Int) (x : Int) : D3 k x 0 = (List.range 64).map fun i => k.getD i 0 := by
 unfold D3
 apply List.map_congr_left
 intro i _
 rw [if_neg (Nat.not_lt_zero i)]
def P4 (k b : List Int) : List Int := A8 (r5 k 92 ++ A8 (r5 k 54 ++ b))
theorem a_7 (H : List Int) : ∀ i, (dA H i).length = 32
 | 0 => by simp [dA]
 | i + 1 => by rw [dA, List.length_set, a_7 H i]
theorem M6 (B : List Int) : (A8 B).length = 32 := a_7 _ _
theorem aF1 (k b : List Int) : (P4 k b).length = 32 := M6 _
def uI (l : List UInt8) : List Int := l.map fun x => (x.toNat : Int)
theorem L4 (l : List UInt8) : (uI l).length = l.length := by simp [uI]
theorem b_3 (a b : List UInt8) : uI (a ++ b) = uI a ++ uI b := by simp [uI]
theorem ah1 (l : List UInt8) (i : Nat) : (uI l).getD i 0 = ((l.getD i 0).toNat : Int) := by
 simp only [uI, List.getD_eq_getElem?_getD, List.getElem?_map]
 cases l[i]? <;> rfl
def bI (s : ByteArray) : List Int := uI s.data.toList
theorem ao3 (s : ByteArray) : (bI s).length = s.size := by rw [bI, L4]; rfl
theorem aV8 (s : ByteArray) (i : Nat) : (bI s).getD i 0 = s9 s i := by rw [bI, ah1]; rfl
theorem bb0 (a b : List Int) : ib (a ++ b) = m5 a.length (ib a) (ib b) := by
 funext k
 unfold ib m5
 cases h : Nat.blt k a.length
 ·have h1 : a.length ≤ k := by
   rcases Nat.lt_or_ge k a.length with h2 | h2
   ·rw [← Nat.blt_eq] at h2; rw [h2] at h; cases h
   ·exact h2
  simp [List.getD_eq_getElem?_getD, List.getElem?_append_right h1]
 ·rw [Nat.blt_eq] at h
  simp [List.getD_eq_getElem?_getD, List.getElem?_append_left h]
theorem bc1 {k : List Int} {x : Int} {j : Nat} (h : j < 64) : (r5 k x).take (j + 1) = (r5 k x).take j ++ [x8 (k.getD j 0) x] := by
 have hj : j < (r5 k x).length := by rw [P9]; exact h
 rw [← List.take_append_getElem hj]
 congr 2
 simp [r5]
def F8 (d : List Int) (j : Nat) : List Int := (List.range 16).map fun i => if i < j then d.getD i 0 else 0
def W7 (d : List Int) : List Int := (List.range 16).map fun i => d.getD i 0
theorem an5 (d : List Int) (j : Nat) : (F8 d j).length = 16 := by simp [F8]
theorem bt_ (d : List Int) : (W7 d).length = 16 := by simp [W7]
theorem bt8 (d : List Int) : F8 d 16 = W7 d := by
 unfold F8 W7
 apply List.map_congr_left
 intro i hi
 rw [if_pos (List.mem_range.1 hi)]
theorem bf1 (d : List Int) : F8 d 0 = List.replicate 16 0 := by simp [F8]; rfl
theorem bt9 (d : List Int) {j : Nat} (h : j < 16) : (F8 d j).set j (d.getD j 0) = F8 d (j + 1) := by
 apply List.ext_getElem?
 intro i
 rw [List.getElem?_set]
 by_cases hi : i < 16
 ·have e : ∀ j', (F8 d j')[i]? = some (if i < j' then d.getD i 0 else 0) := fun j' => by
   rw [F8, List.getElem?_map, List.getElem?_range hi]; rfl
  rw [e, e]
  by_cases h1 : j = i
  ·subst h1
   rw [if_pos rfl, if_pos (by rw [an5]; exact h), if_pos (Nat.lt_succ_self j)]
  ·rw [if_neg h1]
   by_cases h2 : i < j
   ·rw [if_pos h2, if_pos (by omega)]
   ·rw [if_neg h2, if_neg (by omega)]
 ·have e : ∀ j', (F8 d j')[i]? = none := fun j' => by rw [List.getElem?_eq_none_iff, an5]; omega
  rw [e, e, an5]
  by_cases h1 : j = i
  ·subst h1; rw [if_pos rfl, if_neg (by omega)]
  ·rw [if_neg h1]
def aH4 (kb : List UInt8) (body : ByteArray) : List Int := W7 (P4 (A8 (uI kb)) (bI body))
end Sy
namespace Go.Proofs.YtnmccoincblecaaGreat
open Go Sy Go.Proofs
def pdI (k : List Int) (x : Int) (L : List Int) (j : Nat) : St := ⟨mkT 33 [(0, rb k), (1, .int .u8 x), (5, obS 0 L), (6, .int .i64 (j : Nat))], [(.o 0, obB L)], 1, []⟩
noncomputable def bT4 (k : List Int) (x : Int) (L : List Int) : Bd := { f := Tryz.f100, args := [rb k, .int .u8 x], kb := { db := fun _ _ _ _ => [], fx := fun id _ => bif Nat.beq id 4 then [.virt 5 1] else [], lp := fun _ t => [(True, .loop (64 + 1) (w6 [(.o 0, nmV (m6 t.tmps 5))] (pdI k x [] 0)) (.exit 0) (pdI k x L 64))] }, names := fun _ => [.o 0] }
noncomputable def bq7 (k : List Int) (x : Int) (L : List Int) (j : Nat) (L2 : List Int) : Pc := { c := cB (cB (cR (cL (cR (cR (cR (f1 Tryz.f100))))))), st := pdI k x L j, kb := kb0, k := fun x_ t => match x_ with
 | .normal => some (w6 [(.o 0, nmV (m6 t.tmps 5))] (pdI k x L2 (j + 1)))
 | _ => some (wTo (pdI k x L 64)) }
def nmL : V → List Nm
 | .sl a _ _ _ _ _ _ => [a]
 | _ => []
def mcP (p1 p2 : List Int) : List V → c5 → Nat → List Cl := fun a _ lo => match a with
 | [_, .int _ 54] => [{ val := obS lo p1, post := [(.o lo, obB p1)] }]
 | [_, .int _ 92] => [{ val := obS lo p2, post := [(.o lo, obB p2)] }]
 | _ => []
def rdC (v : V) : List V → List Cl
 | .sl a _ _ _ _ _ _ :: _ => [{ rd := [a], val := v }]
 | _ => []
def obC (l : List Int) : List V → c5 → Nat → List Cl := fun _ _ lo => [{ val := obS lo l, post := [(.o lo, obB l)] }]
def ubC (l : List UInt8) : List V → c5 → Nat → List Cl := fun _ _ lo => [{ val := sb (.o lo) l, post := [(.o lo, bs l)] }]
def agD (d : List Int) : V := .agg [.seg .u8 32 d]
noncomputable def bdMc (k b p1 p2 d1 d2 : List Int) : Bd := { f := Tryz.f65, args := [rb k, rb b], kb := { db := dbQ [(100, mcP p1 p2), (99, fun a _ lo => bif Nat.ble lo 600 then rdC (agD d1) a else rdC (agD d2) a), (101, obC d1)] } }
def kyV (s : ByteArray) (n : Int) : V := .agg [.str s, .int .i64 n]
noncomputable def bdRz (s : ByteArray) : Bd := { f := Tryz.f36, args := [.snil, .str s], base := 1, kb := { db := fun k a _ lo => bif Nat.beq k 37 then J1 (f8 s.size) a lo else [] }, k := kSb 4 63 (l5 s), names := fun _ => [.o 63] }
noncomputable def bdKy (s : ByteArray) (n id : Int) (l1 l2 : List UInt8) (d : List Int) : Bd := { f := Tryz.f66, args := [kyV s n, .int .i64 id], kb := { db := dbQ [(36, ubC l1), (37, fun a _ lo => J1 l2 a lo), (99, fun a _ _ => rdC (agD d) a), (101, obC d)] }, names := fun t => nmL (m6 t.tmps 4) }
def sgI (d L : List Int) (j : Nat) : St := ⟨mkT 36 [(6, p0K 0), (8, p0K 1), (9, p0K 2), (10, .int .i64 (j : Nat))], [(.o 0, .flat [.seg .u8 16 (List.replicate 16 0)]), (.o 1, .flat [.seg .u8 16 L]), (.o 2, .flat [.seg .u8 32 d])], 3, []⟩
noncomputable def aP_ (s : ByteArray) (n id : Int) (b : ByteArray) (k d t : List Int) : Bd := { f := Tryz.f20, args := [kyV s n, .int .i64 id, .str b], kb := { db := dbQ [(66, obC k), (65, fun a _ _ => rdC (agD d) a)], lp := fun _ t2 => [(True, .loop (16 + 1) (w6 [(.o 0, nmV (m6 t2.tmps 6)), (.o 1, nmV (m6 t2.tmps 8)), (.o 2, nmV (m6 t2.tmps 9))] (sgI d (List.replicate 16 0) 0)) (.exit 0) (sgI d t 16))] } }
noncomputable def bY_ (d L : List Int) (j : Nat) (L2 : List Int) : Pc := { c := cB (cB (cR (cL (cR (cR (cR (cR (f1 Tryz.f20)))))))), st := sgI d L j, kb := kb0, k := fun x_ _ => match x_ with
 | .normal => some (wTo (sgI d L2 (j + 1)))
 | _ => some (wTo (sgI d L 16)) }
noncomputable def bU0 (s : ByteArray) (n id : Int) (b : ByteArray) (t u : List Int) (e : Int) : Bd := { f := Tryz.f43, args := [kyV s n, .int .i64 id, .str b, .agg [.seg .u8 16 t]], kb := { db := dbQ [(20, D8 (.tup [.agg [.seg .u8 16 u], .int .i64 e]))] } }
theorem bC_ (k : List Int) (x : Int) (L : List Int) :
  e9 zp (bT4 k x L) [false] = (some (.sl (.o 0) 1 0 0 0 (List.length L) none, [(.o 0, .rows 1 (List.length L) (ib L) true)], [decide ((64 : Int) < (↑(List.length k) : Int)) = false, f9 zp none 0 (cB (cB (cR (cL (cR (cR (cR (f1 (Bd.f (bT4 k x L)))))))))) 65 (St.mk (mkT 33 [(0, .ros 1 (List.length k) (ib k) false), (1, .int .u8 x), (5, .sl (.o 0) 1 0 0 0 0 none), (6, .int .i64 0)]) [(.o 0, .rows 1 0 (ib []) true)] 1 []) (.exit 0) (St.mk (mkT 33 [(0, .ros 1 (List.length k) (ib k) false), (1, .int .u8 x), (5, .sl (.o 0) 1 0 0 0 (List.length L) none), (6, .int .i64 64)]) [(.o 0, .rows 1 (List.length L) (ib L) true)] 1 []), (0 : Nat) = 0, ∀ (k : Nat), k < (0 : Nat) → [] = [V.int .u8 (0 : Int)], true = false → true = false, q (List.length k), ∀ (k_1 : Nat), k_1 < List.length k → [V.int .u8 (List.getD k k_1 (0 : Int))] = [V.int .u8 (List.getD k k_1 (0 : Int))], false = true → false = true, q x, q0, q0, q0, (0 : Nat) = 0, (none : Option Nat) = none ∨ (none : Option Nat) = none, q1]) : Option (V × c5 × List Prop)) := by kernel_rfl
theorem bq9 (k : List Int) (x : Int) (L : List Int) (j : Nat) (L2 : List Int) :
  i5 zp (bq7 k x L j L2) [true, true] = (some (.normal, St.mk (mkT 33 [(0, .ros 1 (List.length k) (ib k) false), (1, .int .u8 x), (5, .sl (.o 0) 1 0 0 0 (List.length L2) none), (6, .int .i64 (↑(j + 1) : Int))]) [(.o 0, .rows 1 (List.length L2) (ib L2) true)] 1 [], [decide ((↑j : Int) < (64 : Int)) = true, decide ((↑j : Int) < (↑(List.length k) : Int)) = true, (0 : Int) ≤ (↑j : Int) ∧ (↑j : Int) < (↑(List.length k) : Int), q (List.length L), 1 ≤ (1 : Nat), ∀ (k_1 : Nat), k_1 < (1 : Nat) → m8 (j3 [[V.int .u8 (j8 (fun x x_1 y => x_1 ^^^ y) .u8 (List.getD k (Int.toNat (↑j : Int)) (0 : Int)) x)]] ((0 : Nat) + k_1)) = true, (List.length L + (1 : Nat)) * (1 : Nat) ≤ (140737488355328 : Nat), InR .i64 ((↑j : Int) + (1 : Int)), List.length L + (1 : Nat) = List.length L2, ∀ (k_1 : Nat), k_1 < List.length L + (1 : Nat) → m5 (List.length L) (ib L) (fun k_2 => j3 [[V.int .u8 (j8 (fun x x_1 y => x_1 ^^^ y) .u8 (List.getD k (Int.toNat (↑j : Int)) (0 : Int)) x)]] ((0 : Nat) + k_2)) k_1 = [V.int .u8 (List.getD L2 k_1 (0 : Int))], true = false → true = false, q (List.length k), ∀ (k_1 : Nat), k_1 < List.length k → [V.int .u8 (List.getD k k_1 (0 : Int))] = [V.int .u8 (List.getD k k_1 (0 : Int))], false = true → false = true, q x, q0, q0, q0, List.length L + (1 : Nat) = List.length L2, (none : Option Nat) = none ∨ (none : Option Nat) = none, (↑j : Int) + (1 : Int) = (↑(j + (1 : Nat)) : Int)]) : Option (Exit × St × List Prop)) := by kernel_rfl
theorem bq8 (k : List Int) (x : Int) (L : List Int) (j : Nat) (L2 : List Int) :
  i5 zp (bq7 k x L j L2) [true, false] = (some (.normal, St.mk (mkT 33 [(0, .ros 1 (List.length k) (ib k) false), (1, .int .u8 x), (5, .sl (.o 0) 1 0 0 0 (List.length L2) none), (6, .int .i64 (↑(j + 1) : Int))]) [(.o 0, .rows 1 (List.length L2) (ib L2) true)] 1 [], [decide ((↑j : Int) < (64 : Int)) = true, decide ((↑j : Int) < (↑(List.length k) : Int)) = false, q (List.length L), 1 ≤ (1 : Nat), ∀ (k : Nat), k < (1 : Nat) → m8 (j3 [[V.int .u8 (j8 (fun x x_1 y => x_1 ^^^ y) .u8 (0 : Int) x)]] ((0 : Nat) + k)) = true, (List.length L + (1 : Nat)) * (1 : Nat) ≤ (140737488355328 : Nat), InR .i64 ((↑j : Int) + (1 : Int)), List.length L + (1 : Nat) = List.length L2, ∀ (k : Nat), k < List.length L + (1 : Nat) → m5 (List.length L) (ib L) (fun k => j3 [[V.int .u8 (j8 (fun x x_1 y => x_1 ^^^ y) .u8 (0 : Int) x)]] ((0 : Nat) + k)) k = [V.int .u8 (List.getD L2 k (0 : Int))], true = false → true = false, q (List.length k), ∀ (k_1 : Nat), k_1 < List.length k → [V.int .u8 (List.getD k k_1 (0 : Int))] = [V.int .u8 (List.getD k k_1 (0 : Int))], false = true → false = true, q x, q0, q0, q0, List.length L + (1 : Nat) = List.length L2, (none : Option Nat) = none ∨ (none : Option Nat) = none, (↑j : Int) + (1 : Int) = (↑(j + (1 : Nat)) : Int)]) : Option (Exit × St × List Prop)) := by kernel_rfl
theorem bH1 (k : List Int) (x : Int) (L : List Int) (j : Nat) (L2 : List Int) :
  i5 zp (bq7 k x L j L2) [false] = (some (.exit 0, St.mk (mkT 33 [(0, .ros 1 (List.length k) (ib k) false), (1, .int .u8 x), (5, .sl (.o 0) 1 0 0 0 (List.length L) none), (6, .int .i64 64)]) [(.o 0, .rows 1 (List.length L) (ib L) true)] 1 [], [decide ((↑j : Int) < (64 : Int)) = false, q (List.length L), ∀ (k : Nat), k < List.length L → [V.int .u8 (List.getD L k (0 : Int))] = [V.int .u8 (List.getD L k (0 : Int))], true = false → true = false, q (List.length k), ∀ (k_1 : Nat), k_1 < List.length k → [V.int .u8 (List.getD k k_1 (0 : Int))] = [V.int .u8 (List.getD k k_1 (0 : Int))], false = true → false = true, q x, q0, q0, q0, q (List.length L), (none : Option Nat) = none ∨ (none : Option Nat) = none, (↑j : Int) = (64 : Int)]) : Option (Exit × St × List Prop)) := by kernel_rfl
theorem bS_ (k : List Int) (b : List Int) (p1 : List Int) (p2 : List Int) (d1 : List Int) (d2 : List Int) :
  e9 zp (bdMc k b p1 p2 d1 d2) [] = (some (.agg [.seg .u8 32 d2], [], [T zp 100 [.ros 1 (List.length k) (ib k) false, .int .u8 54] [] (.sl (.o 128) 1 0 0 0 (List.length p1) none) [(.o 128, .rows 1 (List.length p1) (ib p1) true)], q (List.length p1), ∀ (k : Nat), k < List.length b → true = true, (List.length p1 + List.length b) * (1 : Nat) ≤ (140737488355328 : Nat), T zp 99 [.sl (.o 256) 1 0 0 0 (List.length p1 + List.length b) none] [(.o 256, .rows 1 (List.length p1 + List.length b) (m5 (List.length p1) (ib p1) (ib b)) true)] (.agg [.seg .u8 32 d1]) [(.o 256, .rows 1 (List.length p1 + List.length b) (m5 (List.length p1) (ib p1) (ib b)) true)], T zp 100 [.ros 1 (List.length k) (ib k) false, .int .u8 92] [] (.sl (.o 576) 1 0 0 0 (List.length p2) none) [(.o 576, .rows 1 (List.length p2) (ib p2) true)], T zp 101 [.agg [.seg .u8 32 d1]] [] (.sl (.o 704) 1 0 0 0 (List.length d1) none) [(.o 704, .rows 1 (List.length d1) (ib d1) true)], q (List.length p2), (0 : Nat) + List.length d1 ≤ List.length d1, ∀ (k : Nat), k < List.length d1 → true = true, (List.length p2 + List.length d1) * (1 : Nat) ≤ (140737488355328 : Nat), T zp 99 [.sl (.o 768) 1 0 0 0 (List.length p2 + List.length d1) none] [(.o 768, .rows 1 (List.length p2 + List.length d1) (m5 (List.length p2) (ib p2) fun k => [.int .u8 (List.getD d1 (0 + k) (0 : Int))]) true)] (.agg [.seg .u8 32 d2]) [(.o 768, .rows 1 (List.length p2 + List.length d1) (m5 (List.length p2) (ib p2) fun k => [.int .u8 (List.getD d1 (0 + k) (0 : Int))]) true)]]) : Option (V × c5 × List Prop)) := by kernel_rfl
theorem bU5 (s : ByteArray) :
  e9 zp (bdRz s) [] = (some (.sl (.o 63) 1 0 0 0 (List.length (l5 s)) none, [(.o 63, bs (l5 s))], [T zp 37 [.snil, .int .i64 (↑(ByteArray.size s) : Int)] [] (sb (.o 257) (f8 (↑(ByteArray.size s) : Int))) [(.o 257, bs (f8 (↑(ByteArray.size s) : Int)))], q (List.length (f8 (↑(ByteArray.size s) : Int))), (List.length (f8 (↑(ByteArray.size s) : Int)) + ByteArray.size s) * (1 : Nat) ≤ (140737488355328 : Nat), List.length (f8 (↑(ByteArray.size s) : Int)) + ByteArray.size s = List.length (l5 s), ∀ (k : Nat), k < List.length (f8 (↑(ByteArray.size s) : Int)) + ByteArray.size s → m5 (List.length (f8 (↑(ByteArray.size s) : Int))) (bl (f8 (↑(ByteArray.size s) : Int))) (fun k => [V.int .u8 (s9 s k)]) k = bl (l5 s) k, true = false → true = false, q0, q0, q0, List.length (f8 (↑(ByteArray.size s) : Int)) + ByteArray.size s = List.length (l5 s), (none : Option Nat) = none ∨ (none : Option Nat) = none]) : Option (V × c5 × List Prop)) := by kernel_rfl
theorem bS4 (s : ByteArray) (n : Int) (id : Int) (l1 : List UInt8) (l2 : List UInt8) (d : List Int) :
  e9 zp (bdKy s n id l1 l2 d) [] = (some (.sl (.o 512) 1 0 0 0 (List.length d) none, [(.o 512, .rows 1 (List.length d) (ib d) true)], [T zp 36 [.snil, .str s] [] (sb (.o 256) l1) [(.o 256, bs l1)], T zp 37 [.sl (.o 256) 1 0 0 0 (List.length l1) none, .int .i64 id] [(.o 256, bs l1)] (sb (.o 384) l2) [(.o 384, bs l2)], T zp 99 [.sl (.o 384) 1 0 0 0 (List.length l2) none] [(.o 384, bs l2)] (.agg [.seg .u8 32 d]) [(.o 384, bs l2)], T zp 101 [.agg [.seg .u8 32 d]] [] (.sl (.o 512) 1 0 0 0 (List.length d) none) [(.o 512, .rows 1 (List.length d) (ib d) true)]]) : Option (V × c5 × List Prop)) := by kernel_rfl
theorem bj6 (s : ByteArray) (n : Int) (id : Int) (b : ByteArray) (k : List Int) (d : List Int) (t : List Int) :
  e9 zp (aP_ s n id b k d t) [true, true] = (some (.tup [.agg [.seg .u8 16 z16], .int .i64 2], [], [decide (id < (0 : Int)) = true, q2]) : Option (V × c5 × List Prop)) := by kernel_rfl
theorem bj5 (s : ByteArray) (n : Int) (id : Int) (b : ByteArray) (k : List Int) (d : List Int) (t : List Int) :
  e9 zp (aP_ s n id b k d t) [false, true] = (some (.tup [.agg [.seg .u8 16 z16], .int .i64 2], [], [decide (id < (0 : Int)) = false, decide (n ≤ id) = true]) : Option (V × c5 × List Prop)) := by kernel_rfl
theorem bj4 (s : ByteArray) (n : Int) (id : Int) (b : ByteArray) (k : List Int) (d : List Int) (t : List Int) :
  e9 zp (aP_ s n id b k d t) [false, false] = (some (.tup [.agg [.seg .u8 16 t], .int .i64 0], [], [decide (id < (0 : Int)) = false, decide (n ≤ id) = false, T zp 66 [.agg [.str s, .int .i64 n], .int .i64 id] [] (.sl (.o 896) 1 0 0 0 (List.length k) none) [(.o 896, .rows 1 (List.length k) (ib k) true)], T zp 65 [.sl (.o 896) 1 0 0 0 (List.length k) none, .ros 1 (ByteArray.size b) (fun q => [.int .u8 (s9 b q)]) false] [(.o 896, .rows 1 (List.length k) (ib k) true)] (.agg [.seg .u8 32 d]) [(.o 896, .rows 1 (List.length k) (ib k) true)], f9 zp none 0 (cB (cB (cR (cL (cR (cR (cR (cR (f1 (Bd.f (aP_ s n id b k d t))))))))))) 17 (St.mk (mkT 36 [(6, .ptr (.o 0) 0 0 0 0), (8, .ptr (.o 1) 0 0 0 0), (9, .ptr (.o 2) 0 0 0 0), (10, .int .i64 0)]) [(.o 0, .flat [.seg .u8 16 z16]), (.o 1, .flat [.seg .u8 16 z16]), (.o 2, .flat [.seg .u8 32 d])] 3 []) (.exit 0) (St.mk (mkT 36 [(6, .ptr (.o 0) 0 0 0 0), (8, .ptr (.o 1) 0 0 0 0), (9, .ptr (.o 2) 0 0 0 0), (10, .int .i64 16)]) [(.o 0, .flat [.seg .u8 16 z16]), (.o 1, .flat [.seg .u8 16 t]), (.o 2, .flat [.seg .u8 32 d])] 3 []), q (16 : Nat), q z16, q (16 : Nat), q z16, q (32 : Nat), q d, q0, q0, q0, q0, q0, q0, q0, q0, q0, q1]) : Option (V × c5 × List Prop)) := by kernel_rfl
theorem bH8 (d : List Int) (L : List Int) (j : Nat) (L2 : List Int) :
  i5 zp (bY_ d L j L2) [true] = (some (.normal, St.mk (mkT 36 [(6, .ptr (.o 0) 0 0 0 0), (8, .ptr (.o 1) 0 0 0 0), (9, .ptr (.o 2) 0 0 0 0), (10, .int .i64 (↑(j + 1) : Int))]) [(.o 0, .flat [.seg .u8 16 z16]), (.o 1, .flat [.seg .u8 16 L2]), (.o 2, .flat [.seg .u8 32 d])] 3 [], [decide ((↑j : Int) < (16 : Int)) = true, (0 : Int) ≤ (↑j : Int) ∧ (↑j : Int) < (32 : Int), (0 : Nat) + Int.toNat (↑j : Int) < (32 : Nat), (0 : Int) ≤ (↑j : Int) ∧ (↑j : Int) < (16 : Int), (0 : Nat) + Int.toNat (↑j : Int) < (16 : Nat), InR .i64 ((↑j : Int) + (1 : Int)), q (16 : Nat), q z16, q (16 : Nat), List.set L ((0 : Nat) + Int.toNat (↑j : Int)) (List.getD d ((0 : Nat) + Int.toNat (↑j : Int)) (0 : Int)) = L2, q (32 : Nat), q d, q0, q0, q0, q0, q0, q0, q0, q0, q0, (↑j : Int) + (1 : Int) = (↑(j + (1 : Nat)) : Int)]) : Option (Exit × St × List Prop)) := by kernel_rfl
theorem bH7 (d : List Int) (L : List Int) (j : Nat) (L2 : List Int) :
  i5 zp (bY_ d L j L2) [false] = (some (.exit 0, St.mk (mkT 36 [(6, .ptr (.o 0) 0 0 0 0), (8, .ptr (.o 1) 0 0 0 0), (9, .ptr (.o 2) 0 0 0 0), (10, .int .i64 16)]) [(.o 0, .flat [.seg .u8 16 z16]), (.o 1, .flat [.seg .u8 16 L]), (.o 2, .flat [.seg .u8 32 d])] 3 [], [decide ((↑j : Int) < (16 : Int)) = false, q (16 : Nat), q z16, q (16 : Nat), q L, q (32 : Nat), q d, q0, q0, q0, q0, q0, q0, q0, q0, q0, (↑j : Int) = (16 : Int)]) : Option (Exit × St × List Prop)) := by kernel_rfl
theorem bD5 (s : ByteArray) (n : Int) (id : Int) (b : ByteArray) (t : List Int) (u : List Int) (e : Int) :
  e9 zp (bU0 s n id b t u e) [true] = (some (.bool (decide (u = t)), [], [T zp 20 [.agg [.str s, .int .i64 n], .int .i64 id, .str b] [] (.tup [.agg [.seg .u8 16 u], .int .i64 e]) [], decide (e = (0 : Int)) = true]) : Option (V × c5 × List Prop)) := by kernel_rfl
theorem bD4 (s : ByteArray) (n : Int) (id : Int) (b : ByteArray) (t : List Int) (u : List Int) (e : Int) :
  e9 zp (bU0 s n id b t u e) [false] = (some (.bool false, [], [T zp 20 [.agg [.str s, .int .i64 n], .int .i64 id, .str b] [] (.tup [.agg [.seg .u8 16 u], .int .i64 e]) [], decide (e = (0 : Int)) = false]) : Option (V × c5 × List Prop)) := by kernel_rfl
theorem bO1 {k : List Int} (hk : k.length ≤ 64) (x : Int) (m : Nat) : T Tryz.prog 100 [rb k, .int .u8 x] [] (obS m (r5 k x)) [(.o m, obB (r5 k x))] := by
 have hl : ∀ j, j ≤ 64 → ((r5 k x).take j).length = j := fun j hj => by rw [List.length_take, P9]; omega
 have hL : f9 Tryz.prog none 0 (cB (cB (cR (cL (cR (cR (cR (f1 Tryz.f100)))))))) (64 + 1) (pdI k x ((r5 k x).take 0) 0) (.exit 0) (pdI k x ((r5 k x).take 64) 64) := by
  have hstep : ∀ j, j < 64 → R Tryz.prog none 0 (cB (cB (cR (cL (cR (cR (cR (f1 Tryz.f100)))))))) (pdI k x ((r5 k x).take j) j) .normal (pdI k x ((r5 k x).take (j + 1)) (j + 1)) := by
   intro j hj
   have e1 := hl j (by omega)
   have e2 := hl (j + 1) (by omega)
   have hc := ctb ((r5 k x).take j) (x8 (k.getD j 0) x)
   rw [← bc1 hj] at hc
   simp only [Nat.zero_add] at hc
   by_cases hjk : j < k.length
   ·refine f4 NG MO _ (bq9 k x ((r5 k x).take j) j ((r5 k x).take (j + 1))) ?_ (Nat.zero_le _)
    simp only [All, Int.toNat_natCast, Nat.zero_add]; and_intros
    all_goals first | exact True.intro | (intro j hj; exact hc j hj) | (intro j hj; exact au6 _ j hj) | (rw [decide_eq_true_eq]; omega) | (intro _ _; exact True.intro) | (simp only [IntKind.min, IntKind.max, IntKind.signed, IntKind.bits, if_true]; omega) | omega | (intro h; exact h) | exact .inl True.intro
   ·have e3 : k.getD j 0 = 0 := by rw [List.getD_eq_getElem?_getD, List.getElem?_eq_none (by omega)]; rfl
    rw [e3] at hc
    refine f4 NG MO _ (bq8 k x ((r5 k x).take j) j ((r5 k x).take (j + 1))) ?_ (Nat.zero_le _)
    simp only [All, Int.toNat_natCast, Nat.zero_add]; and_intros
    all_goals first | exact True.intro | (intro j hj; exact hc j hj) | (intro j hj; exact au6 _ j hj) | (rw [decide_eq_true_eq]; omega) | (rw [decide_eq_false_iff_not]; omega) | (intro _ _; exact True.intro) | (simp only [IntKind.min, IntKind.max, IntKind.signed, IntKind.bits, if_true]; omega) | omega | (intro h; exact h) | exact .inl True.intro
  have hend : R Tryz.prog none 0 (cB (cB (cR (cL (cR (cR (cR (f1 Tryz.f100)))))))) (pdI k x ((r5 k x).take 64) 64) (.exit 0) (pdI k x ((r5 k x).take 64) 64) := by
   refine f4 NG MO _ (bH1 k x ((r5 k x).take 64) 64 []) ?_ (Nat.zero_le _)
   simp only [All]; and_intros
   all_goals first | exact True.intro | (rw [decide_eq_false_iff_not]; omega) | (intro _ _; exact True.intro) | omega | (intro h; exact h) | exact .inl True.intro
  exact f9.inv (fun j => pdI k x ((r5 k x).take j) j) 64 hstep hend (by simp)
 rw [List.take_zero, show (r5 k x).take 64 = r5 k x from List.take_of_length_le (by rw [P9]; omega)] at hL
 generalize r5 k x = L at hL
 have h : T Tryz.prog 100 [rb k, .int .u8 x] [] (obS 0 L) [(.o 0, obB L)] := by
  refine f3 (bC_ k x L) Tryz.func100 ?_
  simp only [All]; and_intros
  all_goals first | exact True.intro | exact hL | (rw [decide_eq_false_iff_not]; omega) | (intro _ _; exact True.intro) | omega | (intro h; exact h) | exact .inl True.intro
 obtain ⟨σ, hσ, h3⟩ := T.at h [.o 0] [.o m] (by decide) (by simp) rfl
 simp only [List.map_cons, List.map_nil, List.cons.injEq, and_true] at hσ
 simpa [V.rens, V.ren, c5.ren, Sy.B.ren, obS, obB, rb, hσ] using h3
theorem bu6 {d : List Int} (hd : d.length = 32) (m : Nat) : T Tryz.prog 101 [agD d] [] (obS m d) [(.o m, obB d)] := by
 obtain ⟨σ, hσ, h3⟩ := T.at (T_by hd) [.o 1] [.o m] (by decide) (by simp) rfl
 simp only [List.map_cons, List.map_nil, List.cons.injEq, and_true] at hσ
 simpa [V.rens, V.ren, c5.ren, Sy.B.ren, obS, obB, agD, hσ] using h3
theorem aM6 (l : List Int) (hb : l.length ≤ 10000000000) {n : Nat} (hn : n = l.length) {f : Nat → List V} (hf : ∀ k, k < n → f k = ib l k) (a : Nat) : T Tryz.prog 99 [.sl (.o a) 1 0 0 0 n none] [(.o a, .rows 1 n f true)] (agD (A8 l)) [(.o a, .rows 1 n f true)] := by
 have h : T Tryz.prog 99 [.sl (.o 1) 1 0 0 0 n none] [(.o 1, .rows 1 n f true)] (agD (A8 l)) [(.o 1, .rows 1 n f true)] := by
  refine T.lendG (T_du l hb) rfl ?_ (C9.agg rfl) (by simp) (by rintro n ⟨b, hb⟩; cases hb)
  and_intros
  all_goals first | exact True.intro | (intro k hk; rw [Nat.zero_add]; exact hf k hk) | (with_reducible assumption) | omega | (intro h; cases h; done)
 obtain ⟨σ, hσ, h3⟩ := T.at h [.o 1] [.o a] (by decide) (by simp) rfl
 simp only [List.map_cons, List.map_nil, List.cons.injEq, and_true] at hσ
 simpa [V.rens, V.ren, c5.ren, Sy.B.ren, agD, hσ] using h3
theorem cb8 {k b : List Int} (hk : k.length ≤ 64) (hb : b.length ≤ 1000000000) : T Tryz.prog 65 [rb k, rb b] [] (agD (P4 k b)) [] := by
 have hl1 := P9 k 54
 have hl2 := P9 k 92
 have h1 := bO1 hk 54 128
 have h2 := aM6 (r5 k 54 ++ b) (by rw [List.length_append]; omega) (n := (r5 k 54).length + b.length) (by rw [List.length_append]) (f := m5 (r5 k 54).length (ib (r5 k 54)) (ib b)) (fun k _ => by rw [bb0]) 256
 have h3 := bO1 hk 92 576
 have h4 := bu6 (M6 (r5 k 54 ++ b)) 704
 have hl3 := M6 (r5 k 54 ++ b)
 generalize hd : A8 (r5 k 54 ++ b) = d1 at h2 h4 hl3
 have h5 := aM6 (r5 k 92 ++ d1) (by rw [List.length_append]; omega) (n := (r5 k 92).length + d1.length) (by rw [List.length_append]) (f := m5 (r5 k 92).length (ib (r5 k 92)) (fun k => [V.int IntKind.u8 (List.getD d1 (0 + k) 0)])) (fun k _ => by rw [bb0]; simp only [Nat.zero_add]; rfl) 768
 have e : P4 k b = A8 (r5 k 92 ++ d1) := by rw [P4, hd]
 rw [e]
 generalize A8 (r5 k 92 ++ d1) = d2 at h5
 generalize r5 k 54 = p1 at *
 generalize r5 k 92 = p2 at *
 refine f3 (bS_ k b p1 p2 d1 d2) Tryz.func65 ?_
 simp only [All]; and_intros
 all_goals first | exact True.intro | exact h1 | exact h2 | exact h3 | exact h4 | exact h5 | (intro _ _; exact True.intro) | omega
theorem T_rz {s : ByteArray} (hs : s.size ≤ 1099511627776) (m : Nat) : T Tryz.prog 36 [.snil, .str s] [] (sb (.o m) (l5 s)) [(.o m, bs (l5 s))] := by
 have hz := R7 (n := s.size) (by omega)
 have e : l5 s = f8 s.size ++ i9 s := ad5 s
 have h9 := z6 hz
 have hle : (f8 (s.size : Int)).length + s.size = (l5 s).length := by rw [e, List.length_append (bs := i9 s), Q3]
 have h : T Tryz.prog 36 [.snil, .str s] [] (sb (.o 63) (l5 s)) [(.o 63, bs (l5 s))] := by
  refine f3 (bU5 s) Tryz.func36 ?_
  simp only [All]; and_intros
  all_goals first | exact bA0 hz | exact hle | omega | (rw [e, J0 (f8 (s.size : Int)) (i9 s)]; intro k _; rfl) | simp
 obtain ⟨σ, hσ, h3⟩ := T.at h [.o 63] [.o m] (by decide) (by simp) rfl
 simp only [List.map_cons, List.map_nil, List.cons.injEq, and_true] at hσ
 simpa [V.rens, V.ren, c5.ren, Sy.B.ren, sb, bs, hσ] using h3
theorem aR8 (l : List UInt8) (k : Nat) : bl l k = ib (uI l) k := by
 show [V.int .u8 ((l.getD k 0).toNat : Int)] = [V.int .u8 ((uI l).getD k 0)]
 rw [ah1]
theorem T_ky {s : ByteArray} {n id : Int} (hs : s.size ≤ 1000) (hi : r9 id) (m : Nat) : T Tryz.prog 66 [kyV s n, .int .i64 id] [] (obS m (A8 (uI (l5 s ++ f8 id)))) [(.o m, obB (A8 (uI (l5 s ++ f8 id))))] := by
 have ht := Y8 (s := s) (by omega)
 have hp := z6 hi
 have h1 := T_rz (s := s) (by omega) 256
 have h2 := T_rp hi (l := l5 s) (by omega) (a := 256) (m := 384) (by decide)
 have hll : (l5 s ++ f8 id).length ≤ 2000 := by rw [List.length_append]; omega
 generalize l5 s ++ f8 id = l2 at *
 generalize l5 s = l1 at *
 have h3 := aM6 (uI l2) (by rw [L4]; omega) (n := l2.length) (by rw [L4]) (f := bl l2) (fun k _ => aR8 l2 k) 384
 have h4 := bu6 (M6 (uI l2)) 512
 generalize A8 (uI l2) = d at *
 have h : T Tryz.prog 66 [kyV s n, .int .i64 id] [] (obS 512 d) [(.o 512, obB d)] := by
  refine f3 (bS4 s n id l1 l2 d) Tryz.func66 ?_
  simp only [All]; and_intros
  all_goals first | exact True.intro | exact h1 | exact h2 | exact h3 | exact h4
 obtain ⟨σ, hσ, h3⟩ := T.at h [.o 512] [.o m] (by decide) (by simp) rfl
 simp only [List.map_cons, List.map_nil, List.cons.injEq, and_true] at hσ
 simpa [V.rens, V.ren, c5.ren, Sy.B.ren, obS, obB, kyV, hσ] using h3
theorem cb9 {k : List Int} (hk : k.length ≤ 64) {b : ByteArray} (hb : b.size ≤ 1000000000) (m : Nat) : T Tryz.prog 65 [obS m k, .ros 1 b.size (fun q => [V.int IntKind.u8 (s9 b q)]) false] [(.o m, obB k)] (agD (P4 k (bI b))) [(.o m, obB k)] := by
 have h : T Tryz.prog 65 [obS 1 k, .ros 1 b.size (fun q => [V.int IntKind.u8 (s9 b q)]) false] [(.o 1, obB k)] (agD (P4 k (bI b))) [(.o 1, obB k)] := by
  refine T.lendG (cb8 hk (b := bI b) (by rw [ao3]; exact hb)) rfl ?_ (C9.agg rfl) (by simp) (by rintro n ⟨b, hb⟩; cases hb)
  and_intros
  all_goals first | exact True.intro | (exact (ao3 b).symm) | (intro k hk; rw [Nat.zero_add]) | (intro k hk; show _ = [V.int .u8 ((bI b).getD k 0)]; rw [aV8]) | with_reducible rfl | omega | (intro h; exact h) | (intro h; cases h; done)
 obtain ⟨σ, hσ, h3⟩ := T.at h [.o 1] [.o m] (by decide) (by simp) rfl
 simp only [List.map_cons, List.map_nil, List.cons.injEq, and_true] at hσ
 simpa [V.rens, V.ren, c5.ren, Sy.B.ren, agD, obS, obB, hσ] using h3
def C0 (s : ByteArray) (n id : Int) (b : ByteArray) : List Int := if 0 ≤ id ∧ id < n then aH4 (l5 s ++ f8 id) b else List.replicate 16 0
def B7 (n id : Int) : Int := if 0 ≤ id ∧ id < n then 0 else 2
theorem bO7 {s : ByteArray} (hs : s.size ≤ 1000) {n id : Int} (hi : id < 9223372036854775808) {b : ByteArray} (hb : b.size ≤ 1000000000) : T Tryz.prog 20 [kyV s n, .int .i64 id, .str b] [] (.tup [.agg [.seg .u8 16 (C0 s n id b)], .int .i64 (B7 n id)]) [] := by
 by_cases h0 : id < 0
 ·rw [C0, B7, if_neg (by omega), if_neg (by omega)]
  refine f3 (bj6 s n id b [] [] []) Tryz.func20 ?_
  simp only [All]; and_intros
  all_goals first | exact True.intro | (rw [decide_eq_true_eq]; omega)
 ·by_cases h1 : n ≤ id
  ·rw [C0, B7, if_neg (by omega), if_neg (by omega)]
   refine f3 (bj5 s n id b [] [] []) Tryz.func20 ?_
   simp only [All]; and_intros
   all_goals first | exact True.intro | (rw [decide_eq_true_eq]; omega) | (rw [decide_eq_false_iff_not]; omega)
  ·rw [C0, B7, if_pos (by omega), if_pos (by omega)]
   have hky := T_ky (s := s) (n := n) (id := id) hs ⟨by omega, by omega⟩ 896
   have hkl := M6 (uI (l5 s ++ f8 id))
   rw [aH4]
   generalize A8 (uI (l5 s ++ f8 id)) = k at hky hkl
   have hmc := cb9 (k := k) (by omega) hb 896
   have hml := aF1 k (bI b)
   generalize P4 k (bI b) = d at hmc hml
   have hL : f9 Tryz.prog none 0 (cB (cB (cR (cL (cR (cR (cR (cR (f1 Tryz.f20))))))))) (16 + 1) (sgI d (F8 d 0) 0) (.exit 0) (sgI d (F8 d 16) 16) := by
    have hstep : ∀ j, j < 16 → R Tryz.prog none 0 (cB (cB (cR (cL (cR (cR (cR (cR (f1 Tryz.f20))))))))) (sgI d (F8 d j) j) .normal (sgI d (F8 d (j + 1)) (j + 1)) := by
     intro j hj
     have e := bt9 d hj
     refine f4 NG MO _ (bH8 d (F8 d j) j (F8 d (j + 1))) ?_ (Nat.zero_le _)
     simp only [All, Int.toNat_natCast, Nat.zero_add]; and_intros
     all_goals first | exact True.intro | exact e | (with_reducible assumption) | (rw [decide_eq_true_eq]; omega) | (simp only [IntKind.min, IntKind.max, IntKind.signed, IntKind.bits, if_true]; omega) | omega
    have hend : R Tryz.prog none 0 (cB (cB (cR (cL (cR (cR (cR (cR (f1 Tryz.f20))))))))) (sgI d (F8 d 16) 16) (.exit 0) (sgI d (F8 d 16) 16) := by
     refine f4 NG MO _ (bH7 d (F8 d 16) 16 []) ?_ (Nat.zero_le _)
     simp only [All]; and_intros
     all_goals first | exact True.intro | (rw [decide_eq_false_iff_not]; omega) | omega
    exact f9.inv (fun j => sgI d (F8 d j) j) 16 hstep hend (by simp)
   rw [bf1, bt8] at hL
   generalize W7 d = t at hL
   refine f3 (bj4 s n id b k d t) Tryz.func20 ?_
   simp only [All]; and_intros
   all_goals first | exact True.intro | exact hky | exact hmc | exact hL | (rw [decide_eq_false_iff_not]; omega)
def L9 (s : ByteArray) (n id : Int) (b : ByteArray) (t : List Int) : Bool := decide (0 ≤ id ∧ id < n) && decide (aH4 (l5 s ++ f8 id) b = t)
theorem T_rk {s : ByteArray} (hs : s.size ≤ 1000) {n id : Int} (hi : id < 9223372036854775808) {b : ByteArray} (hb : b.size ≤ 1000000000) (t : List Int) : T Tryz.prog 43 [kyV s n, .int .i64 id, .str b, .agg [.seg .u8 16 t]] [] (.bool (L9 s n id b t)) [] := by
 have h := bO7 hs (n := n) hi hb
 by_cases h0 : 0 ≤ id ∧ id < n
 ·have e : L9 s n id b t = decide (C0 s n id b = t) := by rw [L9, decide_eq_true h0, Bool.true_and, C0, if_pos h0]
  have e2 : B7 n id = 0 := by rw [B7, if_pos h0]
  rw [e]
  generalize C0 s n id b = u at *
  refine f3 (bD5 s n id b t u (B7 n id)) Tryz.func43 ?_
  simp only [All]; and_intros
  all_goals first | exact True.intro | exact h | (rw [decide_eq_true_eq]; omega)
 ·have e : L9 s n id b t = false := by rw [L9, decide_eq_false h0, Bool.false_and]
  have e2 : B7 n id = 2 := by rw [B7, if_neg h0]
  rw [e]
  generalize C0 s n id b = u at *
  refine f3 (bD4 s n id b t u (B7 n id)) Tryz.func43 ?_
  simp only [All]; and_intros
  all_goals first | exact True.intro | exact h | (rw [decide_eq_false_iff_not]; omega)
def msI (x : Int) (K : List Int) (ls : Nat → List Int) (L : List Int) (j : Nat) : St := ⟨mkT 24 [(0, .int .u8 x), (1, rbs 1 ls), (5, p0K 2), (6, p0K 1), (9, .int .i64 (j : Nat))], [(.o 0, .flat [.seg .u8 64 K]), (.o 1, .flat [.seg .u8 64 L]), (.o 2, .flat [.seg .u8 32 p8])], 3, []⟩
def apF (xs : List Int) (g : Nat → List V) : Nat → List V := m5 1 (fun _ => [rb xs]) g
def apP : Prim → List V → c5 → Nat → List Cl := fun pr vs h lo => match pr with
 | .append _ _ => match vs with
  | [.sl y _ _ _ _ _ _, .ros _ n g _] => match A4 y h with
   | some (.flat [.sl b _ _ _ _ _ _], _) => match A4 b h with
    | some (.flat [.seg _ _ xs], _) => [{ pre := [y, b], val := .sl (.o lo) 1 0 0 0 (1 + n) none, post := [(.o lo, .rows 1 (1 + n) (apF xs g) true)] }]
    | _ => []
   | _ => []
  | _ => []
 | _ => []
def suC (d : List Int) : List V → c5 → Nat → List Cl := fun a _ _ => match a with
 | [.sl y _ _ _ _ _ _] => [{ pre := [y], val := agD d }]
 | _ => []
noncomputable def bT1 (x : Int) (K : List Int) (ls : Nat → List Int) (L d : List Int) : Bd := { f := Tryz.f106, args := [.int .u8 x, rbs 1 ls, p0K 0], pre := [(.o 0, .flat [.seg .u8 64 K])], base := 1, kb := { db := dbQ [(82, suC d)], pr := apP, lp := fun _ t => [(True, .loop (64 + 1) (w6 [(.o 1, nmV (m6 t.tmps 6)), (.o 2, nmV (m6 t.tmps 5))] (msI x K ls K 0)) (.exit 0) (msI x K ls L 64))] }, names := fun _ => [.o 0] }
noncomputable def bY6 (x : Int) (K : List Int) (ls : Nat → List Int) (L : List Int) (j : Nat) (L2 : List Int) : Pc := { c := cB (cB (cR (cL (cR (cR (f1 Tryz.f106)))))), st := msI x K ls L j, p := 1, kb := kb0, k := fun x_ _ => match x_ with
 | .normal => some (wTo (msI x K ls L2 (j + 1)))
 | _ => some (wTo (msI x K ls L 64)) }
def maC (d1 d2 : List Int) : List V → c5 → Nat → List Cl := fun a h _ => match a with
 | [.int _ 54, _, .ptr n _ _ _ _] => [{ rd := [n], val := agD d1 }]
 | [.int _ 92, .sl y _ _ _ _ _ _, .ptr n _ _ _ _] => match A4 y h with
  | some (.flat [.sl b _ _ _ _ _ _], _) => match A4 n h with
   | some (blk, _) => [{ pre := [n, y, b], val := agD d2, post := [(n, blk)] }]
   | none => []
  | _ => []
 | _ => []
noncomputable def bdMa (k : List Int) (ls : Nat → List Int) (d1 d2 : List Int) : Bd := { f := Tryz.f83, args := [rb k, rbs 1 ls], kb := { db := dbQ [(106, maC d1 d2)] } }
def kyB (s : ByteArray) (n : Int) : B := .flat [.str s, .int .i64 n]
noncomputable def bdLe (s : ByteArray) (n : Int) : Bd := { f := Tryz.f40, args := [p0K 0], pre := [(.o 0, kyB s n)], base := 1, kb := kb0, names := fun _ => [.o 0] }
noncomputable def bdLn : Bd := { f := Tryz.f40, args := [.pnil], kb := kb0 }
noncomputable def bdDe (s : ByteArray) (n : Int) : Bd := { f := Tryz.f39, args := [.str s, .int .i64 n], kb := kb0, names := fun t => match m6 t.tmps 4 with | .ptr a _ _ _ _ => [a] | _ => [] }
noncomputable def bdRe (s : ByteArray) (n : Int) : Bd := { f := Tryz.f38, args := [.str s, .int .i64 n], kb := kb0 }
noncomputable def bdTz (s : ByteArray) : Bd := { f := Tryz.f34, args := [.snil, .str s], base := 1, kb := { db := fun k a _ lo => bif Nat.beq k 35 then J1 (f8 s.size) a lo else [] }, k := kSb 4 63 (l5 s), names := fun _ => [.o 63] }
def sgS (kd m : List Int) : Nat → List V → c5 → Nat → List Cl := dbQ [
 (82, fun a h _ => match a with
  | [.sl y _ _ _ _ _ _] => match A4 y h with
   | some (.flat [.sl b _ _ _ _ _ _, .sl c _ _ _ _ _ _], _) => [{ pre := [y, b, c], val := agD kd }]
   | _ => []
  | _ => []),
 (83, fun a _ _ => match a with
  | [.sl y _ _ _ _ _ _, .sl b _ _ _ _ _ _] => [{ pre := [y, b], val := agD m }]
  | _ => [])]
def cpP (t : List Int) : Prim → List V → c5 → Nat → List Cl := fun pr vs _ _ => match pr with
 | .copy _ _ => match vs with
  | [.sl a _ _ _ _ _ _, .sl b _ _ _ _ _ _] => [{ pre := [a, b], val := .int .i64 16, post := [(a, .flat [.seg .u8 16 t])] }]
  | _ => []
 | _ => []
noncomputable def bk0 (s : ByteArray) (n id : Int) (b : ByteArray) (l1 l2 : List UInt8) (kd m t : List Int) : Bd := { f := Tryz.f41, args := [p0K 0, .int .i64 id, .str b], pre := [(.o 0, kyB s n)], base := 1, kb := { db := fun k a h lo => bif Nat.beq k 40 then [{ rd := [.o 0], val := .int .i64 n }] else bif Nat.beq k 34 then ubC l1 a h lo else bif Nat.beq k 35 then ubC l2 a h lo else sgS kd m k a h lo, pr := cpP t }, names := fun _ => [.o 0] }
noncomputable def bR2 (s : ByteArray) (n id : Int) (b : ByteArray) (t u : List Int) (e : Int) : Bd := { f := Tryz.f23, args := [p0K 0, .int .i64 id, .str b, .agg [.seg .u8 16 t]], pre := [(.o 0, kyB s n)], base := 1, kb := { db := fun k _ _ _ => bif Nat.beq k 41 then [{ rd := [.o 0], val := .tup [.agg [.seg .u8 16 u], .int .i64 e] }] else [] }, names := fun _ => [.o 0] }
theorem bT2 (x : Int) (K : List Int) (ls : Nat → List Int) (L : List Int) (d : List Int) :
  e9 zp (bT1 x K ls L d) [] = (some (.agg [.seg .u8 32 d], [(.o 0, .flat [.seg .u8 64 K])], [f9 zp none 1 (cB (cB (cR (cL (cR (cR (f1 (Bd.f (bT1 x K ls L d))))))))) 65 (St.mk (mkT 24 [(0, .int .u8 x), (1, .ros 1 1 (fun k => [.ros 1 (List.length (ls k)) (ib (ls k)) false]) false), (5, .ptr (.o 2) 0 0 0 0), (6, .ptr (.o 1) 0 0 0 0), (9, .int .i64 0)]) [(.o 0, .flat [.seg .u8 64 K]), (.o 1, .flat [.seg .u8 64 K]), (.o 2, .flat [.seg .u8 32 p8])] 3 []) (.exit 0) (St.mk (mkT 24 [(0, .int .u8 x), (1, .ros 1 1 (fun k => [.ros 1 (List.length (ls k)) (ib (ls k)) false]) false), (5, .ptr (.o 2) 0 0 0 0), (6, .ptr (.o 1) 0 0 0 0), (9, .int .i64 64)]) [(.o 0, .flat [.seg .u8 64 K]), (.o 1, .flat [.seg .u8 64 L]), (.o 2, .flat [.seg .u8 32 p8])] 3 []), q (64 : Nat), q K, q (64 : Nat), q K, q (32 : Nat), z32 = p8, q x, q (1 : Nat), ∀ (k : Nat), k < (1 : Nat) → [V.ros (1 : Nat) (List.length (ls k)) (ib (ls k)) false] = [V.ros (1 : Nat) (List.length (ls k)) (ib (ls k)) false], false = true → false = true, q0, q0, q0, q0, q0, q0, q1, TO zp (Prim.append (171 : Nat) (171 : Nat)) [V.sl (Nm.o 67) (0 : Nat) (0 : Nat) (0 : Nat) (0 : Nat) (1 : Nat) (some (1 : Nat)), V.ros (1 : Nat) (1 : Nat) (fun k => [V.ros (1 : Nat) (List.length (ls k)) (ib (ls k)) false]) false] [(Nm.o 67, B.flat [V.sl (Nm.o (1 : Nat)) (0 : Nat) (0 : Nat) (0 : Nat) 0 64 (some 64)]), (Nm.o (1 : Nat), B.flat [V.seg .u8 (64 : Nat) L])] (V.sl (Nm.o 195) (1 : Nat) (0 : Nat) (0 : Nat) (0 : Nat) 2 none) [(Nm.o 195, B.rows (1 : Nat) 2 (apF L fun k => [V.ros (1 : Nat) (List.length (ls k)) (ib (ls k)) false]) true)], T zp 82 [.sl (.o 195) 1 0 0 0 2 none] [(.o 195, .rows 1 2 (apF L fun k => [.ros 1 (List.length (ls k)) (ib (ls k)) false]) true)] (.agg [.seg .u8 32 d]) []]) : Option (V × c5 × List Prop)) := by kernel_rfl
theorem bH0 (x : Int) (K : List Int) (ls : Nat → List Int) (L : List Int) (j : Nat) (L2 : List Int) :
  i5 zp (bY6 x K ls L j L2) [true] = (some (.normal, St.mk (mkT 24 [(0, .int .u8 x), (1, .ros 1 1 (fun k => [.ros 1 (List.length (ls k)) (ib (ls k)) false]) false), (5, .ptr (.o 2) 0 0 0 0), (6, .ptr (.o 1) 0 0 0 0), (9, .int .i64 (↑(j + 1) : Int))]) [(.o 0, .flat [.seg .u8 64 K]), (.o 1, .flat [.seg .u8 64 L2]), (.o 2, .flat [.seg .u8 32 p8])] 3 [], [decide ((↑j : Int) < (64 : Int)) = true, (0 : Int) ≤ (↑j : Int) ∧ (↑j : Int) < (64 : Int), (0 : Nat) + Int.toNat (↑j : Int) < (64 : Nat), (0 : Int) ≤ (↑j : Int) ∧ (↑j : Int) < (64 : Int), (0 : Nat) + Int.toNat (↑j : Int) < (64 : Nat), InR .i64 ((↑j : Int) + (1 : Int)), q (64 : Nat), q K, q (64 : Nat), List.set L ((0 : Nat) + Int.toNat (↑j : Int)) (j8 (fun x x_1 y => x_1 ^^^ y) .u8 (List.getD L ((0 : Nat) + Int.toNat (↑j : Int)) (0 : Int)) x) = L2, q (32 : Nat), q p8, q x, q (1 : Nat), ∀ (k : Nat), k < (1 : Nat) → [V.ros (1 : Nat) (List.length (ls k)) (ib (ls k)) false] = [V.ros (1 : Nat) (List.length (ls k)) (ib (ls k)) false], false = true → false = true, q0, q0, q0, q0, q0, q0, (↑j : Int) + (1 : Int) = (↑(j + (1 : Nat)) : Int)]) : Option (Exit × St × List Prop)) := by kernel_rfl
theorem bG_ (x : Int) (K : List Int) (ls : Nat → List Int) (L : List Int) (j : Nat) (L2 : List Int) :
  i5 zp (bY6 x K ls L j L2) [false] = (some (.exit 0, St.mk (mkT 24 [(0, .int .u8 x), (1, .ros 1 1 (fun k => [.ros 1 (List.length (ls k)) (ib (ls k)) false]) false), (5, .ptr (.o 2) 0 0 0 0), (6, .ptr (.o 1) 0 0 0 0), (9, .int .i64 64)]) [(.o 0, .flat [.seg .u8 64 K]), (.o 1, .flat [.seg .u8 64 L]), (.o 2, .flat [.seg .u8 32 p8])] 3 [], [decide ((↑j : Int) < (64 : Int)) = false, q (64 : Nat), q K, q (64 : Nat), q L, q (32 : Nat), q p8, q x, q (1 : Nat), ∀ (k : Nat), k < (1 : Nat) → [V.ros (1 : Nat) (List.length (ls k)) (ib (ls k)) false] = [V.ros (1 : Nat) (List.length (ls k)) (ib (ls k)) false], false = true → false = true, q0, q0, q0, q0, q0, q0, (↑j : Int) = (64 : Int)]) : Option (Exit × St × List Prop)) := by kernel_rfl
theorem bC8 (k : List Int) (ls : Nat → List Int) (d1 : List Int) (d2 : List Int) :
  e9 zp (bdMa k ls d1 d2) [false] = (some (.agg [.seg .u8 32 d2], [], [decide ((64 : Int) < (↑(List.length k) : Int)) = false, 64 ≤ (64 : Nat), ∀ (q : Nat), q < List.length k → true = true, T zp 106 [.int .u8 54, .ros 1 1 (fun k => [.ros 1 (List.length (ls k)) (ib (ls k)) false]) false, .ptr (.o 256) 0 0 0 0] [(.o 256, .flat [.seg .u8 64 (r7 64 (List.replicate 64 (0 : Int)) 0 (Nat.min (List.length k) 64) (ib k))])] (.agg [.seg .u8 32 d1]) [(.o 256, .flat [.seg .u8 64 (r7 64 (List.replicate 64 (0 : Int)) 0 (Nat.min (List.length k) 64) (ib k))])], T zp 106 [.int .u8 92, .sl (.o 1088) 0 0 0 0 1 (some 1), .ptr (.o 256) 0 0 0 0] [(.o 256, .flat [.seg .u8 64 (r7 64 (List.replicate 64 (0 : Int)) 0 (Nat.min (List.length k) 64) (ib k))]), (.o 1088, .flat [.sl (.o 832) 0 0 0 0 32 (some 32)]), (.o 832, .flat [.seg .u8 32 d1])] (.agg [.seg .u8 32 d2]) [(.o 256, .flat [.seg .u8 64 (r7 64 (List.replicate 64 (0 : Int)) 0 (Nat.min (List.length k) 64) (ib k))])]]) : Option (V × c5 × List Prop)) := by kernel_rfl
theorem bC0 (s : ByteArray) (n : Int) :
  e9 zp (bdLe s n) [false] = (some (.int .i64 n, [(.o 0, .flat [.str s, .int .i64 n])], [q false]) : Option (V × c5 × List Prop)) := by kernel_rfl
theorem bC1 :
  e9 zp (bdLn) [true] = (some (.int .i64 0, [], [q2]) : Option (V × c5 × List Prop)) := by kernel_rfl
theorem aW6 (s : ByteArray) (n : Int) :
  e9 zp (bdDe s n) [false, false, false] = (some (.ptr (.o 960) 0 0 0 0, [(.o 960, .flat [.str s, .int .i64 n])], [decide (n < (1 : Int)) = false, decide ((4096 : Int) < n) = false, decide ((64 : Int) < (↑(ByteArray.size s) : Int)) = false]) : Option (V × c5 × List Prop)) := by kernel_rfl
theorem aY9 (s : ByteArray) (n : Int) :
  e9 zp (bdRe s n) [false, false, false] = (some (.tup [.agg [.str s, .int .i64 n], .bool true], [], [decide (n < (1 : Int)) = false, decide ((4096 : Int) < n) = false, decide ((64 : Int) < (↑(ByteArray.size s) : Int)) = false]) : Option (V × c5 × List Prop)) := by kernel_rfl
theorem bU_ (s : ByteArray) :
  e9 zp (bdTz s) [] = (some (.sl (.o 63) 1 0 0 0 (List.length (l5 s)) none, [(.o 63, bs (l5 s))], [T zp 35 [.snil, .int .i64 (↑(ByteArray.size s) : Int)] [] (sb (.o 257) (f8 (↑(ByteArray.size s) : Int))) [(.o 257, bs (f8 (↑(ByteArray.size s) : Int)))], q (List.length (f8 (↑(ByteArray.size s) : Int))), (List.length (f8 (↑(ByteArray.size s) : Int)) + ByteArray.size s) * (1 : Nat) ≤ (140737488355328 : Nat), List.length (f8 (↑(ByteArray.size s) : Int)) + ByteArray.size s = List.length (l5 s), ∀ (k : Nat), k < List.length (f8 (↑(ByteArray.size s) : Int)) + ByteArray.size s → m5 (List.length (f8 (↑(ByteArray.size s) : Int))) (bl (f8 (↑(ByteArray.size s) : Int))) (fun k => [V.int .u8 (s9 s k)]) k = bl (l5 s) k, true = false → true = false, q0, q0, q0, List.length (f8 (↑(ByteArray.size s) : Int)) + ByteArray.size s = List.length (l5 s), (none : Option Nat) = none ∨ (none : Option Nat) = none]) : Option (V × c5 × List Prop)) := by kernel_rfl
theorem aZ4 (s : ByteArray) (n : Int) (id : Int) (b : ByteArray) (l1 : List UInt8) (l2 : List UInt8) (kd : List Int) (m : List Int) (t : List Int) :
  e9 zp (bk0 s n id b l1 l2 kd m t) [false, true, true] = (some (.tup [.agg [.seg .u8 16 z16], .int .i64 2], [(.o 0, .flat [.str s, .int .i64 n])], [T zp 40 [.ptr (.o 0) 0 0 0 0] [(.o 0, .flat [.str s, .int .i64 n])] (.int .i64 n) [(.o 0, .flat [.str s, .int .i64 n])], decide (n = (0 : Int)) = false, decide (id < (0 : Int)) = true, q2]) : Option (V × c5 × List Prop)) := by kernel_rfl
theorem aZ3 (s : ByteArray) (n : Int) (id : Int) (b : ByteArray) (l1 : List UInt8) (l2 : List UInt8) (kd : List Int) (m : List Int) (t : List Int) :
  e9 zp (bk0 s n id b l1 l2 kd m t) [false, false, true] = (some (.tup [.agg [.seg .u8 16 z16], .int .i64 2], [(.o 0, .flat [.str s, .int .i64 n])], [T zp 40 [.ptr (.o 0) 0 0 0 0] [(.o 0, .flat [.str s, .int .i64 n])] (.int .i64 n) [(.o 0, .flat [.str s, .int .i64 n])], decide (n = (0 : Int)) = false, decide (id < (0 : Int)) = false, decide (n ≤ id) = true]) : Option (V × c5 × List Prop)) := by kernel_rfl
theorem aZ2 (s : ByteArray) (n : Int) (id : Int) (b : ByteArray) (l1 : List UInt8) (l2 : List UInt8) (kd : List Int) (m : List Int) (t : List Int) :
  e9 zp (bk0 s n id b l1 l2 kd m t) [false, false, false] = (some (.tup [.agg [.seg .u8 16 t], .int .i64 0], [(.o 0, .flat [.str s, .int .i64 n])], [T zp 40 [.ptr (.o 0) 0 0 0 0] [(.o 0, .flat [.str s, .int .i64 n])] (.int .i64 n) [(.o 0, .flat [.str s, .int .i64 n])], decide (n = (0 : Int)) = false, decide (id < (0 : Int)) = false, decide (n ≤ id) = false, T zp 34 [.snil, .str s] [] (sb (.o 1217) l1) [(.o 1217, bs l1)], T zp 35 [.snil, .int .i64 id] [] (sb (.o 1345) l2) [(.o 1345, bs l2)], T zp 82 [.sl (.o 1409) 0 0 0 0 2 (some 2)] [(.o 1409, .flat [.sl (.o 1217) 1 0 0 0 (List.length l1) none, .sl (.o 1345) 1 0 0 0 (List.length l2) none]), (.o 1217, bs l1), (.o 1345, bs l2)] (.agg [.seg .u8 32 kd]) [], T zp 83 [.sl (.o 1537) 0 0 0 0 32 (some 32), .sl (.o 1857) 1 0 0 0 1 (some 1)] [(.o 1537, .flat [.seg .u8 32 kd]), (.o 1857, .rows 1 1 (j3 [[.ros 1 (ByteArray.size b) (fun q => [.int .u8 (s9 b q)]) false]]) false)] (.agg [.seg .u8 32 m]) [], TO zp (Prim.copy (22 : Nat) (22 : Nat)) [V.sl (Nm.o 1) (0 : Nat) (0 : Nat) (0 : Nat) 0 16 (some 16), V.sl (Nm.o 1985) (0 : Nat) (0 : Nat) (0 : Nat) 0 32 (some 32)] [(Nm.o 1, B.flat [V.seg .u8 (16 : Nat) z16]), (Nm.o 1985, B.flat [V.seg .u8 (32 : Nat) m])] (V.int .i64 (16 : Int)) [(Nm.o 1, B.flat [V.seg .u8 (16 : Nat) t])]]) : Option (V × c5 × List Prop)) := by kernel_rfl
theorem bB6 (s : ByteArray) (n : Int) (id : Int) (b : ByteArray) (t : List Int) (u : List Int) (e : Int) :
  e9 zp (bR2 s n id b t u e) [true] = (some (.bool (decide (u = t)), [(.o 0, .flat [.str s, .int .i64 n])], [T zp 41 [.ptr (.o 0) 0 0 0 0, .int .i64 id, .str b] [(.o 0, .flat [.str s, .int .i64 n])] (.tup [.agg [.seg .u8 16 u], .int .i64 e]) [(.o 0, .flat [.str s, .int .i64 n])], decide (e = (0 : Int)) = true]) : Option (V × c5 × List Prop)) := by kernel_rfl
theorem bB5 (s : ByteArray) (n : Int) (id : Int) (b : ByteArray) (t : List Int) (u : List Int) (e : Int) :
  e9 zp (bR2 s n id b t u e) [false] = (some (.bool false, [(.o 0, .flat [.str s, .int .i64 n])], [T zp 41 [.ptr (.o 0) 0 0 0 0, .int .i64 id, .str b] [(.o 0, .flat [.str s, .int .i64 n])] (.tup [.agg [.seg .u8 16 u], .int .i64 e]) [(.o 0, .flat [.str s, .int .i64 n])], decide (e = (0 : Int)) = false]) : Option (V × c5 × List Prop)) := by kernel_rfl
def k0 (k : List Int) : List Int := (List.range 64).map fun i => k.getD i 0
theorem cc0 {k : List Int} {x : Int} {ls : Nat → List Int} (hb : (ls 0).length ≤ 1000000000) : T Tryz.prog 106 [.int .u8 x, rbs 1 ls, p0K 0] [(.o 0, .flat [.seg .u8 64 (k0 k)])] (agD (A8 (r5 k x ++ ls 0))) [(.o 0, .flat [.seg .u8 64 (k0 k)])] := by
 have hL : f9 Tryz.prog none 1 (cB (cB (cR (cL (cR (cR (f1 Tryz.f106))))))) (64 + 1) (msI x (k0 k) ls (D3 k x 0) 0) (.exit 0) (msI x (k0 k) ls (D3 k x 64) 64) := by
  have hstep : ∀ j, j < 64 → R Tryz.prog none 1 (cB (cB (cR (cL (cR (cR (f1 Tryz.f106))))))) (msI x (k0 k) ls (D3 k x j) j) .normal (msI x (k0 k) ls (D3 k x (j + 1)) (j + 1)) := by
   intro j hj
   have e := bp4 k x hj
   refine f4 NG MO _ (bH0 x (k0 k) ls (D3 k x j) j (D3 k x (j + 1))) ?_ (by show 1 ≤ 3; decide)
   simp only [All, Int.toNat_natCast, Nat.zero_add]; and_intros
   all_goals first | exact True.intro | exact e | (with_reducible assumption) | (rw [decide_eq_true_eq]; omega) | (intro _ _; exact True.intro) | (simp only [IntKind.min, IntKind.max, IntKind.signed, IntKind.bits, if_true]; omega) | omega | (intro h; exact h)
  have hend : R Tryz.prog none 1 (cB (cB (cR (cL (cR (cR (f1 Tryz.f106))))))) (msI x (k0 k) ls (D3 k x 64) 64) (.exit 0) (msI x (k0 k) ls (D3 k x 64) 64) := by
   refine f4 NG MO _ (bG_ x (k0 k) ls (D3 k x 64) 64 []) ?_ (by show 1 ≤ 3; decide)
   simp only [All]; and_intros
   all_goals first | exact True.intro | (rw [decide_eq_false_iff_not]; omega) | (intro _ _; exact True.intro) | omega | (intro h; exact h)
  exact f9.inv (fun j => msI x (k0 k) ls (D3 k x j) j) 64 hstep hend (by simp)
 have hpl := P9 k x
 rw [show D3 k x 0 = k0 k from bc0 k x, bp2] at hL
 generalize k0 k = K at *
 generalize r5 k x = L at *
 have hT : TO Tryz.prog (.append 171 171) [.sl (.o 67) 0 0 0 0 1 (some 1), rbs 1 ls] [(.o 67, .flat [.sl (.o 1) 0 0 0 0 64 (some 64)]), (.o 1, .flat [.seg .u8 64 L])] (.sl (.o 195) 1 0 0 0 2 none) [(.o 195, .rows 1 2 (apF L fun k => [rb (ls k)]) true)] := by
  refine TO.frz (args := [.ros 1 1 (fun _ => [rb L]) true, rbs 1 ls]) (bL8 (base := 195) (cs := [∀ k, k < 1 → m8 [rb (ls k)] = true, 0 < 1, (1 + 1) * 24 ≤ 140737488355328]) (by kernel_rfl) ?_ (fun ρ h => h _ ⟨_, List.mem_cons_self ..⟩)) ?_ ?_
  ·simp only [All]; and_intros
   all_goals first | exact True.intro | (intro k _; rfl) | omega
  ·intro U ρ w xs H hv
   obtain ⟨y, z, rfl, h1, h2⟩ := az1 hv
   rw [i8]; refine ⟨y, _, rfl, ?_, ?_⟩
   ·refine Z9 H (List.mem_cons_self ..) h1 (fun _ => rfl) (by simp [V.cell]) fun i hi => ⟨rfl, .sl (.o 1) 0 0 0 0 64 (some 64), by obtain rfl : i = 0 := (by omega); rfl, fun z hz => ?_⟩
    exact aq7 (m := 64) (xs := L) H (List.mem_cons_of_mem _ (List.mem_cons_self ..)) (by rw [hpl]; exact hz) (by omega) (fun _ _ => rfl)
   ·rw [i8]; refine ⟨z, _, rfl, c9.ros (D7 H).1 h2, ?_⟩
    rw [i8]
  ·rintro n ⟨b, hb⟩ ⟨b', hb'⟩
   simp only [List.mem_cons, List.mem_nil_iff, or_false, Prod.mk.injEq] at hb hb'
   rw [hb.1] at hb'
   rcases hb' with ⟨h, _⟩ | ⟨h, _⟩ <;> cases h
 have hS : T Tryz.prog 82 [.sl (.o 195) 1 0 0 0 2 none] [(.o 195, .rows 1 2 (apF L fun k => [rb (ls k)]) true)] (agD (A8 (L ++ ls 0))) [] := by
  refine T.frz (bv4 (fun i => if i = 0 then L else ls 0) (by simp only [if_true]; rw [if_neg (by decide)]; omega)) (ap6 rfl ?_) (by rintro n ⟨b, hb⟩; cases hb)
  and_intros
  all_goals first | exact True.intro | (intro k hk; rcases k with _ | _ | k <;> first | rfl | omega) | with_reducible rfl | omega | (intro h; cases h; done)
 generalize A8 (L ++ ls 0) = d at *
 refine f3 (bT2 x K ls L d) Tryz.func106 ?_
 simp only [All]; and_intros
 all_goals first | exact True.intro | exact hL | exact hT | exact hS | rfl | (intro _ _; exact True.intro) | (intro h; exact h)
theorem bu9 {k : List Int} {x : Int} {ls : Nat → List Int} (hb : (ls 0).length ≤ 1000000000) (m : Nat) : T Tryz.prog 106 [.int .u8 x, rbs 1 ls, p0K m] [(.o m, .flat [.seg .u8 64 (k0 k)])] (agD (A8 (r5 k x ++ ls 0))) [(.o m, .flat [.seg .u8 64 (k0 k)])] := by
 obtain ⟨σ, hσ, h3⟩ := T.at (cc0 (k := k) (x := x) hb) [.o 0] [.o m] (by decide) (by simp) rfl
 simp only [List.map_cons, List.map_nil, List.cons.injEq, and_true] at hσ
 simpa [V.rens, V.ren, c5.ren, Sy.B.ren, agD, rbs, p0K, hσ] using h3
theorem bW7 {k : List Int} (hk : k.length ≤ 64) : r7 64 (List.replicate 64 0) 0 (Nat.min k.length 64) (ib k) = k0 k := by
 unfold r7 k0
 apply List.map_congr_left
 intro q hq
 have hq := List.mem_range.1 hq
 have hm : Nat.min k.length 64 = k.length := Nat.min_eq_left hk
 rw [hm]
 have hb : q.blt (0 + k.length) = decide (q < k.length) := by rw [Bool.eq_iff_iff, Nat.blt_eq, decide_eq_true_eq]; omega
 have h0 : Nat.ble 0 q = true := by rw [Nat.ble_eq]; exact Nat.zero_le _
 rw [h0, hb]
 by_cases h : q < k.length
 ·rw [decide_eq_true h]; rfl
 ·rw [decide_eq_false h]
  show (List.replicate 64 (0 : Int)).getD q 0 = _
  rw [List.getD_eq_getElem?_getD, List.getD_eq_getElem?_getD, List.getElem?_eq_none (l := k) (by omega), List.getElem?_replicate, if_pos hq]; rfl
theorem cb_ {k d : List Int} {x : Int} (hd : d.length = 32) : T Tryz.prog 106 [.int .u8 x, .sl (.o 1088) 0 0 0 0 1 (some 1), p0K 256] [(.o 256, .flat [.seg .u8 64 (k0 k)]), (.o 1088, .flat [.sl (.o 832) 0 0 0 0 32 (some 32)]), (.o 832, .flat [.seg .u8 32 d])] (agD (A8 (r5 k x ++ d))) [(.o 256, .flat [.seg .u8 64 (k0 k)])] := by
 refine T.frzH (pre1 := [(.o 1088, .flat [.sl (.o 832) 0 0 0 0 32 (some 32)]), (.o 832, .flat [.seg .u8 32 d])]) (bu9 (k := k) (x := x) (ls := fun _ => d) (by rw [hd]; decide) 256) ?_ ?_
 ·intro U ρ w xs H hv
  rw [i8] at hv
  obtain ⟨a, r, rfl, h0, hv⟩ := hv
  obtain ⟨y, z, rfl, h1, h2⟩ := az1 hv
  rw [i8]; refine ⟨a, _, rfl, c9.mono (D7 H).1 (fun _ _ h => h) h0, ?_⟩
  rw [i8]; refine ⟨y, _, rfl, ?_, ?_⟩
  ·refine Z9 (f := fun _ => rb d) H (List.mem_cons_self ..) h1 (fun h => by cases h) (by simp [V.cell]) fun i hi => ⟨rfl, .sl (.o 832) 0 0 0 0 32 (some 32), by obtain rfl : i = 0 := (by omega); rfl, fun z hz => ?_⟩
   exact aq7 (m := 32) (xs := d) H (List.mem_cons_of_mem _ (List.mem_cons_self ..)) (by rw [hd]; exact hz) (by omega) (fun _ _ => rfl)
  ·rw [i8]; refine ⟨z, _, rfl, c9.mono (D7 H).1 (fun _ _ h => h) h2, ?_⟩
   rw [i8]
 ·rintro n ⟨b, hb⟩ ⟨b', hb'⟩
  simp only [List.mem_cons, List.mem_nil_iff, or_false, Prod.mk.injEq] at hb hb'
  rw [hb.1] at hb'
  rcases hb' with ⟨h, _⟩ | ⟨h, _⟩ <;> cases h
theorem T_ma {k : List Int} (hk : k.length ≤ 64) {ls : Nat → List Int} (hb : (ls 0).length ≤ 1000000000) : T Tryz.prog 83 [rb k, rbs 1 ls] [] (agD (P4 k (ls 0))) [] := by
 have hs := bW7 hk
 have h1 := bu9 (k := k) (x := 54) hb 256
 have hl := M6 (r5 k 54 ++ ls 0)
 have h2 := cb_ (k := k) (x := 92) hl
 have e : P4 k (ls 0) = A8 (r5 k 92 ++ A8 (r5 k 54 ++ ls 0)) := rfl
 rw [← e] at h2
 generalize P4 k (ls 0) = d2 at *
 generalize A8 (r5 k 54 ++ ls 0) = d1 at *
 rw [← hs] at h1 h2
 refine f3 (bC8 k ls d1 d2) Tryz.func83 ?_
 simp only [All]; and_intros
 all_goals first | exact True.intro | exact h1 | exact h2 | (rw [decide_eq_false_iff_not]; omega) | (intro _ _; exact True.intro) | omega
theorem aM7 (s : ByteArray) (n : Int) : T Tryz.prog 40 [p0K 0] [(.o 0, kyB s n)] (.int .i64 n) [(.o 0, kyB s n)] := by
 refine f3 (bC0 s n) Tryz.func40 ?_
 simp only [All]; and_intros
 all_goals first | exact True.intro
theorem bf5 : T Tryz.prog 40 [.pnil] [] (.int .i64 0) [] := by
 refine f3 bC1 Tryz.func40 ?_
 simp only [All]; and_intros
 all_goals first | exact True.intro
theorem T_de {s : ByteArray} {n : Int} (hs : s.size ≤ 64) (hn : 1 ≤ n ∧ n ≤ 4096) (m : Nat) : T Tryz.prog 39 [.str s, .int .i64 n] [] (p0K m) [(.o m, kyB s n)] := by
 have h : T Tryz.prog 39 [.str s, .int .i64 n] [] (p0K 960) [(.o 960, kyB s n)] := by
  refine f3 (aW6 s n) Tryz.func39 ?_
  simp only [All]; and_intros
  all_goals first | exact True.intro | (rw [decide_eq_false_iff_not]; omega)
 obtain ⟨σ, hσ, h3⟩ := T.at h [.o 960] [.o m] (by decide) (by simp) rfl
 simp only [List.map_cons, List.map_nil, List.cons.injEq, and_true] at hσ
 simpa [V.rens, V.ren, c5.ren, Sy.B.ren, kyB, p0K, hσ] using h3
theorem T_re {s : ByteArray} {n : Int} (hs : s.size ≤ 64) (hn : 1 ≤ n ∧ n ≤ 4096) : T Tryz.prog 38 [.str s, .int .i64 n] [] (.tup [kyV s n, .bool true]) [] := by
 refine f3 (aY9 s n) Tryz.func38 ?_
 simp only [All]; and_intros
 all_goals first | exact True.intro | (rw [decide_eq_false_iff_not]; omega)
theorem T_tz {s : ByteArray} (hs : s.size ≤ 1099511627776) (m : Nat) : T Tryz.prog 34 [.snil, .str s] [] (sb (.o m) (l5 s)) [(.o m, bs (l5 s))] := by
 have hz := R7 (n := s.size) (by omega)
 have e : l5 s = f8 s.size ++ i9 s := ad5 s
 have h9 := z6 hz
 have hle : (f8 (s.size : Int)).length + s.size = (l5 s).length := by rw [e, List.length_append (bs := i9 s), Q3]
 have h : T Tryz.prog 34 [.snil, .str s] [] (sb (.o 63) (l5 s)) [(.o 63, bs (l5 s))] := by
  refine f3 (bU_ s) Tryz.func34 ?_
  simp only [All]; and_intros
  all_goals first | exact aj8 hz | exact hle | omega | (rw [e, J0 (f8 (s.size : Int)) (i9 s)]; intro k _; rfl) | simp
 obtain ⟨σ, hσ, h3⟩ := T.at h [.o 63] [.o m] (by decide) (by simp) rfl
 simp only [List.map_cons, List.map_nil, List.cons.injEq, and_true] at hσ
 simpa [V.rens, V.ren, c5.ren, Sy.B.ren, sb, bs, hσ] using h3
theorem ch3 (b : ByteArray) : V.ros 1 b.size (fun q => [V.int IntKind.u8 (s9 b q)]) false = rb (bI b) := by
 rw [rb, ao3]
 congr 1
 funext q
 show _ = [V.int .u8 ((bI b).getD q 0)]
 rw [aV8]
theorem bL4 (m : List Int) : r7 16 (List.replicate 16 0) 0 (Nat.min 32 16) (ib m) = W7 m := by
 unfold r7 W7
 apply List.map_congr_left
 intro q hq
 have hq := List.mem_range.1 hq
 have hb : q.blt (0 + Nat.min 32 16) = true := by rw [Nat.blt_eq]; show q < 0 + 16; omega
 have h0 : Nat.ble 0 q = true := by rw [Nat.ble_eq]; exact Nat.zero_le _
 rw [h0, hb]; rfl
theorem bf9 {s : ByteArray} (hs : s.size ≤ 1000) {n id : Int} (hn : n ≠ 0) (hi : id < 9223372036854775808) {b : ByteArray} (hb : b.size ≤ 1000000000) : T Tryz.prog 41 [p0K 0, .int .i64 id, .str b] [(.o 0, kyB s n)] (.tup [.agg [.seg .u8 16 (C0 s n id b)], .int .i64 (B7 n id)]) [(.o 0, kyB s n)] := by
 have hle := aM7 s n
 by_cases h0 : id < 0
 ·rw [C0, B7, if_neg (by omega), if_neg (by omega)]
  refine f3 (aZ4 s n id b [] [] [] [] []) Tryz.func41 ?_
  simp only [All]; and_intros
  all_goals first | exact True.intro | exact hle | (rw [decide_eq_true_eq]; omega) | (rw [decide_eq_false_iff_not]; omega)
 ·by_cases h1 : n ≤ id
  ·rw [C0, B7, if_neg (by omega), if_neg (by omega)]
   refine f3 (aZ3 s n id b [] [] [] [] []) Tryz.func41 ?_
   simp only [All]; and_intros
   all_goals first | exact True.intro | exact hle | (rw [decide_eq_true_eq]; omega) | (rw [decide_eq_false_iff_not]; omega)
  ·rw [C0, B7, if_pos (by omega), if_pos (by omega)]
   have hi2 : r9 id := ⟨by omega, by omega⟩
   have hta := T_tz (s := s) (by omega) 1217
   have htb := aj8 hi2 (m := 1345)
   have hl1 := Y8 (s := s) (by omega)
   have hl2 := z6 hi2
   rw [aH4, b_3]
   generalize l5 s = l1 at *
   generalize f8 id = l2 at *
   have hsu : T Tryz.prog 82 [.sl (.o 1409) 0 0 0 0 2 (some 2)] [(.o 1409, .flat [.sl (.o 1217) 1 0 0 0 l1.length none, .sl (.o 1345) 1 0 0 0 l2.length none]), (.o 1217, bs l1), (.o 1345, bs l2)] (agD (A8 (uI l1 ++ uI l2))) [] := by
    refine T.frz (bv4 (fun i => if i = 0 then uI l1 else uI l2) (by simp only [if_true]; rw [if_neg (by decide), L4, L4]; omega)) ?_ (by rintro n ⟨b, hb⟩; cases hb)
    intro U ρ w xs H hv
    rw [i8] at hv
    obtain ⟨y, r, rfl, h1, h2⟩ := hv
    rw [i8]; refine ⟨y, _, rfl, ?_, by rw [i8] at h2 ⊢; exact h2⟩
    refine Z9 H (List.mem_cons_self ..) h1 (fun h => by cases h) (by simp [V.cell]) fun i hi => ?_
    rcases i with _ | _ | i
    ·refine ⟨rfl, .sl (.o 1217) 1 0 0 0 l1.length none, rfl, fun z hz => c9.ros (Imm.le_refl _) (R5 (D7 H).1 (D7 H).2.1 _ (rb (uI l1)) _ z rfl ?_ hz)⟩
     and_intros
     all_goals first | exact True.intro | exact (L4 l1).symm | (intro k _; rw [Nat.zero_add]; exact aR8 l1 k) | omega | (intro h; cases h; done)
    ·refine ⟨rfl, .sl (.o 1345) 1 0 0 0 l2.length none, rfl, fun z hz => c9.ros (Imm.le_refl _) (R5 (D7 H).1 (D7 H).2.1 _ (rb (uI l2)) _ z rfl ?_ hz)⟩
     and_intros
     all_goals first | exact True.intro | exact (L4 l2).symm | (intro k _; rw [Nat.zero_add]; exact aR8 l2 k) | omega | (intro h; cases h; done)
    ·omega
   have hkl := M6 (uI l1 ++ uI l2)
   generalize A8 (uI l1 ++ uI l2) = kd at *
   have hma : T Tryz.prog 83 [.sl (.o 1537) 0 0 0 0 32 (some 32), .sl (.o 1857) 1 0 0 0 1 (some 1)] [(.o 1537, .flat [.seg .u8 32 kd]), (.o 1857, .rows 1 1 (j3 [[.ros 1 b.size (fun q => [V.int IntKind.u8 (s9 b q)]) false]]) false)] (agD (P4 kd (bI b))) [] := by
    refine T.frz (T_ma (k := kd) (by omega) (ls := fun _ => bI b) (by rw [ao3]; exact hb)) (ap6 rfl ?_) (by rintro n ⟨b, hb⟩; cases hb)
    and_intros
    all_goals first | exact True.intro | exact hkl.symm | (intro k hk; obtain rfl : k = 0 := (by omega); show [V.ros 1 b.size (fun q => [V.int IntKind.u8 (s9 b q)]) false] = [rb (bI b)]; rw [ch3]) | (intro k hk; rw [Nat.zero_add]; rfl) | with_reducible rfl | omega | (intro h; cases h; done)
   have hml := aF1 kd (bI b)
   generalize P4 kd (bI b) = m at *
   have hcp : TO Tryz.prog (.copy 22 22) [.sl (.o 1) 0 0 0 0 16 (some 16), .sl (.o 1985) 0 0 0 0 32 (some 32)] [(.o 1, .flat [.seg .u8 16 (List.replicate 16 0)]), (.o 1985, .flat [.seg .u8 32 m])] (.int .i64 16) [(.o 1, .flat [.seg .u8 16 (W7 m)])] := by
    rw [← bL4 m]
    refine TO.frzH (pre0 := [(.o 1, .flat [.seg .u8 16 (List.replicate 16 0)])]) (pre1 := [(.o 1985, .flat [.seg .u8 32 m])]) (bL9 (d := .sl (.o 1) 0 0 0 0 16 (some 16)) (s := .ros 1 32 (ib m) false) (cs := [0 + 16 ≤ 16, ∀ q, q < 32 → isK .u8 (ib m q) = true]) (by kernel_rfl) ?_) (ap6 rfl ?_) ?_
    ·simp only [All]; and_intros
     all_goals first | exact True.intro | (intro q _; rfl) | omega
    ·and_intros
     all_goals first | exact True.intro | exact .inr rfl | (intro k hk; rw [Nat.zero_add]; rfl) | with_reducible rfl | omega | (intro h; cases h; done)
    ·rintro n ⟨b, hb⟩ ⟨b', hb'⟩
     simp only [List.mem_cons, List.mem_nil_iff, or_false, Prod.mk.injEq] at hb hb'
     rw [hb.1] at hb'
     cases hb'.1
   generalize W7 m = tg at *
   refine f3 (aZ2 s n id b l1 l2 kd m tg) Tryz.func41 ?_
   simp only [All]; and_intros
   all_goals first | exact True.intro | exact hle | exact hta | exact htb | exact hsu | exact hma | exact hcp | (rw [decide_eq_false_iff_not]; omega)
theorem bM0 {s : ByteArray} (hs : s.size ≤ 1000) {n id : Int} (hn : n ≠ 0) (hi : id < 9223372036854775808) {b : ByteArray} (hb : b.size ≤ 1000000000) (t : List Int) : T Tryz.prog 23 [p0K 0, .int .i64 id, .str b, .agg [.seg .u8 16 t]] [(.o 0, kyB s n)] (.bool (L9 s n id b t)) [(.o 0, kyB s n)] := by
 have h := bf9 hs (n := n) hn hi hb
 by_cases h0 : 0 ≤ id ∧ id < n
 ·have e : L9 s n id b t = decide (C0 s n id b = t) := by rw [L9, decide_eq_true h0, Bool.true_and, C0, if_pos h0]
  have e2 : B7 n id = 0 := by rw [B7, if_pos h0]
  rw [e]
  generalize C0 s n id b = u at *
  refine f3 (bB6 s n id b t u (B7 n id)) Tryz.func23 ?_
  simp only [All]; and_intros
  all_goals first | exact True.intro | exact h | (rw [decide_eq_true_eq]; omega)
 ·have e : L9 s n id b t = false := by rw [L9, decide_eq_false h0, Bool.false_and]
  have e2 : B7 n id = 2 := by rw [B7, if_neg h0]
  rw [e]
  generalize C0 s n id b = u at *
  refine f3 (bB5 s n id b t u (B7 n id)) Tryz.func23 ?_
  simp only [All]; and_intros
  all_goals first | exact True.intro | exact h | (rw [decide_eq_false_iff_not]; omega)
def mE (k ep sl : Int) (b : SBatch) : SMsg := { l6 k with epoch := ep, slot := sl, batch := b }
def cZ : SCert := { vote := I6 }
theorem O4 (f : Nat → Bool) : v6 0 0 f = true := by simp [v6]
theorem aV2 (a b : Nat → SSign) : T Tryz.prog 129 [sg 0 a, sg 0 b, .fn (.func 130) [] []] [] (.bool true) [] := by
 refine f3 (aZ9 0 0 a b 0) Tryz.func129 ⟨by simp, f9.inv (smI (sg 0 a) (sg 0 b) 0 130) 0 (fun k hk => absurd hk (Nat.not_lt_zero k)) (f4 NG MO _ (br6 0 0 a b 0) (by simp [All]) (Nat.zero_le _)) (by simp), ?_⟩
 simp [All]
theorem bO9 (a b : Nat → SEnv) : T Tryz.prog 126 [nw 0 a, nw 0 b, .fn (.func 127) [] []] [] (.bool true) [] := by
 refine f3 (aZ7 0 0 a b 0) Tryz.func126 ⟨by simp, f9.inv (smI (nw 0 a) (nw 0 b) 0 127) 0 (fun k hk => absurd hk (Nat.not_lt_zero k)) (f4 NG MO _ (br4 0 0 a b 0) (by simp [All]) (Nat.zero_le _)) (by simp), ?_⟩
 simp [All]
theorem bO_ (a b : Nat → SHeld) : T Tryz.prog 144 [hl 0 a, hl 0 b, .fn (.func 145) [] []] [] (.bool true) [] := by
 refine f3 (aZ8 0 0 a b 0) Tryz.func144 ⟨by simp, f9.inv (smI (hl 0 a) (hl 0 b) 0 145) 0 (fun k hk => absurd hk (Nat.not_lt_zero k)) (f4 NG MO _ (br5 0 0 a b 0) (by simp [All]) (Nat.zero_le _)) (by simp), ?_⟩
 simp [All]
theorem ca5 : T Tryz.prog 128 [.agg cZ.c, .agg cZ.c] [] (.bool true) [] := by
 have h : ∀ f : Nat → Bool, T Tryz.prog 129 [sg cZ.n cZ.sig, sg cZ.n cZ.sig, .fn (.func 130) [] []] [] (.bool (v6 cZ.n cZ.n f)) [] := fun f => T.bool (aV2 _ _) (O4 f).symm
 refine T.bool (f3 (bB2 cZ cZ) Tryz.func128 ?_) (by simp [cZ, O4])
 simp only [All]; and_intros
 all_goals first | exact True.intro | exact h _ | (simp; done)
theorem cb7 (k ep sl : Int) (b : SBatch) : T Tryz.prog 125 [.agg (chC (mE k ep sl b)), .agg (chC (mE k ep sl b))] [] (.bool true) [] := by
 have h : ∀ f : Nat → Bool, T Tryz.prog 144 [hl (mE k ep sl b).nheld (mE k ep sl b).held, hl (mE k ep sl b).nheld (mE k ep sl b).held, .fn (.func 145) [] []] [] (.bool (v6 (mE k ep sl b).nheld (mE k ep sl b).nheld f)) [] := fun f => T.bool (bO_ _ _) (O4 f).symm
 refine T.bool (f3 (aX2 (mE k ep sl b) (mE k ep sl b)) Tryz.func125 ?_) (by simp [mE, l6, O4])
 simp only [All]; and_intros
 all_goals first | exact True.intro | exact h _ | (simp; done)
theorem bu8 (k ep sl : Int) (b : SBatch) (hb : b.n ≤ 1000000) : T Tryz.prog 86 [.agg (mE k ep sl b).c, .agg (mE k ep sl b).c] [] (.bool (D4 (mE k ep sl b) (mE k ep sl b))) [] := by
 have e : D4 (mE k ep sl b) (mE k ep sl b) = true := Q9.2 (O5 _)
 have s1 : w5 (mE k ep sl b).batch (mE k ep sl b).batch = true := Q1 _
 have s2 : B1 (mE k ep sl b).cert (mE k ep sl b).cert = true := S7 _
 have s3 : E1 (mE k ep sl b) (mE k ep sl b) = true := by simp [E1, mE, l6, O4]
 have g1 := T_bS b b hb
 have g2 : T Tryz.prog 125 [.agg (chC (mE k ep sl b)), .agg (chC (mE k ep sl b))] [] (.bool (E1 (mE k ep sl b) (mE k ep sl b))) [] := T.bool (cb7 k ep sl b) s3.symm
 have g3 : ∀ f : Nat → Bool, T Tryz.prog 126 [nw (mE k ep sl b).nnews (mE k ep sl b).news, nw (mE k ep sl b).nnews (mE k ep sl b).news, .fn (.func 127) [] []] [] (.bool (v6 (mE k ep sl b).nnews (mE k ep sl b).nnews f)) [] := fun f => T.bool (bO9 _ _) (O4 f).symm
 have g4 : T Tryz.prog 128 [.agg (mE k ep sl b).cert.c, .agg (mE k ep sl b).cert.c] [] (.bool (B1 (mE k ep sl b).cert (mE k ep sl b).cert)) [] := T.bool ca5 s2.symm
 have g5 : ∀ f : Nat → Bool, T Tryz.prog 129 [sg (mE k ep sl b).n (mE k ep sl b).sig, sg (mE k ep sl b).n (mE k ep sl b).sig, .fn (.func 130) [] []] [] (.bool (v6 (mE k ep sl b).n (mE k ep sl b).n f)) [] := fun f => T.bool (aV2 _ _) (O4 f).symm
 have u3 : ∀ f : Nat → Bool, v6 (mE k ep sl b).nnews (mE k ep sl b).nnews f = true := fun f => O4 f
 have u5 : ∀ f : Nat → Bool, v6 (mE k ep sl b).n (mE k ep sl b).n f = true := fun f => O4 f
 rw [e]
 refine T.bool (f3 (ae2 (mE k ep sl b) (mE k ep sl b)) Tryz.func86 ?_) (u5 _)
 simp only [All]; and_intros
 all_goals first | exact True.intro | exact g1 | exact g2 | exact g3 _ | exact g4 | exact g5 _ | exact s1 | exact s2
theorem bz4 {m : SMsg} (hk : m.kind = 1) : T Tryz.prog 87 [.agg m.c] [] (.agg (O2 m).c) [] := by
 refine T.val (f3 (aI8 m) Tryz.func87 ?_) (by rw [show O2 m = o1 m by simp [O2, hk]]; rfl)
 simp only [All]; and_intros
 all_goals first | exact True.intro | (simp [hk]; done)
theorem bz5 {m : SMsg} (hk : m.kind = 2) : T Tryz.prog 87 [.agg m.c] [] (.agg (O2 m).c) [] := by
 refine T.val (f3 (bC9 m) Tryz.func87 ?_) (by rw [show O2 m = o2 m by simp [O2, hk]]; rfl)
 simp only [All]; and_intros
 all_goals first | exact True.intro | (simp [hk]; done)
theorem bz1 {b : SBatch} (hb : b.n ≤ 1000000) (hg : s8 b = true) : T Tryz.prog 52 [.agg (mE 1 1 1 b).c] [] (.bool true) [] := by
 have eo : O2 (mE 1 1 1 b) = mE 1 1 1 b := rfl
 have g1 := bz4 (m := mE 1 1 1 b) rfl
 have g2 := bu8 1 1 1 b hb
 have e2 : D4 (mE 1 1 1 b) (mE 1 1 1 b) = true := Q9.2 (O5 _)
 have g3 := bf6 b
 have g4 := T_mg (mE 1 1 1 b)
 have e4 : B4 (mE 1 1 1 b) = true := by kernel_rfl
 rw [eo] at g1
 refine T.bool (f3 (X3 (mE 1 1 1 b) (mE 1 1 1 b)) Tryz.func52 ?_) (by kernel_rfl)
 simp only [All]; and_intros
 all_goals first | exact True.intro | exact g1 | exact g2 | exact g3 | exact g4 | exact C2 _ _ | exact ca1 _ (by decide) | exact bu5 _ (by decide) | (rw [e2]; rfl) | exact hg | exact e4 | exact rfl
theorem bz2 : T Tryz.prog 52 [.agg (l6 2).c] [] (.bool false) [] := by
 have eo : O2 (l6 2) = l6 2 := rfl
 have g1 := bz5 (m := l6 2) rfl
 have g2 := bu8 2 0 0 {} (by decide)
 have e2 : D4 (l6 2) (l6 2) = true := Q9.2 (O5 _)
 have g3 := bf7 I6
 rw [eo] at g1
 refine T.bool (f3 (as3 (l6 2) (l6 2)) Tryz.func52 ?_) rfl
 simp only [All]; and_intros
 all_goals first | exact True.intro | exact g1 | exact g2 | exact g3 | (rw [e2]; rfl) | exact rfl
theorem bM4 {m : SMsg} (hg : T Tryz.prog 52 [.agg m.c] [] (.bool false) []) : T Tryz.prog 19 [.agg m.c] [] (ak_ m false) [] :=
 f3 (bh4 m false) Tryz.func19 ⟨hg, rfl, trivial⟩
def rS : ByteArray := ByteArray.mk (Array.mk [114])
def xB : ByteArray := ByteArray.mk (Array.mk [120])
def eB : ByteArray := ByteArray.mk (Array.mk [])
def rqP (t : List Int) : SReq := { client := 1, num := 1, data := xB, tag := t }
def bP : ByteArray := baL (N7 (rqP []))
def u2 (r : SReq) : SMsg := { l6 1 with epoch := 1, slot := 1, batch := { noop := false, n := 1, req := fun _ => r } }
def clP (t : List Int) : SEnv := { src := 5, body := bP, tag := t }
def clR (cs : List V) : B := .rows 18 1 (fun _ => cs) true
def clS (n : Nm) : V := .sl n 18 0 0 0 1 none
noncomputable def bdKs : Bd := { f := Tryz.f12, args := [], kb := { db := dbQ [(39, fun _ _ lo => [{ val := p0K lo, post := [(.o lo, kyB rS 72)] }]), (38, D8 (.tup [kyV rS 72, .bool true]))] }, names := fun t => match m6 t.tmps 0 with | .ptr a _ _ _ _ => [a] | _ => [] }
noncomputable def bdMy (t : List Int) : Bd := { f := Tryz.f67, args := [.int .i64 8, .agg (rqP t).c], kb := kb0 }
noncomputable def bdMk (t : List Int) : Bd := { f := Tryz.f21, args := [p0K 0, .int .i64 4, .int .i64 1, .int .i64 1, .str xB], pre := [(.o 0, kyB rS 72)], base := 1, kb := { db := dbQ [(40, fun _ _ _ => [{ rd := [.o 0], val := .int .i64 72 }]), (67, D8 (.bool true)), (68, D8 (.str bP)), (41, fun _ _ _ => [{ rd := [.o 0], val := .tup [.agg [.seg .u8 16 t], .int .i64 0] }])] }, names := fun _ => [.o 0] }
noncomputable def cd7 (m : SMsg) (s : ByteArray) (e : Int) : Bd := { f := Tryz.f102, args := [.agg m.c], kb := { db := dbQ [(19, D8 (.tup [.str s, .int .i64 e]))] } }
noncomputable def cf5 (v : SVote) (s : ByteArray) : Bd := { f := Tryz.f72, args := [.agg v.c], kb := { db := dbQ [(102, D8 (.str s))] } }
def kC1 (cs : List V) : Exit → St → Option W := fun _ st => match A4 (.o 0) st.heap with
 | some (.flat [.sl a _ _ _ _ _ _], _) => some ⟨[(.o 63, a)], [], [(.o 0, .set (.flat [clS (.o 63)])), (.o 63, .set (clR cs)), (.o 1, .keep)], none, st.next⟩
 | _ => none
noncomputable def bdC1 (t : List Int) : Bd := { f := Tryz.f69, args := [.agg [.bool false, rq 1 (fun _ => rqP t)], .ptr (.o 0) 0 0 0 0, .ptr (.o 1) 0 0 0 0], pre := [(.o 0, .flat [.snil]), (.o 1, .flat [.int .i64 4])], base := 2, kb := { db := dbQ [(68, D8 (.str bP))], lp := fun _ _ => [(True, .rounds 2)] }, names := fun _ => [.o 0, .o 63, .o 1], k := kC1 (clP t).c }
noncomputable def bdC2 (s : Nat → SSign) (b : ByteArray) : Bd := { f := Tryz.f70, args := [sg 0 s, .str b, .any], kb := { db := fun _ _ _ _ => [], lp := fun _ _ => [(True, .rounds 1)] } }
def fnB : B := .flat [.fn (.func 69) [] [.ptr (.o 2) 0 0 0 0, .ptr (.o 3) 0 0 0 0]]
def fnS : B := .flat [.fn (.func 70) [] [.ptr (.o 2) 0 0 0 0]]
def kC3 (cs : List V) : Exit → St → Option W := fun _ st => match A4 (.o 2) st.heap with
 | some (.flat [.sl a _ _ _ _ _ _], _) => some ⟨[(.o 63, a)], [], [(.o 2, .set (.flat [clS (.o 63)])), (.o 63, .set (clR cs)), (.o 0, .set fnB), (.o 1, .set fnS), (.o 3, .keep)], none, st.next⟩
 | _ => none
def c1C (t : List Int) : List V → c5 → Nat → List Cl := fun _ _ lo => [{ pre := [.o 2], rd := [.o 3], val := .tup [], post := [(.o 2, .flat [clS (.o lo)]), (.o lo, clR (clP t).c)] }]
noncomputable def bdC3 (t : List Int) : Bd := { f := Tryz.f71, args := [.agg (u2 (rqP t)).c, .ptr (.o 0) 0 0 0 0, .ptr (.o 1) 0 0 0 0], pre := [(.o 2, .flat [.snil]), (.o 0, fnB), (.o 1, fnS), (.o 3, .flat [.int .i64 4])], base := 4, kb := { db := dbQ [(69, c1C t), (70, D8 (.tup [])), (72, D8 (.str eB))], lp := fun _ _ => [(True, .rounds 1)] }, names := fun _ => [.o 2, .o 63, .o 0, .o 1, .o 3], k := kC3 (clP t).c }
def c3C (t : List Int) : List V → c5 → Nat → List Cl := fun a h lo => match a with
 | [_, .ptr c7 _ _ _ _, .ptr c8 _ _ _ _] => match A4 c7 h with
  | some (.flat [.fn _ _ [.ptr o _ _ _ _, .ptr n _ _ _ _]], _) => [{ pre := [o], rd := [c7, c8, n], val := .tup [], post := [(o, .flat [clS (.o lo)]), (.o lo, clR (clP t).c)] }]
  | _ => []
 | _ => []
def nmCl (st : St) : List Nm := match m6 st.tmps 4 with
 | .ptr c _ _ _ _ => match A4 c st.heap with
  | some (.flat [.sl a _ _ _ _ _ _], _) => [a]
  | _ => []
 | _ => []
noncomputable def bdCl (t : List Int) (s : ByteArray) : Bd := { f := Tryz.f22, args := [.int .i64 4, .str s], kb := { db := dbQ [(42, D8 (.tup [.agg (u2 (rqP t)).c, .int .i64 0])), (71, c3C t)], lp := fun _ _ => [(True, .rounds 1)] }, names := nmCl }
def rdK (v : V) : List V → c5 → Nat → List Cl := fun a _ _ => match a with
 | .ptr k _ _ _ _ :: _ => [{ rd := [k], val := v }]
 | _ => []
def enC (s : ByteArray) : List V → c5 → Nat → List Cl := fun a _ _ => match a with
 | [.agg (_ :: _ :: _ :: _ :: _ :: _ :: .sl n _ _ _ _ _ _ :: _)] => [{ pre := [n], val := .tup [.str s, .int .i64 0] }]
 | _ => []
def ksC : List V → c5 → Nat → List Cl := fun _ _ lo => [{ val := .tup [p0K lo, kyV rS 72], post := [(.o lo, kyB rS 72)] }]
def clC (t : List Int) : List V → c5 → Nat → List Cl := fun _ _ lo => [{ val := clS (.o lo), post := [(.o lo, clR (clP t).c)] }]
noncomputable def bdLv (t : List Int) (s : ByteArray) : Bd := { f := Tryz.f7, args := [], kb := { db := dbQ [(12, ksC), (21, rdK (.tup [.agg (rqP t).c, .int .i64 0])), (19, enC s), (22, clC t), (23, rdK (.bool true))] } }
theorem bS3 :
  e9 zp (bdKs) [] = (some (.tup [.ptr (.o 576) 0 0 0 0, .agg [.str rS, .int .i64 72]], [(.o 576, .flat [.str rS, .int .i64 72])], [T zp 38 [.str (ByteArray.mk (Array.mk [(114 : UInt8)])), .int .i64 72] [] (.tup [.agg [.str rS, .int .i64 72], .bool true]) [], T zp 39 [.str (ByteArray.mk (Array.mk [(114 : UInt8)])), .int .i64 72] [] (.ptr (.o 576) 0 0 0 0) [(.o 576, .flat [.str rS, .int .i64 72])]]) : Option (V × c5 × List Prop)) := by kernel_rfl
theorem aP4 (t : List Int) :
  e9 zp (bdMy t) [true, true, true, true] = (some (.bool true, [], [q2, q2, q2, q2]) : Option (V × c5 × List Prop)) := by kernel_rfl
theorem aI3 (t : List Int) :
  e9 zp (bdMk t) [false, false, false, false, false] = (some (.tup [.agg [.int .i64 1, .int .i64 1, .str xB, .seg .u8 16 t], .int .i64 0], [(.o 0, .flat [.str rS, .int .i64 72])], [T zp 40 [.ptr (.o 0) 0 0 0 0] [(.o 0, .flat [.str rS, .int .i64 72])] (.int .i64 72) [(.o 0, .flat [.str rS, .int .i64 72])], q false, T zp 67 [.int .i64 8, .agg [.int .i64 1, .int .i64 1, .str xB, .seg .u8 16 z16]] [] (.bool true) [], q false, q false, q false, InR .i64 (5 : Int), T zp 68 [.agg [.int .i64 1, .int .i64 1, .str xB, .seg .u8 16 z16]] [] (.str bP) [], T zp 41 [.ptr (.o 0) 0 0 0 0, .int .i64 5, .str bP] [(.o 0, .flat [.str rS, .int .i64 72])] (.tup [.agg [.seg .u8 16 t], .int .i64 0]) [(.o 0, .flat [.str rS, .int .i64 72])], q false]) : Option (V × c5 × List Prop)) := by kernel_rfl
theorem bA_ (m : SMsg) (s : ByteArray) (e : Int) :
  e9 zp (cd7 m s e) [] = (some (.str s, [], [T zp 19 [.agg (SMsg.c m)] [] (.tup [.str s, .int .i64 e]) []]) : Option (V × c5 × List Prop)) := by kernel_rfl
theorem bE0 (v : SVote) (s : ByteArray) :
  e9 zp (cf5 v s) [] = (some (.str s, [], [T zp 102 [.agg [.int .i64 2, .int .i64 0, .int .i64 0, .int .i64 0, .int .i64 0, .bool false, .snil, .int .i64 (SVote.kind v), .int .i64 (SVote.epoch v), .int .i64 (SVote.view v), .int .i64 (SVote.slot v), .seg .u8 32 (SVote.digest v), .int .i64 0, .int .i64 0, .int .i64 0, .snil, .snil, .seg .u8 32 z32, .int .i64 0, .int .i64 0, .int .i64 0, .int .i64 0, .seg .u8 32 z32, .snil, .str ByteArray.empty, .snil]] [] (.str s) []]) : Option (V × c5 × List Prop)) := by kernel_rfl
theorem bg9 (t : List Int) :
  e9 zp (bdC1 t) [true, false] = (some (.tup [], [(.o 0, .flat [.sl (.o 63) 18 0 0 0 1 none]), (.o 63, .rows 18 1 (fun x => SEnv.c (SEnv.mk (5 : Int) bP t)) true), (.o 1, .flat [.int .i64 4])], [q2, (0 : Int) ≤ (0 : Int) ∧ (0 : Int) < (1 : Int), InR .i64 (5 : Int), T zp 68 [.agg [.int .i64 1, .int .i64 1, .str xB, .seg .u8 16 t]] [] (.str bP) [], 1 ≤ (1 : Nat), ∀ (k : Nat), k < (1 : Nat) → m8 (j3 [[V.int .i64 (5 : Int), V.str bP, V.seg .u8 (16 : Nat) t]] ((0 : Nat) + k)) = true, 40 ≤ (140737488355328 : Nat), InR .i64 (1 : Int), q false, q0, q0, q0, 1 = (1 : Nat), (none : Option Nat) = none ∨ (none : Option Nat) = none, 1 = (1 : Nat), ∀ (k : Nat), k < 1 → m5 (0 : Nat) (fun x => []) (fun k => j3 [[V.int .i64 (5 : Int), V.str bP, V.seg .u8 (16 : Nat) t]] ((0 : Nat) + k)) k = SEnv.c (SEnv.mk (5 : Int) bP t), true = false → true = false, q2]) : Option (V × c5 × List Prop)) := by kernel_rfl
theorem bB0 (s : Nat → SSign) (b : ByteArray) :
  e9 zp (bdC2 s b) [false] = (some (.tup [], [], [q false]) : Option (V × c5 × List Prop)) := by kernel_rfl
theorem bB1 (t : List Int) :
  e9 zp (bdC3 t) [false] = (some (.tup [], [(.o 2, .flat [.sl (.o 63) 18 0 0 0 1 none]), (.o 63, .rows 18 1 (fun x => SEnv.c (SEnv.mk (5 : Int) bP t)) true), (.o 0, .flat [.fn (.func (69 : FuncId)) [] [.ptr (.o 2) 0 0 0 0, .ptr (.o 3) 0 0 0 0]]), (.o 1, .flat [.fn (.func (70 : FuncId)) [] [.ptr (.o 2) 0 0 0 0]]), (.o 3, .flat [.int .i64 4])], [T zp (69 : FuncId) [.agg [.bool false, rq 1 fun x => SReq.mk (1 : Int) (1 : Int) xB t], .ptr (.o 2) 0 0 0 0, .ptr (.o 3) 0 0 0 0] [(.o 2, .flat [.snil]), (.o 3, .flat [.int .i64 4])] (.tup []) [(.o 2, .flat [.sl (.o 260) 18 0 0 0 1 none]), (.o 260, .rows 18 1 (fun x => SEnv.c (SEnv.mk (5 : Int) bP t)) true), (.o 3, .flat [.int .i64 4])], q false, T zp 72 [.agg [.int .i64 0, .int .i64 0, .int .i64 0, .int .i64 0, .seg .u8 32 z32]] [] (.str eB) [], T zp (70 : FuncId) [.ros 17 0 (fun i => SSign.c (SSign.mk (0 : Int) [])) false, .str eB, .ptr (.o 2) 0 0 0 0] [] (.tup []) [], T zp (70 : FuncId) [.ros 17 0 (fun i => SSign.c (SSign.mk (0 : Int) [])) false, .str (ByteArray.mk (Array.mk [])), .ptr (.o 2) 0 0 0 0] [] (.tup []) [], q0, q0, q0, q (1 : Nat), (none : Option Nat) = none ∨ (none : Option Nat) = none, q (1 : Nat), ∀ (k : Nat), k < (1 : Nat) → SEnv.c (SEnv.mk (5 : Int) bP t) = SEnv.c (SEnv.mk (5 : Int) bP t), true = false → true = false, q0, q0, q0, q0, q0, q0, q0, q0, q0, q2]) : Option (V × c5 × List Prop)) := by kernel_rfl
theorem aN7 (t : List Int) (s : ByteArray) :
  e9 zp (bdCl t s) [false, false, false, false] = (some (.sl (.o 1920) 18 0 0 0 1 none, [(.o 1920, .rows 18 1 (fun x => SEnv.c (SEnv.mk (5 : Int) bP t)) true)], [T zp 42 [.str s] [] (.tup [.agg (SMsg.c (SMsg.mk (1 : Int) (1 : Int) (0 : Int) (0 : Int) (1 : Int) (SBatch.mk false 1 fun x => SReq.mk (1 : Int) (1 : Int) xB t) I6 (0 : Int) (0 : Int) (0 : Int) 0 (fun x => SHeld.mk (SBatch.mk false 0 fun x => SReq.mk (0 : Int) (0 : Int) ByteArray.empty []) (SCert.mk (SVote.mk (0 : Int) (0 : Int) (0 : Int) (0 : Int) []) 0 fun x => SSign.mk (0 : Int) [])) 0 (fun x => SEnv.mk (0 : Int) ByteArray.empty []) z32 (SCert.mk I6 0 fun x => SSign.mk (0 : Int) []) ByteArray.empty 0 fun x => SSign.mk (0 : Int) [])), .int .i64 0]) [], q false, q false, q false, T zp 71 [.agg [.int .i64 1, .int .i64 1, .int .i64 0, .int .i64 0, .int .i64 1, .bool false, rq 1 fun x => SReq.mk (1 : Int) (1 : Int) xB t, .int .i64 0, .int .i64 0, .int .i64 0, .int .i64 0, .seg .u8 32 z32, .int .i64 0, .int .i64 0, .int .i64 0, hl 0 fun x => SHeld.mk (SBatch.mk false 0 fun x => SReq.mk (0 : Int) (0 : Int) ByteArray.empty []) (SCert.mk (SVote.mk (0 : Int) (0 : Int) (0 : Int) (0 : Int) []) 0 fun x => SSign.mk (0 : Int) []), nw 0 fun x => SEnv.mk (0 : Int) ByteArray.empty [], .seg .u8 32 z32, .int .i64 0, .int .i64 0, .int .i64 0, .int .i64 0, .seg .u8 32 z32, sg 0 fun x => SSign.mk (0 : Int) [], .str ByteArray.empty, sg 0 fun x => SSign.mk (0 : Int) []], .ptr (.o 1344) 0 0 0 0, .ptr (.o 1536) 0 0 0 0] [(.o 64, .flat [.snil]), (.o 1344, .flat [.fn (.func 69) [] [.ptr (.o 64) 0 0 0 0, .ptr (.o 0) 0 0 0 0]]), (.o 1536, .flat [.fn (.func 70) [] [.ptr (.o 64) 0 0 0 0]]), (.o 0, .flat [.int .i64 4])] (.tup []) [(.o 64, .flat [.sl (.o 1920) 18 0 0 0 1 none]), (.o 1920, .rows 18 1 (fun x => SEnv.c (SEnv.mk (5 : Int) bP t)) true), (.o 1344, .flat [.fn (.func 69) [] [.ptr (.o 64) 0 0 0 0, .ptr (.o 0) 0 0 0 0]]), (.o 1536, .flat [.fn (.func 70) [] [.ptr (.o 64) 0 0 0 0]]), (.o 0, .flat [.int .i64 4])], q false]) : Option (V × c5 × List Prop)) := by kernel_rfl
theorem aO6 (t : List Int) (s : ByteArray) :
  e9 zp (bdLv t s) [true, true, true, true] = (some (.bool true, [], [T zp 12 [] [] (.tup [.ptr (.o 64) 0 0 0 0, .agg [.str rS, .int .i64 72]]) [(.o 64, .flat [.str rS, .int .i64 72])], T zp 21 [.ptr (.o 64) 0 0 0 0, .int .i64 4, .int .i64 1, .int .i64 1, .str (ByteArray.mk (Array.mk [(120 : UInt8)]))] [(.o 64, .flat [.str rS, .int .i64 72])] (.tup [.agg (SReq.c (SReq.mk (1 : Int) (1 : Int) xB t)), .int .i64 0]) [(.o 64, .flat [.str rS, .int .i64 72])], T zp 19 [.agg [.int .i64 1, .int .i64 1, .int .i64 0, .int .i64 0, .int .i64 1, .bool false, .sl (.o 1088) 19 0 0 0 1 (some 1), .int .i64 0, .int .i64 0, .int .i64 0, .int .i64 0, .seg .u8 32 z32, .int .i64 0, .int .i64 0, .int .i64 0, .snil, .snil, .seg .u8 32 z32, .int .i64 0, .int .i64 0, .int .i64 0, .int .i64 0, .seg .u8 32 z32, .snil, .str ByteArray.empty, .snil]] [(.o 1088, .rows 19 1 (j3 [[.int .i64 1, .int .i64 1, .str xB, .seg .u8 16 t]]) false)] (.tup [.str s, .int .i64 0]) [], T zp 22 [.int .i64 4, .str s] [] (.sl (.o 1728) 18 0 0 0 1 none) [(.o 1728, .rows 18 1 (fun x => SEnv.c (SEnv.mk (5 : Int) bP t)) true)], q2, q2, q2, (0 : Int) ≤ (0 : Int) ∧ (0 : Int) < (1 : Int), 0 < (1 : Nat), q2, (0 : Int) ≤ (0 : Int) ∧ (0 : Int) < (1 : Int), 0 < (1 : Nat), (0 : Int) ≤ (0 : Int) ∧ (0 : Int) < (1 : Int), 0 < (1 : Nat), T zp 23 [.ptr (.o 64) 0 0 0 0, .int .i64 5, .str bP, .agg [.seg .u8 16 t]] [(.o 64, .flat [.str rS, .int .i64 72])] (.bool true) [(.o 64, .flat [.str rS, .int .i64 72])]]) : Option (V × c5 × List Prop)) := by kernel_rfl
theorem T.res {P : Program} {f : FuncId} {args : List V} {pre : c5} {val val' : V} {post : c5} {cs : List Prop} (h : T P f args pre val post) (hl : leV [] val val' = some cs) (hc : All cs) : T P f args pre val' post := by
 intro U ρ w xs hh ha hf
 refine Calls.mono (h U ρ w xs hh ha hf) ?_
 rintro e w' ⟨x, U', ρ', he, L⟩
 exact ⟨x, U', ρ', he, { L with val := R5 (Imm.le_refl U') (fun n b hb => absurd hb List.not_mem_nil) _ _ _ _ hl hc L.val }⟩
theorem b_6 (x : Int) : 0 ≤ w8 x ∧ w8 x ≤ 255 := by
 simp only [w8, IntKind.wrap, IntKind.signed, IntKind.bits]
 simp
 omega
theorem a_8 (H : List Int) : ∀ i, ∀ x ∈ dA H i, 0 ≤ x ∧ x ≤ 255
 | 0, x, h => by
  obtain ⟨_, rfl⟩ := List.mem_replicate.1 h
  decide
 | i + 1, x, h => by
  rcases List.mem_or_eq_of_mem_set h with h | rfl
  ·exact a_8 H i x h
  ·exact b_6 _
theorem bu0 {d : List Int} (h : ∀ x ∈ d, 0 ≤ x ∧ x ≤ 255) : SegOk 16 (W7 d) := by
 refine ⟨bt_ d, fun x hx => ?_⟩
 obtain ⟨i, _, rfl⟩ := List.mem_map.1 hx
 rw [List.getD_eq_getElem?_getD]
 cases hq : d[i]? with
 | none => decide
 | some y => exact h y (List.mem_of_getElem? hq)
theorem bL3 (kb : List UInt8) (body : ByteArray) : SegOk 16 (aH4 kb body) := bu0 (a_8 _ _)
theorem b__ : SegOk 16 (List.replicate 16 0) := ⟨rfl, fun x h => by obtain ⟨_, rfl⟩ := List.mem_replicate.1 h; decide⟩
theorem bL0 (s : ByteArray) (n id : Int) (b : ByteArray) : SegOk 16 (C0 s n id b) := by
 unfold C0
 split
 ·exact bL3 _ _
 ·exact b__
def tgP : List Int := C0 rS 72 5 bP
theorem b_1 : SegOk 16 tgP := bL0 _ _ _ _
theorem N5 : rS.size = 1 := rfl
theorem aL2 : bP.size = 8 := by kernel_rfl
theorem bN2 (m : Nat) : T Tryz.prog 12 [] [] (.tup [p0K m, kyV rS 72]) [(.o m, kyB rS 72)] := by
 have h1 := fun m => T_de (s := rS) (n := 72) (by rw [N5]; decide) (by decide) m
 have h2 := T_re (s := rS) (n := 72) (by rw [N5]; decide) (by decide)
 have h : T Tryz.prog 12 [] [] (.tup [p0K 576, kyV rS 72]) [(.o 576, kyB rS 72)] := by
  refine f3 bS3 Tryz.func12 ?_
  simp only [All]; and_intros
  all_goals first | exact True.intro | exact h2 | exact h1 _
 obtain ⟨σ, hσ, h3⟩ := T.at h [.o 576] [.o m] (by decide) (by simp) rfl
 simp only [List.map_cons, List.map_nil, List.cons.injEq, and_true] at hσ
 simpa [V.rens, V.ren, c5.ren, Sy.B.ren, kyB, kyV, p0K, hσ] using h3
theorem T_my (t : List Int) : T Tryz.prog 67 [.int .i64 8, .agg (rqP t).c] [] (.bool true) [] := by
 refine f3 (aP4 t) Tryz.func67 ?_
 simp only [All]; and_intros
 all_goals first | exact True.intro
theorem bL_ (t : List Int) : T Tryz.prog 68 [.agg (rqP t).c] [] (.str bP) [] :=
 cc2 (r := rqP t) (by show r9 1; exact ⟨by decide, by decide⟩) (by show r9 1; exact ⟨by decide, by decide⟩) (by show 1 ≤ _; decide)
theorem T_mk (m : Nat) : T Tryz.prog 21 [p0K m, .int .i64 4, .int .i64 1, .int .i64 1, .str xB] [(.o m, kyB rS 72)] (.tup [.agg (rqP tgP).c, .int .i64 0]) [(.o m, kyB rS 72)] := by
 have h1 := aM7 rS 72
 have h2 := T_my z16
 have h3 := bL_ z16
 have h4 := bf9 (s := rS) (by rw [N5]; decide) (n := 72) (id := 5) (by decide) (by decide) (b := bP) (by rw [aL2]; decide)
 rw [show B7 72 5 = 0 from rfl] at h4
 have h : T Tryz.prog 21 [p0K 0, .int .i64 4, .int .i64 1, .int .i64 1, .str xB] [(.o 0, kyB rS 72)] (.tup [.agg (rqP tgP).c, .int .i64 0]) [(.o 0, kyB rS 72)] := by
  unfold tgP
  generalize C0 rS 72 5 bP = t at *
  refine f3 (aI3 t) Tryz.func21 ?_
  simp only [All]; and_intros
  all_goals first | exact True.intro | exact h1 | exact h2 | exact h3 | exact h4 | (simp only [IntKind.min, IntKind.max, IntKind.signed, IntKind.bits, if_true]; omega)
 obtain ⟨σ, hσ, h5⟩ := T.at h [.o 0] [.o m] (by decide) (by simp) rfl
 simp only [List.map_cons, List.map_nil, List.cons.injEq, and_true] at hσ
 simpa [V.rens, V.ren, c5.ren, Sy.B.ren, kyB, p0K, SReq.c, hσ] using h5
theorem ca6 (m : Nat) : T Tryz.prog 23 [p0K m, .int .i64 5, .str bP, .agg [.seg .u8 16 tgP]] [(.o m, kyB rS 72)] (.bool true) [(.o m, kyB rS 72)] := by
 have h := bM0 (s := rS) (by rw [N5]; decide) (n := 72) (id := 5) (by decide) (by decide) (b := bP) (by rw [aL2]; decide) tgP
 have e : L9 rS 72 5 bP tgP = true := by
  rw [L9, tgP, C0, if_pos (by decide), decide_eq_true (by decide : (0 : Int) ≤ 5 ∧ (5 : Int) < 72)]; simp
 rw [e] at h
 obtain ⟨σ, hσ, h5⟩ := T.at h [.o 0] [.o m] (by decide) (by simp) rfl
 simp only [List.map_cons, List.map_nil, List.cons.injEq, and_true] at hσ
 simpa [V.rens, V.ren, c5.ren, Sy.B.ren, kyB, p0K, hσ] using h5
theorem cd2 : T Tryz.prog 72 [.agg I6.c] [] (.str eB) [] := by
 have hE := bM4 bz2
 rw [show ak_ (l6 2) false = .tup [.str eB, .int .i64 130] from rfl] at hE
 have hB : T Tryz.prog 102 [.agg (l6 2).c] [] (.str eB) [] := by
  refine f3 (bA_ (l6 2) eB 130) Tryz.func102 ?_
  simp only [All]; and_intros
  all_goals first | exact True.intro | exact hE
 refine f3 (bE0 I6 eB) Tryz.func72 ?_
 refine ⟨T.args hB rfl ?_, trivial⟩
 simp [All, l6, I6]
theorem T_c1 (t : List Int) (o n m : Nat) (hn : [Nm.o o, Nm.o n, Nm.o m].Nodup) : T Tryz.prog 69 [.agg [.bool false, rq 1 (fun _ => rqP t)], .ptr (.o o) 0 0 0 0, .ptr (.o n) 0 0 0 0] [(.o o, .flat [.snil]), (.o n, .flat [.int .i64 4])] (.tup []) [(.o o, .flat [clS (.o m)]), (.o m, clR (clP t).c), (.o n, .flat [.int .i64 4])] := by
 have h3 := bL_ t
 have h : T Tryz.prog 69 [.agg [.bool false, rq 1 (fun _ => rqP t)], .ptr (.o 0) 0 0 0 0, .ptr (.o 1) 0 0 0 0] [(.o 0, .flat [.snil]), (.o 1, .flat [.int .i64 4])] (.tup []) [(.o 0, .flat [clS (.o 63)]), (.o 63, clR (clP t).c), (.o 1, .flat [.int .i64 4])] := by
  refine f3 (bg9 t) Tryz.func69 ?_
  simp only [All]; and_intros
  all_goals first | exact True.intro | exact h3 | (intro k hk; obtain rfl : k = 0 := (by omega); rfl) | (simp only [IntKind.min, IntKind.max, IntKind.signed, IntKind.bits, if_true]; omega) | omega | (intro h; exact h) | exact .inl True.intro
 obtain ⟨σ, hσ, h5⟩ := T.at h [.o 0, .o 1, .o 63] [.o o, .o n, .o m] (by decide) hn rfl
 simp only [List.map_cons, List.map_nil, List.cons.injEq, and_true] at hσ
 simpa [V.rens, V.ren, c5.ren, Sy.B.ren, clS, clR, clP, SEnv.c, rq, hσ.1, hσ.2.1, hσ.2.2] using h5
theorem T_c2 (s : Nat → SSign) (b : ByteArray) : T Tryz.prog 70 [sg 0 s, .str b, .any] [] (.tup []) [] := by
 refine f3 (bB0 s b) Tryz.func70 ?_
 simp only [All]; and_intros
 all_goals first | exact True.intro
theorem T_c3 (t : List Int) (o n a b m : Nat) (hn : [Nm.o o, Nm.o n, Nm.o a, Nm.o b, Nm.o m].Nodup) : T Tryz.prog 71 [.agg (u2 (rqP t)).c, .ptr (.o a) 0 0 0 0, .ptr (.o b) 0 0 0 0] [(.o o, .flat [.snil]), (.o a, .flat [.fn (.func 69) [] [.ptr (.o o) 0 0 0 0, .ptr (.o n) 0 0 0 0]]), (.o b, .flat [.fn (.func 70) [] [.ptr (.o o) 0 0 0 0]]), (.o n, .flat [.int .i64 4])] (.tup [])
  [(.o o, .flat [clS (.o m)]), (.o m, clR (clP t).c), (.o a, .flat [.fn (.func 69) [] [.ptr (.o o) 0 0 0 0, .ptr (.o n) 0 0 0 0]]), (.o b, .flat [.fn (.func 70) [] [.ptr (.o o) 0 0 0 0]]), (.o n, .flat [.int .i64 4])] := by
 have h1 := T_c1 t 2 3 260 (by decide)
 have h2 : ∀ (s : Nat → SSign) (b : ByteArray), T Tryz.prog 70 [sg 0 s, .str b, .ptr (.o 2) 0 0 0 0] [] (.tup []) [] := fun s b => T.args (T_c2 s b) rfl (by simp [All])
 have h4 := cd2
 have h : T Tryz.prog 71 [.agg (u2 (rqP t)).c, .ptr (.o 0) 0 0 0 0, .ptr (.o 1) 0 0 0 0] [(.o 2, .flat [.snil]), (.o 0, fnB), (.o 1, fnS), (.o 3, .flat [.int .i64 4])] (.tup []) [(.o 2, .flat [clS (.o 63)]), (.o 63, clR (clP t).c), (.o 0, fnB), (.o 1, fnS), (.o 3, .flat [.int .i64 4])] := by
  refine f3 (bB1 t) Tryz.func71 ?_
  simp only [All]; and_intros
  all_goals first | exact True.intro | exact h1 | exact h4 | exact h2 _ _ | (intro _ _; exact True.intro) | (intro h; exact h) | exact .inl True.intro
 obtain ⟨σ, hσ, h5⟩ := T.at h [.o 2, .o 3, .o 0, .o 1, .o 63] [.o o, .o n, .o a, .o b, .o m] (by decide) hn rfl
 simp only [List.map_cons, List.map_nil, List.cons.injEq, and_true] at hσ
 simpa [V.rens, V.ren, c5.ren, Sy.B.ren, fnB, fnS, clS, clR, clP, SEnv.c, SMsg.c, SBatch.c, SVote.c, SCert.c, rq, Sy.hl, nw, sg, hσ.1, hσ.2.1, hσ.2.2.1, hσ.2.2.2.1, hσ.2.2.2.2] using h5
theorem bb9 (t : List Int) : az9 (u2 (rqP t)) = true := by
 have e : O2 (u2 (rqP t)) = u2 (rqP t) := by kernel_rfl
 have hb : s8 (u2 (rqP t)).batch = true := by kernel_rfl
 exact aE2.2 ⟨by show (1 : Int) ≤ 1 ∧ (1 : Int) ≤ 8; decide, by rw [e]; exact O5 _, fun h => absurd h (by show ¬ (1 : Int) = 2; decide), fun h => absurd h (by show ¬ (1 : Int) = 7; decide), by show (0 : Int) ≤ 1 ∧ (1 : Int) ≤ _; decide, by show (0 : Int) ≤ 1 ∧ (1 : Int) ≤ _; decide, by show (0 : Int) ≤ 0 ∧ (0 : Int) ≤ _; decide, by show (0 : Int) ≤ 0 ∧ (0 : Int) ≤ _; decide, hb, by show (0 : Int) ≤ 0 ∧ (0 : Int) ≤ _; decide, by show (0 : Int) ≤ 0 ∧ (0 : Int) ≤ _; decide, by show (0 : Int) ≤ 0 ∧ (0 : Int) ≤ _; decide,
  ⟨Nat.zero_le _, fun i hi => absurd hi (Nat.not_lt_zero i)⟩, ⟨Nat.zero_le _, fun i hi => absurd hi (Nat.not_lt_zero i)⟩, ⟨Nat.zero_le _, fun i hi => absurd hi (Nat.not_lt_zero i)⟩, by show (0 : Nat) ≤ _; decide⟩
theorem bo7 {t : List Int} (h : SegOk 16 t) : segMsg (u2 (rqP t)) := ⟨fun i hi => h, aU1, fun i hi => absurd hi (Nat.not_lt_zero i), fun i hi => absurd hi (Nat.not_lt_zero i), aU1, ⟨aU1, fun i hi => absurd hi (Nat.not_lt_zero i)⟩, fun i hi => absurd hi (Nat.not_lt_zero i)⟩
theorem bo6 {t : List Int} (h : SegOk 16 t) : (z4 (u2 (rqP t))).length ≤ 4194304 := by
 obtain ⟨a, b⟩ := h
 match t, a with
 | [a0, a1, a2, a3, a4, a5, a6, a7, a8, a9, b0, b1, b2, b3, b4, b5], _ =>
  rw [show (z4 (u2 (rqP [a0, a1, a2, a3, a4, a5, a6, a7, a8, a9, b0, b1, b2, b3, b4, b5]))).length = 31 by kernel_rfl]; decide
theorem bM1 {t : List Int} (h : SegOk 16 t) : T Tryz.prog 42 [.str (baL (z4 (u2 (rqP t))))] [] (.tup [.agg (u2 (rqP t)).c, .int .i64 0]) [] := by
 have hD := bu7 (baL (z4 (u2 (rqP t))))
 rw [bt5] at hD
 have hs := aR9 h
 obtain ⟨hl, hr⟩ := h
 match t, hl with
 | [a0, a1, a2, a3, a4, a5, a6, a7, a8, a9, b0, b1, b2, b3, b4, b5], _ =>
  have d1 : (p6 (z4 (u2 (rqP [a0, a1, a2, a3, a4, a5, a6, a7, a8, a9, b0, b1, b2, b3, b4, b5])))).2 = 0 := by kernel_rfl
  have g1 : (p6 (z4 (u2 (rqP [a0, a1, a2, a3, a4, a5, a6, a7, a8, a9, b0, b1, b2, b3, b4, b5])))).1.kind = 1 := by kernel_rfl
  have g2 : (p6 (z4 (u2 (rqP [a0, a1, a2, a3, a4, a5, a6, a7, a8, a9, b0, b1, b2, b3, b4, b5])))).1.epoch = 1 := by kernel_rfl
  have g3 : (p6 (z4 (u2 (rqP [a0, a1, a2, a3, a4, a5, a6, a7, a8, a9, b0, b1, b2, b3, b4, b5])))).1.leader = 0 := by kernel_rfl
  have g4 : (p6 (z4 (u2 (rqP [a0, a1, a2, a3, a4, a5, a6, a7, a8, a9, b0, b1, b2, b3, b4, b5])))).1.view = 0 := by kernel_rfl
  have g5 : (p6 (z4 (u2 (rqP [a0, a1, a2, a3, a4, a5, a6, a7, a8, a9, b0, b1, b2, b3, b4, b5])))).1.slot = 1 := by kernel_rfl
  have g6 : (p6 (z4 (u2 (rqP [a0, a1, a2, a3, a4, a5, a6, a7, a8, a9, b0, b1, b2, b3, b4, b5])))).1.batch.noop = false := by kernel_rfl
  have g7 : (p6 (z4 (u2 (rqP [a0, a1, a2, a3, a4, a5, a6, a7, a8, a9, b0, b1, b2, b3, b4, b5])))).1.batch.n = 1 := by kernel_rfl
  have g8 : (p6 (z4 (u2 (rqP [a0, a1, a2, a3, a4, a5, a6, a7, a8, a9, b0, b1, b2, b3, b4, b5])))).1.vote = I6 := by kernel_rfl
  have g9 : (p6 (z4 (u2 (rqP [a0, a1, a2, a3, a4, a5, a6, a7, a8, a9, b0, b1, b2, b3, b4, b5])))).1.nheld = 0 := by kernel_rfl
  have g10 : (p6 (z4 (u2 (rqP [a0, a1, a2, a3, a4, a5, a6, a7, a8, a9, b0, b1, b2, b3, b4, b5])))).1.nnews = 0 := by kernel_rfl
  have g11 : (p6 (z4 (u2 (rqP [a0, a1, a2, a3, a4, a5, a6, a7, a8, a9, b0, b1, b2, b3, b4, b5])))).1.digest = z32 := by kernel_rfl
  have g12 : (p6 (z4 (u2 (rqP [a0, a1, a2, a3, a4, a5, a6, a7, a8, a9, b0, b1, b2, b3, b4, b5])))).1.cert.vote = I6 := by kernel_rfl
  have g13 : (p6 (z4 (u2 (rqP [a0, a1, a2, a3, a4, a5, a6, a7, a8, a9, b0, b1, b2, b3, b4, b5])))).1.cert.n = 0 := by kernel_rfl
  have g14 : (p6 (z4 (u2 (rqP [a0, a1, a2, a3, a4, a5, a6, a7, a8, a9, b0, b1, b2, b3, b4, b5])))).1.state = ByteArray.empty := by kernel_rfl
  have g15 : (p6 (z4 (u2 (rqP [a0, a1, a2, a3, a4, a5, a6, a7, a8, a9, b0, b1, b2, b3, b4, b5])))).1.n = 0 := by kernel_rfl
  have g17 : (p6 (z4 (u2 (rqP [a0, a1, a2, a3, a4, a5, a6, a7, a8, a9, b0, b1, b2, b3, b4, b5])))).1.cepoch = 0 := by kernel_rfl
  have g18 : (p6 (z4 (u2 (rqP [a0, a1, a2, a3, a4, a5, a6, a7, a8, a9, b0, b1, b2, b3, b4, b5])))).1.cleader = 0 := by kernel_rfl
  have g19 : (p6 (z4 (u2 (rqP [a0, a1, a2, a3, a4, a5, a6, a7, a8, a9, b0, b1, b2, b3, b4, b5])))).1.cview = 0 := by kernel_rfl
  have g16 : (p6 (z4 (u2 (rqP [a0, a1, a2, a3, a4, a5, a6, a7, a8, a9, b0, b1, b2, b3, b4, b5])))).1.batch.req 0 = { client := 1, num := 1, data := xB, tag := A1 (K9 [a0, a1, a2, a3, a4, a5, a6, a7, a8, a9, b0, b1, b2, b3, b4, b5]) } := by kernel_rfl
  rw [hs] at g16
  rw [d1] at hD
  generalize (p6 (z4 (u2 (rqP [a0, a1, a2, a3, a4, a5, a6, a7, a8, a9, b0, b1, b2, b3, b4, b5])))).1 = x at *
  have g20 : ∀ k, k < x.batch.n → (x.batch.req k).c = (rqP [a0, a1, a2, a3, a4, a5, a6, a7, a8, a9, b0, b1, b2, b3, b4, b5]).c := fun k hk => by rw [g7] at hk; obtain rfl : k = 0 := (by omega); rw [g16]; rfl
  refine T.res hD rfl ?_
  simp only [All]; and_intros
  all_goals first | exact True.intro | exact g1 | exact g2 | exact g3 | exact g4 | exact g5 | exact g6 | exact g7 | exact g9 | exact g10 | exact g11 | exact g13 | exact g14 | exact g15 | exact g17 | exact g18 | exact g19 | exact g20 | (rw [g8]; rfl) | (rw [g12]; rfl) | (rw [g9]; intro k hk; exact absurd hk (Nat.not_lt_zero k)) | (rw [g10]; intro k hk; exact absurd hk (Nat.not_lt_zero k)) | (rw [g13]; intro k hk; exact absurd hk (Nat.not_lt_zero k)) | (rw [g15]; intro k hk; exact absurd hk (Nat.not_lt_zero k)) | (intro h; exact h)
theorem T_cl {t : List Int} (ht : SegOk 16 t) (m : Nat) : T Tryz.prog 22 [.int .i64 4, .str (baL (z4 (u2 (rqP t))))] [] (clS (.o m)) [(.o m, clR (clP t).c)] := by
 have h1 := bM1 ht
 have h2 := T_c3 t 64 0 1344 1536 1920 (by decide)
 have h : T Tryz.prog 22 [.int .i64 4, .str (baL (z4 (u2 (rqP t))))] [] (clS (.o 1920)) [(.o 1920, clR (clP t).c)] := by
  refine f3 (aN7 t (baL (z4 (u2 (rqP t))))) Tryz.func22 ?_
  simp only [All]; and_intros
  all_goals first | exact True.intro | exact h1 | exact h2
 obtain ⟨σ, hσ, h5⟩ := T.at h [.o 1920] [.o m] (by decide) (by simp) rfl
 simp only [List.map_cons, List.map_nil, List.cons.injEq, and_true] at hσ
 simpa [V.rens, V.ren, c5.ren, Sy.B.ren, clS, clR, clP, SEnv.c, hσ] using h5
theorem T_lv : T Tryz.prog 7 [] [] (.bool true) [] := by
 have ht := b_1
 have h1 := bN2
 have h2 := T_mk
 have h4 := T_cl ht
 have h5 := ca6
 have hg : T Tryz.prog 52 [.agg (u2 (rqP tgP)).c] [] (.bool true) [] := bz1 (b := { noop := false, n := 1, req := fun _ => rqP tgP }) (by decide) (by kernel_rfl)
 have hE := bM3 hg (bm9 (bb9 tgP) (bo7 ht)) rfl
 have e1 : ak_ (u2 (rqP tgP)) true = .tup [.str (baL (z4 (u2 (rqP tgP)))), .int .i64 0] := by
  unfold ak_
  have := bo6 ht
  simp only [if_true, if_neg (show ¬ 4194304 < (z4 (u2 (rqP tgP))).length by omega)]
 rw [e1] at hE
 have h3 : T Tryz.prog 19 [.agg [.int .i64 1, .int .i64 1, .int .i64 0, .int .i64 0, .int .i64 1, .bool false, .sl (.o 1088) 19 0 0 0 1 (some 1), .int .i64 0, .int .i64 0, .int .i64 0, .int .i64 0, .seg .u8 32 z32, .int .i64 0, .int .i64 0, .int .i64 0, .snil, .snil, .seg .u8 32 z32, .int .i64 0, .int .i64 0, .int .i64 0, .int .i64 0, .seg .u8 32 z32, .snil, .str ByteArray.empty, .snil]] [(.o 1088, .rows 19 1 (j3 [(rqP tgP).c]) false)] (.tup [.str (baL (z4 (u2 (rqP tgP)))), .int .i64 0]) [] := by
  refine T.frz hE (ap6 rfl ?_) (by rintro n ⟨b, hb⟩; cases hb)
  simp only [All]; and_intros
  all_goals first | exact True.intro | (intro k hk; obtain rfl : k = 0 := (by omega); rfl) | exact rfl | omega | (intro h; cases h; done)
 generalize baL (z4 (u2 (rqP tgP))) = s at *
 generalize tgP = t at *
 refine f3 (aO6 t s) Tryz.func7 ?_
 simp only [All]; and_intros
 all_goals first | exact True.intro | exact h1 _ | exact h2 _ | exact h3 | exact h4 _ | exact h5 _ | omega
def E0 (src : Int) (b : ByteArray) : SEnv × Int := if 4194304 < b.size then (ae6, 3) else if 0 ≤ src ∧ src < 72 then ({ src := src, body := b, tag := C0 rS 72 src b }, 0) else (ae6, 2)
def z8 (nodes : Int) (e : SEnv) : SMsg × Int := if 0 ≤ e.src ∧ e.src < nodes ∧ e.body.size ≤ 4194304 ∧ L9 rS 72 e.src e.body e.tag = true then p6 (i9 e.body) else (l6 0, 140)
noncomputable def bj9 (src : Int) (b : ByteArray) (t : List Int) (e : Int) : Bd := { f := Tryz.f13, args := [p0K 0, .int .i64 src, .str b], pre := [(.o 0, kyB rS 72)], base := 1, kb := { db := dbQ [(40, rdK (.int .i64 72)), (41, rdK (.tup [.agg [.seg .u8 16 t], .int .i64 e]))] }, names := fun _ => [.o 0] }
noncomputable def aB_ (nodes : Int) (x : SEnv) (c : Bool) (y : SMsg) (d : Int) : Bd := { f := Tryz.f15, args := [p0K 0, .int .i64 nodes, .agg x.c], pre := [(.o 0, kyB rS 72)], base := 1, kb := { db := dbQ [(40, rdK (.int .i64 72)), (23, rdK (.bool c)), (42, D8 (.tup [.agg y.c, .int .i64 d]))] }, names := fun _ => [.o 0] }
theorem bj_ (src : Int) (b : ByteArray) (t : List Int) (e : Int) :
  e9 zp (bj9 src b t e) [true, true] = (some (.tup [.agg [.int .i64 0, .str ByteArray.empty, .seg .u8 16 z16], .int .i64 3], [(.o 0, .flat [.str rS, .int .i64 72])], [T zp 40 [.ptr (.o 0) 0 0 0 0] [(.o 0, .flat [.str rS, .int .i64 72])] (.int .i64 72) [(.o 0, .flat [.str rS, .int .i64 72])], q2, decide ((4194304 : Int) < (↑(ByteArray.size b) : Int)) = true]) : Option (V × c5 × List Prop)) := by kernel_rfl
theorem aZ1 (src : Int) (b : ByteArray) (t : List Int) (e : Int) :
  e9 zp (bj9 src b t e) [true, false, true] = (some (.tup [.agg [.int .i64 0, .str ByteArray.empty, .seg .u8 16 z16], .int .i64 e], [(.o 0, .flat [.str rS, .int .i64 72])], [T zp 40 [.ptr (.o 0) 0 0 0 0] [(.o 0, .flat [.str rS, .int .i64 72])] (.int .i64 72) [(.o 0, .flat [.str rS, .int .i64 72])], q2, decide ((4194304 : Int) < (↑(ByteArray.size b) : Int)) = false, T zp 41 [.ptr (.o 0) 0 0 0 0, .int .i64 src, .str b] [(.o 0, .flat [.str rS, .int .i64 72])] (.tup [.agg [.seg .u8 16 t], .int .i64 e]) [(.o 0, .flat [.str rS, .int .i64 72])], (!decide (e = (0 : Int))) = true]) : Option (V × c5 × List Prop)) := by kernel_rfl
theorem aZ0 (src : Int) (b : ByteArray) (t : List Int) (e : Int) :
  e9 zp (bj9 src b t e) [true, false, false] = (some (.tup [.agg [.int .i64 src, .str b, .seg .u8 16 t], .int .i64 0], [(.o 0, .flat [.str rS, .int .i64 72])], [T zp 40 [.ptr (.o 0) 0 0 0 0] [(.o 0, .flat [.str rS, .int .i64 72])] (.int .i64 72) [(.o 0, .flat [.str rS, .int .i64 72])], q2, decide ((4194304 : Int) < (↑(ByteArray.size b) : Int)) = false, T zp 41 [.ptr (.o 0) 0 0 0 0, .int .i64 src, .str b] [(.o 0, .flat [.str rS, .int .i64 72])] (.tup [.agg [.seg .u8 16 t], .int .i64 e]) [(.o 0, .flat [.str rS, .int .i64 72])], (!decide (e = (0 : Int))) = false]) : Option (V × c5 × List Prop)) := by kernel_rfl
noncomputable def D6 (nodes : Int) (x : SEnv) (c : Bool) (y : SMsg) (d : Int) : Nat → List Prop
 | 0 => [T zp 40 [.ptr (.o 0) 0 0 0 0] [(.o 0, .flat [.str rS, .int .i64 72])] (.int .i64 72) [(.o 0, .flat [.str rS, .int .i64 72])], q false]
 | 1 => [decide ((4194304 : Int) < (↑(ByteArray.size (SEnv.body x)) : Int)) = false, T zp 23 [.ptr (.o 0) 0 0 0 0, .int .i64 (SEnv.src x), .str (SEnv.body x), .agg [.seg .u8 16 (SEnv.tag x)]] [(.o 0, .flat [.str rS, .int .i64 72])] (.bool c) [(.o 0, .flat [.str rS, .int .i64 72])]]
 | _ => []
theorem aJ2 (nodes : Int) (x : SEnv) (c : Bool) (y : SMsg) (d : Int) :
 e9 zp (aB_ nodes x c y d) [false, true, true, true, true] = (some (.tup [.agg [.int .i64 0, .int .i64 0, .int .i64 0, .int .i64 0, .int .i64 0, .bool false, .snil, .int .i64 0, .int .i64 0, .int .i64 0, .int .i64 0, .seg .u8 32 z32, .int .i64 0, .int .i64 0, .int .i64 0, .snil, .snil, .seg .u8 32 z32, .int .i64 0, .int .i64 0, .int .i64 0, .int .i64 0, .seg .u8 32 z32, .snil, .str ByteArray.empty, .snil], .int .i64 140], [(.o 0, .flat [.str rS, .int .i64 72])], D6 nodes x c y d 0 ++ [decide (SEnv.src x < (0 : Int)) = true, q2, q2, q2]) : Option (V × c5 × List Prop)) := by kernel_rfl
theorem aJ1 (nodes : Int) (x : SEnv) (c : Bool) (y : SMsg) (d : Int) :
 e9 zp (aB_ nodes x c y d) [false, false, true, true, true] = (some (.tup [.agg [.int .i64 0, .int .i64 0, .int .i64 0, .int .i64 0, .int .i64 0, .bool false, .snil, .int .i64 0, .int .i64 0, .int .i64 0, .int .i64 0, .seg .u8 32 z32, .int .i64 0, .int .i64 0, .int .i64 0, .snil, .snil, .seg .u8 32 z32, .int .i64 0, .int .i64 0, .int .i64 0, .int .i64 0, .seg .u8 32 z32, .snil, .str ByteArray.empty, .snil], .int .i64 140], [(.o 0, .flat [.str rS, .int .i64 72])], D6 nodes x c y d 0 ++ [decide (SEnv.src x < (0 : Int)) = false, decide (nodes ≤ SEnv.src x) = true, q2, q2]) : Option (V × c5 × List Prop)) := by kernel_rfl
theorem aJ0 (nodes : Int) (x : SEnv) (c : Bool) (y : SMsg) (d : Int) :
 e9 zp (aB_ nodes x c y d) [false, false, false, true, true] = (some (.tup [.agg [.int .i64 0, .int .i64 0, .int .i64 0, .int .i64 0, .int .i64 0, .bool false, .snil, .int .i64 0, .int .i64 0, .int .i64 0, .int .i64 0, .seg .u8 32 z32, .int .i64 0, .int .i64 0, .int .i64 0, .snil, .snil, .seg .u8 32 z32, .int .i64 0, .int .i64 0, .int .i64 0, .int .i64 0, .seg .u8 32 z32, .snil, .str ByteArray.empty, .snil], .int .i64 140], [(.o 0, .flat [.str rS, .int .i64 72])], D6 nodes x c y d 0 ++ [decide (SEnv.src x < (0 : Int)) = false, decide (nodes ≤ SEnv.src x) = false, decide ((4194304 : Int) < (↑(ByteArray.size (SEnv.body x)) : Int)) = true, q2]) : Option (V × c5 × List Prop)) := by kernel_rfl
theorem aI_ (nodes : Int) (x : SEnv) (c : Bool) (y : SMsg) (d : Int) :
 e9 zp (aB_ nodes x c y d) [false, false, false, false, true] = (some (.tup [.agg [.int .i64 0, .int .i64 0, .int .i64 0, .int .i64 0, .int .i64 0, .bool false, .snil, .int .i64 0, .int .i64 0, .int .i64 0, .int .i64 0, .seg .u8 32 z32, .int .i64 0, .int .i64 0, .int .i64 0, .snil, .snil, .seg .u8 32 z32, .int .i64 0, .int .i64 0, .int .i64 0, .int .i64 0, .seg .u8 32 z32, .snil, .str ByteArray.empty, .snil], .int .i64 140], [(.o 0, .flat [.str rS, .int .i64 72])], D6 nodes x c y d 0 ++ ([decide (SEnv.src x < (0 : Int)) = false, decide (nodes ≤ SEnv.src x) = false] ++ (D6 nodes x c y d 1 ++ [(!c) = true]))) : Option (V × c5 × List Prop)) := by kernel_rfl
theorem aI9 (nodes : Int) (x : SEnv) (c : Bool) (y : SMsg) (d : Int) :
 e9 zp (aB_ nodes x c y d) [false, false, false, false, false] = (some (.tup [.agg (SMsg.c y), .int .i64 d], [(.o 0, .flat [.str rS, .int .i64 72])], D6 nodes x c y d 0 ++ ([decide (SEnv.src x < (0 : Int)) = false, decide (nodes ≤ SEnv.src x) = false] ++ (D6 nodes x c y d 1 ++ [(!c) = false, T zp 42 [.str (SEnv.body x)] [] (.tup [.agg (SMsg.c y), .int .i64 d]) []]))) : Option (V × c5 × List Prop)) := by kernel_rfl
theorem bA1 {src : Int} {b : ByteArray} (hs : src < 9223372036854775808) (hb : b.size ≤ 1000000000) : T Tryz.prog 13 [p0K 0, .int .i64 src, .str b] [(.o 0, kyB rS 72)] (.tup [.agg (E0 src b).1.c, .int .i64 (E0 src b).2]) [(.o 0, kyB rS 72)] := by
 have hL := aM7 rS 72
 have hS := bf9 (s := rS) (by rw [N5]; decide) (n := 72) (id := src) (by decide) hs (b := b) hb
 by_cases h1 : 4194304 < b.size
 ·have e : E0 src b = (ae6, 3) := by rw [E0, if_pos h1]
  rw [e]
  refine f3 (bj_ src b [] 0) Tryz.func13 ?_
  simp only [All]; and_intros
  all_goals first | exact True.intro | exact hL | (rw [decide_eq_true_eq]; omega)
 ·by_cases h2 : 0 ≤ src ∧ src < 72
  ·have e : E0 src b = ({ src := src, body := b, tag := C0 rS 72 src b }, 0) := by rw [E0, if_neg h1, if_pos h2]
   have e2 : B7 72 src = 0 := by rw [B7, if_pos h2]
   rw [e]
   rw [e2] at hS
   generalize C0 rS 72 src b = t at *
   refine f3 (aZ0 src b t 0) Tryz.func13 ?_
   simp only [All]; and_intros
   all_goals first | exact True.intro | exact hL | exact hS | (rw [decide_eq_false_iff_not]; omega) | (simp; done)
  ·have e : E0 src b = (ae6, 2) := by rw [E0, if_neg h1, if_neg h2]
   have e2 : B7 72 src = 2 := by rw [B7, if_neg h2]
   rw [e]
   rw [e2] at hS
   generalize C0 rS 72 src b = t at *
   refine f3 (aZ1 src b t 2) Tryz.func13 ?_
   simp only [All]; and_intros
   all_goals first | exact True.intro | exact hL | exact hS | (rw [decide_eq_false_iff_not]; omega) | (simp; done)
theorem bO8 (m : Nat) {src : Int} {b : ByteArray} (hs : src < 9223372036854775808) (hb : b.size ≤ 1000000000) : T Tryz.prog 13 [p0K m, .int .i64 src, .str b] [(.o m, kyB rS 72)] (.tup [.agg (E0 src b).1.c, .int .i64 (E0 src b).2]) [(.o m, kyB rS 72)] := by
 obtain ⟨σ, hσ, h5⟩ := T.at (bA1 hs hb) [.o 0] [.o m] (by decide) (by simp) rfl
 simp only [List.map_cons, List.map_nil, List.cons.injEq, and_true] at hσ
 simpa [V.rens, V.ren, c5.ren, Sy.B.ren, kyB, p0K, SEnv.c, hσ] using h5
theorem bz6 {nodes : Int} {x : SEnv} (hs : x.src < 9223372036854775808) : T Tryz.prog 15 [p0K 0, .int .i64 nodes, .agg x.c] [(.o 0, kyB rS 72)] (.tup [.agg (z8 nodes x).1.c, .int .i64 (z8 nodes x).2]) [(.o 0, kyB rS 72)] := by
 have hL := aM7 rS 72
 by_cases h1 : x.src < 0
 ·have e : z8 nodes x = (l6 0, 140) := by rw [z8, if_neg (by omega)]
  rw [e]
  refine T.res (f3 (aJ2 nodes x false (l6 0) 0) Tryz.func15 ?_) rfl ?_
  ·simp only [All, f6, D6]; and_intros
   all_goals first | exact True.intro | exact hL | (rw [decide_eq_true_eq]; omega)
  ·simp only [All, f6, D6]; and_intros
   all_goals first | exact True.intro | exact rfl
 by_cases h2 : nodes ≤ x.src
 ·have e : z8 nodes x = (l6 0, 140) := by rw [z8, if_neg (by omega)]
  rw [e]
  refine T.res (f3 (aJ1 nodes x false (l6 0) 0) Tryz.func15 ?_) rfl ?_
  ·simp only [All, f6, D6]; and_intros
   all_goals first | exact True.intro | exact hL | (rw [decide_eq_true_eq]; omega) | (rw [decide_eq_false_iff_not]; omega)
  ·simp only [All, f6, D6]; and_intros
   all_goals first | exact True.intro | exact rfl
 by_cases h3 : 4194304 < x.body.size
 ·have e : z8 nodes x = (l6 0, 140) := by rw [z8, if_neg (by omega)]
  rw [e]
  refine T.res (f3 (aJ0 nodes x false (l6 0) 0) Tryz.func15 ?_) rfl ?_
  ·simp only [All, f6, D6]; and_intros
   all_goals first | exact True.intro | exact hL | (rw [decide_eq_true_eq]; omega) | (rw [decide_eq_false_iff_not]; omega)
  ·simp only [All, f6, D6]; and_intros
   all_goals first | exact True.intro | exact rfl
 have hC := bM0 (s := rS) (by rw [N5]; decide) (n := 72) (id := x.src) (by decide) hs (b := x.body) (by omega) x.tag
 by_cases h4 : L9 rS 72 x.src x.body x.tag = true
 ·have e : z8 nodes x = p6 (i9 x.body) := by rw [z8, if_pos ⟨by omega, by omega, by omega, h4⟩]
  have hD := bu7 x.body
  rw [e]
  generalize p6 (i9 x.body) = r at *
  rw [h4] at hC
  refine f3 (aI9 nodes x true r.1 r.2) Tryz.func15 ?_
  simp only [All, f6, D6]; and_intros
  all_goals first | exact True.intro | exact hL | exact hC | exact hD | (rw [decide_eq_false_iff_not]; omega) | (simp; done)
 ·have e : z8 nodes x = (l6 0, 140) := by rw [z8, if_neg (fun h => h4 h.2.2.2)]
  rw [e]
  have h4 := Bool.eq_false_iff.2 h4
  rw [h4] at hC
  refine T.res (f3 (aI_ nodes x false (l6 0) 0) Tryz.func15 ?_) rfl ?_
  ·simp only [All, f6, D6]; and_intros
   all_goals first | exact True.intro | exact hL | exact hC | (rw [decide_eq_false_iff_not]; omega) | (simp; done)
  ·simp only [All, f6, D6]; and_intros
   all_goals first | exact True.intro | exact rfl
theorem bO0 (m : Nat) {nodes : Int} {x : SEnv} (hs : x.src < 9223372036854775808) : T Tryz.prog 15 [p0K m, .int .i64 nodes, .agg x.c] [(.o m, kyB rS 72)] (.tup [.agg (z8 nodes x).1.c, .int .i64 (z8 nodes x).2]) [(.o m, kyB rS 72)] := by
 obtain ⟨σ, hσ, h5⟩ := T.at (bz6 (nodes := nodes) hs) [.o 0] [.o m] (by decide) (by simp) rfl
 simp only [List.map_cons, List.map_nil, List.cons.injEq, and_true] at hσ
 simpa [V.rens, V.ren, c5.ren, Sy.B.ren, kyB, p0K, SEnv.c, SMsg.c, SBatch.c, SVote.c, SCert.c, rq, Sy.hl, nw, sg, hσ] using h5
def eV (s : RS) : Int := if s.bad then 130 else s.e
def rx (L : List UInt8) (p : Nat) (e : Int) : B := .flat [roB L, .int .i64 (p : Nat), .int .i64 e]
def Ok (L : List UInt8) (s : RS) : Prop := s.e = 0 → s.bad = false ∧ s.l.length ≤ L.length ∧ s.l = L.drop (L.length - s.l.length)
theorem Ok.bad {L : List UInt8} {s : RS} (h : s.e ≠ 0) : Ok L s := fun h' => absurd h' h
theorem Ok.fail {L : List UInt8} {s : RS} {e : Int} (h : e ≠ 0) : Ok L (s.fail e) := Ok.bad h
theorem Ok.drop {L : List UInt8} {s : RS} (h : Ok L s) (n : Nat) : Ok L (s.drop n) := by
 intro he
 obtain ⟨h1, h2, h3⟩ := h he
 refine ⟨h1, ?_, ?_⟩
 ·show (s.l.drop n).length ≤ _
  rw [List.length_drop]; omega
 ·show s.l.drop n = L.drop (L.length - (s.l.drop n).length)
  rw [List.length_drop]
  by_cases hn : n ≤ s.l.length
  ·rw [show L.length - (s.l.length - n) = L.length - s.l.length + n by omega, ← List.drop_drop, ← h3]
  ·rw [List.drop_eq_nil_of_le (by omega), List.drop_eq_nil_of_le (by omega)]
theorem Ok.num {L : List UInt8} {s : RS} (h : Ok L s) (most : Int) : Ok L (c6 most s).2 := by
 unfold c6
 split
 ·exact h
 ·split
  ·rename_i h1; exact Ok.fail h1
  ·exact h.drop _
theorem Ok.init (L : List UInt8) : Ok L { l := L } := fun _ => ⟨rfl, Nat.le_refl _, by rw [Nat.sub_self]; rfl⟩
theorem G4 {L : List UInt8} {s : RS} (h : Ok L s) : eV s = 0 ↔ s.e = 0 := by
 unfold eV
 cases hb : s.bad with
 | false => exact Iff.rfl
 | true =>
  constructor
  ·intro h'; cases h'
  ·intro h'; rw [(h h').1] at hb; cases hb
def rp (L : List UInt8) (p e : Int) : B := .flat [roB L, .int .i64 p, .int .i64 e]
def rpB (L : List UInt8) (s : RS) (p : Int) : B := rp L p (eV s)
def XOk (L : List UInt8) (s : RS) (p : Int) : Prop := Ok L s ∧ (s.e = 0 → p = (L.length - s.l.length : Nat))
def cX (v : V) (b : B) : List V → c5 → Nat → List Cl := fun args _ _ => match args with
 | .ptr a _ _ _ _ :: _ => [{ pre := [a], val := v, post := [(a, b)] }]
 | _ => []
def kX (b : B) (l : List (Nat × V)) : Exit → St → Option W := fun _ st => some ⟨[], ag4 l, [(.o 0, .set b)], none, st.next⟩
def nbX (L l : List UInt8) (p k : Nat) : St := ⟨mkT 66 [(2, .int .i64 0), (3, .int .i64 0), (4, .int .i64 0), (5, .ros 1 l.length (bl l) false), (6, .int .i64 (kOf l : Nat)), (7, .int .i64 (beN ((l.drop 1).take k) : Nat)), (8, .int .i64 (k + 1 : Nat))], [(.o 0, rp L (p : Nat) 0)], 1, []⟩
noncomputable def bdXr (L : List UInt8) : Bd := { f := Tryz.f29, args := [roB L], kb := kb0, names := fun _ => [.o 63], k := fun _ st => match m6 st.tmps 2 with
 | .ptr a _ _ _ _ => some ⟨[(.o 63, a)], [(2, .set (.ptr (.o 63) 0 0 0 0))], [(.o 63, .set (rp L 0 0))], none, st.next⟩
 | _ => none }
noncomputable def V5 (L l : List UInt8) (p : Nat) : Bd := { f := Tryz.f79, args := [p0], pre := [(.o 0, rp L (p : Nat) 0)], base := 1, kb := { db := fun _ _ _ _ => [], lp := fun _ _ => [(True, .loop (kOf l + 1) (wTo (nbX L l p 0)) (.exit 0) (nbX L l p (kOf l)))] }, names := n0 }
noncomputable def cf7 (most : Int) (L : List UInt8) (p e : Int) : Bd := { f := Tryz.f30, args := [p0, .int .i64 most], pre := [(.o 0, rp L p e)], base := 1, kb := kb0, names := n0 }
noncomputable def bV6 (most : Int) (L : List UInt8) (p : Nat) (n sz e : Int) (b : B) (r : Int) : Bd := { f := Tryz.f30, args := [p0, .int .i64 most], pre := [(.o 0, rp L (p : Nat) 0)], base := 1, kb := { db := dbF [(79, cX (.tup [.int .i64 n, .int .i64 sz, .int .i64 e]) (rp L (p : Nat) 0))] }, names := n0, k := kX b [(4, .int .i64 r)] }
noncomputable def bw5 (most : Int) (L : List UInt8) (p : Nat) (n sz e e' : Int) : Bd := bV6 most L p n sz e (rp L (p : Nat) e') 0
noncomputable def cf8 (most : Int) (L : List UInt8) (p : Nat) (n sz : Int) (p' : Nat) : Bd := bV6 most L p n sz 0 (rp L (p' : Nat) 0) n
noncomputable def cf_ (most : Int) (L : List UInt8) (p e : Int) : Bd := { f := Tryz.f31, args := [p0, .int .i64 most], pre := [(.o 0, rp L p e)], base := 1, kb := kb0, names := n0 }
noncomputable def bV9 (most : Int) (L : List UInt8) (p : Nat) (n sz e : Int) (b : B) (s : ByteArray) : Bd := { f := Tryz.f31, args := [p0, .int .i64 most], pre := [(.o 0, rp L (p : Nat) 0)], base := 1, kb := { db := dbF [(79, cX (.tup [.int .i64 n, .int .i64 sz, .int .i64 e]) (rp L (p : Nat) 0))] }, names := n0, k := kX b [(4, .str s)] }
noncomputable def aQ8 (most : Int) (L : List UInt8) (p : Nat) (n sz e e' : Int) : Bd := bV9 most L p n sz e (rp L (p : Nat) e') (ByteArray.mk (Array.mk []))
noncomputable def cg0 (most : Int) (L : List UInt8) (p : Nat) (n sz : Int) (p' : Nat) (s : ByteArray) : Bd := bV9 most L p n sz 0 (rp L (p' : Nat) 0) s
noncomputable def cg2 (n : Int) (L : List UInt8) (p e : Int) : Bd := { f := Tryz.f32, args := [p0, .int .i64 n], pre := [(.o 0, rp L p e)], base := 1, kb := kb0, names := n0, k := kX (rp L p e) [(4, roB [])] }
noncomputable def bw8 (n : Int) (L : List UInt8) (p : Nat) (e' : Int) : Bd := { f := Tryz.f32, args := [p0, .int .i64 n], pre := [(.o 0, rp L (p : Nat) 0)], base := 1, kb := kb0, names := n0, k := kX (rp L (p : Nat) e') [(4, roB [])] }
noncomputable def cg3 (n : Int) (L l : List UInt8) (p p' : Nat) : Bd := { f := Tryz.f32, args := [p0, .int .i64 n], pre := [(.o 0, rp L (p : Nat) 0)], base := 1, kb := kb0, names := n0, k := kX (rp L (p' : Nat) 0) [(4, roB l)] }
noncomputable def cf6 (L : List UInt8) (p e : Int) : Bd := { f := Tryz.f33, args := [p0], pre := [(.o 0, rp L p e)], base := 1, kb := kb0, names := n0 }
noncomputable def bV3 (L : List UInt8) (p : Nat) : Bd := { f := Tryz.f33, args := [p0], pre := [(.o 0, rp L (p : Nat) 0)], base := 1, kb := kb0, names := n0 }
noncomputable def aT8 (L l : List UInt8) (p k : Nat) : Pc := { c := cB (cB (cR (cL (cR (cR (cR (cR (cR (cR (cR (cR (f1 Tryz.f79)))))))))))), st := nbX L l p k, p := 1, kb := kb0, k := fun e _ => match e with
 | .normal => some (wTo (nbX L l p (k + 1)))
 | _ => some (wTo (nbX L l p (kOf l))) }
end Go.Proofs.YtnmccoincblecaaGreat
