/-
  Contracts and laws that the claim's theorem leans on, joined out of the texts Kb2D Kb2 SySeal Kc0D Kc0 SyFrz Kc1D Kc1 Kd0D (own work of this seat): Contracts: numbers and texts as bytes, as the document's answer has them; Contracts: numbers and texts as bytes, as the document's answer has them; Macs and tags, plainly; Contracts: macs and tags by the document; Contracts: macs and tags by the document; Blocks that a call takes for good: they are only looked at from then on; Contracts: macs and tags by the program; Contracts: macs and tags by the program; Contracts: whether enough nodes signed a body, by the program and by the document.
-/
import Derived.Test.YtpallipnhmoipaaC04
import Derived.Test.YtpallipnhmoipaaC05
import Derived.Test.YtpallipnhmoipaaC07
set_option linter.unusedVariables false
set_option linter.unusedSimpArgs false
set_option maxHeartbeats 1000000
namespace Go.Proofs.Ytpallipnhmoipaa
open Go Sy Go.Proofs
/-- The last digits. -/
def lastD (n k : Nat) : List UInt8 := (digs 8 n).drop ((digs 8 n).length - k)
def dgI (n k : Nat) : St := ⟨mkT 15 [(0, .int .i64 (n / 256 ^ k : Nat)), (3, sb (.o 1) (lastD n k))], [(.o 1, bs (lastD n k))], 2, []⟩
def dgS (n : Nat) (b : Bool) : St := ⟨mkT 15 ((0, .int .i64 (n : Nat)) :: (if b then [(3, .snil)] else [])), [], 1, []⟩
noncomputable def pcDa (n : Nat) : Pc := { c := cL (bodyOf Try.f108), st := ⟨[.int .i64 (n : Nat)] ++ List.replicate 14 (.tup []), [], 1, []⟩, p := 1, kb := kb0, k := fun _ _ => some (wTo (dgS n false)) }
noncomputable def pcDb (n : Nat) : Pc := { c := cL (cR (bodyOf Try.f108)), st := dgS n false, p := 1, kb := kb0, k := fun _ _ => some (wTo (dgS n true)) }
noncomputable def pcDc (n : Nat) : Pc := { c := cR (cR (bodyOf Try.f108)), st := dgS n true, p := 1, kb := { db := fun _ _ _ _ => [], lp := fun _ t => match getV t.tmps 3 with | .sl a _ _ _ _ _ _ => [(True, .loop ((digs 8 n).length + 1) (wToS [(.o 1, a)] (dgI n 0)) (.exit 0) (dgI n (digs 8 n).length))] | _ => [], fx := fun id _ => bif Nat.beq id 2 then [.virt 3 1] else [] }, k := kSb 2 63 (digs 8 n) }
noncomputable def pcDg (n k : Nat) : Pc := { c := cB (cB (cL (cR (cR (bodyOf Try.f108))))), st := dgI n k, p := 1, kb := kb0, k := fun e t => match e with
 | .normal => match getV t.tmps 3 with
  | .sl a _ _ _ _ _ _ => some (wToS [(.o 1, a)] (dgI n (k + 1)))
  | _ => none
 | _ => some (wTo (dgI n k)) }
noncomputable def bdRp (n : Nat) (l : List UInt8) : Bd := { f := Try.f100, args := [sb (.o 0) l, .int .i64 n], pre := [(.o 0, bs l)], base := 1, kb := { db := fun k _ _ lo => bif Nat.beq k 108 then [{ val := sb (.o lo) (digs 8 n), post := [(.o lo, bs (digs 8 n))] }] else [] }, names := fun _ => [.o 63], k := kSb 4 63 (l ++ putN n) }
noncomputable def bdRp0 (n : Nat) : Bd := { f := Try.f100, args := [.snil, .int .i64 n], base := 1, kb := { db := fun k _ _ lo => bif Nat.beq k 108 then [{ val := sb (.o lo) (digs 8 n), post := [(.o lo, bs (digs 8 n))] }] else [] }, names := fun _ => [.o 63], k := kSb 4 63 (putN n) }
noncomputable def bdRt (l : List UInt8) (s : ByteArray) : Bd := { f := Try.f101, args := [sb (.o 0) l, .str s], pre := [(.o 0, bs l)], base := 1, kb := { db := fun k a _ lo => bif Nat.beq k 100 then cNew (l ++ putZ s.size) a lo else [] }, k := kSb 4 63 (l ++ textB s), names := fun _ => [.o 63] }
end Go.Proofs.Ytpallipnhmoipaa
namespace Go.Proofs.Ytpallipnhmoipaa
open Go Sy Go.Proofs
theorem pcDa_p (n : Nat) :
  alongPc Try.prog (pcDa n) [] = (some (.normal, St.mk [.int .i64 ↑n, .any, .any, .any, .any, .any, .any, .any, .any, .any, .any, .any, .any, .any, .any] [] 1 [], [q (↑n : Int)]) : Option (Exit × St × List Prop)) := by kernel_rfl

theorem pcDb_p (n : Nat) :
  alongPc Try.prog (pcDb n) [] = (some (.normal, St.mk [.int .i64 ↑n, .any, .any, .snil, .any, .any, .any, .any, .any, .any, .any, .any, .any, .any, .any] [] 1 [], [q (↑n : Int)]) : Option (Exit × St × List Prop)) := by kernel_rfl

theorem pcDc_p (n : Nat) :
  alongPc Try.prog (pcDc n) [] = (some (.ret, St.mk [.any, .any, sb (.o 63) (digs 8 n), .any, .any, .any, .any, .any, .any, .any, .any, .any, .any, .any, .any] [(.o 63, bs (digs 8 n))] 130 [], [RLoop Try.prog none 1 (cB (cB (cL (Pc.c (pcDc n))))) (List.length (digs 8 n) + 1) (St.mk [.int .i64 (↑(n / nat_lit 1) : Int), .any, .any, .sl (.o 1) 1 0 0 0 (List.length (lastD n 0)) none, .any, .any, .any, .any, .any, .any, .any, .any, .any, .any, .any] [(.o 1, bs (lastD n 0))] 2 []) (.exit 0) (St.mk [.int .i64 (↑(n / 256 ^ List.length (digs 8 n)) : Int), .any, .any, .sl (.o 1) 1 0 0 0 (List.length (lastD n (List.length (digs 8 n)))) none, .any, .any, .any, .any, .any, .any, .any, .any, .any, .any, .any] [(.o 1, bs (lastD n (List.length (digs 8 n))))] 2 []), (0 : Nat) = List.length (lastD n (0 : Nat)), ∀ (k : Nat), k < (0 : Nat) → [] = bl (lastD n (0 : Nat)) k, true = false → true = false, (↑n : Int) = (↑(n / nat_lit 1) : Int), q0, q0, q0, (0 : Nat) = List.length (lastD n (0 : Nat)), (none : Option Nat) = none ∨ (none : Option Nat) = none, List.length (lastD n (List.length (digs (8 : Nat) n))) = List.length (digs (8 : Nat) n), ∀ (k : Nat), k < List.length (lastD n (List.length (digs (8 : Nat) n))) → bl (lastD n (List.length (digs (8 : Nat) n))) k = bl (digs (8 : Nat) n) k, true = false → true = false, q0, q0, q0, List.length (lastD n (List.length (digs (8 : Nat) n))) = List.length (digs (8 : Nat) n), (none : Option Nat) = none ∨ (none : Option Nat) = none]) : Option (Exit × St × List Prop)) := by kernel_rfl

theorem pcDg_p1 (n : Nat) (k : Nat) :
  alongPc Try.prog (pcDg n k) [true] = (some (.normal, St.mk [.int .i64 (↑(n / 256 ^ (k + 1)) : Int), .any, .any, .sl (.o 1) 1 0 0 0 (List.length (lastD n (k + 1))) none, .any, .any, .any, .any, .any, .any, .any, .any, .any, .any, .any] [(.o 1, bs (lastD n (k + 1)))] 2 [], [decide ((0 : Int) < (↑(n / (256 : Nat) ^ k) : Int)) = true, (0 : Int) ≤ (↑(n / (256 : Nat) ^ k) : Int) ∧ (0 : Int) < (256 : Int), q (1 : Nat), (0 : Nat) + List.length (lastD n k) ≤ List.length (lastD n k), ∀ (k_1 : Nat), k_1 < List.length (lastD n k) → true = true, ((1 : Nat) + List.length (lastD n k)) * (1 : Nat) ≤ (140737488355328 : Nat), (0 : Int) ≤ (↑(n / (256 : Nat) ^ k) : Int) ∧ (0 : Int) < (256 : Int) ∧ InR IntKind.i64 ((↑(n / (256 : Nat) ^ k) : Int) / (256 : Int)), (1 : Nat) + List.length (lastD n k) = List.length (lastD n (k + (1 : Nat))), ∀ (k_1 : Nat), k_1 < (1 : Nat) + List.length (lastD n k) → catF (1 : Nat) (getL [[V.int IntKind.u8 (IntKind.wrap IntKind.u8 ((↑(n / (256 : Nat) ^ k) : Int) % (256 : Int)))]]) (fun k_2 => bl (lastD n k) ((0 : Nat) + k_2)) k_1 = bl (lastD n (k + (1 : Nat))) k_1, true = false → true = false, (↑(n / (256 : Nat) ^ k) : Int) / (256 : Int) = (↑(n / (256 : Nat) ^ (k + (1 : Nat))) : Int), q0, q0, q0, (1 : Nat) + List.length (lastD n k) = List.length (lastD n (k + (1 : Nat))), (none : Option Nat) = none ∨ (none : Option Nat) = none]) : Option (Exit × St × List Prop)) := by kernel_rfl
theorem pcDg_p0 (n : Nat) (k : Nat) :
  alongPc Try.prog (pcDg n k) [false] = (some (.exit 0, St.mk [.int .i64 (↑(n / 256 ^ k) : Int), .any, .any, .sl (.o 1) 1 0 0 0 (List.length (lastD n k)) none, .any, .any, .any, .any, .any, .any, .any, .any, .any, .any, .any] [(.o 1, bs (lastD n k))] 2 [], [decide ((0 : Int) < (↑(n / (256 : Nat) ^ k) : Int)) = false, q (List.length (lastD n k)), ∀ (k_1 : Nat), k_1 < List.length (lastD n k) → bl (lastD n k) k_1 = bl (lastD n k) k_1, true = false → true = false, q (↑(n / (256 : Nat) ^ k) : Int), q0, q0, q0, q (List.length (lastD n k)), (none : Option Nat) = none ∨ (none : Option Nat) = none]) : Option (Exit × St × List Prop)) := by kernel_rfl

theorem bdRp_p0 (n : Nat) (l : List UInt8) :
  along Try.prog (bdRp n l) [false] = (some (.sl (.o 63) 1 0 0 0 (List.length (l ++ putN n)) none, [(.o 63, bs (l ++ putN n))], [q0, (0 : Nat) + List.length l ≤ List.length l, ∀ (k : Nat), k < List.length l → true = true, ((0 : Nat) + List.length l) * (1 : Nat) ≤ (140737488355328 : Nat), q false, T Try.prog 108 [.int .i64 ↑n] [] (sb (.o 513) (digs 8 n)) [(.o 513, bs (digs 8 n))], q ((0 : Nat) + List.length l), nat_lit 1 ≤ (1 : Nat), ∀ (k : Nat), k < (1 : Nat) → solid (getL [[V.int IntKind.u8 (IntKind.wrap IntKind.u8 (↑(List.length (digs (8 : Nat) n)) : Int))]] ((0 : Nat) + k)) = true, ((0 : Nat) + List.length l + (1 : Nat)) * (1 : Nat) ≤ (140737488355328 : Nat), q ((0 : Nat) + List.length l + (1 : Nat)), (0 : Nat) + List.length (digs (8 : Nat) n) ≤ List.length (digs (8 : Nat) n), ∀ (k : Nat), k < List.length (digs (8 : Nat) n) → true = true, ((0 : Nat) + List.length l + (1 : Nat) + List.length (digs (8 : Nat) n)) * (1 : Nat) ≤ (140737488355328 : Nat), (0 : Nat) + List.length l + (1 : Nat) + List.length (digs (8 : Nat) n) = List.length (l ++ putN n), ∀ (k : Nat), k < (0 : Nat) + List.length l + (1 : Nat) + List.length (digs (8 : Nat) n) → catF ((0 : Nat) + List.length l + (1 : Nat)) (catF ((0 : Nat) + List.length l) (catF (0 : Nat) (getL []) fun k => bl l ((0 : Nat) + k)) fun k => getL [[V.int IntKind.u8 (IntKind.wrap IntKind.u8 (↑(List.length (digs (8 : Nat) n)) : Int))]] ((0 : Nat) + k)) (fun k => bl (digs (8 : Nat) n) ((0 : Nat) + k)) k = bl (l ++ putN n) k, true = false → true = false, q0, q0, q0, (0 : Nat) + List.length l + (1 : Nat) + List.length (digs (8 : Nat) n) = List.length (l ++ putN n), (none : Option Nat) = none ∨ (none : Option Nat) = none]) : Option (V × Heap × List Prop)) := by kernel_rfl

theorem bdRp0_p0 (n : Nat) :
  along Try.prog (bdRp0 n) [false] = (some (.sl (.o 63) 1 0 0 0 (List.length (putN n)) none, [(.o 63, bs (putN n))], [q0, nat_lit 0 ≤ (140737488355328 : Nat), q false, T Try.prog 108 [.int .i64 ↑n] [] (sb (.o 513) (digs 8 n)) [(.o 513, bs (digs 8 n))], q (nat_lit 0), nat_lit 1 ≤ (1 : Nat), ∀ (k : Nat), k < (1 : Nat) → solid (getL [[V.int IntKind.u8 (IntKind.wrap IntKind.u8 (↑(List.length (digs (8 : Nat) n)) : Int))]] ((0 : Nat) + k)) = true, nat_lit 1 ≤ (140737488355328 : Nat), q (nat_lit 1), (0 : Nat) + List.length (digs (8 : Nat) n) ≤ List.length (digs (8 : Nat) n), ∀ (k : Nat), k < List.length (digs (8 : Nat) n) → true = true, (nat_lit 1 + List.length (digs (8 : Nat) n)) * (1 : Nat) ≤ (140737488355328 : Nat), nat_lit 1 + List.length (digs (8 : Nat) n) = List.length (putN n), ∀ (k : Nat), k < nat_lit 1 + List.length (digs (8 : Nat) n) → catF (nat_lit 1) (catF (nat_lit 0) (catF (0 : Nat) (getL []) fun x => []) fun k => getL [[V.int IntKind.u8 (IntKind.wrap IntKind.u8 (↑(List.length (digs (8 : Nat) n)) : Int))]] ((0 : Nat) + k)) (fun k => bl (digs (8 : Nat) n) ((0 : Nat) + k)) k = bl (putN n) k, true = false → true = false, q0, q0, q0, nat_lit 1 + List.length (digs (8 : Nat) n) = List.length (putN n), (none : Option Nat) = none ∨ (none : Option Nat) = none]) : Option (V × Heap × List Prop)) := by kernel_rfl

theorem bdRt_p (l : List UInt8) (s : ByteArray) :
  along Try.prog (bdRt l s) [] = (some (.sl (.o 63) 1 0 0 0 (List.length (l ++ textB s)) none, [(.o 63, bs (l ++ textB s))], [T Try.prog 100 [.sl (.o 0) 1 0 0 0 (List.length l) none, .int .i64 (↑(ByteArray.size s) : Int)] [(.o 0, bs l)] (sb (.o 257) (l ++ putZ (↑(ByteArray.size s) : Int))) [(.o 257, bs (l ++ putZ (↑(ByteArray.size s) : Int)))], q (List.length (l ++ putZ (↑(ByteArray.size s) : Int))), (List.length (l ++ putZ (↑(ByteArray.size s) : Int)) + ByteArray.size s) * (1 : Nat) ≤ (140737488355328 : Nat), List.length (l ++ putZ (↑(ByteArray.size s) : Int)) + ByteArray.size s = List.length (l ++ textB s), ∀ (k : Nat), k < List.length (l ++ putZ (↑(ByteArray.size s) : Int)) + ByteArray.size s → catF (List.length (l ++ putZ (↑(ByteArray.size s) : Int))) (bl (l ++ putZ (↑(ByteArray.size s) : Int))) (fun k => [V.int IntKind.u8 (byteAt s k)]) k = bl (l ++ textB s) k, true = false → true = false, q0, q0, q0, List.length (l ++ putZ (↑(ByteArray.size s) : Int)) + ByteArray.size s = List.length (l ++ textB s), (none : Option Nat) = none ∨ (none : Option Nat) = none]) : Option (V × Heap × List Prop)) := by kernel_rfl

theorem lastD0 (n : Nat) : lastD n 0 = [] := by simp [lastD]
theorem lastDe (n : Nat) : lastD n (digs 8 n).length = digs 8 n := by simp [lastD]
theorem lastD_len {n k : Nat} (h : k ≤ (digs 8 n).length) : (lastD n k).length = k := by simp [lastD]; omega
theorem lastD_s {n k : Nat} (h : n < 9223372036854775808) (hk : k < (digs 8 n).length) : lastD n (k + 1) = UInt8.ofNat (n / 256 ^ k % 256) :: lastD n k := by
 have hg := digs_get 8 n ((digs 8 n).length - (k + 1)) (digs8 h) (by omega)
 rw [show (digs 8 n).length - 1 - ((digs 8 n).length - (k + 1)) = k by omega] at hg
 have hi : (digs 8 n).length - (k + 1) < (digs 8 n).length := by omega
 rw [List.getElem?_eq_getElem hi, Option.some.injEq] at hg
 rw [lastD, List.drop_eq_getElem_cons hi, hg, lastD, show (digs 8 n).length - (k + 1) + 1 = (digs 8 n).length - k by omega]
theorem catF_ext {n : Nat} {f f' g g' : Nat → List V} (h : ∀ k, k < n → f k = f' k) (h' : ∀ k, g k = g' k) (k : Nat) : catF n f g k = catF n f' g' k := by
 unfold catF
 cases hb : Nat.blt k n with
 | true => exact h k (Nat.le_of_ble_eq_true hb)
 | false => exact h' _
theorem catF_cons (l : List UInt8) {v : Int} {x : UInt8} (h : v = (x.toNat : Int)) (k : Nat) : catF 1 (getL [[V.int .u8 v]]) (fun k => bl l (0 + k)) k = bl (x :: l) k := by
 rw [show x :: l = [x] ++ l from rfl, bl_append]
 refine catF_ext (n := 1) (fun j hj => ?_) (fun j => by rw [Nat.zero_add]) k
 rw [show j = 0 by omega, h]; rfl
theorem put_catF (l D : List UInt8) {v : Int} {x : UInt8} (h : v = (x.toNat : Int)) (k : Nat) : catF (0 + l.length + 1) (catF (0 + l.length) (catF 0 (getL []) fun k => bl l (0 + k)) fun k => getL [[V.int .u8 v]] (0 + k)) (fun k => bl D (0 + k)) k = bl (l ++ x :: D) k := by
 rw [show l ++ x :: D = (l ++ [x]) ++ D by simp, bl_append, List.length_append, List.length_singleton]
 simp only [Nat.zero_add]
 refine catF_ext (fun j hj => ?_) (fun _ => rfl) k
 have := catF_bl1 l v x h j hj
 simp only [Nat.zero_add] at this
 exact this
theorem T_dg1 {n : Nat} (h : n < 9223372036854775808) : T Try.prog 108 [.int .i64 n] [] (sb (.o 63) (digs 8 n)) [(.o 63, bs (digs 8 n))] := by
 have h1 := digs_len 8 n (digs8 h)
 have hL : RLoop Try.prog none 1 (cB (cB (cL (cR (cR (bodyOf Try.f108)))))) ((digs 8 n).length + 1) (dgI n 0) (.exit 0) (dgI n (digs 8 n).length) := by
  refine RLoop.inv (dgI n) (digs 8 n).length (fun k hk => ?_) ?_ (by simp)
  ·refine R_alongPc NG MO _ (pcDg_p1 n k) ?_ (show 1 ≤ 2 by decide)
   have hp : 0 < n / 256 ^ k := h1.2.2 k hk
   have hq : n / 256 ^ k ≤ n := Nat.div_le_self _ _
   have e := lastD_s h hk
   have hl := lastD_len (n := n) (k := k) (by omega)
   have hv : IntKind.wrap IntKind.u8 (((n / 256 ^ k : Nat) : Int) % 256) = ((UInt8.ofNat (n / 256 ^ k % 256)).toNat : Int) := by
    rw [show ((n / 256 ^ k : Nat) : Int) % 256 = ((n / 256 ^ k % 256 : Nat) : Int) from rfl, wrap8']; simp
   have hd : ((n / 256 ^ k : Nat) : Int) / 256 = ((n / 256 ^ (k + 1) : Nat) : Int) := by
    rw [Nat.pow_succ, ← Nat.div_div_eq_div_mul]; rfl
   have hI : InR IntKind.i64 (((n / 256 ^ k : Nat) : Int) / 256) := by
    generalize n / 256 ^ k = q at hq
    simp [InR, IntKind.min, IntKind.max, IntKind.signed, IntKind.bits]; omega
   simp only [All]
   and_intros
   all_goals first
    | (rw [decide_eq_true_eq]; omega)
    | exact hd
    | exact hI.1
    | exact hI.2
    | (rw [e, List.length_cons]; omega)
    | (rw [e]; intro j _; exact catF_cons _ hv j)
    | omega
    | trivial
    | rfl
    | (intro _ _; rfl)
    | (simp [IntKind.min, IntKind.max, IntKind.signed, IntKind.bits] <;> omega)
  ·refine R_alongPc NG MO _ (pcDg_p0 n (digs 8 n).length) ?_ (show 1 ≤ 2 by decide)
   have hz := h1.2.1
   simp only [All]
   and_intros
   all_goals first
    | (rw [decide_eq_false_iff_not]; omega)
    | trivial
    | rfl
    | (intro _ _; rfl)
    | (simp; done)
 have ha := R_alongPc NG MO _ (pcDa_p n) (by simp [All]) (Nat.le_refl _)
 have hb := R_alongPc NG MO _ (pcDb_p n) (by simp [All]) (Nat.le_refl _)
 have hc := R_alongPc NG MO _ (pcDc_p n) (by
  simp only [All]
  and_intros
  all_goals first
   | exact hL
   | trivial
   | rfl
   | (simp only [lastD0]; rfl)
   | (simp only [lastDe]; done)
   | (simp only [Nat.div_one]; done)
   | (intro k hk; omega)
   | (rw [lastDe]; intro _ _; rfl)
   | (simp; done)) (Nat.le_refl _)
 exact T_of_end (c0 := []) Try.func108 (by kernel_rfl) (R.seq ha (R.seq hb hc)) (names := [.o 63]) (tl := none) rfl trivial (pinH_ok (by kernel_rfl)) (by kernel_rfl)
theorem T_dg {n : Nat} (h : n < 9223372036854775808) {m : Nat} : T Try.prog 108 [.int .i64 n] [] (sb (.o m) (digs 8 n)) [(.o m, bs (digs 8 n))] := by
 obtain ⟨σ, hσ, h1⟩ := T.at (T_dg1 h) [.o 63] [.o m] (by simp) (by simp) rfl
 simp only [List.map_cons, List.map_nil, List.cons.injEq, and_true] at hσ
 simpa [V.rens, V.ren, sb, bs, Heap.ren, B.ren, hσ] using h1
theorem T_rp1 {n : Nat} (h : n < 9223372036854775808) {l : List UInt8} (hl : l.length ≤ 70368744177664) : T Try.prog 100 [sb (.o 0) l, .int .i64 n] [(.o 0, bs l)] (sb (.o 63) (l ++ putN n)) [(.o 63, bs (l ++ putN n))] := by
 have h1 := digs_len 8 n (digs8 h)
 have hv : IntKind.wrap IntKind.u8 ((digs 8 n).length : Int) = ((UInt8.ofNat (digs 8 n).length).toNat : Int) := wrap8 _
 refine T_al (bdRp_p0 n l) Try.func100 ?_
 simp only [All]
 and_intros
 all_goals first
  | exact T_dg h
  | omega
  | (intro k _; exact put_catF l (digs 8 n) hv k)
  | (intro k hk; rw [show k = 0 by omega]; rfl)
  | (simp [putN, IntKind.min, IntKind.max, IntKind.signed, IntKind.bits] <;> omega)
theorem T_rp {z : Int} (h : num63 z) {l : List UInt8} (hl : l.length ≤ 70368744177664) {a m : Nat} (hne : a ≠ m) : T Try.prog 100 [sb (.o a) l, .int .i64 z] [(.o a, bs l)] (sb (.o m) (l ++ putZ z)) [(.o m, bs (l ++ putZ z))] := by
 have e : ((z.toNat : Nat) : Int) = z := Int.toNat_of_nonneg h.1
 have h0 := T_rp1 (n := z.toNat) (by have := h.2; omega) hl
 rw [e] at h0
 obtain ⟨σ, hσ, h1⟩ := T.at h0 [.o 0, .o 63] [.o a, .o m] (by simp) (by simp [hne]) rfl
 simp only [List.map_cons, List.map_nil, List.cons.injEq, and_true] at hσ
 simpa [V.rens, V.ren, sb, bs, Heap.ren, B.ren, hσ.1, hσ.2, putZ] using h1
theorem T_rp0 {n : Nat} (h : n < 9223372036854775808) : T Try.prog 100 [.snil, .int .i64 n] [] (sb (.o 63) (putN n)) [(.o 63, bs (putN n))] := by
 have h1 := digs_len 8 n (digs8 h)
 have hv : IntKind.wrap IntKind.u8 ((digs 8 n).length : Int) = ((UInt8.ofNat (digs 8 n).length).toNat : Int) := wrap8 _
 refine T_al (bdRp0_p0 n) Try.func100 ?_
 simp only [All]
 and_intros
 all_goals first
  | exact T_dg h
  | omega
  | (intro k _; exact put_catF [] (digs 8 n) hv k)
  | (intro k hk; rw [show k = 0 by omega]; rfl)
  | (simp [putN, IntKind.min, IntKind.max, IntKind.signed, IntKind.bits] <;> omega)
theorem T_rpNil {z : Int} (h : num63 z) {m : Nat} : T Try.prog 100 [.snil, .int .i64 z] [] (sb (.o m) (putZ z)) [(.o m, bs (putZ z))] := by
 have e : ((z.toNat : Nat) : Int) = z := Int.toNat_of_nonneg h.1
 have h0 := T_rp0 (n := z.toNat) (by have := h.2; omega)
 rw [e] at h0
 obtain ⟨σ, hσ, h1⟩ := T.at h0 [.o 63] [.o m] (by simp) (by simp) rfl
 simp only [List.map_cons, List.map_nil, List.cons.injEq, and_true] at hσ
 simpa [V.rens, V.ren, sb, bs, Heap.ren, B.ren, hσ, putZ] using h1
theorem T_rt1 {l : List UInt8} {s : ByteArray} (hl : l.length ≤ 17592186044416) (hs : s.size ≤ 1099511627776) : T Try.prog 101 [sb (.o 0) l, .str s] [(.o 0, bs l)] (sb (.o 63) (l ++ textB s)) [(.o 63, bs (l ++ textB s))] := by
 have hz := num63_nat (n := s.size) (by omega)
 have e : l ++ textB s = (l ++ putZ s.size) ++ strB s := by rw [textB_eq, List.append_assoc]
 have h9 := putZ_len hz
 have hlen : (l ++ putZ (s.size : Int)).length ≤ l.length + 9 := by rw [List.length_append]; omega
 have hle : (l ++ putZ (s.size : Int)).length + s.size = (l ++ textB s).length := by rw [e, List.length_append (bs := strB s), strB_len]
 refine T_al (bdRt_p l s) Try.func101 ?_
 simp only [All]
 and_intros
 all_goals first
  | exact T_rp hz (by omega) (by decide)
  | exact hle
  | omega
  | (rw [e, bl_append (l ++ putZ (s.size : Int)) (strB s)]; intro k _; rfl)
  | simp
theorem T_rt {l : List UInt8} {s : ByteArray} (hl : l.length ≤ 17592186044416) (hs : s.size ≤ 1099511627776) {a m : Nat} (hne : a ≠ m) : T Try.prog 101 [sb (.o a) l, .str s] [(.o a, bs l)] (sb (.o m) (l ++ textB s)) [(.o m, bs (l ++ textB s))] := by
 obtain ⟨σ, hσ, h1⟩ := T.at (T_rt1 hl hs) [.o 0, .o 63] [.o a, .o m] (by simp) (by simp [hne]) rfl
 simp only [List.map_cons, List.map_nil, List.cons.injEq, and_true] at hσ
 simpa [V.rens, V.ren, sb, bs, Heap.ren, B.ren, hσ.1, hσ.2] using h1
end Go.Proofs.Ytpallipnhmoipaa
namespace Sy
open Go
def x8 (x y : Int) : Int := ibits (fun _ x y => x ^^^ y) .u8 x y
/-- A key's block, each byte turned by one. -/
def padK (k : List Int) (x : Int) : List Int := (List.range 64).map fun i => x8 (k.getD i 0) x
/-- So many of them are turned. -/
def padJ (k : List Int) (x : Int) (j : Nat) : List Int := (List.range 64).map fun i => if i < j then x8 (k.getD i 0) x else k.getD i 0
theorem padK_len (k : List Int) (x : Int) : (padK k x).length = 64 := by simp [padK]
theorem padJ_len (k : List Int) (x : Int) (j : Nat) : (padJ k x j).length = 64 := by simp [padJ]
theorem padJ_end (k : List Int) (x : Int) : padJ k x 64 = padK k x := by
 unfold padJ padK
 apply List.map_congr_left
 intro i hi
 rw [if_pos (List.mem_range.1 hi)]
theorem padJ_get (k : List Int) (x : Int) (j : Nat) {i : Nat} (h : i < 64) : (padJ k x j).getD i 0 = if i < j then x8 (k.getD i 0) x else k.getD i 0 := by
 rw [padJ, List.getD_eq_getElem?_getD, List.getElem?_map, List.getElem?_range h]; rfl
theorem padJ_set (k : List Int) (x : Int) {j : Nat} (h : j < 64) : (padJ k x j).set j (x8 ((padJ k x j).getD j 0) x) = padJ k x (j + 1) := by
 apply List.ext_getElem?
 intro i
 rw [List.getElem?_set]
 by_cases hi : i < 64
 ·have e : ∀ j', (padJ k x j')[i]? = some (if i < j' then x8 (k.getD i 0) x else k.getD i 0) := fun j' => by
   rw [padJ, List.getElem?_map, List.getElem?_range hi]; rfl
  rw [e, e]
  by_cases h1 : j = i
  ·subst h1
   rw [if_pos rfl, if_pos (by rw [padJ_len]; exact h), padJ_get k x j h, if_neg (Nat.lt_irrefl j), if_pos (Nat.lt_succ_self j)]
  ·rw [if_neg h1]
   by_cases h2 : i < j
   ·rw [if_pos h2, if_pos (by omega)]
   ·rw [if_neg h2, if_neg (by omega)]
 ·have e : ∀ j', (padJ k x j')[i]? = none := fun j' => by rw [List.getElem?_eq_none_iff, padJ_len]; omega
  rw [e, e, padJ_len]
  by_cases h1 : j = i
  ·subst h1; rw [if_pos rfl, if_neg (by omega)]
  ·rw [if_neg h1]
theorem padJ_zero (k : List Int) (x : Int) : padJ k x 0 = (List.range 64).map fun i => k.getD i 0 := by
 unfold padJ
 apply List.map_congr_left
 intro i _
 rw [if_neg (Nat.not_lt_zero i)]
def macV (k b : List Int) : List Int := shaV (padK k 92 ++ shaV (padK k 54 ++ b))
theorem dA_len (H : List Int) : ∀ i, (dA H i).length = 32
 | 0 => by simp [dA]
 | i + 1 => by rw [dA, List.length_set, dA_len H i]
theorem shaV_len (B : List Int) : (shaV B).length = 32 := dA_len _ _
theorem macV_len (k b : List Int) : (macV k b).length = 32 := shaV_len _
def uI (l : List UInt8) : List Int := l.map fun x => (x.toNat : Int)
theorem uI_len (l : List UInt8) : (uI l).length = l.length := by simp [uI]
theorem uI_app (a b : List UInt8) : uI (a ++ b) = uI a ++ uI b := by simp [uI]
theorem uI_get (l : List UInt8) (i : Nat) : (uI l).getD i 0 = ((l.getD i 0).toNat : Int) := by
 simp only [uI, List.getD_eq_getElem?_getD, List.getElem?_map]
 cases l[i]? <;> rfl
/-- A text's bytes. -/
def bI (s : ByteArray) : List Int := uI s.data.toList
theorem bI_len (s : ByteArray) : (bI s).length = s.size := by rw [bI, uI_len]; rfl
theorem bI_get (s : ByteArray) (i : Nat) : (bI s).getD i 0 = byteAt s i := by rw [bI, uI_get]; rfl
theorem ib_app (a b : List Int) : ib (a ++ b) = catF a.length (ib a) (ib b) := by
 funext k
 unfold ib catF
 cases h : Nat.blt k a.length
 ·have h1 : a.length ≤ k := by
   rcases Nat.lt_or_ge k a.length with h2 | h2
   ·rw [← Nat.blt_eq] at h2; rw [h2] at h; cases h
   ·exact h2
  simp [List.getD_eq_getElem?_getD, List.getElem?_append_right h1]
 ·rw [Nat.blt_eq] at h
  simp [List.getD_eq_getElem?_getD, List.getElem?_append_left h]
theorem padK_take {k : List Int} {x : Int} {j : Nat} (h : j < 64) : (padK k x).take (j + 1) = (padK k x).take j ++ [x8 (k.getD j 0) x] := by
 have hj : j < (padK k x).length := by rw [padK_len]; exact h
 rw [← List.take_append_getElem hj]
 congr 2
 simp [padK]
/-- The first bytes of a mac. -/
def tagJ (d : List Int) (j : Nat) : List Int := (List.range 16).map fun i => if i < j then d.getD i 0 else 0
def tagL (d : List Int) : List Int := (List.range 16).map fun i => d.getD i 0
theorem tagJ_len (d : List Int) (j : Nat) : (tagJ d j).length = 16 := by simp [tagJ]
theorem tagL_len (d : List Int) : (tagL d).length = 16 := by simp [tagL]
theorem tagJ_end (d : List Int) : tagJ d 16 = tagL d := by
 unfold tagJ tagL
 apply List.map_congr_left
 intro i hi
 rw [if_pos (List.mem_range.1 hi)]
theorem tagJ_zero (d : List Int) : tagJ d 0 = List.replicate 16 0 := by simp [tagJ]; rfl
theorem tagJ_set (d : List Int) {j : Nat} (h : j < 16) : (tagJ d j).set j (d.getD j 0) = tagJ d (j + 1) := by
 apply List.ext_getElem?
 intro i
 rw [List.getElem?_set]
 by_cases hi : i < 16
 ·have e : ∀ j', (tagJ d j')[i]? = some (if i < j' then d.getD i 0 else 0) := fun j' => by
   rw [tagJ, List.getElem?_map, List.getElem?_range hi]; rfl
  rw [e, e]
  by_cases h1 : j = i
  ·subst h1
   rw [if_pos rfl, if_pos (by rw [tagJ_len]; exact h), if_pos (Nat.lt_succ_self j)]
  ·rw [if_neg h1]
   by_cases h2 : i < j
   ·rw [if_pos h2, if_pos (by omega)]
   ·rw [if_neg h2, if_neg (by omega)]
 ·have e : ∀ j', (tagJ d j')[i]? = none := fun j' => by rw [List.getElem?_eq_none_iff, tagJ_len]; omega
  rw [e, e, tagJ_len]
  by_cases h1 : j = i
  ·subst h1; rw [if_pos rfl, if_neg (by omega)]
  ·rw [if_neg h1]
/-- A tag: of what bytes the key is the digest, of which body. -/
def tagV (kb : List UInt8) (body : ByteArray) : List Int := tagL (macV (shaV (uI kb)) (bI body))
theorem tagV_len (kb : List UInt8) (body : ByteArray) : (tagV kb body).length = 16 := tagL_len _
end Sy
namespace Go.Proofs.Ytpallipnhmoipaa
open Go Sy Go.Proofs
def pdI (k : List Int) (x : Int) (L : List Int) (j : Nat) : St := ⟨mkT 33 [(0, rb k), (1, .int .u8 x), (5, obS 0 L), (6, .int .i64 (j : Nat))], [(.o 0, obB L)], 1, []⟩
noncomputable def bdPd (k : List Int) (x : Int) (L : List Int) : Bd := { f := Try.f98, args := [rb k, .int .u8 x], kb := { db := fun _ _ _ _ => [], fx := fun id _ => bif Nat.beq id 4 then [.virt 5 1] else [], lp := fun _ t => [(True, .loop (64 + 1) (wToS [(.o 0, nmV (getV t.tmps 5))] (pdI k x [] 0)) (.exit 0) (pdI k x L 64))] }, names := fun _ => [.o 0] }
noncomputable def pcPd (k : List Int) (x : Int) (L : List Int) (j : Nat) (L2 : List Int) : Pc := { c := cB (cB (cR (cL (cR (cR (cR (bodyOf Try.f98))))))), st := pdI k x L j, kb := kb0, k := fun x_ t => match x_ with
 | .normal => some (wToS [(.o 0, nmV (getV t.tmps 5))] (pdI k x L2 (j + 1)))
 | _ => some (wTo (pdI k x L 64)) }
def nmL : V → List Nm
 | .sl a _ _ _ _ _ _ => [a]
 | _ => []
def mcP (p1 p2 : List Int) : List V → Heap → Nat → List Cl := fun a _ lo => match a with
 | [_, .int _ 54] => [{ val := obS lo p1, post := [(.o lo, obB p1)] }]
 | [_, .int _ 92] => [{ val := obS lo p2, post := [(.o lo, obB p2)] }]
 | _ => []
def rdC (v : V) : List V → List Cl
 | .sl a _ _ _ _ _ _ :: _ => [{ rd := [a], val := v }]
 | _ => []
def obC (l : List Int) : List V → Heap → Nat → List Cl := fun _ _ lo => [{ val := obS lo l, post := [(.o lo, obB l)] }]
def ubC (l : List UInt8) : List V → Heap → Nat → List Cl := fun _ _ lo => [{ val := sb (.o lo) l, post := [(.o lo, bs l)] }]
def agD (d : List Int) : V := .agg [.seg .u8 32 d]
noncomputable def bdMc (k b p1 p2 d1 d2 : List Int) : Bd := { f := Try.f89, args := [rb k, rb b], kb := { db := dbQ [(98, mcP p1 p2), (97, fun a _ lo => bif Nat.ble lo 600 then rdC (agD d1) a else rdC (agD d2) a), (99, obC d1)] } }
def kyV (s : ByteArray) (n : Int) : V := .agg [.str s, .int .i64 n]
noncomputable def bdRz (s : ByteArray) : Bd := { f := Try.f101, args := [.snil, .str s], base := 1, kb := { db := fun k a _ lo => bif Nat.beq k 100 then cNew (putZ s.size) a lo else [] }, k := kSb 4 63 (textB s), names := fun _ => [.o 63] }
noncomputable def bdKy (s : ByteArray) (n id : Int) (l1 l2 : List UInt8) (d : List Int) : Bd := { f := Try.f90, args := [kyV s n, .int .i64 id], kb := { db := dbQ [(101, ubC l1), (100, fun a _ lo => cNew l2 a lo), (97, fun a _ _ => rdC (agD d) a), (99, obC d)] }, names := fun t => nmL (getV t.tmps 4) }
def sgI (d L : List Int) (j : Nat) : St := ⟨mkT 36 [(6, p0 0), (8, p0 1), (9, p0 2), (10, .int .i64 (j : Nat))], [(.o 0, .flat [.seg .u8 16 (List.replicate 16 0)]), (.o 1, .flat [.seg .u8 16 L]), (.o 2, .flat [.seg .u8 32 d])], 3, []⟩
noncomputable def bdRg (s : ByteArray) (n id : Int) (b : ByteArray) (k d t : List Int) : Bd := { f := Try.f64, args := [kyV s n, .int .i64 id, .str b], kb := { db := dbQ [(90, obC k), (89, fun a _ _ => rdC (agD d) a)], lp := fun _ t2 => [(True, .loop (16 + 1) (wToS [(.o 0, nmV (getV t2.tmps 6)), (.o 1, nmV (getV t2.tmps 8)), (.o 2, nmV (getV t2.tmps 9))] (sgI d (List.replicate 16 0) 0)) (.exit 0) (sgI d t 16))] } }
noncomputable def pcRg (d L : List Int) (j : Nat) (L2 : List Int) : Pc := { c := cB (cB (cR (cL (cR (cR (cR (cR (bodyOf Try.f64)))))))), st := sgI d L j, kb := kb0, k := fun x_ _ => match x_ with
 | .normal => some (wTo (sgI d L2 (j + 1)))
 | _ => some (wTo (sgI d L 16)) }
noncomputable def bdRk (s : ByteArray) (n id : Int) (b : ByteArray) (t u : List Int) (e : Int) : Bd := { f := Try.f53, args := [kyV s n, .int .i64 id, .str b, .agg [.seg .u8 16 t]], kb := { db := dbQ [(64, cVal (.tup [.agg [.seg .u8 16 u], .int .i64 e]))] } }
end Go.Proofs.Ytpallipnhmoipaa
namespace Go.Proofs.Ytpallipnhmoipaa
open Go Sy Go.Proofs
theorem bdPd_p0 (k : List Int) (x : Int) (L : List Int) :
  along Try.prog (bdPd k x L) [false] = (some (.sl (.o 0) 1 0 0 0 (List.length L) none, [(.o 0, .rows 1 (List.length L) (ib L) true)], [decide ((64 : Int) < (↑(List.length k) : Int)) = false, RLoop Try.prog none 0 (cB (cB (cR (cL (cR (cR (cR (bodyOf (Bd.f (bdPd k x L)))))))))) 65 (St.mk [.ros 1 (List.length k) (ib k) false, .int .u8 x, .any, .any, .any, .sl (.o 0) 1 0 0 0 0 none, .int .i64 0, .any, .any, .any, .any, .any, .any, .any, .any, .any, .any, .any, .any, .any, .any, .any, .any, .any, .any, .any, .any, .any, .any, .any, .any, .any, .any] [(.o 0, .rows 1 0 (ib []) true)] 1 []) (.exit 0) (St.mk [.ros 1 (List.length k) (ib k) false, .int .u8 x, .any, .any, .any, .sl (.o 0) 1 0 0 0 (List.length L) none, .int .i64 64, .any, .any, .any, .any, .any, .any, .any, .any, .any, .any, .any, .any, .any, .any, .any, .any, .any, .any, .any, .any, .any, .any, .any, .any, .any, .any] [(.o 0, .rows 1 (List.length L) (ib L) true)] 1 []), (0 : Nat) = nat_lit 0, ∀ (k : Nat), k < (0 : Nat) → [] = [V.int IntKind.u8 (0 : Int)], true = false → true = false, q (List.length k), ∀ (k_1 : Nat), k_1 < List.length k → [V.int IntKind.u8 (List.getD k k_1 (0 : Int))] = [V.int IntKind.u8 (List.getD k k_1 (0 : Int))], false = true → false = true, q x, q0, q0, q0, (0 : Nat) = nat_lit 0, (none : Option Nat) = none ∨ (none : Option Nat) = none, q1]) : Option (V × Heap × List Prop)) := by kernel_rfl

theorem pcPd_p11 (k : List Int) (x : Int) (L : List Int) (j : Nat) (L2 : List Int) :
  alongPc Try.prog (pcPd k x L j L2) [true, true] = (some (.normal, St.mk [.ros 1 (List.length k) (ib k) false, .int .u8 x, .any, .any, .any, .sl (.o 0) 1 0 0 0 (List.length L2) none, .int .i64 (↑(j + 1) : Int), .any, .any, .any, .any, .any, .any, .any, .any, .any, .any, .any, .any, .any, .any, .any, .any, .any, .any, .any, .any, .any, .any, .any, .any, .any, .any] [(.o 0, .rows 1 (List.length L2) (ib L2) true)] 1 [], [decide ((↑j : Int) < (64 : Int)) = true, decide ((↑j : Int) < (↑(List.length k) : Int)) = true, (0 : Int) ≤ (↑j : Int) ∧ (↑j : Int) < (↑(List.length k) : Int), q (List.length L), nat_lit 1 ≤ (1 : Nat), ∀ (k_1 : Nat), k_1 < (1 : Nat) → solid (getL [[V.int IntKind.u8 (ibits (fun x x_1 y => x_1 ^^^ y) IntKind.u8 (List.getD k (Int.toNat (↑j : Int)) (0 : Int)) x)]] ((0 : Nat) + k_1)) = true, (List.length L + (1 : Nat)) * (1 : Nat) ≤ (140737488355328 : Nat), InR IntKind.i64 ((↑j : Int) + (1 : Int)), List.length L + (1 : Nat) = List.length L2, ∀ (k_1 : Nat), k_1 < List.length L + (1 : Nat) → catF (List.length L) (ib L) (fun k_2 => getL [[V.int IntKind.u8 (ibits (fun x x_1 y => x_1 ^^^ y) IntKind.u8 (List.getD k (Int.toNat (↑j : Int)) (0 : Int)) x)]] ((0 : Nat) + k_2)) k_1 = [V.int IntKind.u8 (List.getD L2 k_1 (0 : Int))], true = false → true = false, q (List.length k), ∀ (k_1 : Nat), k_1 < List.length k → [V.int IntKind.u8 (List.getD k k_1 (0 : Int))] = [V.int IntKind.u8 (List.getD k k_1 (0 : Int))], false = true → false = true, q x, q0, q0, q0, List.length L + (1 : Nat) = List.length L2, (none : Option Nat) = none ∨ (none : Option Nat) = none, (↑j : Int) + (1 : Int) = (↑(j + (1 : Nat)) : Int)]) : Option (Exit × St × List Prop)) := by kernel_rfl
theorem pcPd_p10 (k : List Int) (x : Int) (L : List Int) (j : Nat) (L2 : List Int) :
  alongPc Try.prog (pcPd k x L j L2) [true, false] = (some (.normal, St.mk [.ros 1 (List.length k) (ib k) false, .int .u8 x, .any, .any, .any, .sl (.o 0) 1 0 0 0 (List.length L2) none, .int .i64 (↑(j + 1) : Int), .any, .any, .any, .any, .any, .any, .any, .any, .any, .any, .any, .any, .any, .any, .any, .any, .any, .any, .any, .any, .any, .any, .any, .any, .any, .any] [(.o 0, .rows 1 (List.length L2) (ib L2) true)] 1 [], [decide ((↑j : Int) < (64 : Int)) = true, decide ((↑j : Int) < (↑(List.length k) : Int)) = false, q (List.length L), nat_lit 1 ≤ (1 : Nat), ∀ (k : Nat), k < (1 : Nat) → solid (getL [[V.int IntKind.u8 (ibits (fun x x_1 y => x_1 ^^^ y) IntKind.u8 (0 : Int) x)]] ((0 : Nat) + k)) = true, (List.length L + (1 : Nat)) * (1 : Nat) ≤ (140737488355328 : Nat), InR IntKind.i64 ((↑j : Int) + (1 : Int)), List.length L + (1 : Nat) = List.length L2, ∀ (k : Nat), k < List.length L + (1 : Nat) → catF (List.length L) (ib L) (fun k => getL [[V.int IntKind.u8 (ibits (fun x x_1 y => x_1 ^^^ y) IntKind.u8 (0 : Int) x)]] ((0 : Nat) + k)) k = [V.int IntKind.u8 (List.getD L2 k (0 : Int))], true = false → true = false, q (List.length k), ∀ (k_1 : Nat), k_1 < List.length k → [V.int IntKind.u8 (List.getD k k_1 (0 : Int))] = [V.int IntKind.u8 (List.getD k k_1 (0 : Int))], false = true → false = true, q x, q0, q0, q0, List.length L + (1 : Nat) = List.length L2, (none : Option Nat) = none ∨ (none : Option Nat) = none, (↑j : Int) + (1 : Int) = (↑(j + (1 : Nat)) : Int)]) : Option (Exit × St × List Prop)) := by kernel_rfl
theorem pcPd_p0 (k : List Int) (x : Int) (L : List Int) (j : Nat) (L2 : List Int) :
  alongPc Try.prog (pcPd k x L j L2) [false] = (some (.exit 0, St.mk [.ros 1 (List.length k) (ib k) false, .int .u8 x, .any, .any, .any, .sl (.o 0) 1 0 0 0 (List.length L) none, .int .i64 64, .any, .any, .any, .any, .any, .any, .any, .any, .any, .any, .any, .any, .any, .any, .any, .any, .any, .any, .any, .any, .any, .any, .any, .any, .any, .any] [(.o 0, .rows 1 (List.length L) (ib L) true)] 1 [], [decide ((↑j : Int) < (64 : Int)) = false, q (List.length L), ∀ (k : Nat), k < List.length L → [V.int IntKind.u8 (List.getD L k (0 : Int))] = [V.int IntKind.u8 (List.getD L k (0 : Int))], true = false → true = false, q (List.length k), ∀ (k_1 : Nat), k_1 < List.length k → [V.int IntKind.u8 (List.getD k k_1 (0 : Int))] = [V.int IntKind.u8 (List.getD k k_1 (0 : Int))], false = true → false = true, q x, q0, q0, q0, q (List.length L), (none : Option Nat) = none ∨ (none : Option Nat) = none, (↑j : Int) = (64 : Int)]) : Option (Exit × St × List Prop)) := by kernel_rfl

theorem bdMc_p (k : List Int) (b : List Int) (p1 : List Int) (p2 : List Int) (d1 : List Int) (d2 : List Int) :
  along Try.prog (bdMc k b p1 p2 d1 d2) [] = (some (.agg [.seg .u8 32 d2], [], [T Try.prog 98 [.ros 1 (List.length k) (ib k) false, .int .u8 54] [] (.sl (.o 128) 1 0 0 0 (List.length p1) none) [(.o 128, .rows 1 (List.length p1) (ib p1) true)], q (List.length p1), ∀ (k : Nat), k < List.length b → true = true, (List.length p1 + List.length b) * (1 : Nat) ≤ (140737488355328 : Nat), T Try.prog 97 [.sl (.o 256) 1 0 0 0 (List.length p1 + List.length b) none] [(.o 256, .rows 1 (List.length p1 + List.length b) (catF (List.length p1) (ib p1) (ib b)) true)] (.agg [.seg .u8 32 d1]) [(.o 256, .rows 1 (List.length p1 + List.length b) (catF (List.length p1) (ib p1) (ib b)) true)], T Try.prog 98 [.ros 1 (List.length k) (ib k) false, .int .u8 92] [] (.sl (.o 576) 1 0 0 0 (List.length p2) none) [(.o 576, .rows 1 (List.length p2) (ib p2) true)], T Try.prog 99 [.agg [.seg .u8 32 d1]] [] (.sl (.o 704) 1 0 0 0 (List.length d1) none) [(.o 704, .rows 1 (List.length d1) (ib d1) true)], q (List.length p2), (0 : Nat) + List.length d1 ≤ List.length d1, ∀ (k : Nat), k < List.length d1 → true = true, (List.length p2 + List.length d1) * (1 : Nat) ≤ (140737488355328 : Nat), T Try.prog 97 [.sl (.o 768) 1 0 0 0 (List.length p2 + List.length d1) none] [(.o 768, .rows 1 (List.length p2 + List.length d1) (catF (List.length p2) (ib p2) fun k => [.int .u8 (List.getD d1 (0 + k) (0 : Int))]) true)] (.agg [.seg .u8 32 d2]) [(.o 768, .rows 1 (List.length p2 + List.length d1) (catF (List.length p2) (ib p2) fun k => [.int .u8 (List.getD d1 (0 + k) (0 : Int))]) true)]]) : Option (V × Heap × List Prop)) := by kernel_rfl

theorem bdRz_p (s : ByteArray) :
  along Try.prog (bdRz s) [] = (some (.sl (.o 63) 1 0 0 0 (List.length (textB s)) none, [(.o 63, bs (textB s))], [T Try.prog 100 [.snil, .int .i64 (↑(ByteArray.size s) : Int)] [] (sb (.o 257) (putZ (↑(ByteArray.size s) : Int))) [(.o 257, bs (putZ (↑(ByteArray.size s) : Int)))], q (List.length (putZ (↑(ByteArray.size s) : Int))), (List.length (putZ (↑(ByteArray.size s) : Int)) + ByteArray.size s) * (1 : Nat) ≤ (140737488355328 : Nat), List.length (putZ (↑(ByteArray.size s) : Int)) + ByteArray.size s = List.length (textB s), ∀ (k : Nat), k < List.length (putZ (↑(ByteArray.size s) : Int)) + ByteArray.size s → catF (List.length (putZ (↑(ByteArray.size s) : Int))) (bl (putZ (↑(ByteArray.size s) : Int))) (fun k => [V.int IntKind.u8 (byteAt s k)]) k = bl (textB s) k, true = false → true = false, q0, q0, q0, List.length (putZ (↑(ByteArray.size s) : Int)) + ByteArray.size s = List.length (textB s), (none : Option Nat) = none ∨ (none : Option Nat) = none]) : Option (V × Heap × List Prop)) := by kernel_rfl

theorem bdKy_p (s : ByteArray) (n : Int) (id : Int) (l1 : List UInt8) (l2 : List UInt8) (d : List Int) :
  along Try.prog (bdKy s n id l1 l2 d) [] = (some (.sl (.o 512) 1 0 0 0 (List.length d) none, [(.o 512, .rows 1 (List.length d) (ib d) true)], [T Try.prog 101 [.snil, .str s] [] (sb (.o 256) l1) [(.o 256, bs l1)], T Try.prog 100 [.sl (.o 256) 1 0 0 0 (List.length l1) none, .int .i64 id] [(.o 256, bs l1)] (sb (.o 384) l2) [(.o 384, bs l2)], T Try.prog 97 [.sl (.o 384) 1 0 0 0 (List.length l2) none] [(.o 384, bs l2)] (.agg [.seg .u8 32 d]) [(.o 384, bs l2)], T Try.prog 99 [.agg [.seg .u8 32 d]] [] (.sl (.o 512) 1 0 0 0 (List.length d) none) [(.o 512, .rows 1 (List.length d) (ib d) true)]]) : Option (V × Heap × List Prop)) := by kernel_rfl

theorem bdRg_p11 (s : ByteArray) (n : Int) (id : Int) (b : ByteArray) (k : List Int) (d : List Int) (t : List Int) :
  along Try.prog (bdRg s n id b k d t) [true, true] = (some (.tup [.agg [.seg .u8 16 z16], .int .i64 2], [], [decide (id < (0 : Int)) = true, q2]) : Option (V × Heap × List Prop)) := by kernel_rfl
theorem bdRg_p01 (s : ByteArray) (n : Int) (id : Int) (b : ByteArray) (k : List Int) (d : List Int) (t : List Int) :
  along Try.prog (bdRg s n id b k d t) [false, true] = (some (.tup [.agg [.seg .u8 16 z16], .int .i64 2], [], [decide (id < (0 : Int)) = false, decide (n ≤ id) = true]) : Option (V × Heap × List Prop)) := by kernel_rfl
theorem bdRg_p00 (s : ByteArray) (n : Int) (id : Int) (b : ByteArray) (k : List Int) (d : List Int) (t : List Int) :
  along Try.prog (bdRg s n id b k d t) [false, false] = (some (.tup [.agg [.seg .u8 16 t], .int .i64 0], [], [decide (id < (0 : Int)) = false, decide (n ≤ id) = false, T Try.prog 90 [.agg [.str s, .int .i64 n], .int .i64 id] [] (.sl (.o 896) 1 0 0 0 (List.length k) none) [(.o 896, .rows 1 (List.length k) (ib k) true)], T Try.prog 89 [.sl (.o 896) 1 0 0 0 (List.length k) none, .ros 1 (ByteArray.size b) (fun q => [.int .u8 (byteAt b q)]) false] [(.o 896, .rows 1 (List.length k) (ib k) true)] (.agg [.seg .u8 32 d]) [(.o 896, .rows 1 (List.length k) (ib k) true)], RLoop Try.prog none 0 (cB (cB (cR (cL (cR (cR (cR (cR (bodyOf (Bd.f (bdRg s n id b k d t))))))))))) 17 (St.mk [.any, .any, .any, .any, .any, .any, .ptr (.o 0) 0 0 0 0, .any, .ptr (.o 1) 0 0 0 0, .ptr (.o 2) 0 0 0 0, .int .i64 0, .any, .any, .any, .any, .any, .any, .any, .any, .any, .any, .any, .any, .any, .any, .any, .any, .any, .any, .any, .any, .any, .any, .any, .any, .any] [(.o 0, .flat [.seg .u8 16 z16]), (.o 1, .flat [.seg .u8 16 z16]), (.o 2, .flat [.seg .u8 32 d])] 3 []) (.exit 0) (St.mk [.any, .any, .any, .any, .any, .any, .ptr (.o 0) 0 0 0 0, .any, .ptr (.o 1) 0 0 0 0, .ptr (.o 2) 0 0 0 0, .int .i64 16, .any, .any, .any, .any, .any, .any, .any, .any, .any, .any, .any, .any, .any, .any, .any, .any, .any, .any, .any, .any, .any, .any, .any, .any, .any] [(.o 0, .flat [.seg .u8 16 z16]), (.o 1, .flat [.seg .u8 16 t]), (.o 2, .flat [.seg .u8 32 d])] 3 []), q (16 : Nat), q z16, q (16 : Nat), q z16, q (32 : Nat), q d, q0, q0, q0, q0, q0, q0, q0, q0, q0, q1]) : Option (V × Heap × List Prop)) := by kernel_rfl

theorem pcRg_p1 (d : List Int) (L : List Int) (j : Nat) (L2 : List Int) :
  alongPc Try.prog (pcRg d L j L2) [true] = (some (.normal, St.mk [.any, .any, .any, .any, .any, .any, .ptr (.o 0) 0 0 0 0, .any, .ptr (.o 1) 0 0 0 0, .ptr (.o 2) 0 0 0 0, .int .i64 (↑(j + 1) : Int), .any, .any, .any, .any, .any, .any, .any, .any, .any, .any, .any, .any, .any, .any, .any, .any, .any, .any, .any, .any, .any, .any, .any, .any, .any] [(.o 0, .flat [.seg .u8 16 z16]), (.o 1, .flat [.seg .u8 16 L2]), (.o 2, .flat [.seg .u8 32 d])] 3 [], [decide ((↑j : Int) < (16 : Int)) = true, (0 : Int) ≤ (↑j : Int) ∧ (↑j : Int) < (32 : Int), (0 : Nat) + Int.toNat (↑j : Int) < (32 : Nat), (0 : Int) ≤ (↑j : Int) ∧ (↑j : Int) < (16 : Int), (0 : Nat) + Int.toNat (↑j : Int) < (16 : Nat), InR IntKind.i64 ((↑j : Int) + (1 : Int)), q (16 : Nat), q z16, q (16 : Nat), List.set L ((0 : Nat) + Int.toNat (↑j : Int)) (List.getD d ((0 : Nat) + Int.toNat (↑j : Int)) (0 : Int)) = L2, q (32 : Nat), q d, q0, q0, q0, q0, q0, q0, q0, q0, q0, (↑j : Int) + (1 : Int) = (↑(j + (1 : Nat)) : Int)]) : Option (Exit × St × List Prop)) := by kernel_rfl
theorem pcRg_p0 (d : List Int) (L : List Int) (j : Nat) (L2 : List Int) :
  alongPc Try.prog (pcRg d L j L2) [false] = (some (.exit 0, St.mk [.any, .any, .any, .any, .any, .any, .ptr (.o 0) 0 0 0 0, .any, .ptr (.o 1) 0 0 0 0, .ptr (.o 2) 0 0 0 0, .int .i64 16, .any, .any, .any, .any, .any, .any, .any, .any, .any, .any, .any, .any, .any, .any, .any, .any, .any, .any, .any, .any, .any, .any, .any, .any, .any] [(.o 0, .flat [.seg .u8 16 z16]), (.o 1, .flat [.seg .u8 16 L]), (.o 2, .flat [.seg .u8 32 d])] 3 [], [decide ((↑j : Int) < (16 : Int)) = false, q (16 : Nat), q z16, q (16 : Nat), q L, q (32 : Nat), q d, q0, q0, q0, q0, q0, q0, q0, q0, q0, (↑j : Int) = (16 : Int)]) : Option (Exit × St × List Prop)) := by kernel_rfl

theorem bdRk_p1 (s : ByteArray) (n : Int) (id : Int) (b : ByteArray) (t : List Int) (u : List Int) (e : Int) :
  along Try.prog (bdRk s n id b t u e) [true] = (some (.bool (decide (u = t)), [], [T Try.prog 64 [.agg [.str s, .int .i64 n], .int .i64 id, .str b] [] (.tup [.agg [.seg .u8 16 u], .int .i64 e]) [], decide (e = (0 : Int)) = true]) : Option (V × Heap × List Prop)) := by kernel_rfl
theorem bdRk_p0 (s : ByteArray) (n : Int) (id : Int) (b : ByteArray) (t : List Int) (u : List Int) (e : Int) :
  along Try.prog (bdRk s n id b t u e) [false] = (some (.bool false, [], [T Try.prog 64 [.agg [.str s, .int .i64 n], .int .i64 id, .str b] [] (.tup [.agg [.seg .u8 16 u], .int .i64 e]) [], decide (e = (0 : Int)) = false]) : Option (V × Heap × List Prop)) := by kernel_rfl

theorem T_pd {k : List Int} (hk : k.length ≤ 64) (x : Int) (m : Nat) : T Try.prog 98 [rb k, .int .u8 x] [] (obS m (padK k x)) [(.o m, obB (padK k x))] := by
 have hl : ∀ j, j ≤ 64 → ((padK k x).take j).length = j := fun j hj => by rw [List.length_take, padK_len]; omega
 have hL : RLoop Try.prog none 0 (cB (cB (cR (cL (cR (cR (cR (bodyOf Try.f98)))))))) (64 + 1) (pdI k x ((padK k x).take 0) 0) (.exit 0) (pdI k x ((padK k x).take 64) 64) := by
  have hstep : ∀ j, j < 64 → R Try.prog none 0 (cB (cB (cR (cL (cR (cR (cR (bodyOf Try.f98)))))))) (pdI k x ((padK k x).take j) j) .normal (pdI k x ((padK k x).take (j + 1)) (j + 1)) := by
   intro j hj
   have e1 := hl j (by omega)
   have e2 := hl (j + 1) (by omega)
   have hc := ctb ((padK k x).take j) (x8 (k.getD j 0) x)
   rw [← padK_take hj] at hc
   simp only [Nat.zero_add] at hc
   by_cases hjk : j < k.length
   ·refine R_alongPc NG MO _ (pcPd_p11 k x ((padK k x).take j) j ((padK k x).take (j + 1))) ?_ (Nat.zero_le _)
    simp only [All, Int.toNat_natCast, Nat.zero_add]; and_intros
    all_goals first
     | exact True.intro
     | (intro j hj; exact hc j hj)
     | (intro j hj; exact solb _ j hj)
     | (with_reducible assumption)
     | (rw [decide_eq_true_eq]; omega)
     | (rw [decide_eq_false_iff_not]; omega)
     | with_reducible rfl
     | (intro _ _; exact True.intro)
     | (intro _ _; with_reducible rfl)
     | (intro _ _; rfl)
     | (simp only [IntKind.min, IntKind.max, IntKind.signed, IntKind.bits, if_true]; omega)
     | omega
     | (intro h; exact h)
     | (intro h; cases h; done)
     | exact .inl rfl
     | exact .inl True.intro
     | exact .inr rfl
     | (simp; done)
   ·have e3 : k.getD j 0 = 0 := by rw [List.getD_eq_getElem?_getD, List.getElem?_eq_none (by omega)]; rfl
    rw [e3] at hc
    refine R_alongPc NG MO _ (pcPd_p10 k x ((padK k x).take j) j ((padK k x).take (j + 1))) ?_ (Nat.zero_le _)
    simp only [All, Int.toNat_natCast, Nat.zero_add]; and_intros
    all_goals first
     | exact True.intro
     | (intro j hj; exact hc j hj)
     | (intro j hj; exact solb _ j hj)
     | (with_reducible assumption)
     | (rw [decide_eq_true_eq]; omega)
     | (rw [decide_eq_false_iff_not]; omega)
     | with_reducible rfl
     | (intro _ _; exact True.intro)
     | (intro _ _; with_reducible rfl)
     | (intro _ _; rfl)
     | (simp only [IntKind.min, IntKind.max, IntKind.signed, IntKind.bits, if_true]; omega)
     | omega
     | (intro h; exact h)
     | (intro h; cases h; done)
     | exact .inl rfl
     | exact .inl True.intro
     | exact .inr rfl
     | (simp; done)
  have hend : R Try.prog none 0 (cB (cB (cR (cL (cR (cR (cR (bodyOf Try.f98)))))))) (pdI k x ((padK k x).take 64) 64) (.exit 0) (pdI k x ((padK k x).take 64) 64) := by
   refine R_alongPc NG MO _ (pcPd_p0 k x ((padK k x).take 64) 64 []) ?_ (Nat.zero_le _)
   simp only [All]; and_intros
   all_goals first
    | exact True.intro
    | (with_reducible assumption)
    | (rw [decide_eq_true_eq]; omega)
    | (rw [decide_eq_false_iff_not]; omega)
    | with_reducible rfl
    | (intro _ _; exact True.intro)
    | (intro _ _; with_reducible rfl)
    | (intro _ _; rfl)
    | (simp only [IntKind.min, IntKind.max, IntKind.signed, IntKind.bits, if_true]; omega)
    | omega
    | (intro h; exact h)
    | (intro h; cases h; done)
    | exact .inl rfl
    | exact .inl True.intro
    | exact .inr rfl
    | (simp; done)
  exact RLoop.inv (fun j => pdI k x ((padK k x).take j) j) 64 hstep hend (by simp)
 rw [List.take_zero, show (padK k x).take 64 = padK k x from List.take_of_length_le (by rw [padK_len]; omega)] at hL
 generalize padK k x = L at hL
 have h : T Try.prog 98 [rb k, .int .u8 x] [] (obS 0 L) [(.o 0, obB L)] := by
  refine T_al (bdPd_p0 k x L) Try.func98 ?_
  simp only [All]; and_intros
  all_goals first
   | exact True.intro
   | exact hL
   | (with_reducible assumption)
   | (rw [decide_eq_true_eq]; omega)
   | (rw [decide_eq_false_iff_not]; omega)
   | with_reducible rfl
   | (intro _ _; exact True.intro)
   | (intro _ _; with_reducible rfl)
   | (intro _ _; rfl)
   | (simp only [IntKind.min, IntKind.max, IntKind.signed, IntKind.bits, if_true]; omega)
   | omega
   | (intro h; exact h)
   | (intro h; cases h; done)
   | exact .inl rfl
   | exact .inl True.intro
   | exact .inr rfl
   | (simp; done)
 obtain ⟨σ, hσ, h3⟩ := T.at h [.o 0] [.o m] (by decide) (by simp) rfl
 simp only [List.map_cons, List.map_nil, List.cons.injEq, and_true] at hσ
 simpa [V.rens, V.ren, Heap.ren, Sy.B.ren, obS, obB, rb, hσ] using h3
theorem T_byA {d : List Int} (hd : d.length = 32) (m : Nat) : T Try.prog 99 [agD d] [] (obS m d) [(.o m, obB d)] := by
 obtain ⟨σ, hσ, h3⟩ := T.at (T_by hd) [.o 1] [.o m] (by decide) (by simp) rfl
 simp only [List.map_cons, List.map_nil, List.cons.injEq, and_true] at hσ
 simpa [V.rens, V.ren, Heap.ren, Sy.B.ren, obS, obB, agD, hσ] using h3
theorem T_duC (l : List Int) (hb : l.length ≤ 10000000000) {n : Nat} (hn : n = l.length) {f : Nat → List V} (hf : ∀ k, k < n → f k = ib l k) (a : Nat) : T Try.prog 97 [.sl (.o a) 1 0 0 0 n none] [(.o a, .rows 1 n f true)] (agD (shaV l)) [(.o a, .rows 1 n f true)] := by
 have h : T Try.prog 97 [.sl (.o 1) 1 0 0 0 n none] [(.o 1, .rows 1 n f true)] (agD (shaV l)) [(.o 1, .rows 1 n f true)] := by
  refine T.lendG (T_du l hb) rfl ?_ (FreeV.agg rfl) (by simp) (by rintro n ⟨b, hb⟩; cases hb)
  and_intros
  all_goals first
   | exact True.intro
   | (intro k hk; rw [Nat.zero_add]; exact hf k hk)
   | (with_reducible assumption)
   | (rw [decide_eq_true_eq]; omega)
   | (rw [decide_eq_false_iff_not]; omega)
   | with_reducible rfl
   | (intro _ _; exact True.intro)
   | (intro _ _; with_reducible rfl)
   | (intro _ _; rfl)
   | (simp only [IntKind.min, IntKind.max, IntKind.signed, IntKind.bits, if_true]; omega)
   | omega
   | (intro h; exact h)
   | (intro h; cases h; done)
   | exact .inl rfl
   | exact .inl True.intro
   | exact .inr rfl
   | (simp; done)
 obtain ⟨σ, hσ, h3⟩ := T.at h [.o 1] [.o a] (by decide) (by simp) rfl
 simp only [List.map_cons, List.map_nil, List.cons.injEq, and_true] at hσ
 simpa [V.rens, V.ren, Heap.ren, Sy.B.ren, agD, hσ] using h3
theorem T_mc {k b : List Int} (hk : k.length ≤ 64) (hb : b.length ≤ 1000000000) : T Try.prog 89 [rb k, rb b] [] (agD (macV k b)) [] := by
 have hl1 := padK_len k 54
 have hl2 := padK_len k 92
 have h1 := T_pd hk 54 128
 have h2 := T_duC (padK k 54 ++ b) (by rw [List.length_append]; omega) (n := (padK k 54).length + b.length) (by rw [List.length_append]) (f := catF (padK k 54).length (ib (padK k 54)) (ib b)) (fun k _ => by rw [ib_app]) 256
 have h3 := T_pd hk 92 576
 have h4 := T_byA (shaV_len (padK k 54 ++ b)) 704
 have hl3 := shaV_len (padK k 54 ++ b)
 generalize hd : shaV (padK k 54 ++ b) = d1 at h2 h4 hl3
 have h5 := T_duC (padK k 92 ++ d1) (by rw [List.length_append]; omega) (n := (padK k 92).length + d1.length) (by rw [List.length_append]) (f := catF (padK k 92).length (ib (padK k 92)) (fun k => [V.int IntKind.u8 (List.getD d1 (0 + k) 0)])) (fun k _ => by rw [ib_app]; simp only [Nat.zero_add]; rfl) 768
 have e : macV k b = shaV (padK k 92 ++ d1) := by rw [macV, hd]
 rw [e]
 generalize shaV (padK k 92 ++ d1) = d2 at h5
 generalize padK k 54 = p1 at *
 generalize padK k 92 = p2 at *
 refine T_al (bdMc_p k b p1 p2 d1 d2) Try.func89 ?_
 simp only [All]; and_intros
 all_goals first
  | exact True.intro
  | exact h1
  | exact h2
  | exact h3
  | exact h4
  | exact h5
  | (with_reducible assumption)
  | (rw [decide_eq_true_eq]; omega)
  | (rw [decide_eq_false_iff_not]; omega)
  | with_reducible rfl
  | (intro _ _; exact True.intro)
  | (intro _ _; with_reducible rfl)
  | (intro _ _; rfl)
  | (simp only [IntKind.min, IntKind.max, IntKind.signed, IntKind.bits, if_true]; omega)
  | omega
  | (intro h; exact h)
  | (intro h; cases h; done)
  | exact .inl rfl
  | exact .inl True.intro
  | exact .inr rfl
  | (simp; done)
theorem T_rz {s : ByteArray} (hs : s.size ≤ 1099511627776) (m : Nat) : T Try.prog 101 [.snil, .str s] [] (sb (.o m) (textB s)) [(.o m, bs (textB s))] := by
 have hz := num63_nat (n := s.size) (by omega)
 have e : textB s = putZ s.size ++ strB s := textB_eq s
 have h9 := putZ_len hz
 have hle : (putZ (s.size : Int)).length + s.size = (textB s).length := by rw [e, List.length_append (bs := strB s), strB_len]
 have h : T Try.prog 101 [.snil, .str s] [] (sb (.o 63) (textB s)) [(.o 63, bs (textB s))] := by
  refine T_al (bdRz_p s) Try.func101 ?_
  simp only [All]; and_intros
  all_goals first
   | exact T_rpNil hz
   | exact hle
   | omega
   | (rw [e, bl_append (putZ (s.size : Int)) (strB s)]; intro k _; rfl)
   | simp
 obtain ⟨σ, hσ, h3⟩ := T.at h [.o 63] [.o m] (by decide) (by simp) rfl
 simp only [List.map_cons, List.map_nil, List.cons.injEq, and_true] at hσ
 simpa [V.rens, V.ren, Heap.ren, Sy.B.ren, sb, bs, hσ] using h3
theorem ib_uI (l : List UInt8) (k : Nat) : bl l k = ib (uI l) k := by
 show [V.int .u8 ((l.getD k 0).toNat : Int)] = [V.int .u8 ((uI l).getD k 0)]
 rw [uI_get]
theorem T_ky {s : ByteArray} {n id : Int} (hs : s.size ≤ 1000) (hi : num63 id) (m : Nat) : T Try.prog 90 [kyV s n, .int .i64 id] [] (obS m (shaV (uI (textB s ++ putZ id)))) [(.o m, obB (shaV (uI (textB s ++ putZ id))))] := by
 have ht := textB_len (s := s) (by omega)
 have hp := putZ_len hi
 have h1 := T_rz (s := s) (by omega) 256
 have h2 := T_rp hi (l := textB s) (by omega) (a := 256) (m := 384) (by decide)
 have hll : (textB s ++ putZ id).length ≤ 2000 := by rw [List.length_append]; omega
 generalize textB s ++ putZ id = l2 at *
 generalize textB s = l1 at *
 have h3 := T_duC (uI l2) (by rw [uI_len]; omega) (n := l2.length) (by rw [uI_len]) (f := bl l2) (fun k _ => ib_uI l2 k) 384
 have h4 := T_byA (shaV_len (uI l2)) 512
 generalize shaV (uI l2) = d at *
 have h : T Try.prog 90 [kyV s n, .int .i64 id] [] (obS 512 d) [(.o 512, obB d)] := by
  refine T_al (bdKy_p s n id l1 l2 d) Try.func90 ?_
  simp only [All]; and_intros
  all_goals first
   | exact True.intro
   | exact h1
   | exact h2
   | exact h3
   | exact h4
   | (with_reducible assumption)
   | (rw [decide_eq_true_eq]; omega)
   | (rw [decide_eq_false_iff_not]; omega)
   | with_reducible rfl
   | (intro _ _; exact True.intro)
   | (intro _ _; with_reducible rfl)
   | (intro _ _; rfl)
   | (simp only [IntKind.min, IntKind.max, IntKind.signed, IntKind.bits, if_true]; omega)
   | omega
   | (intro h; exact h)
   | (intro h; cases h; done)
   | exact .inl rfl
   | exact .inl True.intro
   | exact .inr rfl
   | (simp; done)
 obtain ⟨σ, hσ, h3⟩ := T.at h [.o 512] [.o m] (by decide) (by simp) rfl
 simp only [List.map_cons, List.map_nil, List.cons.injEq, and_true] at hσ
 simpa [V.rens, V.ren, Heap.ren, Sy.B.ren, obS, obB, kyV, hσ] using h3
theorem T_mcL {k : List Int} (hk : k.length ≤ 64) {b : ByteArray} (hb : b.size ≤ 1000000000) (m : Nat) : T Try.prog 89 [obS m k, .ros 1 b.size (fun q => [V.int IntKind.u8 (byteAt b q)]) false] [(.o m, obB k)] (agD (macV k (bI b))) [(.o m, obB k)] := by
 have h : T Try.prog 89 [obS 1 k, .ros 1 b.size (fun q => [V.int IntKind.u8 (byteAt b q)]) false] [(.o 1, obB k)] (agD (macV k (bI b))) [(.o 1, obB k)] := by
  refine T.lendG (T_mc hk (b := bI b) (by rw [bI_len]; exact hb)) rfl ?_ (FreeV.agg rfl) (by simp) (by rintro n ⟨b, hb⟩; cases hb)
  and_intros
  all_goals first
   | exact True.intro
   | (exact (bI_len b).symm)
   | (intro k hk; rw [Nat.zero_add])
   | (intro k hk; show _ = [V.int .u8 ((bI b).getD k 0)]; rw [bI_get])
   | (with_reducible assumption)
   | (rw [decide_eq_true_eq]; omega)
   | (rw [decide_eq_false_iff_not]; omega)
   | with_reducible rfl
   | (intro _ _; exact True.intro)
   | (intro _ _; with_reducible rfl)
   | (intro _ _; rfl)
   | (simp only [IntKind.min, IntKind.max, IntKind.signed, IntKind.bits, if_true]; omega)
   | omega
   | (intro h; exact h)
   | (intro h; cases h; done)
   | exact .inl rfl
   | exact .inl True.intro
   | exact .inr rfl
   | (simp; done)
 obtain ⟨σ, hσ, h3⟩ := T.at h [.o 1] [.o m] (by decide) (by simp) rfl
 simp only [List.map_cons, List.map_nil, List.cons.injEq, and_true] at hσ
 simpa [V.rens, V.ren, Heap.ren, Sy.B.ren, agD, obS, obB, hσ] using h3
/-- A tag by the document, or why there is none. -/
def sgnV (s : ByteArray) (n id : Int) (b : ByteArray) : List Int := if 0 ≤ id ∧ id < n then tagV (textB s ++ putZ id) b else List.replicate 16 0
def sgnE (n id : Int) : Int := if 0 ≤ id ∧ id < n then 0 else 2
theorem T_rg {s : ByteArray} (hs : s.size ≤ 1000) {n id : Int} (hi : id < 9223372036854775808) {b : ByteArray} (hb : b.size ≤ 1000000000) : T Try.prog 64 [kyV s n, .int .i64 id, .str b] [] (.tup [.agg [.seg .u8 16 (sgnV s n id b)], .int .i64 (sgnE n id)]) [] := by
 by_cases h0 : id < 0
 ·rw [sgnV, sgnE, if_neg (by omega), if_neg (by omega)]
  refine T_al (bdRg_p11 s n id b [] [] []) Try.func64 ?_
  simp only [All]; and_intros
  all_goals first
   | exact True.intro
   | (with_reducible assumption)
   | (rw [decide_eq_true_eq]; omega)
   | (rw [decide_eq_false_iff_not]; omega)
   | with_reducible rfl
   | (intro _ _; exact True.intro)
   | (intro _ _; with_reducible rfl)
   | (intro _ _; rfl)
   | (simp only [IntKind.min, IntKind.max, IntKind.signed, IntKind.bits, if_true]; omega)
   | omega
   | (intro h; exact h)
   | (intro h; cases h; done)
   | exact .inl rfl
   | exact .inl True.intro
   | exact .inr rfl
   | (simp; done)
 ·by_cases h1 : n ≤ id
  ·rw [sgnV, sgnE, if_neg (by omega), if_neg (by omega)]
   refine T_al (bdRg_p01 s n id b [] [] []) Try.func64 ?_
   simp only [All]; and_intros
   all_goals first
    | exact True.intro
    | (with_reducible assumption)
    | (rw [decide_eq_true_eq]; omega)
    | (rw [decide_eq_false_iff_not]; omega)
    | with_reducible rfl
    | (intro _ _; exact True.intro)
    | (intro _ _; with_reducible rfl)
    | (intro _ _; rfl)
    | (simp only [IntKind.min, IntKind.max, IntKind.signed, IntKind.bits, if_true]; omega)
    | omega
    | (intro h; exact h)
    | (intro h; cases h; done)
    | exact .inl rfl
    | exact .inl True.intro
    | exact .inr rfl
    | (simp; done)
  ·rw [sgnV, sgnE, if_pos (by omega), if_pos (by omega)]
   have hky := T_ky (s := s) (n := n) (id := id) hs ⟨by omega, by omega⟩ 896
   have hkl := shaV_len (uI (textB s ++ putZ id))
   rw [tagV]
   generalize shaV (uI (textB s ++ putZ id)) = k at hky hkl
   have hmc := T_mcL (k := k) (by omega) hb 896
   have hml := macV_len k (bI b)
   generalize macV k (bI b) = d at hmc hml
   have hL : RLoop Try.prog none 0 (cB (cB (cR (cL (cR (cR (cR (cR (bodyOf Try.f64))))))))) (16 + 1) (sgI d (tagJ d 0) 0) (.exit 0) (sgI d (tagJ d 16) 16) := by
    have hstep : ∀ j, j < 16 → R Try.prog none 0 (cB (cB (cR (cL (cR (cR (cR (cR (bodyOf Try.f64))))))))) (sgI d (tagJ d j) j) .normal (sgI d (tagJ d (j + 1)) (j + 1)) := by
     intro j hj
     have e := tagJ_set d hj
     refine R_alongPc NG MO _ (pcRg_p1 d (tagJ d j) j (tagJ d (j + 1))) ?_ (Nat.zero_le _)
     simp only [All, Int.toNat_natCast, Nat.zero_add]; and_intros
     all_goals first
      | exact True.intro
      | exact e
      | (with_reducible assumption)
      | (rw [decide_eq_true_eq]; omega)
      | (rw [decide_eq_false_iff_not]; omega)
      | with_reducible rfl
      | (intro _ _; exact True.intro)
      | (intro _ _; with_reducible rfl)
      | (intro _ _; rfl)
      | (simp only [IntKind.min, IntKind.max, IntKind.signed, IntKind.bits, if_true]; omega)
      | omega
      | (intro h; exact h)
      | (intro h; cases h; done)
      | exact .inl rfl
      | exact .inl True.intro
      | exact .inr rfl
      | (simp; done)
    have hend : R Try.prog none 0 (cB (cB (cR (cL (cR (cR (cR (cR (bodyOf Try.f64))))))))) (sgI d (tagJ d 16) 16) (.exit 0) (sgI d (tagJ d 16) 16) := by
     refine R_alongPc NG MO _ (pcRg_p0 d (tagJ d 16) 16 []) ?_ (Nat.zero_le _)
     simp only [All]; and_intros
     all_goals first
      | exact True.intro
      | (with_reducible assumption)
      | (rw [decide_eq_true_eq]; omega)
      | (rw [decide_eq_false_iff_not]; omega)
      | with_reducible rfl
      | (intro _ _; exact True.intro)
      | (intro _ _; with_reducible rfl)
      | (intro _ _; rfl)
      | (simp only [IntKind.min, IntKind.max, IntKind.signed, IntKind.bits, if_true]; omega)
      | omega
      | (intro h; exact h)
      | (intro h; cases h; done)
      | exact .inl rfl
      | exact .inl True.intro
      | exact .inr rfl
      | (simp; done)
    exact RLoop.inv (fun j => sgI d (tagJ d j) j) 16 hstep hend (by simp)
   rw [tagJ_zero, tagJ_end] at hL
   generalize tagL d = t at hL
   refine T_al (bdRg_p00 s n id b k d t) Try.func64 ?_
   simp only [All]; and_intros
   all_goals first
    | exact True.intro
    | exact hky
    | exact hmc
    | exact hL
    | (with_reducible assumption)
    | (rw [decide_eq_true_eq]; omega)
    | (rw [decide_eq_false_iff_not]; omega)
    | with_reducible rfl
    | (intro _ _; exact True.intro)
    | (intro _ _; with_reducible rfl)
    | (intro _ _; rfl)
    | (simp only [IntKind.min, IntKind.max, IntKind.signed, IntKind.bits, if_true]; omega)
    | omega
    | (intro h; exact h)
    | (intro h; cases h; done)
    | exact .inl rfl
    | exact .inl True.intro
    | exact .inr rfl
    | (simp; done)
/-- Is a tag an identity's of a body? -/
def chkB (s : ByteArray) (n id : Int) (b : ByteArray) (t : List Int) : Bool := decide (0 ≤ id ∧ id < n) && decide (tagV (textB s ++ putZ id) b = t)
theorem T_rk {s : ByteArray} (hs : s.size ≤ 1000) {n id : Int} (hi : id < 9223372036854775808) {b : ByteArray} (hb : b.size ≤ 1000000000) (t : List Int) : T Try.prog 53 [kyV s n, .int .i64 id, .str b, .agg [.seg .u8 16 t]] [] (.bool (chkB s n id b t)) [] := by
 have h := T_rg hs (n := n) hi hb
 by_cases h0 : 0 ≤ id ∧ id < n
 ·have e : chkB s n id b t = decide (sgnV s n id b = t) := by rw [chkB, decide_eq_true h0, Bool.true_and, sgnV, if_pos h0]
  have e2 : sgnE n id = 0 := by rw [sgnE, if_pos h0]
  rw [e]
  generalize sgnV s n id b = u at *
  refine T_al (bdRk_p1 s n id b t u (sgnE n id)) Try.func53 ?_
  simp only [All]; and_intros
  all_goals first
   | exact True.intro
   | exact h
   | (with_reducible assumption)
   | (rw [decide_eq_true_eq]; omega)
   | (rw [decide_eq_false_iff_not]; omega)
   | with_reducible rfl
   | (intro _ _; exact True.intro)
   | (intro _ _; with_reducible rfl)
   | (intro _ _; rfl)
   | (simp only [IntKind.min, IntKind.max, IntKind.signed, IntKind.bits, if_true]; omega)
   | omega
   | (intro h; exact h)
   | (intro h; cases h; done)
   | exact .inl rfl
   | exact .inl True.intro
   | exact .inr rfl
   | (simp; done)
 ·have e : chkB s n id b t = false := by rw [chkB, decide_eq_false h0, Bool.false_and]
  have e2 : sgnE n id = 2 := by rw [sgnE, if_neg h0]
  rw [e]
  generalize sgnV s n id b = u at *
  refine T_al (bdRk_p0 s n id b t u (sgnE n id)) Try.func53 ?_
  simp only [All]; and_intros
  all_goals first
   | exact True.intro
   | exact h
   | (with_reducible assumption)
   | (rw [decide_eq_true_eq]; omega)
   | (rw [decide_eq_false_iff_not]; omega)
   | with_reducible rfl
   | (intro _ _; exact True.intro)
   | (intro _ _; with_reducible rfl)
   | (intro _ _; rfl)
   | (simp only [IntKind.min, IntKind.max, IntKind.signed, IntKind.bits, if_true]; omega)
   | omega
   | (intro h; exact h)
   | (intro h; cases h; done)
   | exact .inl rfl
   | exact .inl True.intro
   | exact .inr rfl
   | (simp; done)
end Go.Proofs.Ytpallipnhmoipaa
namespace Sy
open Go
variable {P : Program} {U : Imm} {ρ : Env}
theorem frz_ok {pre : Heap} {w : World} (hh : HRel U ρ pre w) : U.le (freeze U ρ pre w) ∧ Frozen U (freeze U ρ pre w) ρ pre ∧ HRel (freeze U ρ pre w) ρ [] w := by
 have hfU : ∀ n b l, (n, b) ∈ pre → ρ n = some l → l.real = true → U l.blk = none := fun n b l hm e hr => by
  obtain ⟨_, _, _, h⟩ := hh.real hm e hr; exact h
 refine ⟨fun k c e => ?_, fun n b hm l e hr => ?_, ?_⟩
 ·unfold freeze
  split
  ·rename_i hx
   obtain ⟨n, b, l, h1, h2, h3, rfl⟩ := hx
   rw [hfU n b l h1 h2 h3] at e; cases e
  ·exact e
 ·have hex : ∃ n b l', (n, b) ∈ pre ∧ ρ n = some l' ∧ l'.real = true ∧ l'.blk = l.blk := ⟨n, b, l, hm, e, hr, rfl⟩
  obtain ⟨o, h1, h2, h3⟩ := hh.real hm e hr
  constructor
  ·rintro cs rfl
   obtain ⟨c, el, lo, hi, rfl, _, _, h4⟩ := h2
   exact ⟨c, by unfold freeze; rw [if_pos hex, h1], h4⟩
  ·rintro es m f g rfl
   obtain ⟨c, el, lo, hi, rfl, _, _, _, _, h4⟩ := h2
   exact ⟨c, by unfold freeze; rw [if_pos hex, h1], h4⟩
 ·refine ⟨fun n b hm => absurd hm List.not_mem_nil, fun n b n' b' l l' hm => absurd hm List.not_mem_nil, List.nodup_nil, fun k c hk => ?_⟩
  unfold freeze at hk
  split at hk
  ·split at hk
   ·rename_i c' el fr hx
    simp only [Option.some.injEq] at hk; subst hk
    exact ⟨el, fr, hx⟩
   ·cases hk
  ·exact hh.imm k c hk
theorem Leaves.frz {pre post : Heap} {w w' : World} {val : V} {x : Value} {U' : Imm} {ρ' : Env} (H : HRel U ρ pre w) (L : Leaves (freeze U ρ pre w) ρ [] w val post x U' ρ' w') : Leaves U ρ pre w val post x U' ρ' w' := by
 refine ⟨L.val, L.heap, L.keep, L.only, ⟨L.ext.size, Imm.le_trans (frz_ok H).1 L.ext.imm, fun b hb _ => L.ext.frame b hb fun n l ⟨b, hb⟩ => absurd hb List.not_mem_nil, fun n l hd e hr => ?_, fun b c e => ?_, L.ext.out⟩⟩
 ·rcases L.ext.new n l hd e hr with h | ⟨_, _, ⟨b, hb⟩, _⟩
  ·exact .inl h
  ·exact absurd hb List.not_mem_nil
 ·rcases L.ext.newImm b c e with h | h | ⟨_, _, ⟨b, hb⟩, _⟩
  ·unfold freeze at h
   split at h
   ·rename_i hx
    obtain ⟨n, b', l, h1, h2, h3, h4⟩ := hx
    exact .inr (.inr ⟨n, l, ⟨b', h1⟩, h2, h3, h4⟩)
   ·exact .inl h
  ·exact .inr (.inl h)
  ·exact absurd hb List.not_mem_nil
/-- What holds of values that can't be turned holds of such as nobody turns any more. -/
theorem T.frz {f : FuncId} {args args' : List V} {pre post : Heap} {val : V} (h : T P f args [] val post)
  (hw : ∀ U ρ w xs, HRel U ρ pre w → VsRel U ρ args' xs → VsRel (freeze U ρ pre w) ρ args xs) (hd : ∀ n, Heap.dom post n → ¬ Heap.dom pre n) : T P f args' pre val post := by
 intro U ρ w xs hh ha hf
 refine Calls.mono (h _ ρ w xs (frz_ok hh).2.2 (hw U ρ w _ hh ha) fun n hn => .inr ((hf n hn).resolve_left (hd n hn))) ?_
 rintro e w' ⟨x, U', ρ', he, L⟩
 exact ⟨x, U', ρ', he, Leaves.frz hh L⟩
theorem TO.frz {pr : Prim} {args args' : List V} {pre post : Heap} {val : V} (h : TO P pr args [] val post)
  (hw : ∀ U ρ w xs, HRel U ρ pre w → VsRel U ρ args' xs → VsRel (freeze U ρ pre w) ρ args xs) (hd : ∀ n, Heap.dom post n → ¬ Heap.dom pre n) : TO P pr args' pre val post := by
 intro ty U ρ w xs hh ha hf
 obtain ⟨x, w', U', ρ', he, L⟩ := h ty _ ρ w xs (frz_ok hh).2.2 (hw U ρ w _ hh ha) fun n hn => .inr ((hf n hn).resolve_left (hd n hn))
 exact ⟨x, w', U', ρ', he, Leaves.frz hh L⟩
theorem frzH_ok {pre0 pre1 : Heap} {w : World} (hh : HRel U ρ (pre0 ++ pre1) w) : HRel (freeze U ρ pre1 w) ρ pre0 w := by
 have hl := hh.left
 obtain ⟨hU, hF, h00⟩ := frz_ok hh.right
 refine ⟨fun n b hm => ?_, hl.inj, hl.nd, h00.imm⟩
 obtain ⟨l, g1, g2⟩ := hl.blk n b hm
 refine ⟨l, g1, ?_⟩
 rcases g2 with ⟨hre, o, g3, g4, g5⟩ | g2
 ·refine .inl ⟨hre, o, g3, BRel.mono hU (fun _ _ h => h) g4, ?_⟩
  unfold freeze
  rw [if_neg]
  ·exact g5
  ·rintro ⟨n1, b1, l1, k1, k2, k3, k4⟩
   have := hh.inj n b n1 b1 l l1 (List.mem_append_left _ hm) (List.mem_append_right _ k1) g1 k2 hre k3 k4.symm
   subst this
   have hnd := hh.nd
   rw [List.map_append, List.nodup_append] at hnd
   exact hnd.2.2 n (dom_map.1 ⟨b, hm⟩) n (dom_map.1 ⟨b1, k1⟩) rfl
 ·exact .inr g2
theorem Leaves.frzH {pre0 pre1 post : Heap} {w w' : World} {val : V} {x : Value} {U' : Imm} {ρ' : Env} (H : HRel U ρ (pre0 ++ pre1) w) (L : Leaves (freeze U ρ pre1 w) ρ pre0 w val post x U' ρ' w') : Leaves U ρ (pre0 ++ pre1) w val post x U' ρ' w' := by
 refine ⟨L.val, L.heap, L.keep, L.only, ⟨L.ext.size, Imm.le_trans (frz_ok H.right).1 L.ext.imm, fun b hb hn => L.ext.frame b hb fun n l hd0 => hn n l (dom_append.2 (.inl hd0)), fun n l hd0 e hr0 => ?_, fun b c e => ?_, L.ext.out⟩⟩
 ·rcases L.ext.new n l hd0 e hr0 with h | ⟨n0, l0, h1, h2, h3, h4⟩
  ·exact .inl h
  ·exact .inr ⟨n0, l0, dom_append.2 (.inl h1), h2, h3, h4⟩
 ·rcases L.ext.newImm b c e with h | h | ⟨n0, l0, h1, h2, h3, h4⟩
  ·unfold freeze at h
   split at h
   ·rename_i hx
    obtain ⟨n, b', l, h1, h2, h3, h4⟩ := hx
    exact .inr (.inr ⟨n, l, dom_append.2 (.inr ⟨b', h1⟩), h2, h3, h4⟩)
   ·exact .inl h
  ·exact .inr (.inl h)
  ·exact .inr (.inr ⟨n0, l0, dom_append.2 (.inl h1), h2, h3, h4⟩)
/-- The same, of a call that turns other blocks. -/
theorem T.frzH {f : FuncId} {args args' : List V} {pre0 pre1 post : Heap} {val : V} (h : T P f args pre0 val post)
  (hw : ∀ U ρ w xs, HRel U ρ pre1 w → VsRel U ρ args' xs → VsRel (freeze U ρ pre1 w) ρ args xs) (hd : ∀ n, Heap.dom post n → ¬ Heap.dom pre1 n) : T P f args' (pre0 ++ pre1) val post := by
 intro U ρ w xs hh ha hf
 refine Calls.mono (h _ ρ w xs (frzH_ok hh) (hw U ρ w _ hh.right ha) fun n hn => ?_) ?_
 ·rcases hf n hn with h1 | h1
  ·exact .inl ((dom_append.1 h1).resolve_right (hd n hn))
  ·exact .inr h1
 rintro e w' ⟨x, U', ρ', he, L⟩
 exact ⟨x, U', ρ', he, Leaves.frzH hh L⟩
theorem TO.frzH {pr : Prim} {args args' : List V} {pre0 pre1 post : Heap} {val : V} (h : TO P pr args pre0 val post)
  (hw : ∀ U ρ w xs, HRel U ρ pre1 w → VsRel U ρ args' xs → VsRel (freeze U ρ pre1 w) ρ args xs) (hd : ∀ n, Heap.dom post n → ¬ Heap.dom pre1 n) : TO P pr args' (pre0 ++ pre1) val post := by
 intro ty U ρ w xs hh ha hf
 obtain ⟨x, w', U', ρ', he, L⟩ := h ty _ ρ w xs (frzH_ok hh) (hw U ρ w _ hh.right ha) fun n hn => by
  rcases hf n hn with h1 | h1
  ·exact .inl ((dom_append.1 h1).resolve_right (hd n hn))
  ·exact .inr h1
 exact ⟨x, w', U', ρ', he, Leaves.frzH hh L⟩
/-- Arguments that are taken for weaker ones, as blocks are only looked at from then on. -/
theorem hw_of {pre : Heap} {args args' : List V} {cs : List Prop} (hl : leVs pre args' args = some cs) (hc : All cs) : ∀ U ρ w xs, HRel U ρ pre w → VsRel U ρ args' xs → VsRel (freeze U ρ pre w) ρ args xs :=
 fun _ _ _ xs H hv => leVs_ok (frz_ok H).1 (frz_ok H).2.1 _ _ _ xs hl hc hv
theorem T_two {u v : V} {xs : List Value} (h : VsRel U ρ [u, v] xs) : ∃ x y, xs = [x, y] ∧ VRel U ρ u x ∧ VRel U ρ v y := by
 rw [VsRel] at h
 obtain ⟨x, r, rfl, h1, h2⟩ := h
 rw [VsRel] at h2
 obtain ⟨y, r', rfl, h3, h4⟩ := h2
 rw [VsRel] at h4
 subst h4
 exact ⟨x, y, rfl, h1, h3⟩
theorem CsRel.at {cs : List V} {l : List Value} (h : CsRel U ρ cs l) (hc : ∀ v ∈ cs, V.cell v = true) : ∀ (i : Nat) (v : V), cs[i]? = some v → ∃ z : Value, l[i]? = some z ∧ VRel U ρ v z := by
 induction cs generalizing l with
 | nil => intro i v e; simp at e
 | cons a t ih =>
  rw [CsRel] at h
  obtain ⟨l1, l2, rfl, h1, h2⟩ := h
  have ha := hc a (List.mem_cons_self ..)
  rcases h1 with ⟨k, m, xs, rfl, _⟩ | ⟨_, x, rfl, hx⟩
  ·cases ha
  ·intro i v e
   cases i with
   | zero => simp only [List.getElem?_cons_zero, Option.some.injEq] at e; subst e; exact ⟨x, rfl, hx⟩
   | succ i => exact ih h2 (fun v hv => hc v (List.mem_cons_of_mem _ hv)) i v (by simpa using e)
/-- A slice of a block of values, taken for good. -/
theorem ros_of_flat {pre : Heap} {w : World} (H : HRel U ρ pre w) {x : Nm} {cs : List V} (hm : (x, B.flat cs) ∈ pre) {len : Nat} {cap : Option Nat} {y : Value} (hv : VRel U ρ (.sl x 0 0 0 0 len cap) y) {f : Nat → V} {clip : Bool} (hcl : clip = true → cap = some len)
  (hone : ∀ v ∈ cs, V.cell v = true) (h : ∀ i, i < len → V.cell (f i) = true ∧ ∃ v, cs[i]? = some v ∧ ∀ z, VRel U ρ v z → VRel (freeze U ρ pre w) Env.none (f i) z) : VRel (freeze U ρ pre w) ρ (.ros 1 len (fun i => [f i]) clip) y := by
 obtain ⟨l, hl, g⟩ := H.blk x _ hm
 rcases g with ⟨hr, o, g1, g2, g3⟩ | ⟨_, es, f', g⟩
 ·obtain ⟨c, hc, h4⟩ := ((frz_ok H).2.1 x _ hm l hl hr).1 cs rfl
  rw [VRel] at hv
  obtain ⟨l', cp, e1, e2, e3, e4⟩ := hv
  rw [hl] at e1; cases e1
  rcases e4 with ⟨_, rfl, _⟩ | ⟨hr', _⟩
  ·rw [VRel]
   refine ⟨_, cp, rfl, e2, fun hc => e3 len (hcl hc), fun i hi => ⟨l.blk, 0, c, by simp, hc, ?_⟩⟩
   obtain ⟨k1, v, k2, k3⟩ := h i hi
   obtain ⟨z, k4, k5⟩ := CsRel.at h4 hone i v k2
   refine ⟨[z], ?_, rfl, fun k hk => ?_⟩
   ·rw [CsRel]; exact ⟨[z], [], rfl, .inr ⟨k1, z, rfl, k3 z k5⟩, by rw [CsRel]⟩
   ·have : k = 0 := by simpa using hk
    subst this
    simpa using k4
  ·rw [hr] at hr'; cases hr'
 ·cases g
/-- A slice of a block's bytes, taken for good. -/
theorem ros_of_seg {pre : Heap} {w : World} (H : HRel U ρ pre w) {b : Nm} {k : IntKind} {m : Nat} {xs : List Int} (hm : (b, B.flat [.seg k m xs]) ∈ pre) {len : Nat} {cap : Option Nat} {z : Value} (hv : VRel U ρ (.sl b 0 0 0 0 len cap) z)
  (hlen : len ≤ m) {f : Nat → List V} (hf : ∀ i, i < len → f i = [.int k (xs.getD i 0)]) {ρ' : Env} : VRel (freeze U ρ pre w) ρ' (.ros 1 len f false) z := by
 obtain ⟨l, hl, g⟩ := H.blk b _ hm
 rcases g with ⟨hr, o, g1, g2, g3⟩ | ⟨_, es, f', g⟩
 ·obtain ⟨c, hc, h4⟩ := ((frz_ok H).2.1 b _ hm l hl hr).1 _ rfl
  rw [VRel] at hv
  obtain ⟨l', cp, e1, e2, e3, e4⟩ := hv
  rw [hl] at e1; cases e1
  rcases e4 with ⟨_, rfl, _⟩ | ⟨hr', _⟩
  ·rw [CsRel] at h4
   obtain ⟨l1, l2, h5, h6, h7⟩ := h4
   rw [CsRel] at h7
   subst h7
   rcases h6 with ⟨k', m', xs', hk, hlx, rfl⟩ | ⟨hx, _⟩
   ·cases hk
    rw [VRel]
    refine ⟨_, cp, rfl, e2, fun hh => absurd hh (by simp), fun i hi => ⟨l.blk, 0, c, by simp, hc, ?_⟩⟩
    rw [hf i hi]
    refine ⟨[.int k (xs.getD i 0)], ?_, rfl, fun j hj => ?_⟩
    ·rw [CsRel]; exact ⟨[.int k (xs.getD i 0)], [], rfl, .inr ⟨rfl, _, rfl, by rw [VRel]⟩, by rw [CsRel]⟩
    ·have : j = 0 := by simpa using hj
     subst this
     have hi' : i < xs.length := by omega
     have e : c[i]? = c.toList[i]? := by simp
     simp only [Nat.zero_add, Nat.mul_one, Nat.add_zero, List.getElem?_cons_zero]
     rw [e, h5, List.append_nil, List.getElem?_map, List.getElem?_eq_getElem hi', List.getD_eq_getElem?_getD, List.getElem?_eq_getElem hi']
     rfl
   ·cases hx
  ·rw [hr] at hr'; cases hr'
 ·cases g
theorem TO_app {base : Nat} {t tx : TypeId} {d s val : V} {post : Heap} {cs : List Prop} (h : appendH P base t tx d s [] [] = some (val, post, cs)) (hc : All cs) (hn : ∀ ρ : Env, (∀ n, Heap.dom post n → ρ n = none) → ρ (.o base) = none) :
  TO P (.append t tx) [d, s] [] val post := by
 intro ty U ρ w xs H hv hf
 obtain ⟨x, y, rfl, h1, h2⟩ := T_two hv
 obtain ⟨z, w', U', ρ', e, L⟩ := appendH_ok (ty := ty) h hc h1 h2 H (hn ρ fun n hn => (hf n hn).resolve_left fun ⟨b, hb⟩ => absurd hb List.not_mem_nil)
 exact ⟨z, w', U', ρ', .inl (by simp only [Prim.exec, Sem.run_bind, e, Result.andThen_ok, Sem.run_pure]), L⟩
theorem TO_cpy {t tx : TypeId} {d s val : V} {pre post : Heap} {cs : List Prop} (h : copyH P t d s pre = some (val, post, cs)) (hc : All cs) : TO P (.copy t tx) [d, s] pre val post := by
 intro ty U ρ w xs H hv hf
 obtain ⟨x, y, rfl, h1, h2⟩ := T_two hv
 obtain ⟨z, w', U', ρ', e, L⟩ := copyH_ok (tx := tx) (ty := ty) h hc h1 h2 H
 exact ⟨z, w', U', ρ', .inl (by simp only [Prim.exec, Sem.run_bind, e, Result.andThen_ok, Sem.run_pure]), L⟩
theorem VRel.ros {U U' : Imm} {ρ ρ' : Env} (hU : U.le U') {es len : Nat} {f : Nat → List V} {clip : Bool} {z : Value} (h : VRel U ρ (.ros es len f clip) z) : VRel U' ρ' (.ros es len f clip) z := by
 have := VRel.mono (ρ' := ρ) hU (fun _ _ h => h) h
 rw [VRel] at this ⊢; exact this
end Sy
namespace Go.Proofs.Ytpallipnhmoipaa
open Go Sy Go.Proofs
def msI (x : Int) (K : List Int) (ls : Nat → List Int) (L : List Int) (j : Nat) : St := ⟨mkT 24 [(0, .int .u8 x), (1, rbs 1 ls), (5, p0 2), (6, p0 1), (9, .int .i64 (j : Nat))], [(.o 0, .flat [.seg .u8 64 K]), (.o 1, .flat [.seg .u8 64 L]), (.o 2, .flat [.seg .u8 32 z32L])], 3, []⟩
def apF (xs : List Int) (g : Nat → List V) : Nat → List V := catF 1 (fun _ => [rb xs]) g
def apP : Prim → List V → Heap → Nat → List Cl := fun pr vs h lo => match pr with
 | .append _ _ => match vs with
  | [.sl y _ _ _ _ _ _, .ros _ n g _] => match pull y h with
   | some (.flat [.sl b _ _ _ _ _ _], _) => match pull b h with
    | some (.flat [.seg _ _ xs], _) => [{ pre := [y, b], val := .sl (.o lo) 1 0 0 0 (1 + n) none, post := [(.o lo, .rows 1 (1 + n) (apF xs g) true)] }]
    | _ => []
   | _ => []
  | _ => []
 | _ => []
def suC (d : List Int) : List V → Heap → Nat → List Cl := fun a _ _ => match a with
 | [.sl y _ _ _ _ _ _] => [{ pre := [y], val := agD d }]
 | _ => []
noncomputable def bdMs (x : Int) (K : List Int) (ls : Nat → List Int) (L d : List Int) : Bd := { f := Try.f69, args := [.int .u8 x, rbs 1 ls, p0 0], pre := [(.o 0, .flat [.seg .u8 64 K])], base := 1, kb := { db := dbQ [(54, suC d)], pr := apP, lp := fun _ t => [(True, .loop (64 + 1) (wToS [(.o 1, nmV (getV t.tmps 6)), (.o 2, nmV (getV t.tmps 5))] (msI x K ls K 0)) (.exit 0) (msI x K ls L 64))] }, names := fun _ => [.o 0] }
noncomputable def pcMs (x : Int) (K : List Int) (ls : Nat → List Int) (L : List Int) (j : Nat) (L2 : List Int) : Pc := { c := cB (cB (cR (cL (cR (cR (bodyOf Try.f69)))))), st := msI x K ls L j, p := 1, kb := kb0, k := fun x_ _ => match x_ with
 | .normal => some (wTo (msI x K ls L2 (j + 1)))
 | _ => some (wTo (msI x K ls L 64)) }
def maC (d1 d2 : List Int) : List V → Heap → Nat → List Cl := fun a h _ => match a with
 | [.int _ 54, _, .ptr n _ _ _ _] => [{ rd := [n], val := agD d1 }]
 | [.int _ 92, .sl y _ _ _ _ _ _, .ptr n _ _ _ _] => match pull y h with
  | some (.flat [.sl b _ _ _ _ _ _], _) => match pull n h with
   | some (blk, _) => [{ pre := [n, y, b], val := agD d2, post := [(n, blk)] }]
   | none => []
  | _ => []
 | _ => []
noncomputable def bdMa (k : List Int) (ls : Nat → List Int) (d1 d2 : List Int) : Bd := { f := Try.f57, args := [rb k, rbs 1 ls], kb := { db := dbQ [(69, maC d1 d2)] } }
def kyB (s : ByteArray) (n : Int) : B := .flat [.str s, .int .i64 n]
noncomputable def bdLe (s : ByteArray) (n : Int) : Bd := { f := Try.f51, args := [p0 0], pre := [(.o 0, kyB s n)], base := 1, kb := kb0, names := fun _ => [.o 0] }
noncomputable def bdLn : Bd := { f := Try.f51, args := [.pnil], kb := kb0 }
noncomputable def bdDe (s : ByteArray) (n : Int) : Bd := { f := Try.f39, args := [.str s, .int .i64 n], kb := kb0, names := fun t => match getV t.tmps 4 with | .ptr a _ _ _ _ => [a] | _ => [] }
noncomputable def bdRe (s : ByteArray) (n : Int) : Bd := { f := Try.f40, args := [.str s, .int .i64 n], kb := kb0 }
noncomputable def bdTz (s : ByteArray) : Bd := { f := Try.f55, args := [.snil, .str s], base := 1, kb := { db := fun k a _ lo => bif Nat.beq k 56 then cNew (putZ s.size) a lo else [] }, k := kSb 4 63 (textB s), names := fun _ => [.o 63] }
def sgS (kd m : List Int) : Nat → List V → Heap → Nat → List Cl := dbQ [
 (54, fun a h _ => match a with
  | [.sl y _ _ _ _ _ _] => match pull y h with
   | some (.flat [.sl b _ _ _ _ _ _, .sl c _ _ _ _ _ _], _) => [{ pre := [y, b, c], val := agD kd }]
   | _ => []
  | _ => []),
 (57, fun a _ _ => match a with
  | [.sl y _ _ _ _ _ _, .sl b _ _ _ _ _ _] => [{ pre := [y, b], val := agD m }]
  | _ => [])]
def cpP (t : List Int) : Prim → List V → Heap → Nat → List Cl := fun pr vs _ _ => match pr with
 | .copy _ _ => match vs with
  | [.sl a _ _ _ _ _ _, .sl b _ _ _ _ _ _] => [{ pre := [a, b], val := .int .i64 16, post := [(a, .flat [.seg .u8 16 t])] }]
  | _ => []
 | _ => []
noncomputable def bdSg (s : ByteArray) (n id : Int) (b : ByteArray) (l1 l2 : List UInt8) (kd m t : List Int) : Bd := { f := Try.f43, args := [p0 0, .int .i64 id, .str b], pre := [(.o 0, kyB s n)], base := 1, kb := { db := fun k a h lo => bif Nat.beq k 51 then [{ rd := [.o 0], val := .int .i64 n }] else bif Nat.beq k 55 then ubC l1 a h lo else bif Nat.beq k 56 then ubC l2 a h lo else sgS kd m k a h lo, pr := cpP t }, names := fun _ => [.o 0] }
noncomputable def bdCk (s : ByteArray) (n id : Int) (b : ByteArray) (t u : List Int) (e : Int) : Bd := { f := Try.f52, args := [p0 0, .int .i64 id, .str b, .agg [.seg .u8 16 t]], pre := [(.o 0, kyB s n)], base := 1, kb := { db := fun k _ _ _ => bif Nat.beq k 43 then [{ rd := [.o 0], val := .tup [.agg [.seg .u8 16 u], .int .i64 e] }] else [] }, names := fun _ => [.o 0] }
end Go.Proofs.Ytpallipnhmoipaa
namespace Go.Proofs.Ytpallipnhmoipaa
open Go Sy Go.Proofs
theorem bdMs_p (x : Int) (K : List Int) (ls : Nat → List Int) (L : List Int) (d : List Int) :
  along Try.prog (bdMs x K ls L d) [] = (some (.agg [.seg .u8 32 d], [(.o 0, .flat [.seg .u8 64 K])], [RLoop Try.prog none 1 (cB (cB (cR (cL (cR (cR (bodyOf (Bd.f (bdMs x K ls L d))))))))) 65 (St.mk [.int .u8 x, .ros 1 1 (fun k => [.ros 1 (List.length (ls k)) (ib (ls k)) false]) false, .any, .any, .any, .ptr (.o 2) 0 0 0 0, .ptr (.o 1) 0 0 0 0, .any, .any, .int .i64 0, .any, .any, .any, .any, .any, .any, .any, .any, .any, .any, .any, .any, .any, .any] [(.o 0, .flat [.seg .u8 64 K]), (.o 1, .flat [.seg .u8 64 K]), (.o 2, .flat [.seg .u8 32 z32L])] 3 []) (.exit 0) (St.mk [.int .u8 x, .ros 1 1 (fun k => [.ros 1 (List.length (ls k)) (ib (ls k)) false]) false, .any, .any, .any, .ptr (.o 2) 0 0 0 0, .ptr (.o 1) 0 0 0 0, .any, .any, .int .i64 64, .any, .any, .any, .any, .any, .any, .any, .any, .any, .any, .any, .any, .any, .any] [(.o 0, .flat [.seg .u8 64 K]), (.o 1, .flat [.seg .u8 64 L]), (.o 2, .flat [.seg .u8 32 z32L])] 3 []), q (64 : Nat), q K, q (64 : Nat), q K, q (32 : Nat), z32 = z32L, q x, q (1 : Nat), ∀ (k : Nat), k < (1 : Nat) → [V.ros (1 : Nat) (List.length (ls k)) (ib (ls k)) false] = [V.ros (1 : Nat) (List.length (ls k)) (ib (ls k)) false], false = true → false = true, q0, q0, q0, q0, q0, q0, q1, TO Try.prog (Prim.append (114 : Nat) (114 : Nat)) [V.sl (Nm.o (nat_lit 67)) (0 : Nat) (0 : Nat) (0 : Nat) (0 : Nat) (1 : Nat) (some (1 : Nat)), V.ros (1 : Nat) (1 : Nat) (fun k => [V.ros (1 : Nat) (List.length (ls k)) (ib (ls k)) false]) false] [(Nm.o (nat_lit 67), B.flat [V.sl (Nm.o (1 : Nat)) (0 : Nat) (0 : Nat) (0 : Nat) (nat_lit 0) (nat_lit 64) (some (nat_lit 64))]), (Nm.o (1 : Nat), B.flat [V.seg IntKind.u8 (64 : Nat) L])] (V.sl (Nm.o (nat_lit 195)) (1 : Nat) (0 : Nat) (0 : Nat) (0 : Nat) (nat_lit 2) none) [(Nm.o (nat_lit 195), B.rows (1 : Nat) (nat_lit 2) (apF L fun k => [V.ros (1 : Nat) (List.length (ls k)) (ib (ls k)) false]) true)], T Try.prog 54 [.sl (.o 195) 1 0 0 0 2 none] [(.o 195, .rows 1 2 (apF L fun k => [.ros 1 (List.length (ls k)) (ib (ls k)) false]) true)] (.agg [.seg .u8 32 d]) []]) : Option (V × Heap × List Prop)) := by kernel_rfl

theorem pcMs_p1 (x : Int) (K : List Int) (ls : Nat → List Int) (L : List Int) (j : Nat) (L2 : List Int) :
  alongPc Try.prog (pcMs x K ls L j L2) [true] = (some (.normal, St.mk [.int .u8 x, .ros 1 1 (fun k => [.ros 1 (List.length (ls k)) (ib (ls k)) false]) false, .any, .any, .any, .ptr (.o 2) 0 0 0 0, .ptr (.o 1) 0 0 0 0, .any, .any, .int .i64 (↑(j + 1) : Int), .any, .any, .any, .any, .any, .any, .any, .any, .any, .any, .any, .any, .any, .any] [(.o 0, .flat [.seg .u8 64 K]), (.o 1, .flat [.seg .u8 64 L2]), (.o 2, .flat [.seg .u8 32 z32L])] 3 [], [decide ((↑j : Int) < (64 : Int)) = true, (0 : Int) ≤ (↑j : Int) ∧ (↑j : Int) < (64 : Int), (0 : Nat) + Int.toNat (↑j : Int) < (64 : Nat), (0 : Int) ≤ (↑j : Int) ∧ (↑j : Int) < (64 : Int), (0 : Nat) + Int.toNat (↑j : Int) < (64 : Nat), InR IntKind.i64 ((↑j : Int) + (1 : Int)), q (64 : Nat), q K, q (64 : Nat), List.set L ((0 : Nat) + Int.toNat (↑j : Int)) (ibits (fun x x_1 y => x_1 ^^^ y) IntKind.u8 (List.getD L ((0 : Nat) + Int.toNat (↑j : Int)) (0 : Int)) x) = L2, q (32 : Nat), q z32L, q x, q (1 : Nat), ∀ (k : Nat), k < (1 : Nat) → [V.ros (1 : Nat) (List.length (ls k)) (ib (ls k)) false] = [V.ros (1 : Nat) (List.length (ls k)) (ib (ls k)) false], false = true → false = true, q0, q0, q0, q0, q0, q0, (↑j : Int) + (1 : Int) = (↑(j + (1 : Nat)) : Int)]) : Option (Exit × St × List Prop)) := by kernel_rfl
theorem pcMs_p0 (x : Int) (K : List Int) (ls : Nat → List Int) (L : List Int) (j : Nat) (L2 : List Int) :
  alongPc Try.prog (pcMs x K ls L j L2) [false] = (some (.exit 0, St.mk [.int .u8 x, .ros 1 1 (fun k => [.ros 1 (List.length (ls k)) (ib (ls k)) false]) false, .any, .any, .any, .ptr (.o 2) 0 0 0 0, .ptr (.o 1) 0 0 0 0, .any, .any, .int .i64 64, .any, .any, .any, .any, .any, .any, .any, .any, .any, .any, .any, .any, .any, .any] [(.o 0, .flat [.seg .u8 64 K]), (.o 1, .flat [.seg .u8 64 L]), (.o 2, .flat [.seg .u8 32 z32L])] 3 [], [decide ((↑j : Int) < (64 : Int)) = false, q (64 : Nat), q K, q (64 : Nat), q L, q (32 : Nat), q z32L, q x, q (1 : Nat), ∀ (k : Nat), k < (1 : Nat) → [V.ros (1 : Nat) (List.length (ls k)) (ib (ls k)) false] = [V.ros (1 : Nat) (List.length (ls k)) (ib (ls k)) false], false = true → false = true, q0, q0, q0, q0, q0, q0, (↑j : Int) = (64 : Int)]) : Option (Exit × St × List Prop)) := by kernel_rfl

theorem bdMa_p0 (k : List Int) (ls : Nat → List Int) (d1 : List Int) (d2 : List Int) :
  along Try.prog (bdMa k ls d1 d2) [false] = (some (.agg [.seg .u8 32 d2], [], [decide ((64 : Int) < (↑(List.length k) : Int)) = false, nat_lit 64 ≤ (64 : Nat), ∀ (q : Nat), q < List.length k → true = true, T Try.prog 69 [.int .u8 54, .ros 1 1 (fun k => [.ros 1 (List.length (ls k)) (ib (ls k)) false]) false, .ptr (.o 256) 0 0 0 0] [(.o 256, .flat [.seg .u8 64 (segSet 64 [(0 : Int), (0 : Int), (0 : Int), (0 : Int), (0 : Int), (0 : Int), (0 : Int), (0 : Int), (0 : Int), (0 : Int), (0 : Int), (0 : Int), (0 : Int), (0 : Int), (0 : Int), (0 : Int), (0 : Int), (0 : Int), (0 : Int), (0 : Int), (0 : Int), (0 : Int), (0 : Int), (0 : Int), (0 : Int), (0 : Int), (0 : Int), (0 : Int), (0 : Int), (0 : Int), (0 : Int), (0 : Int), (0 : Int), (0 : Int), (0 : Int), (0 : Int), (0 : Int), (0 : Int), (0 : Int), (0 : Int), (0 : Int), (0 : Int), (0 : Int), (0 : Int), (0 : Int), (0 : Int), (0 : Int), (0 : Int), (0 : Int), (0 : Int), (0 : Int), (0 : Int), (0 : Int), (0 : Int), (0 : Int), (0 : Int), (0 : Int), (0 : Int), (0 : Int), (0 : Int), (0 : Int), (0 : Int), (0 : Int), (0 : Int)] 0 (Nat.min (List.length k) 64) (ib k))])] (.agg [.seg .u8 32 d1]) [(.o 256, .flat [.seg .u8 64 (segSet 64 [(0 : Int), (0 : Int), (0 : Int), (0 : Int), (0 : Int), (0 : Int), (0 : Int), (0 : Int), (0 : Int), (0 : Int), (0 : Int), (0 : Int), (0 : Int), (0 : Int), (0 : Int), (0 : Int), (0 : Int), (0 : Int), (0 : Int), (0 : Int), (0 : Int), (0 : Int), (0 : Int), (0 : Int), (0 : Int), (0 : Int), (0 : Int), (0 : Int), (0 : Int), (0 : Int), (0 : Int), (0 : Int), (0 : Int), (0 : Int), (0 : Int), (0 : Int), (0 : Int), (0 : Int), (0 : Int), (0 : Int), (0 : Int), (0 : Int), (0 : Int), (0 : Int), (0 : Int), (0 : Int), (0 : Int), (0 : Int), (0 : Int), (0 : Int), (0 : Int), (0 : Int), (0 : Int), (0 : Int), (0 : Int), (0 : Int), (0 : Int), (0 : Int), (0 : Int), (0 : Int), (0 : Int), (0 : Int), (0 : Int), (0 : Int)] 0 (Nat.min (List.length k) 64) (ib k))])], T Try.prog 69 [.int .u8 92, .sl (.o 1088) 0 0 0 0 1 (some 1), .ptr (.o 256) 0 0 0 0] [(.o 256, .flat [.seg .u8 64 (segSet 64 [(0 : Int), (0 : Int), (0 : Int), (0 : Int), (0 : Int), (0 : Int), (0 : Int), (0 : Int), (0 : Int), (0 : Int), (0 : Int), (0 : Int), (0 : Int), (0 : Int), (0 : Int), (0 : Int), (0 : Int), (0 : Int), (0 : Int), (0 : Int), (0 : Int), (0 : Int), (0 : Int), (0 : Int), (0 : Int), (0 : Int), (0 : Int), (0 : Int), (0 : Int), (0 : Int), (0 : Int), (0 : Int), (0 : Int), (0 : Int), (0 : Int), (0 : Int), (0 : Int), (0 : Int), (0 : Int), (0 : Int), (0 : Int), (0 : Int), (0 : Int), (0 : Int), (0 : Int), (0 : Int), (0 : Int), (0 : Int), (0 : Int), (0 : Int), (0 : Int), (0 : Int), (0 : Int), (0 : Int), (0 : Int), (0 : Int), (0 : Int), (0 : Int), (0 : Int), (0 : Int), (0 : Int), (0 : Int), (0 : Int), (0 : Int)] 0 (Nat.min (List.length k) 64) (ib k))]), (.o 1088, .flat [.sl (.o 832) 0 0 0 0 32 (some 32)]), (.o 832, .flat [.seg .u8 32 d1])] (.agg [.seg .u8 32 d2]) [(.o 256, .flat [.seg .u8 64 (segSet 64 [(0 : Int), (0 : Int), (0 : Int), (0 : Int), (0 : Int), (0 : Int), (0 : Int), (0 : Int), (0 : Int), (0 : Int), (0 : Int), (0 : Int), (0 : Int), (0 : Int), (0 : Int), (0 : Int), (0 : Int), (0 : Int), (0 : Int), (0 : Int), (0 : Int), (0 : Int), (0 : Int), (0 : Int), (0 : Int), (0 : Int), (0 : Int), (0 : Int), (0 : Int), (0 : Int), (0 : Int), (0 : Int), (0 : Int), (0 : Int), (0 : Int), (0 : Int), (0 : Int), (0 : Int), (0 : Int), (0 : Int), (0 : Int), (0 : Int), (0 : Int), (0 : Int), (0 : Int), (0 : Int), (0 : Int), (0 : Int), (0 : Int), (0 : Int), (0 : Int), (0 : Int), (0 : Int), (0 : Int), (0 : Int), (0 : Int), (0 : Int), (0 : Int), (0 : Int), (0 : Int), (0 : Int), (0 : Int), (0 : Int), (0 : Int)] 0 (Nat.min (List.length k) 64) (ib k))])]]) : Option (V × Heap × List Prop)) := by kernel_rfl

theorem bdLe_p0 (s : ByteArray) (n : Int) :
  along Try.prog (bdLe s n) [false] = (some (.int .i64 n, [(.o 0, .flat [.str s, .int .i64 n])], [q false]) : Option (V × Heap × List Prop)) := by kernel_rfl

theorem bdLn_p1 :
  along Try.prog (bdLn) [true] = (some (.int .i64 0, [], [q2]) : Option (V × Heap × List Prop)) := by kernel_rfl

theorem bdDe_p111 (s : ByteArray) (n : Int) :
  along Try.prog (bdDe s n) [true, true, true] = (some (.pnil, [], [decide (n < (1 : Int)) = true, q2, q2]) : Option (V × Heap × List Prop)) := by kernel_rfl
theorem bdDe_p011 (s : ByteArray) (n : Int) :
  along Try.prog (bdDe s n) [false, true, true] = (some (.pnil, [], [decide (n < (1 : Int)) = false, decide ((4096 : Int) < n) = true, q2]) : Option (V × Heap × List Prop)) := by kernel_rfl
theorem bdDe_p001 (s : ByteArray) (n : Int) :
  along Try.prog (bdDe s n) [false, false, true] = (some (.pnil, [], [decide (n < (1 : Int)) = false, decide ((4096 : Int) < n) = false, decide ((64 : Int) < (↑(ByteArray.size s) : Int)) = true]) : Option (V × Heap × List Prop)) := by kernel_rfl
theorem bdDe_p000 (s : ByteArray) (n : Int) :
  along Try.prog (bdDe s n) [false, false, false] = (some (.ptr (.o 960) 0 0 0 0, [(.o 960, .flat [.str s, .int .i64 n])], [decide (n < (1 : Int)) = false, decide ((4096 : Int) < n) = false, decide ((64 : Int) < (↑(ByteArray.size s) : Int)) = false]) : Option (V × Heap × List Prop)) := by kernel_rfl

theorem bdRe_p111 (s : ByteArray) (n : Int) :
  along Try.prog (bdRe s n) [true, true, true] = (some (.tup [.agg [.str ByteArray.empty, .int .i64 0], .bool false], [], [decide (n < (1 : Int)) = true, q2, q2]) : Option (V × Heap × List Prop)) := by kernel_rfl
theorem bdRe_p011 (s : ByteArray) (n : Int) :
  along Try.prog (bdRe s n) [false, true, true] = (some (.tup [.agg [.str ByteArray.empty, .int .i64 0], .bool false], [], [decide (n < (1 : Int)) = false, decide ((4096 : Int) < n) = true, q2]) : Option (V × Heap × List Prop)) := by kernel_rfl
theorem bdRe_p001 (s : ByteArray) (n : Int) :
  along Try.prog (bdRe s n) [false, false, true] = (some (.tup [.agg [.str ByteArray.empty, .int .i64 0], .bool false], [], [decide (n < (1 : Int)) = false, decide ((4096 : Int) < n) = false, decide ((64 : Int) < (↑(ByteArray.size s) : Int)) = true]) : Option (V × Heap × List Prop)) := by kernel_rfl
theorem bdRe_p000 (s : ByteArray) (n : Int) :
  along Try.prog (bdRe s n) [false, false, false] = (some (.tup [.agg [.str s, .int .i64 n], .bool true], [], [decide (n < (1 : Int)) = false, decide ((4096 : Int) < n) = false, decide ((64 : Int) < (↑(ByteArray.size s) : Int)) = false]) : Option (V × Heap × List Prop)) := by kernel_rfl

theorem bdTz_p (s : ByteArray) :
  along Try.prog (bdTz s) [] = (some (.sl (.o 63) 1 0 0 0 (List.length (textB s)) none, [(.o 63, bs (textB s))], [T Try.prog 56 [.snil, .int .i64 (↑(ByteArray.size s) : Int)] [] (sb (.o 257) (putZ (↑(ByteArray.size s) : Int))) [(.o 257, bs (putZ (↑(ByteArray.size s) : Int)))], q (List.length (putZ (↑(ByteArray.size s) : Int))), (List.length (putZ (↑(ByteArray.size s) : Int)) + ByteArray.size s) * (1 : Nat) ≤ (140737488355328 : Nat), List.length (putZ (↑(ByteArray.size s) : Int)) + ByteArray.size s = List.length (textB s), ∀ (k : Nat), k < List.length (putZ (↑(ByteArray.size s) : Int)) + ByteArray.size s → catF (List.length (putZ (↑(ByteArray.size s) : Int))) (bl (putZ (↑(ByteArray.size s) : Int))) (fun k => [V.int IntKind.u8 (byteAt s k)]) k = bl (textB s) k, true = false → true = false, q0, q0, q0, List.length (putZ (↑(ByteArray.size s) : Int)) + ByteArray.size s = List.length (textB s), (none : Option Nat) = none ∨ (none : Option Nat) = none]) : Option (V × Heap × List Prop)) := by kernel_rfl

theorem bdSg_p1 (s : ByteArray) (n : Int) (id : Int) (b : ByteArray) (l1 : List UInt8) (l2 : List UInt8) (kd : List Int) (m : List Int) (t : List Int) :
  along Try.prog (bdSg s n id b l1 l2 kd m t) [true] = (some (.tup [.agg [.seg .u8 16 z16], .int .i64 1], [(.o 0, .flat [.str s, .int .i64 n])], [T Try.prog 51 [.ptr (.o 0) 0 0 0 0] [(.o 0, .flat [.str s, .int .i64 n])] (.int .i64 n) [(.o 0, .flat [.str s, .int .i64 n])], decide (n = (0 : Int)) = true]) : Option (V × Heap × List Prop)) := by kernel_rfl
theorem bdSg_p011 (s : ByteArray) (n : Int) (id : Int) (b : ByteArray) (l1 : List UInt8) (l2 : List UInt8) (kd : List Int) (m : List Int) (t : List Int) :
  along Try.prog (bdSg s n id b l1 l2 kd m t) [false, true, true] = (some (.tup [.agg [.seg .u8 16 z16], .int .i64 2], [(.o 0, .flat [.str s, .int .i64 n])], [T Try.prog 51 [.ptr (.o 0) 0 0 0 0] [(.o 0, .flat [.str s, .int .i64 n])] (.int .i64 n) [(.o 0, .flat [.str s, .int .i64 n])], decide (n = (0 : Int)) = false, decide (id < (0 : Int)) = true, q2]) : Option (V × Heap × List Prop)) := by kernel_rfl
theorem bdSg_p001 (s : ByteArray) (n : Int) (id : Int) (b : ByteArray) (l1 : List UInt8) (l2 : List UInt8) (kd : List Int) (m : List Int) (t : List Int) :
  along Try.prog (bdSg s n id b l1 l2 kd m t) [false, false, true] = (some (.tup [.agg [.seg .u8 16 z16], .int .i64 2], [(.o 0, .flat [.str s, .int .i64 n])], [T Try.prog 51 [.ptr (.o 0) 0 0 0 0] [(.o 0, .flat [.str s, .int .i64 n])] (.int .i64 n) [(.o 0, .flat [.str s, .int .i64 n])], decide (n = (0 : Int)) = false, decide (id < (0 : Int)) = false, decide (n ≤ id) = true]) : Option (V × Heap × List Prop)) := by kernel_rfl
theorem bdSg_p000 (s : ByteArray) (n : Int) (id : Int) (b : ByteArray) (l1 : List UInt8) (l2 : List UInt8) (kd : List Int) (m : List Int) (t : List Int) :
  along Try.prog (bdSg s n id b l1 l2 kd m t) [false, false, false] = (some (.tup [.agg [.seg .u8 16 t], .int .i64 0], [(.o 0, .flat [.str s, .int .i64 n])], [T Try.prog 51 [.ptr (.o 0) 0 0 0 0] [(.o 0, .flat [.str s, .int .i64 n])] (.int .i64 n) [(.o 0, .flat [.str s, .int .i64 n])], decide (n = (0 : Int)) = false, decide (id < (0 : Int)) = false, decide (n ≤ id) = false, T Try.prog 55 [.snil, .str s] [] (sb (.o 1217) l1) [(.o 1217, bs l1)], T Try.prog 56 [.snil, .int .i64 id] [] (sb (.o 1345) l2) [(.o 1345, bs l2)], T Try.prog 54 [.sl (.o 1409) 0 0 0 0 2 (some 2)] [(.o 1409, .flat [.sl (.o 1217) 1 0 0 0 (List.length l1) none, .sl (.o 1345) 1 0 0 0 (List.length l2) none]), (.o 1217, bs l1), (.o 1345, bs l2)] (.agg [.seg .u8 32 kd]) [], T Try.prog 57 [.sl (.o 1537) 0 0 0 0 32 (some 32), .sl (.o 1857) 1 0 0 0 1 (some 1)] [(.o 1537, .flat [.seg .u8 32 kd]), (.o 1857, .rows 1 1 (getL [[.ros 1 (ByteArray.size b) (fun q => [.int .u8 (byteAt b q)]) false]]) false)] (.agg [.seg .u8 32 m]) [], TO Try.prog (Prim.copy (96 : Nat) (96 : Nat)) [V.sl (Nm.o (nat_lit 1)) (0 : Nat) (0 : Nat) (0 : Nat) (nat_lit 0) (nat_lit 16) (some (nat_lit 16)), V.sl (Nm.o (nat_lit 1985)) (0 : Nat) (0 : Nat) (0 : Nat) (nat_lit 0) (nat_lit 32) (some (nat_lit 32))] [(Nm.o (nat_lit 1), B.flat [V.seg IntKind.u8 (16 : Nat) z16]), (Nm.o (nat_lit 1985), B.flat [V.seg IntKind.u8 (32 : Nat) m])] (V.int IntKind.i64 (16 : Int)) [(Nm.o (nat_lit 1), B.flat [V.seg IntKind.u8 (16 : Nat) t])]]) : Option (V × Heap × List Prop)) := by kernel_rfl

theorem bdCk_p1 (s : ByteArray) (n : Int) (id : Int) (b : ByteArray) (t : List Int) (u : List Int) (e : Int) :
  along Try.prog (bdCk s n id b t u e) [true] = (some (.bool (decide (u = t)), [(.o 0, .flat [.str s, .int .i64 n])], [T Try.prog 43 [.ptr (.o 0) 0 0 0 0, .int .i64 id, .str b] [(.o 0, .flat [.str s, .int .i64 n])] (.tup [.agg [.seg .u8 16 u], .int .i64 e]) [(.o 0, .flat [.str s, .int .i64 n])], decide (e = (0 : Int)) = true]) : Option (V × Heap × List Prop)) := by kernel_rfl
theorem bdCk_p0 (s : ByteArray) (n : Int) (id : Int) (b : ByteArray) (t : List Int) (u : List Int) (e : Int) :
  along Try.prog (bdCk s n id b t u e) [false] = (some (.bool false, [(.o 0, .flat [.str s, .int .i64 n])], [T Try.prog 43 [.ptr (.o 0) 0 0 0 0, .int .i64 id, .str b] [(.o 0, .flat [.str s, .int .i64 n])] (.tup [.agg [.seg .u8 16 u], .int .i64 e]) [(.o 0, .flat [.str s, .int .i64 n])], decide (e = (0 : Int)) = false]) : Option (V × Heap × List Prop)) := by kernel_rfl

def k0 (k : List Int) : List Int := (List.range 64).map fun i => k.getD i 0
theorem k0_len (k : List Int) : (k0 k).length = 64 := by simp [k0]
theorem T_ms {k : List Int} {x : Int} {ls : Nat → List Int} (hb : (ls 0).length ≤ 1000000000) : T Try.prog 69 [.int .u8 x, rbs 1 ls, p0 0] [(.o 0, .flat [.seg .u8 64 (k0 k)])] (agD (shaV (padK k x ++ ls 0))) [(.o 0, .flat [.seg .u8 64 (k0 k)])] := by
 have hL : RLoop Try.prog none 1 (cB (cB (cR (cL (cR (cR (bodyOf Try.f69))))))) (64 + 1) (msI x (k0 k) ls (padJ k x 0) 0) (.exit 0) (msI x (k0 k) ls (padJ k x 64) 64) := by
  have hstep : ∀ j, j < 64 → R Try.prog none 1 (cB (cB (cR (cL (cR (cR (bodyOf Try.f69))))))) (msI x (k0 k) ls (padJ k x j) j) .normal (msI x (k0 k) ls (padJ k x (j + 1)) (j + 1)) := by
   intro j hj
   have e := padJ_set k x hj
   refine R_alongPc NG MO _ (pcMs_p1 x (k0 k) ls (padJ k x j) j (padJ k x (j + 1))) ?_ (by show 1 ≤ 3; decide)
   simp only [All, Int.toNat_natCast, Nat.zero_add]; and_intros
   all_goals first
    | exact True.intro
    | exact e
    | (with_reducible assumption)
    | (rw [decide_eq_true_eq]; omega)
    | (rw [decide_eq_false_iff_not]; omega)
    | with_reducible rfl
    | (intro _ _; exact True.intro)
    | (intro _ _; with_reducible rfl)
    | (intro _ _; rfl)
    | (simp only [IntKind.min, IntKind.max, IntKind.signed, IntKind.bits, if_true]; omega)
    | omega
    | (intro h; exact h)
    | (intro h; cases h; done)
    | exact .inl rfl
    | exact .inl True.intro
    | exact .inr rfl
    | (simp; done)
  have hend : R Try.prog none 1 (cB (cB (cR (cL (cR (cR (bodyOf Try.f69))))))) (msI x (k0 k) ls (padJ k x 64) 64) (.exit 0) (msI x (k0 k) ls (padJ k x 64) 64) := by
   refine R_alongPc NG MO _ (pcMs_p0 x (k0 k) ls (padJ k x 64) 64 []) ?_ (by show 1 ≤ 3; decide)
   simp only [All]; and_intros
   all_goals first
    | exact True.intro
    | (with_reducible assumption)
    | (rw [decide_eq_true_eq]; omega)
    | (rw [decide_eq_false_iff_not]; omega)
    | with_reducible rfl
    | (intro _ _; exact True.intro)
    | (intro _ _; with_reducible rfl)
    | (intro _ _; rfl)
    | (simp only [IntKind.min, IntKind.max, IntKind.signed, IntKind.bits, if_true]; omega)
    | omega
    | (intro h; exact h)
    | (intro h; cases h; done)
    | exact .inl rfl
    | exact .inl True.intro
    | exact .inr rfl
    | (simp; done)
  exact RLoop.inv (fun j => msI x (k0 k) ls (padJ k x j) j) 64 hstep hend (by simp)
 have hpl := padK_len k x
 rw [show padJ k x 0 = k0 k from padJ_zero k x, padJ_end] at hL
 generalize k0 k = K at *
 generalize padK k x = L at *
 have hT : TO Try.prog (.append 114 114) [.sl (.o 67) 0 0 0 0 1 (some 1), rbs 1 ls] [(.o 67, .flat [.sl (.o 1) 0 0 0 0 64 (some 64)]), (.o 1, .flat [.seg .u8 64 L])] (.sl (.o 195) 1 0 0 0 2 none) [(.o 195, .rows 1 2 (apF L fun k => [rb (ls k)]) true)] := by
  refine TO.frz (args := [.ros 1 1 (fun _ => [rb L]) true, rbs 1 ls]) (TO_app (base := 195) (cs := [∀ k, k < 1 → solid [rb (ls k)] = true, 0 < 1, (1 + 1) * 24 ≤ 140737488355328]) (by kernel_rfl) ?_ (fun ρ h => h _ ⟨_, List.mem_cons_self ..⟩)) ?_ ?_
  ·simp only [All]; and_intros
   all_goals first
    | exact True.intro
    | (intro k _; rfl)
    | (with_reducible assumption)
    | (rw [decide_eq_true_eq]; omega)
    | (rw [decide_eq_false_iff_not]; omega)
    | with_reducible rfl
    | (intro _ _; exact True.intro)
    | (intro _ _; with_reducible rfl)
    | (intro _ _; rfl)
    | (simp only [IntKind.min, IntKind.max, IntKind.signed, IntKind.bits, if_true]; omega)
    | omega
    | (intro h; exact h)
    | (intro h; cases h; done)
    | exact .inl rfl
    | exact .inl True.intro
    | exact .inr rfl
    | (simp; done)
  ·intro U ρ w xs H hv
   obtain ⟨y, z, rfl, h1, h2⟩ := T_two hv
   rw [VsRel]; refine ⟨y, _, rfl, ?_, ?_⟩
   ·refine ros_of_flat H (List.mem_cons_self ..) h1 (fun _ => rfl) (by simp [V.cell]) fun i hi => ⟨rfl, .sl (.o 1) 0 0 0 0 64 (some 64), by obtain rfl : i = 0 := (by omega); rfl, fun z hz => ?_⟩
    exact ros_of_seg (m := 64) (xs := L) H (List.mem_cons_of_mem _ (List.mem_cons_self ..)) (by rw [hpl]; exact hz) (by omega) (fun _ _ => rfl)
   ·rw [VsRel]; refine ⟨z, _, rfl, VRel.ros (frz_ok H).1 h2, ?_⟩
    rw [VsRel]
  ·rintro n ⟨b, hb⟩ ⟨b', hb'⟩
   simp only [List.mem_cons, List.mem_nil_iff, or_false, Prod.mk.injEq] at hb hb'
   rw [hb.1] at hb'
   rcases hb' with ⟨h, _⟩ | ⟨h, _⟩ <;> cases h
 have hS : T Try.prog 54 [.sl (.o 195) 1 0 0 0 2 none] [(.o 195, .rows 1 2 (apF L fun k => [rb (ls k)]) true)] (agD (shaV (L ++ ls 0))) [] := by
  refine T.frz (T_sr2 (fun i => if i = 0 then L else ls 0) (by simp only [if_true]; rw [if_neg (by decide)]; omega)) (hw_of rfl ?_) (by rintro n ⟨b, hb⟩; cases hb)
  and_intros
  all_goals first
   | exact True.intro
   | (intro k hk; rcases k with _ | _ | k <;> first | rfl | omega)
   | (with_reducible assumption)
   | (rw [decide_eq_true_eq]; omega)
   | (rw [decide_eq_false_iff_not]; omega)
   | with_reducible rfl
   | (intro _ _; exact True.intro)
   | (intro _ _; with_reducible rfl)
   | (intro _ _; rfl)
   | (simp only [IntKind.min, IntKind.max, IntKind.signed, IntKind.bits, if_true]; omega)
   | omega
   | (intro h; exact h)
   | (intro h; cases h; done)
   | exact .inl rfl
   | exact .inl True.intro
   | exact .inr rfl
   | (simp; done)
 generalize shaV (L ++ ls 0) = d at *
 refine T_al (bdMs_p x K ls L d) Try.func69 ?_
 simp only [All]; and_intros
 all_goals first
  | exact True.intro
  | exact hL
  | exact hT
  | exact hS
  | rfl
  | (with_reducible assumption)
  | (rw [decide_eq_true_eq]; omega)
  | (rw [decide_eq_false_iff_not]; omega)
  | with_reducible rfl
  | (intro _ _; exact True.intro)
  | (intro _ _; with_reducible rfl)
  | (intro _ _; rfl)
  | (simp only [IntKind.min, IntKind.max, IntKind.signed, IntKind.bits, if_true]; omega)
  | omega
  | (intro h; exact h)
  | (intro h; cases h; done)
  | exact .inl rfl
  | exact .inl True.intro
  | exact .inr rfl
  | (simp; done)
theorem T_msA {k : List Int} {x : Int} {ls : Nat → List Int} (hb : (ls 0).length ≤ 1000000000) (m : Nat) : T Try.prog 69 [.int .u8 x, rbs 1 ls, p0 m] [(.o m, .flat [.seg .u8 64 (k0 k)])] (agD (shaV (padK k x ++ ls 0))) [(.o m, .flat [.seg .u8 64 (k0 k)])] := by
 obtain ⟨σ, hσ, h3⟩ := T.at (T_ms (k := k) (x := x) hb) [.o 0] [.o m] (by decide) (by simp) rfl
 simp only [List.map_cons, List.map_nil, List.cons.injEq, and_true] at hσ
 simpa [V.rens, V.ren, Heap.ren, Sy.B.ren, agD, rbs, p0, hσ] using h3
theorem k0_set {k : List Int} (hk : k.length ≤ 64) : segSet 64 (List.replicate 64 0) 0 (Nat.min k.length 64) (ib k) = k0 k := by
 unfold segSet k0
 apply List.map_congr_left
 intro q hq
 have hq := List.mem_range.1 hq
 have hm : Nat.min k.length 64 = k.length := Nat.min_eq_left hk
 rw [hm]
 have hb : q.blt (0 + k.length) = decide (q < k.length) := by rw [Bool.eq_iff_iff, Nat.blt_eq, decide_eq_true_eq]; omega
 have h0 : Nat.ble 0 q = true := by rw [Nat.ble_eq]; exact Nat.zero_le _
 rw [h0, hb]
 by_cases h : q < k.length
 ·rw [decide_eq_true h]; rfl
 ·rw [decide_eq_false h]
  show (List.replicate 64 (0 : Int)).getD q 0 = _
  rw [List.getD_eq_getElem?_getD, List.getD_eq_getElem?_getD, List.getElem?_eq_none (l := k) (by omega), List.getElem?_replicate, if_pos hq]; rfl
theorem T_ms2 {k d : List Int} {x : Int} (hd : d.length = 32) : T Try.prog 69 [.int .u8 x, .sl (.o 1088) 0 0 0 0 1 (some 1), p0 256] [(.o 256, .flat [.seg .u8 64 (k0 k)]), (.o 1088, .flat [.sl (.o 832) 0 0 0 0 32 (some 32)]), (.o 832, .flat [.seg .u8 32 d])] (agD (shaV (padK k x ++ d))) [(.o 256, .flat [.seg .u8 64 (k0 k)])] := by
 refine T.frzH (pre1 := [(.o 1088, .flat [.sl (.o 832) 0 0 0 0 32 (some 32)]), (.o 832, .flat [.seg .u8 32 d])]) (T_msA (k := k) (x := x) (ls := fun _ => d) (by rw [hd]; decide) 256) ?_ ?_
 ·intro U ρ w xs H hv
  rw [VsRel] at hv
  obtain ⟨a, r, rfl, h0, hv⟩ := hv
  obtain ⟨y, z, rfl, h1, h2⟩ := T_two hv
  rw [VsRel]; refine ⟨a, _, rfl, VRel.mono (frz_ok H).1 (fun _ _ h => h) h0, ?_⟩
  rw [VsRel]; refine ⟨y, _, rfl, ?_, ?_⟩
  ·refine ros_of_flat (f := fun _ => rb d) H (List.mem_cons_self ..) h1 (fun h => by cases h) (by simp [V.cell]) fun i hi => ⟨rfl, .sl (.o 832) 0 0 0 0 32 (some 32), by obtain rfl : i = 0 := (by omega); rfl, fun z hz => ?_⟩
   exact ros_of_seg (m := 32) (xs := d) H (List.mem_cons_of_mem _ (List.mem_cons_self ..)) (by rw [hd]; exact hz) (by omega) (fun _ _ => rfl)
  ·rw [VsRel]; refine ⟨z, _, rfl, VRel.mono (frz_ok H).1 (fun _ _ h => h) h2, ?_⟩
   rw [VsRel]
 ·rintro n ⟨b, hb⟩ ⟨b', hb'⟩
  simp only [List.mem_cons, List.mem_nil_iff, or_false, Prod.mk.injEq] at hb hb'
  rw [hb.1] at hb'
  rcases hb' with ⟨h, _⟩ | ⟨h, _⟩ <;> cases h
theorem T_ma {k : List Int} (hk : k.length ≤ 64) {ls : Nat → List Int} (hb : (ls 0).length ≤ 1000000000) : T Try.prog 57 [rb k, rbs 1 ls] [] (agD (macV k (ls 0))) [] := by
 have hs := k0_set hk
 have h1 := T_msA (k := k) (x := 54) hb 256
 have hl := shaV_len (padK k 54 ++ ls 0)
 have h2 := T_ms2 (k := k) (x := 92) hl
 have e : macV k (ls 0) = shaV (padK k 92 ++ shaV (padK k 54 ++ ls 0)) := rfl
 rw [← e] at h2
 generalize macV k (ls 0) = d2 at *
 generalize shaV (padK k 54 ++ ls 0) = d1 at *
 rw [← hs] at h1 h2
 refine T_al (bdMa_p0 k ls d1 d2) Try.func57 ?_
 simp only [All]; and_intros
 all_goals first
  | exact True.intro
  | exact h1
  | exact h2
  | (with_reducible assumption)
  | (rw [decide_eq_true_eq]; omega)
  | (rw [decide_eq_false_iff_not]; omega)
  | with_reducible rfl
  | (intro _ _; exact True.intro)
  | (intro _ _; with_reducible rfl)
  | (intro _ _; rfl)
  | (simp only [IntKind.min, IntKind.max, IntKind.signed, IntKind.bits, if_true]; omega)
  | omega
  | (intro h; exact h)
  | (intro h; cases h; done)
  | exact .inl rfl
  | exact .inl True.intro
  | exact .inr rfl
  | (simp; done)
theorem T_le (s : ByteArray) (n : Int) : T Try.prog 51 [p0 0] [(.o 0, kyB s n)] (.int .i64 n) [(.o 0, kyB s n)] := by
 refine T_al (bdLe_p0 s n) Try.func51 ?_
 simp only [All]; and_intros
 all_goals first
  | exact True.intro
  | (with_reducible assumption)
  | (rw [decide_eq_true_eq]; omega)
  | (rw [decide_eq_false_iff_not]; omega)
  | with_reducible rfl
  | (intro _ _; exact True.intro)
  | (intro _ _; with_reducible rfl)
  | (intro _ _; rfl)
  | (simp only [IntKind.min, IntKind.max, IntKind.signed, IntKind.bits, if_true]; omega)
  | omega
  | (intro h; exact h)
  | (intro h; cases h; done)
  | exact .inl rfl
  | exact .inl True.intro
  | exact .inr rfl
  | (simp; done)
theorem T_ln : T Try.prog 51 [.pnil] [] (.int .i64 0) [] := by
 refine T_al bdLn_p1 Try.func51 ?_
 simp only [All]; and_intros
 all_goals first
  | exact True.intro
  | (with_reducible assumption)
  | (rw [decide_eq_true_eq]; omega)
  | (rw [decide_eq_false_iff_not]; omega)
  | with_reducible rfl
  | (intro _ _; exact True.intro)
  | (intro _ _; with_reducible rfl)
  | (intro _ _; rfl)
  | (simp only [IntKind.min, IntKind.max, IntKind.signed, IntKind.bits, if_true]; omega)
  | omega
  | (intro h; exact h)
  | (intro h; cases h; done)
  | exact .inl rfl
  | exact .inl True.intro
  | exact .inr rfl
  | (simp; done)
theorem T_de {s : ByteArray} {n : Int} (hs : s.size ≤ 64) (hn : 1 ≤ n ∧ n ≤ 4096) (m : Nat) : T Try.prog 39 [.str s, .int .i64 n] [] (p0 m) [(.o m, kyB s n)] := by
 have h : T Try.prog 39 [.str s, .int .i64 n] [] (p0 960) [(.o 960, kyB s n)] := by
  refine T_al (bdDe_p000 s n) Try.func39 ?_
  simp only [All]; and_intros
  all_goals first
   | exact True.intro
   | (with_reducible assumption)
   | (rw [decide_eq_true_eq]; omega)
   | (rw [decide_eq_false_iff_not]; omega)
   | with_reducible rfl
   | (intro _ _; exact True.intro)
   | (intro _ _; with_reducible rfl)
   | (intro _ _; rfl)
   | (simp only [IntKind.min, IntKind.max, IntKind.signed, IntKind.bits, if_true]; omega)
   | omega
   | (intro h; exact h)
   | (intro h; cases h; done)
   | exact .inl rfl
   | exact .inl True.intro
   | exact .inr rfl
   | (simp; done)
 obtain ⟨σ, hσ, h3⟩ := T.at h [.o 960] [.o m] (by decide) (by simp) rfl
 simp only [List.map_cons, List.map_nil, List.cons.injEq, and_true] at hσ
 simpa [V.rens, V.ren, Heap.ren, Sy.B.ren, kyB, p0, hσ] using h3
theorem T_re {s : ByteArray} {n : Int} (hs : s.size ≤ 64) (hn : 1 ≤ n ∧ n ≤ 4096) : T Try.prog 40 [.str s, .int .i64 n] [] (.tup [kyV s n, .bool true]) [] := by
 refine T_al (bdRe_p000 s n) Try.func40 ?_
 simp only [All]; and_intros
 all_goals first
  | exact True.intro
  | (with_reducible assumption)
  | (rw [decide_eq_true_eq]; omega)
  | (rw [decide_eq_false_iff_not]; omega)
  | with_reducible rfl
  | (intro _ _; exact True.intro)
  | (intro _ _; with_reducible rfl)
  | (intro _ _; rfl)
  | (simp only [IntKind.min, IntKind.max, IntKind.signed, IntKind.bits, if_true]; omega)
  | omega
  | (intro h; exact h)
  | (intro h; cases h; done)
  | exact .inl rfl
  | exact .inl True.intro
  | exact .inr rfl
  | (simp; done)
theorem T_tz {s : ByteArray} (hs : s.size ≤ 1099511627776) (m : Nat) : T Try.prog 55 [.snil, .str s] [] (sb (.o m) (textB s)) [(.o m, bs (textB s))] := by
 have hz := num63_nat (n := s.size) (by omega)
 have e : textB s = putZ s.size ++ strB s := textB_eq s
 have h9 := putZ_len hz
 have hle : (putZ (s.size : Int)).length + s.size = (textB s).length := by rw [e, List.length_append (bs := strB s), strB_len]
 have h : T Try.prog 55 [.snil, .str s] [] (sb (.o 63) (textB s)) [(.o 63, bs (textB s))] := by
  refine T_al (bdTz_p s) Try.func55 ?_
  simp only [All]; and_intros
  all_goals first
   | exact T_putNil hz
   | exact hle
   | omega
   | (rw [e, bl_append (putZ (s.size : Int)) (strB s)]; intro k _; rfl)
   | simp
 obtain ⟨σ, hσ, h3⟩ := T.at h [.o 63] [.o m] (by decide) (by simp) rfl
 simp only [List.map_cons, List.map_nil, List.cons.injEq, and_true] at hσ
 simpa [V.rens, V.ren, Heap.ren, Sy.B.ren, sb, bs, hσ] using h3
theorem rb_bI (b : ByteArray) : V.ros 1 b.size (fun q => [V.int IntKind.u8 (byteAt b q)]) false = rb (bI b) := by
 rw [rb, bI_len]
 congr 1
 funext q
 show _ = [V.int .u8 ((bI b).getD q 0)]
 rw [bI_get]
theorem tag_set (m : List Int) : segSet 16 (List.replicate 16 0) 0 (Nat.min 32 16) (ib m) = tagL m := by
 unfold segSet tagL
 apply List.map_congr_left
 intro q hq
 have hq := List.mem_range.1 hq
 have hb : q.blt (0 + Nat.min 32 16) = true := by rw [Nat.blt_eq]; show q < 0 + 16; omega
 have h0 : Nat.ble 0 q = true := by rw [Nat.ble_eq]; exact Nat.zero_le _
 rw [h0, hb]; rfl
theorem T_sg {s : ByteArray} (hs : s.size ≤ 1000) {n id : Int} (hn : n ≠ 0) (hi : id < 9223372036854775808) {b : ByteArray} (hb : b.size ≤ 1000000000) : T Try.prog 43 [p0 0, .int .i64 id, .str b] [(.o 0, kyB s n)] (.tup [.agg [.seg .u8 16 (sgnV s n id b)], .int .i64 (sgnE n id)]) [(.o 0, kyB s n)] := by
 have hle := T_le s n
 by_cases h0 : id < 0
 ·rw [sgnV, sgnE, if_neg (by omega), if_neg (by omega)]
  refine T_al (bdSg_p011 s n id b [] [] [] [] []) Try.func43 ?_
  simp only [All]; and_intros
  all_goals first
   | exact True.intro
   | exact hle
   | (with_reducible assumption)
   | (rw [decide_eq_true_eq]; omega)
   | (rw [decide_eq_false_iff_not]; omega)
   | with_reducible rfl
   | (intro _ _; exact True.intro)
   | (intro _ _; with_reducible rfl)
   | (intro _ _; rfl)
   | (simp only [IntKind.min, IntKind.max, IntKind.signed, IntKind.bits, if_true]; omega)
   | omega
   | (intro h; exact h)
   | (intro h; cases h; done)
   | exact .inl rfl
   | exact .inl True.intro
   | exact .inr rfl
   | (simp; done)
 ·by_cases h1 : n ≤ id
  ·rw [sgnV, sgnE, if_neg (by omega), if_neg (by omega)]
   refine T_al (bdSg_p001 s n id b [] [] [] [] []) Try.func43 ?_
   simp only [All]; and_intros
   all_goals first
    | exact True.intro
    | exact hle
    | (with_reducible assumption)
    | (rw [decide_eq_true_eq]; omega)
    | (rw [decide_eq_false_iff_not]; omega)
    | with_reducible rfl
    | (intro _ _; exact True.intro)
    | (intro _ _; with_reducible rfl)
    | (intro _ _; rfl)
    | (simp only [IntKind.min, IntKind.max, IntKind.signed, IntKind.bits, if_true]; omega)
    | omega
    | (intro h; exact h)
    | (intro h; cases h; done)
    | exact .inl rfl
    | exact .inl True.intro
    | exact .inr rfl
    | (simp; done)
  ·rw [sgnV, sgnE, if_pos (by omega), if_pos (by omega)]
   have hi2 : num63 id := ⟨by omega, by omega⟩
   have hta := T_tz (s := s) (by omega) 1217
   have htb := T_putNil hi2 (m := 1345)
   have hl1 := textB_len (s := s) (by omega)
   have hl2 := putZ_len hi2
   rw [tagV, uI_app]
   generalize textB s = l1 at *
   generalize putZ id = l2 at *
   have hsu : T Try.prog 54 [.sl (.o 1409) 0 0 0 0 2 (some 2)] [(.o 1409, .flat [.sl (.o 1217) 1 0 0 0 l1.length none, .sl (.o 1345) 1 0 0 0 l2.length none]), (.o 1217, bs l1), (.o 1345, bs l2)] (agD (shaV (uI l1 ++ uI l2))) [] := by
    refine T.frz (T_sr2 (fun i => if i = 0 then uI l1 else uI l2) (by simp only [if_true]; rw [if_neg (by decide), uI_len, uI_len]; omega)) ?_ (by rintro n ⟨b, hb⟩; cases hb)
    intro U ρ w xs H hv
    rw [VsRel] at hv
    obtain ⟨y, r, rfl, h1, h2⟩ := hv
    rw [VsRel]; refine ⟨y, _, rfl, ?_, by rw [VsRel] at h2 ⊢; exact h2⟩
    refine ros_of_flat H (List.mem_cons_self ..) h1 (fun h => by cases h) (by simp [V.cell]) fun i hi => ?_
    rcases i with _ | _ | i
    ·refine ⟨rfl, .sl (.o 1217) 1 0 0 0 l1.length none, rfl, fun z hz => VRel.ros (Imm.le_refl _) (leV_ok (frz_ok H).1 (frz_ok H).2.1 _ (rb (uI l1)) _ z rfl ?_ hz)⟩
     and_intros
     all_goals first
      | exact True.intro
      | exact (uI_len l1).symm
      | (intro k _; rw [Nat.zero_add]; exact ib_uI l1 k)
      | (with_reducible assumption)
      | (rw [decide_eq_true_eq]; omega)
      | (rw [decide_eq_false_iff_not]; omega)
      | with_reducible rfl
      | (intro _ _; exact True.intro)
      | (intro _ _; with_reducible rfl)
      | (intro _ _; rfl)
      | (simp only [IntKind.min, IntKind.max, IntKind.signed, IntKind.bits, if_true]; omega)
      | omega
      | (intro h; exact h)
      | (intro h; cases h; done)
      | exact .inl rfl
      | exact .inl True.intro
      | exact .inr rfl
      | (simp; done)
    ·refine ⟨rfl, .sl (.o 1345) 1 0 0 0 l2.length none, rfl, fun z hz => VRel.ros (Imm.le_refl _) (leV_ok (frz_ok H).1 (frz_ok H).2.1 _ (rb (uI l2)) _ z rfl ?_ hz)⟩
     and_intros
     all_goals first
      | exact True.intro
      | exact (uI_len l2).symm
      | (intro k _; rw [Nat.zero_add]; exact ib_uI l2 k)
      | (with_reducible assumption)
      | (rw [decide_eq_true_eq]; omega)
      | (rw [decide_eq_false_iff_not]; omega)
      | with_reducible rfl
      | (intro _ _; exact True.intro)
      | (intro _ _; with_reducible rfl)
      | (intro _ _; rfl)
      | (simp only [IntKind.min, IntKind.max, IntKind.signed, IntKind.bits, if_true]; omega)
      | omega
      | (intro h; exact h)
      | (intro h; cases h; done)
      | exact .inl rfl
      | exact .inl True.intro
      | exact .inr rfl
      | (simp; done)
    ·omega
   have hkl := shaV_len (uI l1 ++ uI l2)
   generalize shaV (uI l1 ++ uI l2) = kd at *
   have hma : T Try.prog 57 [.sl (.o 1537) 0 0 0 0 32 (some 32), .sl (.o 1857) 1 0 0 0 1 (some 1)] [(.o 1537, .flat [.seg .u8 32 kd]), (.o 1857, .rows 1 1 (getL [[.ros 1 b.size (fun q => [V.int IntKind.u8 (byteAt b q)]) false]]) false)] (agD (macV kd (bI b))) [] := by
    refine T.frz (T_ma (k := kd) (by omega) (ls := fun _ => bI b) (by rw [bI_len]; exact hb)) (hw_of rfl ?_) (by rintro n ⟨b, hb⟩; cases hb)
    and_intros
    all_goals first
     | exact True.intro
     | exact hkl.symm
     | (intro k hk; obtain rfl : k = 0 := (by omega); show [V.ros 1 b.size (fun q => [V.int IntKind.u8 (byteAt b q)]) false] = [rb (bI b)]; rw [rb_bI])
     | (intro k hk; rw [Nat.zero_add]; rfl)
     | (with_reducible assumption)
     | (rw [decide_eq_true_eq]; omega)
     | (rw [decide_eq_false_iff_not]; omega)
     | with_reducible rfl
     | (intro _ _; exact True.intro)
     | (intro _ _; with_reducible rfl)
     | (intro _ _; rfl)
     | (simp only [IntKind.min, IntKind.max, IntKind.signed, IntKind.bits, if_true]; omega)
     | omega
     | (intro h; exact h)
     | (intro h; cases h; done)
     | exact .inl rfl
     | exact .inl True.intro
     | exact .inr rfl
     | (simp; done)
   have hml := macV_len kd (bI b)
   generalize macV kd (bI b) = m at *
   have hcp : TO Try.prog (.copy 96 96) [.sl (.o 1) 0 0 0 0 16 (some 16), .sl (.o 1985) 0 0 0 0 32 (some 32)] [(.o 1, .flat [.seg .u8 16 (List.replicate 16 0)]), (.o 1985, .flat [.seg .u8 32 m])] (.int .i64 16) [(.o 1, .flat [.seg .u8 16 (tagL m)])] := by
    rw [← tag_set m]
    refine TO.frzH (pre0 := [(.o 1, .flat [.seg .u8 16 (List.replicate 16 0)])]) (pre1 := [(.o 1985, .flat [.seg .u8 32 m])]) (TO_cpy (d := .sl (.o 1) 0 0 0 0 16 (some 16)) (s := .ros 1 32 (ib m) false) (cs := [0 + 16 ≤ 16, ∀ q, q < 32 → isK .u8 (ib m q) = true]) (by kernel_rfl) ?_) (hw_of rfl ?_) ?_
    ·simp only [All]; and_intros
     all_goals first
      | exact True.intro
      | (intro q _; rfl)
      | (with_reducible assumption)
      | (rw [decide_eq_true_eq]; omega)
      | (rw [decide_eq_false_iff_not]; omega)
      | with_reducible rfl
      | (intro _ _; exact True.intro)
      | (intro _ _; with_reducible rfl)
      | (intro _ _; rfl)
      | (simp only [IntKind.min, IntKind.max, IntKind.signed, IntKind.bits, if_true]; omega)
      | omega
      | (intro h; exact h)
      | (intro h; cases h; done)
      | exact .inl rfl
      | exact .inl True.intro
      | exact .inr rfl
      | (simp; done)
    ·and_intros
     all_goals first
      | exact True.intro
      | exact .inr rfl
      | (intro k hk; rw [Nat.zero_add]; rfl)
      | (with_reducible assumption)
      | (rw [decide_eq_true_eq]; omega)
      | (rw [decide_eq_false_iff_not]; omega)
      | with_reducible rfl
      | (intro _ _; exact True.intro)
      | (intro _ _; with_reducible rfl)
      | (intro _ _; rfl)
      | (simp only [IntKind.min, IntKind.max, IntKind.signed, IntKind.bits, if_true]; omega)
      | omega
      | (intro h; exact h)
      | (intro h; cases h; done)
      | exact .inl rfl
      | exact .inl True.intro
      | exact .inr rfl
      | (simp; done)
    ·rintro n ⟨b, hb⟩ ⟨b', hb'⟩
     simp only [List.mem_cons, List.mem_nil_iff, or_false, Prod.mk.injEq] at hb hb'
     rw [hb.1] at hb'
     cases hb'.1
   generalize tagL m = tg at *
   refine T_al (bdSg_p000 s n id b l1 l2 kd m tg) Try.func43 ?_
   simp only [All]; and_intros
   all_goals first
    | exact True.intro
    | exact hle
    | exact hta
    | exact htb
    | exact hsu
    | exact hma
    | exact hcp
    | (with_reducible assumption)
    | (rw [decide_eq_true_eq]; omega)
    | (rw [decide_eq_false_iff_not]; omega)
    | with_reducible rfl
    | (intro _ _; exact True.intro)
    | (intro _ _; with_reducible rfl)
    | (intro _ _; rfl)
    | (simp only [IntKind.min, IntKind.max, IntKind.signed, IntKind.bits, if_true]; omega)
    | omega
    | (intro h; exact h)
    | (intro h; cases h; done)
    | exact .inl rfl
    | exact .inl True.intro
    | exact .inr rfl
    | (simp; done)
theorem T_ck {s : ByteArray} (hs : s.size ≤ 1000) {n id : Int} (hn : n ≠ 0) (hi : id < 9223372036854775808) {b : ByteArray} (hb : b.size ≤ 1000000000) (t : List Int) : T Try.prog 52 [p0 0, .int .i64 id, .str b, .agg [.seg .u8 16 t]] [(.o 0, kyB s n)] (.bool (chkB s n id b t)) [(.o 0, kyB s n)] := by
 have h := T_sg hs (n := n) hn hi hb
 by_cases h0 : 0 ≤ id ∧ id < n
 ·have e : chkB s n id b t = decide (sgnV s n id b = t) := by rw [chkB, decide_eq_true h0, Bool.true_and, sgnV, if_pos h0]
  have e2 : sgnE n id = 0 := by rw [sgnE, if_pos h0]
  rw [e]
  generalize sgnV s n id b = u at *
  refine T_al (bdCk_p1 s n id b t u (sgnE n id)) Try.func52 ?_
  simp only [All]; and_intros
  all_goals first
   | exact True.intro
   | exact h
   | (with_reducible assumption)
   | (rw [decide_eq_true_eq]; omega)
   | (rw [decide_eq_false_iff_not]; omega)
   | with_reducible rfl
   | (intro _ _; exact True.intro)
   | (intro _ _; with_reducible rfl)
   | (intro _ _; rfl)
   | (simp only [IntKind.min, IntKind.max, IntKind.signed, IntKind.bits, if_true]; omega)
   | omega
   | (intro h; exact h)
   | (intro h; cases h; done)
   | exact .inl rfl
   | exact .inl True.intro
   | exact .inr rfl
   | (simp; done)
 ·have e : chkB s n id b t = false := by rw [chkB, decide_eq_false h0, Bool.false_and]
  have e2 : sgnE n id = 2 := by rw [sgnE, if_neg h0]
  rw [e]
  generalize sgnV s n id b = u at *
  refine T_al (bdCk_p0 s n id b t u (sgnE n id)) Try.func52 ?_
  simp only [All]; and_intros
  all_goals first
   | exact True.intro
   | exact h
   | (with_reducible assumption)
   | (rw [decide_eq_true_eq]; omega)
   | (rw [decide_eq_false_iff_not]; omega)
   | with_reducible rfl
   | (intro _ _; exact True.intro)
   | (intro _ _; with_reducible rfl)
   | (intro _ _; rfl)
   | (simp only [IntKind.min, IntKind.max, IntKind.signed, IntKind.bits, if_true]; omega)
   | omega
   | (intro h; exact h)
   | (intro h; cases h; done)
   | exact .inl rfl
   | exact .inl True.intro
   | exact .inr rfl
   | (simp; done)
end Go.Proofs.Ytpallipnhmoipaa
namespace Go.Proofs.Ytpallipnhmoipaa
open Go Sy Go.Proofs
def lastS (s : Nat → SSign) : Nat → Int
 | 0 => -1
 | k + 1 => (s k).node
def chI (sd : ByteArray) (N n : Int) (b : ByteArray) (m : Nat) (s : Nat → SSign) (k : Nat) : St := ⟨mkT 71 [(0, p0 0), (1, .int .i64 n), (2, .str b), (11, .int .i64 (lastS s k)), (42, sg m s), (43, .int .i64 (m : Nat)), (44, .int .i64 (k : Nat))], [(.o 0, kyB sd N)], 1, []⟩
def chR (sd : ByteArray) (N : Int) : St := ⟨mkT 71 [(10, .int .i64 50)], [(.o 0, kyB sd N)], 1, []⟩
noncomputable def bdCh (sd : ByteArray) (N n : Int) (b : ByteArray) (m : Nat) (s : Nat → SSign) (need : Int) (g : Bool) (mm : Nat) : Bd := { f := Try.f41, args := [p0 0, .int .i64 n, .str b, sg m s, .int .i64 need], pre := [(.o 0, kyB sd N)], base := 1, kb := { db := fun k _ _ _ => bif Nat.beq k 51 then [{ rd := [.o 0], val := .int .i64 N }] else bif Nat.beq k 12 then [{ val := .bool g }] else [], lp := fun _ _ => [(True, .loop (m + 1) (wTo (chI sd N n b m s 0)) (.exit 1) (chI sd N n b m s m)), (True, .loop (mm + 1) (wTo (chI sd N n b m s 0)) .ret (chR sd N))] }, names := fun _ => [.o 0] }
noncomputable def pcCh (sd : ByteArray) (N n : Int) (b : ByteArray) (m : Nat) (s : Nat → SSign) (k : Nat) (c : Bool) : Pc := { c := cB (cB (cR (cL (cR (cR (cR (bodyOf Try.f41))))))), st := chI sd N n b m s k, p := 1, kb := { db := fun k _ _ _ => bif Nat.beq k 52 then [{ rd := [.o 0], val := .bool c }] else [] }, k := fun x_ _ => match x_ with
 | .normal => some (wTo (chI sd N n b m s (k + 1)))
 | .ret => some (wTo (chR sd N))
 | _ => some (wTo (chI sd N n b m s m)) }
noncomputable def bdCn (n : Int) (b : ByteArray) (m : Nat) (s : Nat → SSign) (need : Int) : Bd := { f := Try.f41, args := [.pnil, .int .i64 n, .str b, sg m s, .int .i64 need], kb := { db := fun k _ _ _ => bif Nat.beq k 51 then [{ val := .int .i64 0 }] else [] } }
def rcI (sd : ByteArray) (N n : Int) (b : ByteArray) (m : Nat) (s : Nat → SSign) (k : Nat) : St := ⟨mkT 89 [(1, .int .i64 n), (2, .str b), (3, sg m s), (5, p0 0), (11, .int .i64 (k : Nat))], [(.o 0, kyB sd N)], 1, []⟩
def rcR (sd : ByteArray) (N : Int) : St := ⟨mkT 89 [(10, .int .i64 50)], [(.o 0, kyB sd N)], 1, []⟩
noncomputable def bdRc (sd : ByteArray) (N n : Int) (b : ByteArray) (m : Nat) (s : Nat → SSign) (need : Int) (g : Bool) (mm : Nat) : Bd := { f := Try.f42, args := [kyV sd N, .int .i64 n, .str b, sg m s, .int .i64 need], kb := { db := fun k _ _ _ => bif Nat.beq k 13 then [{ val := .bool g }] else [], lp := fun _ t => [(True, .loop (m + 1) (wToS [(.o 0, nmV (getV t.tmps 5))] (rcI sd N n b m s 0)) (.exit 0) (rcI sd N n b m s m)), (True, .loop (mm + 1) (wToS [(.o 0, nmV (getV t.tmps 5))] (rcI sd N n b m s 0)) .ret (rcR sd N))] } }
noncomputable def pcRc (sd : ByteArray) (N n : Int) (b : ByteArray) (m : Nat) (s : Nat → SSign) (k : Nat) (c : Bool) : Pc := { c := cB (cB (cR (cL (cR (cR (cR (bodyOf Try.f42))))))), st := rcI sd N n b m s k, kb := { db := fun k _ _ _ => bif Nat.beq k 53 then [{ val := .bool c }] else [] }, k := fun x_ _ => match x_ with
 | .normal => some (wTo (rcI sd N n b m s (k + 1)))
 | .ret => some (wTo (rcR sd N))
 | _ => some (wTo (rcI sd N n b m s m)) }
end Go.Proofs.Ytpallipnhmoipaa
