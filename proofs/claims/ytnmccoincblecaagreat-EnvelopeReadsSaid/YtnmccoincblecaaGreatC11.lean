/-
  Contracts and laws that the claim's theorem leans on, joined out of the texts Kc1 Qc0D Qc0 Qb0 Qb1D Qb1 Qb2 Qf0D (own work of this seat): Contracts: macs and tags by the program; Contracts: the example that each statement of envelopes asks for; Contracts: the example that each statement of envelopes asks for; The document's reader of bytes: what it keeps; Contracts: the document's reader of bytes: numbers, texts, raw bytes; Contracts: the document's reader of bytes: numbers, texts, raw bytes; The plain law: what reading never does; Contracts: envelopes as bytes behind any bytes, by the program and by the document's answer; an envelope that the document's answer reads.
-/
import Derived.Test.YtnmccoincblecaaGreatC09
import Derived.Test.YtnmccoincblecaaGreatC10
set_option linter.unusedVariables false
set_option linter.unusedSimpArgs false
set_option maxHeartbeats 1000000
namespace Go.Proofs.YtnmccoincblecaaGreat
open Go Sy Go.Proofs
theorem bdMs_p (x : Int) (K : List Int) (ls : Nat → List Int) (L : List Int) (d : List Int) :
  along Tryz.prog (bdMs x K ls L d) [] = (some (.agg [.seg .u8 32 d], [(.o 0, .flat [.seg .u8 64 K])], [RLoop Tryz.prog none 1 (cB (cB (cR (cL (cR (cR (bodyOf (Bd.f (bdMs x K ls L d))))))))) 65 (St.mk (mkT 24 [(0, .int .u8 x), (1, .ros 1 1 (fun k => [.ros 1 (List.length (ls k)) (ib (ls k)) false]) false), (5, .ptr (.o 2) 0 0 0 0), (6, .ptr (.o 1) 0 0 0 0), (9, .int .i64 0)]) [(.o 0, .flat [.seg .u8 64 K]), (.o 1, .flat [.seg .u8 64 K]), (.o 2, .flat [.seg .u8 32 z32L])] 3 []) (.exit 0) (St.mk (mkT 24 [(0, .int .u8 x), (1, .ros 1 1 (fun k => [.ros 1 (List.length (ls k)) (ib (ls k)) false]) false), (5, .ptr (.o 2) 0 0 0 0), (6, .ptr (.o 1) 0 0 0 0), (9, .int .i64 64)]) [(.o 0, .flat [.seg .u8 64 K]), (.o 1, .flat [.seg .u8 64 L]), (.o 2, .flat [.seg .u8 32 z32L])] 3 []), q (64 : Nat), q K, q (64 : Nat), q K, q (32 : Nat), z32 = z32L, q x, q (1 : Nat), ∀ (k : Nat), k < (1 : Nat) → [V.ros (1 : Nat) (List.length (ls k)) (ib (ls k)) false] = [V.ros (1 : Nat) (List.length (ls k)) (ib (ls k)) false], false = true → false = true, q0, q0, q0, q0, q0, q0, q1, TO Tryz.prog (Prim.append (171 : Nat) (171 : Nat)) [V.sl (Nm.o (nat_lit 67)) (0 : Nat) (0 : Nat) (0 : Nat) (0 : Nat) (1 : Nat) (some (1 : Nat)), V.ros (1 : Nat) (1 : Nat) (fun k => [V.ros (1 : Nat) (List.length (ls k)) (ib (ls k)) false]) false] [(Nm.o (nat_lit 67), B.flat [V.sl (Nm.o (1 : Nat)) (0 : Nat) (0 : Nat) (0 : Nat) (nat_lit 0) (nat_lit 64) (some (nat_lit 64))]), (Nm.o (1 : Nat), B.flat [V.seg IntKind.u8 (64 : Nat) L])] (V.sl (Nm.o (nat_lit 195)) (1 : Nat) (0 : Nat) (0 : Nat) (0 : Nat) (nat_lit 2) none) [(Nm.o (nat_lit 195), B.rows (1 : Nat) (nat_lit 2) (apF L fun k => [V.ros (1 : Nat) (List.length (ls k)) (ib (ls k)) false]) true)], T Tryz.prog 82 [.sl (.o 195) 1 0 0 0 2 none] [(.o 195, .rows 1 2 (apF L fun k => [.ros 1 (List.length (ls k)) (ib (ls k)) false]) true)] (.agg [.seg .u8 32 d]) []]) : Option (V × Heap × List Prop)) := by kernel_rfl

theorem pcMs_p1 (x : Int) (K : List Int) (ls : Nat → List Int) (L : List Int) (j : Nat) (L2 : List Int) :
  alongPc Tryz.prog (pcMs x K ls L j L2) [true] = (some (.normal, St.mk (mkT 24 [(0, .int .u8 x), (1, .ros 1 1 (fun k => [.ros 1 (List.length (ls k)) (ib (ls k)) false]) false), (5, .ptr (.o 2) 0 0 0 0), (6, .ptr (.o 1) 0 0 0 0), (9, .int .i64 (↑(j + 1) : Int))]) [(.o 0, .flat [.seg .u8 64 K]), (.o 1, .flat [.seg .u8 64 L2]), (.o 2, .flat [.seg .u8 32 z32L])] 3 [], [decide ((↑j : Int) < (64 : Int)) = true, (0 : Int) ≤ (↑j : Int) ∧ (↑j : Int) < (64 : Int), (0 : Nat) + Int.toNat (↑j : Int) < (64 : Nat), (0 : Int) ≤ (↑j : Int) ∧ (↑j : Int) < (64 : Int), (0 : Nat) + Int.toNat (↑j : Int) < (64 : Nat), InR IntKind.i64 ((↑j : Int) + (1 : Int)), q (64 : Nat), q K, q (64 : Nat), List.set L ((0 : Nat) + Int.toNat (↑j : Int)) (ibits (fun x x_1 y => x_1 ^^^ y) IntKind.u8 (List.getD L ((0 : Nat) + Int.toNat (↑j : Int)) (0 : Int)) x) = L2, q (32 : Nat), q z32L, q x, q (1 : Nat), ∀ (k : Nat), k < (1 : Nat) → [V.ros (1 : Nat) (List.length (ls k)) (ib (ls k)) false] = [V.ros (1 : Nat) (List.length (ls k)) (ib (ls k)) false], false = true → false = true, q0, q0, q0, q0, q0, q0, (↑j : Int) + (1 : Int) = (↑(j + (1 : Nat)) : Int)]) : Option (Exit × St × List Prop)) := by kernel_rfl
theorem pcMs_p0 (x : Int) (K : List Int) (ls : Nat → List Int) (L : List Int) (j : Nat) (L2 : List Int) :
  alongPc Tryz.prog (pcMs x K ls L j L2) [false] = (some (.exit 0, St.mk (mkT 24 [(0, .int .u8 x), (1, .ros 1 1 (fun k => [.ros 1 (List.length (ls k)) (ib (ls k)) false]) false), (5, .ptr (.o 2) 0 0 0 0), (6, .ptr (.o 1) 0 0 0 0), (9, .int .i64 64)]) [(.o 0, .flat [.seg .u8 64 K]), (.o 1, .flat [.seg .u8 64 L]), (.o 2, .flat [.seg .u8 32 z32L])] 3 [], [decide ((↑j : Int) < (64 : Int)) = false, q (64 : Nat), q K, q (64 : Nat), q L, q (32 : Nat), q z32L, q x, q (1 : Nat), ∀ (k : Nat), k < (1 : Nat) → [V.ros (1 : Nat) (List.length (ls k)) (ib (ls k)) false] = [V.ros (1 : Nat) (List.length (ls k)) (ib (ls k)) false], false = true → false = true, q0, q0, q0, q0, q0, q0, (↑j : Int) = (64 : Int)]) : Option (Exit × St × List Prop)) := by kernel_rfl

theorem bdMa_p0 (k : List Int) (ls : Nat → List Int) (d1 : List Int) (d2 : List Int) :
  along Tryz.prog (bdMa k ls d1 d2) [false] = (some (.agg [.seg .u8 32 d2], [], [decide ((64 : Int) < (↑(List.length k) : Int)) = false, nat_lit 64 ≤ (64 : Nat), ∀ (q : Nat), q < List.length k → true = true, T Tryz.prog 106 [.int .u8 54, .ros 1 1 (fun k => [.ros 1 (List.length (ls k)) (ib (ls k)) false]) false, .ptr (.o 256) 0 0 0 0] [(.o 256, .flat [.seg .u8 64 (segSet 64 (List.replicate 64 (0 : Int)) 0 (Nat.min (List.length k) 64) (ib k))])] (.agg [.seg .u8 32 d1]) [(.o 256, .flat [.seg .u8 64 (segSet 64 (List.replicate 64 (0 : Int)) 0 (Nat.min (List.length k) 64) (ib k))])], T Tryz.prog 106 [.int .u8 92, .sl (.o 1088) 0 0 0 0 1 (some 1), .ptr (.o 256) 0 0 0 0] [(.o 256, .flat [.seg .u8 64 (segSet 64 (List.replicate 64 (0 : Int)) 0 (Nat.min (List.length k) 64) (ib k))]), (.o 1088, .flat [.sl (.o 832) 0 0 0 0 32 (some 32)]), (.o 832, .flat [.seg .u8 32 d1])] (.agg [.seg .u8 32 d2]) [(.o 256, .flat [.seg .u8 64 (segSet 64 (List.replicate 64 (0 : Int)) 0 (Nat.min (List.length k) 64) (ib k))])]]) : Option (V × Heap × List Prop)) := by kernel_rfl

theorem bdLe_p0 (s : ByteArray) (n : Int) :
  along Tryz.prog (bdLe s n) [false] = (some (.int .i64 n, [(.o 0, .flat [.str s, .int .i64 n])], [q false]) : Option (V × Heap × List Prop)) := by kernel_rfl

theorem bdDe_p000 (s : ByteArray) (n : Int) :
  along Tryz.prog (bdDe s n) [false, false, false] = (some (.ptr (.o 960) 0 0 0 0, [(.o 960, .flat [.str s, .int .i64 n])], [decide (n < (1 : Int)) = false, decide ((4096 : Int) < n) = false, decide ((64 : Int) < (↑(ByteArray.size s) : Int)) = false]) : Option (V × Heap × List Prop)) := by kernel_rfl

theorem bdRe_p000 (s : ByteArray) (n : Int) :
  along Tryz.prog (bdRe s n) [false, false, false] = (some (.tup [.agg [.str s, .int .i64 n], .bool true], [], [decide (n < (1 : Int)) = false, decide ((4096 : Int) < n) = false, decide ((64 : Int) < (↑(ByteArray.size s) : Int)) = false]) : Option (V × Heap × List Prop)) := by kernel_rfl

theorem bdTz_p (s : ByteArray) :
  along Tryz.prog (bdTz s) [] = (some (.sl (.o 63) 1 0 0 0 (List.length (textB s)) none, [(.o 63, bs (textB s))], [T Tryz.prog 35 [.snil, .int .i64 (↑(ByteArray.size s) : Int)] [] (sb (.o 257) (putZ (↑(ByteArray.size s) : Int))) [(.o 257, bs (putZ (↑(ByteArray.size s) : Int)))], q (List.length (putZ (↑(ByteArray.size s) : Int))), (List.length (putZ (↑(ByteArray.size s) : Int)) + ByteArray.size s) * (1 : Nat) ≤ (140737488355328 : Nat), List.length (putZ (↑(ByteArray.size s) : Int)) + ByteArray.size s = List.length (textB s), ∀ (k : Nat), k < List.length (putZ (↑(ByteArray.size s) : Int)) + ByteArray.size s → catF (List.length (putZ (↑(ByteArray.size s) : Int))) (bl (putZ (↑(ByteArray.size s) : Int))) (fun k => [V.int IntKind.u8 (byteAt s k)]) k = bl (textB s) k, true = false → true = false, q0, q0, q0, List.length (putZ (↑(ByteArray.size s) : Int)) + ByteArray.size s = List.length (textB s), (none : Option Nat) = none ∨ (none : Option Nat) = none]) : Option (V × Heap × List Prop)) := by kernel_rfl

theorem bdSg_p011 (s : ByteArray) (n : Int) (id : Int) (b : ByteArray) (l1 : List UInt8) (l2 : List UInt8) (kd : List Int) (m : List Int) (t : List Int) :
  along Tryz.prog (bdSg s n id b l1 l2 kd m t) [false, true, true] = (some (.tup [.agg [.seg .u8 16 z16], .int .i64 2], [(.o 0, .flat [.str s, .int .i64 n])], [T Tryz.prog 40 [.ptr (.o 0) 0 0 0 0] [(.o 0, .flat [.str s, .int .i64 n])] (.int .i64 n) [(.o 0, .flat [.str s, .int .i64 n])], decide (n = (0 : Int)) = false, decide (id < (0 : Int)) = true, q2]) : Option (V × Heap × List Prop)) := by kernel_rfl
theorem bdSg_p001 (s : ByteArray) (n : Int) (id : Int) (b : ByteArray) (l1 : List UInt8) (l2 : List UInt8) (kd : List Int) (m : List Int) (t : List Int) :
  along Tryz.prog (bdSg s n id b l1 l2 kd m t) [false, false, true] = (some (.tup [.agg [.seg .u8 16 z16], .int .i64 2], [(.o 0, .flat [.str s, .int .i64 n])], [T Tryz.prog 40 [.ptr (.o 0) 0 0 0 0] [(.o 0, .flat [.str s, .int .i64 n])] (.int .i64 n) [(.o 0, .flat [.str s, .int .i64 n])], decide (n = (0 : Int)) = false, decide (id < (0 : Int)) = false, decide (n ≤ id) = true]) : Option (V × Heap × List Prop)) := by kernel_rfl
theorem bdSg_p000 (s : ByteArray) (n : Int) (id : Int) (b : ByteArray) (l1 : List UInt8) (l2 : List UInt8) (kd : List Int) (m : List Int) (t : List Int) :
  along Tryz.prog (bdSg s n id b l1 l2 kd m t) [false, false, false] = (some (.tup [.agg [.seg .u8 16 t], .int .i64 0], [(.o 0, .flat [.str s, .int .i64 n])], [T Tryz.prog 40 [.ptr (.o 0) 0 0 0 0] [(.o 0, .flat [.str s, .int .i64 n])] (.int .i64 n) [(.o 0, .flat [.str s, .int .i64 n])], decide (n = (0 : Int)) = false, decide (id < (0 : Int)) = false, decide (n ≤ id) = false, T Tryz.prog 34 [.snil, .str s] [] (sb (.o 1217) l1) [(.o 1217, bs l1)], T Tryz.prog 35 [.snil, .int .i64 id] [] (sb (.o 1345) l2) [(.o 1345, bs l2)], T Tryz.prog 82 [.sl (.o 1409) 0 0 0 0 2 (some 2)] [(.o 1409, .flat [.sl (.o 1217) 1 0 0 0 (List.length l1) none, .sl (.o 1345) 1 0 0 0 (List.length l2) none]), (.o 1217, bs l1), (.o 1345, bs l2)] (.agg [.seg .u8 32 kd]) [], T Tryz.prog 83 [.sl (.o 1537) 0 0 0 0 32 (some 32), .sl (.o 1857) 1 0 0 0 1 (some 1)] [(.o 1537, .flat [.seg .u8 32 kd]), (.o 1857, .rows 1 1 (getL [[.ros 1 (ByteArray.size b) (fun q => [.int .u8 (byteAt b q)]) false]]) false)] (.agg [.seg .u8 32 m]) [], TO Tryz.prog (Prim.copy (22 : Nat) (22 : Nat)) [V.sl (Nm.o (nat_lit 1)) (0 : Nat) (0 : Nat) (0 : Nat) (nat_lit 0) (nat_lit 16) (some (nat_lit 16)), V.sl (Nm.o (nat_lit 1985)) (0 : Nat) (0 : Nat) (0 : Nat) (nat_lit 0) (nat_lit 32) (some (nat_lit 32))] [(Nm.o (nat_lit 1), B.flat [V.seg IntKind.u8 (16 : Nat) z16]), (Nm.o (nat_lit 1985), B.flat [V.seg IntKind.u8 (32 : Nat) m])] (V.int IntKind.i64 (16 : Int)) [(Nm.o (nat_lit 1), B.flat [V.seg IntKind.u8 (16 : Nat) t])]]) : Option (V × Heap × List Prop)) := by kernel_rfl

theorem bdCk_p1 (s : ByteArray) (n : Int) (id : Int) (b : ByteArray) (t : List Int) (u : List Int) (e : Int) :
  along Tryz.prog (bdCk s n id b t u e) [true] = (some (.bool (decide (u = t)), [(.o 0, .flat [.str s, .int .i64 n])], [T Tryz.prog 41 [.ptr (.o 0) 0 0 0 0, .int .i64 id, .str b] [(.o 0, .flat [.str s, .int .i64 n])] (.tup [.agg [.seg .u8 16 u], .int .i64 e]) [(.o 0, .flat [.str s, .int .i64 n])], decide (e = (0 : Int)) = true]) : Option (V × Heap × List Prop)) := by kernel_rfl
theorem bdCk_p0 (s : ByteArray) (n : Int) (id : Int) (b : ByteArray) (t : List Int) (u : List Int) (e : Int) :
  along Tryz.prog (bdCk s n id b t u e) [false] = (some (.bool false, [(.o 0, .flat [.str s, .int .i64 n])], [T Tryz.prog 41 [.ptr (.o 0) 0 0 0 0, .int .i64 id, .str b] [(.o 0, .flat [.str s, .int .i64 n])] (.tup [.agg [.seg .u8 16 u], .int .i64 e]) [(.o 0, .flat [.str s, .int .i64 n])], decide (e = (0 : Int)) = false]) : Option (V × Heap × List Prop)) := by kernel_rfl

def k0 (k : List Int) : List Int := (List.range 64).map fun i => k.getD i 0
theorem T_msK {k : List Int} {x : Int} {ls : Nat → List Int} (hb : (ls 0).length ≤ 1000000000) : T Tryz.prog 106 [.int .u8 x, rbs 1 ls, p0K 0] [(.o 0, .flat [.seg .u8 64 (k0 k)])] (agD (shaV (padK k x ++ ls 0))) [(.o 0, .flat [.seg .u8 64 (k0 k)])] := by
 have hL : RLoop Tryz.prog none 1 (cB (cB (cR (cL (cR (cR (bodyOf Tryz.f106))))))) (64 + 1) (msI x (k0 k) ls (padJ k x 0) 0) (.exit 0) (msI x (k0 k) ls (padJ k x 64) 64) := by
  have hstep : ∀ j, j < 64 → R Tryz.prog none 1 (cB (cB (cR (cL (cR (cR (bodyOf Tryz.f106))))))) (msI x (k0 k) ls (padJ k x j) j) .normal (msI x (k0 k) ls (padJ k x (j + 1)) (j + 1)) := by
   intro j hj
   have e := padJ_set k x hj
   refine R_alongPc NG MO _ (pcMs_p1 x (k0 k) ls (padJ k x j) j (padJ k x (j + 1))) ?_ (by show 1 ≤ 3; decide)
   simp only [All, Int.toNat_natCast, Nat.zero_add]; and_intros
   all_goals first | exact True.intro | exact e | (with_reducible assumption) | (rw [decide_eq_true_eq]; omega) | (intro _ _; exact True.intro) | (simp only [IntKind.min, IntKind.max, IntKind.signed, IntKind.bits, if_true]; omega) | omega | (intro h; exact h)
  have hend : R Tryz.prog none 1 (cB (cB (cR (cL (cR (cR (bodyOf Tryz.f106))))))) (msI x (k0 k) ls (padJ k x 64) 64) (.exit 0) (msI x (k0 k) ls (padJ k x 64) 64) := by
   refine R_alongPc NG MO _ (pcMs_p0 x (k0 k) ls (padJ k x 64) 64 []) ?_ (by show 1 ≤ 3; decide)
   simp only [All]; and_intros
   all_goals first | exact True.intro | (rw [decide_eq_false_iff_not]; omega) | (intro _ _; exact True.intro) | omega | (intro h; exact h)
  exact RLoop.inv (fun j => msI x (k0 k) ls (padJ k x j) j) 64 hstep hend (by simp)
 have hpl := padK_len k x
 rw [show padJ k x 0 = k0 k from padJ_zero k x, padJ_end] at hL
 generalize k0 k = K at *
 generalize padK k x = L at *
 have hT : TO Tryz.prog (.append 171 171) [.sl (.o 67) 0 0 0 0 1 (some 1), rbs 1 ls] [(.o 67, .flat [.sl (.o 1) 0 0 0 0 64 (some 64)]), (.o 1, .flat [.seg .u8 64 L])] (.sl (.o 195) 1 0 0 0 2 none) [(.o 195, .rows 1 2 (apF L fun k => [rb (ls k)]) true)] := by
  refine TO.frz (args := [.ros 1 1 (fun _ => [rb L]) true, rbs 1 ls]) (TO_app (base := 195) (cs := [∀ k, k < 1 → solid [rb (ls k)] = true, 0 < 1, (1 + 1) * 24 ≤ 140737488355328]) (by kernel_rfl) ?_ (fun ρ h => h _ ⟨_, List.mem_cons_self ..⟩)) ?_ ?_
  ·simp only [All]; and_intros
   all_goals first | exact True.intro | (intro k _; rfl) | omega
  ·intro U ρ w xs H hv
   obtain ⟨y, z, rfl, h1, h2⟩ := T_two hv
   rw [VsRel]; refine ⟨y, _, rfl, ?_, ?_⟩
   ·refine ros_of_flat H (List.mem_cons_self ..) h1 (fun _ => rfl) (by simp [V.cell]) fun i hi => ⟨rfl, .sl (.o 1) 0 0 0 0 64 (some 64), by obtain rfl : i = 0 := (by omega); rfl, fun z hz => ?_⟩
    exact ros_of_seg (m := 64) (xs := L) H (List.mem_cons_of_mem _ (List.mem_cons_self ..)) (by rw [hpl]; exact hz) (by omega) (fun _ _ => rfl)
   ·rw [VsRel]; refine ⟨z, _, rfl, VRel.ros (frz_ok H).1 h2, ?_⟩
    rw [VsRel]
  ·rintro n ⟨b, hb⟩ ⟨b', hb'⟩
   simp only [List.mem_cons, List.mem_nil_iff, or_false, Prod.mk.injEq] at hb hb'
   rw [hb.1] at hb'
   rcases hb' with ⟨h, _⟩ | ⟨h, _⟩ <;> cases h
 have hS : T Tryz.prog 82 [.sl (.o 195) 1 0 0 0 2 none] [(.o 195, .rows 1 2 (apF L fun k => [rb (ls k)]) true)] (agD (shaV (L ++ ls 0))) [] := by
  refine T.frz (T_sr2 (fun i => if i = 0 then L else ls 0) (by simp only [if_true]; rw [if_neg (by decide)]; omega)) (hw_of rfl ?_) (by rintro n ⟨b, hb⟩; cases hb)
  and_intros
  all_goals first | exact True.intro | (intro k hk; rcases k with _ | _ | k <;> first | rfl | omega) | with_reducible rfl | omega | (intro h; cases h; done)
 generalize shaV (L ++ ls 0) = d at *
 refine T_al (bdMs_p x K ls L d) Tryz.func106 ?_
 simp only [All]; and_intros
 all_goals first | exact True.intro | exact hL | exact hT | exact hS | rfl | (intro _ _; exact True.intro) | (intro h; exact h)
theorem T_msA {k : List Int} {x : Int} {ls : Nat → List Int} (hb : (ls 0).length ≤ 1000000000) (m : Nat) : T Tryz.prog 106 [.int .u8 x, rbs 1 ls, p0K m] [(.o m, .flat [.seg .u8 64 (k0 k)])] (agD (shaV (padK k x ++ ls 0))) [(.o m, .flat [.seg .u8 64 (k0 k)])] := by
 obtain ⟨σ, hσ, h3⟩ := T.at (T_msK (k := k) (x := x) hb) [.o 0] [.o m] (by decide) (by simp) rfl
 simp only [List.map_cons, List.map_nil, List.cons.injEq, and_true] at hσ
 simpa [V.rens, V.ren, Heap.ren, Sy.B.ren, agD, rbs, p0K, hσ] using h3
theorem k0_set {k : List Int} (hk : k.length ≤ 64) : segSet 64 (List.replicate 64 0) 0 (Nat.min k.length 64) (ib k) = k0 k := by
 unfold segSet k0
 apply List.map_congr_left
 intro q hq
 have hq := List.mem_range.1 hq
 have hm : Nat.min k.length 64 = k.length := Nat.min_eq_left hk
 rw [hm]
 have hb : q.blt (0 + k.length) = decide (q < k.length) := by rw [Bool.eq_iff_iff, Nat.blt_eq, decide_eq_true_eq]; omega
 have h0 : Nat.ble 0 q = true := by rw [Nat.ble_eq]; exact Nat.zero_le _
 rw [h0, hb]
 by_cases h : q < k.length
 ·rw [decide_eq_true h]; rfl
 ·rw [decide_eq_false h]
  show (List.replicate 64 (0 : Int)).getD q 0 = _
  rw [List.getD_eq_getElem?_getD, List.getD_eq_getElem?_getD, List.getElem?_eq_none (l := k) (by omega), List.getElem?_replicate, if_pos hq]; rfl
theorem T_ms2 {k d : List Int} {x : Int} (hd : d.length = 32) : T Tryz.prog 106 [.int .u8 x, .sl (.o 1088) 0 0 0 0 1 (some 1), p0K 256] [(.o 256, .flat [.seg .u8 64 (k0 k)]), (.o 1088, .flat [.sl (.o 832) 0 0 0 0 32 (some 32)]), (.o 832, .flat [.seg .u8 32 d])] (agD (shaV (padK k x ++ d))) [(.o 256, .flat [.seg .u8 64 (k0 k)])] := by
 refine T.frzH (pre1 := [(.o 1088, .flat [.sl (.o 832) 0 0 0 0 32 (some 32)]), (.o 832, .flat [.seg .u8 32 d])]) (T_msA (k := k) (x := x) (ls := fun _ => d) (by rw [hd]; decide) 256) ?_ ?_
 ·intro U ρ w xs H hv
  rw [VsRel] at hv
  obtain ⟨a, r, rfl, h0, hv⟩ := hv
  obtain ⟨y, z, rfl, h1, h2⟩ := T_two hv
  rw [VsRel]; refine ⟨a, _, rfl, VRel.mono (frz_ok H).1 (fun _ _ h => h) h0, ?_⟩
  rw [VsRel]; refine ⟨y, _, rfl, ?_, ?_⟩
  ·refine ros_of_flat (f := fun _ => rb d) H (List.mem_cons_self ..) h1 (fun h => by cases h) (by simp [V.cell]) fun i hi => ⟨rfl, .sl (.o 832) 0 0 0 0 32 (some 32), by obtain rfl : i = 0 := (by omega); rfl, fun z hz => ?_⟩
   exact ros_of_seg (m := 32) (xs := d) H (List.mem_cons_of_mem _ (List.mem_cons_self ..)) (by rw [hd]; exact hz) (by omega) (fun _ _ => rfl)
  ·rw [VsRel]; refine ⟨z, _, rfl, VRel.mono (frz_ok H).1 (fun _ _ h => h) h2, ?_⟩
   rw [VsRel]
 ·rintro n ⟨b, hb⟩ ⟨b', hb'⟩
  simp only [List.mem_cons, List.mem_nil_iff, or_false, Prod.mk.injEq] at hb hb'
  rw [hb.1] at hb'
  rcases hb' with ⟨h, _⟩ | ⟨h, _⟩ <;> cases h
theorem T_ma {k : List Int} (hk : k.length ≤ 64) {ls : Nat → List Int} (hb : (ls 0).length ≤ 1000000000) : T Tryz.prog 83 [rb k, rbs 1 ls] [] (agD (macV k (ls 0))) [] := by
 have hs := k0_set hk
 have h1 := T_msA (k := k) (x := 54) hb 256
 have hl := shaV_len (padK k 54 ++ ls 0)
 have h2 := T_ms2 (k := k) (x := 92) hl
 have e : macV k (ls 0) = shaV (padK k 92 ++ shaV (padK k 54 ++ ls 0)) := rfl
 rw [← e] at h2
 generalize macV k (ls 0) = d2 at *
 generalize shaV (padK k 54 ++ ls 0) = d1 at *
 rw [← hs] at h1 h2
 refine T_al (bdMa_p0 k ls d1 d2) Tryz.func83 ?_
 simp only [All]; and_intros
 all_goals first | exact True.intro | exact h1 | exact h2 | (rw [decide_eq_false_iff_not]; omega) | (intro _ _; exact True.intro) | omega
theorem T_le (s : ByteArray) (n : Int) : T Tryz.prog 40 [p0K 0] [(.o 0, kyB s n)] (.int .i64 n) [(.o 0, kyB s n)] := by
 refine T_al (bdLe_p0 s n) Tryz.func40 ?_
 simp only [All]; and_intros
 all_goals first | exact True.intro
theorem T_de {s : ByteArray} {n : Int} (hs : s.size ≤ 64) (hn : 1 ≤ n ∧ n ≤ 4096) (m : Nat) : T Tryz.prog 39 [.str s, .int .i64 n] [] (p0K m) [(.o m, kyB s n)] := by
 have h : T Tryz.prog 39 [.str s, .int .i64 n] [] (p0K 960) [(.o 960, kyB s n)] := by
  refine T_al (bdDe_p000 s n) Tryz.func39 ?_
  simp only [All]; and_intros
  all_goals first | exact True.intro | (rw [decide_eq_false_iff_not]; omega)
 obtain ⟨σ, hσ, h3⟩ := T.at h [.o 960] [.o m] (by decide) (by simp) rfl
 simp only [List.map_cons, List.map_nil, List.cons.injEq, and_true] at hσ
 simpa [V.rens, V.ren, Heap.ren, Sy.B.ren, kyB, p0K, hσ] using h3
theorem T_re {s : ByteArray} {n : Int} (hs : s.size ≤ 64) (hn : 1 ≤ n ∧ n ≤ 4096) : T Tryz.prog 38 [.str s, .int .i64 n] [] (.tup [kyV s n, .bool true]) [] := by
 refine T_al (bdRe_p000 s n) Tryz.func38 ?_
 simp only [All]; and_intros
 all_goals first | exact True.intro | (rw [decide_eq_false_iff_not]; omega)
theorem T_tz {s : ByteArray} (hs : s.size ≤ 1099511627776) (m : Nat) : T Tryz.prog 34 [.snil, .str s] [] (sb (.o m) (textB s)) [(.o m, bs (textB s))] := by
 have hz := num63_nat (n := s.size) (by omega)
 have e : textB s = putZ s.size ++ strB s := textB_eq s
 have h9 := putZ_len hz
 have hle : (putZ (s.size : Int)).length + s.size = (textB s).length := by rw [e, List.length_append (bs := strB s), strB_len]
 have h : T Tryz.prog 34 [.snil, .str s] [] (sb (.o 63) (textB s)) [(.o 63, bs (textB s))] := by
  refine T_al (bdTz_p s) Tryz.func34 ?_
  simp only [All]; and_intros
  all_goals first | exact T_putNil hz | exact hle | omega | (rw [e, bl_append (putZ (s.size : Int)) (strB s)]; intro k _; rfl) | simp
 obtain ⟨σ, hσ, h3⟩ := T.at h [.o 63] [.o m] (by decide) (by simp) rfl
 simp only [List.map_cons, List.map_nil, List.cons.injEq, and_true] at hσ
 simpa [V.rens, V.ren, Heap.ren, Sy.B.ren, sb, bs, hσ] using h3
theorem rb_bI (b : ByteArray) : V.ros 1 b.size (fun q => [V.int IntKind.u8 (byteAt b q)]) false = rb (bI b) := by
 rw [rb, bI_len]
 congr 1
 funext q
 show _ = [V.int .u8 ((bI b).getD q 0)]
 rw [bI_get]
theorem tag_set (m : List Int) : segSet 16 (List.replicate 16 0) 0 (Nat.min 32 16) (ib m) = tagL m := by
 unfold segSet tagL
 apply List.map_congr_left
 intro q hq
 have hq := List.mem_range.1 hq
 have hb : q.blt (0 + Nat.min 32 16) = true := by rw [Nat.blt_eq]; show q < 0 + 16; omega
 have h0 : Nat.ble 0 q = true := by rw [Nat.ble_eq]; exact Nat.zero_le _
 rw [h0, hb]; rfl
theorem T_sg {s : ByteArray} (hs : s.size ≤ 1000) {n id : Int} (hn : n ≠ 0) (hi : id < 9223372036854775808) {b : ByteArray} (hb : b.size ≤ 1000000000) : T Tryz.prog 41 [p0K 0, .int .i64 id, .str b] [(.o 0, kyB s n)] (.tup [.agg [.seg .u8 16 (sgnV s n id b)], .int .i64 (sgnE n id)]) [(.o 0, kyB s n)] := by
 have hle := T_le s n
 by_cases h0 : id < 0
 ·rw [sgnV, sgnE, if_neg (by omega), if_neg (by omega)]
  refine T_al (bdSg_p011 s n id b [] [] [] [] []) Tryz.func41 ?_
  simp only [All]; and_intros
  all_goals first | exact True.intro | exact hle | (rw [decide_eq_true_eq]; omega) | (rw [decide_eq_false_iff_not]; omega)
 ·by_cases h1 : n ≤ id
  ·rw [sgnV, sgnE, if_neg (by omega), if_neg (by omega)]
   refine T_al (bdSg_p001 s n id b [] [] [] [] []) Tryz.func41 ?_
   simp only [All]; and_intros
   all_goals first | exact True.intro | exact hle | (rw [decide_eq_true_eq]; omega) | (rw [decide_eq_false_iff_not]; omega)
  ·rw [sgnV, sgnE, if_pos (by omega), if_pos (by omega)]
   have hi2 : num63 id := ⟨by omega, by omega⟩
   have hta := T_tz (s := s) (by omega) 1217
   have htb := T_putNil hi2 (m := 1345)
   have hl1 := textB_len (s := s) (by omega)
   have hl2 := putZ_len hi2
   rw [tagV, uI_app]
   generalize textB s = l1 at *
   generalize putZ id = l2 at *
   have hsu : T Tryz.prog 82 [.sl (.o 1409) 0 0 0 0 2 (some 2)] [(.o 1409, .flat [.sl (.o 1217) 1 0 0 0 l1.length none, .sl (.o 1345) 1 0 0 0 l2.length none]), (.o 1217, bs l1), (.o 1345, bs l2)] (agD (shaV (uI l1 ++ uI l2))) [] := by
    refine T.frz (T_sr2 (fun i => if i = 0 then uI l1 else uI l2) (by simp only [if_true]; rw [if_neg (by decide), uI_len, uI_len]; omega)) ?_ (by rintro n ⟨b, hb⟩; cases hb)
    intro U ρ w xs H hv
    rw [VsRel] at hv
    obtain ⟨y, r, rfl, h1, h2⟩ := hv
    rw [VsRel]; refine ⟨y, _, rfl, ?_, by rw [VsRel] at h2 ⊢; exact h2⟩
    refine ros_of_flat H (List.mem_cons_self ..) h1 (fun h => by cases h) (by simp [V.cell]) fun i hi => ?_
    rcases i with _ | _ | i
    ·refine ⟨rfl, .sl (.o 1217) 1 0 0 0 l1.length none, rfl, fun z hz => VRel.ros (Imm.le_refl _) (leV_ok (frz_ok H).1 (frz_ok H).2.1 _ (rb (uI l1)) _ z rfl ?_ hz)⟩
     and_intros
     all_goals first | exact True.intro | exact (uI_len l1).symm | (intro k _; rw [Nat.zero_add]; exact ib_uI l1 k) | omega | (intro h; cases h; done)
    ·refine ⟨rfl, .sl (.o 1345) 1 0 0 0 l2.length none, rfl, fun z hz => VRel.ros (Imm.le_refl _) (leV_ok (frz_ok H).1 (frz_ok H).2.1 _ (rb (uI l2)) _ z rfl ?_ hz)⟩
     and_intros
     all_goals first | exact True.intro | exact (uI_len l2).symm | (intro k _; rw [Nat.zero_add]; exact ib_uI l2 k) | omega | (intro h; cases h; done)
    ·omega
   have hkl := shaV_len (uI l1 ++ uI l2)
   generalize shaV (uI l1 ++ uI l2) = kd at *
   have hma : T Tryz.prog 83 [.sl (.o 1537) 0 0 0 0 32 (some 32), .sl (.o 1857) 1 0 0 0 1 (some 1)] [(.o 1537, .flat [.seg .u8 32 kd]), (.o 1857, .rows 1 1 (getL [[.ros 1 b.size (fun q => [V.int IntKind.u8 (byteAt b q)]) false]]) false)] (agD (macV kd (bI b))) [] := by
    refine T.frz (T_ma (k := kd) (by omega) (ls := fun _ => bI b) (by rw [bI_len]; exact hb)) (hw_of rfl ?_) (by rintro n ⟨b, hb⟩; cases hb)
    and_intros
    all_goals first | exact True.intro | exact hkl.symm | (intro k hk; obtain rfl : k = 0 := (by omega); show [V.ros 1 b.size (fun q => [V.int IntKind.u8 (byteAt b q)]) false] = [rb (bI b)]; rw [rb_bI]) | (intro k hk; rw [Nat.zero_add]; rfl) | with_reducible rfl | omega | (intro h; cases h; done)
   have hml := macV_len kd (bI b)
   generalize macV kd (bI b) = m at *
   have hcp : TO Tryz.prog (.copy 22 22) [.sl (.o 1) 0 0 0 0 16 (some 16), .sl (.o 1985) 0 0 0 0 32 (some 32)] [(.o 1, .flat [.seg .u8 16 (List.replicate 16 0)]), (.o 1985, .flat [.seg .u8 32 m])] (.int .i64 16) [(.o 1, .flat [.seg .u8 16 (tagL m)])] := by
    rw [← tag_set m]
    refine TO.frzH (pre0 := [(.o 1, .flat [.seg .u8 16 (List.replicate 16 0)])]) (pre1 := [(.o 1985, .flat [.seg .u8 32 m])]) (TO_cpy (d := .sl (.o 1) 0 0 0 0 16 (some 16)) (s := .ros 1 32 (ib m) false) (cs := [0 + 16 ≤ 16, ∀ q, q < 32 → isK .u8 (ib m q) = true]) (by kernel_rfl) ?_) (hw_of rfl ?_) ?_
    ·simp only [All]; and_intros
     all_goals first | exact True.intro | (intro q _; rfl) | omega
    ·and_intros
     all_goals first | exact True.intro | exact .inr rfl | (intro k hk; rw [Nat.zero_add]; rfl) | with_reducible rfl | omega | (intro h; cases h; done)
    ·rintro n ⟨b, hb⟩ ⟨b', hb'⟩
     simp only [List.mem_cons, List.mem_nil_iff, or_false, Prod.mk.injEq] at hb hb'
     rw [hb.1] at hb'
     cases hb'.1
   generalize tagL m = tg at *
   refine T_al (bdSg_p000 s n id b l1 l2 kd m tg) Tryz.func41 ?_
   simp only [All]; and_intros
   all_goals first | exact True.intro | exact hle | exact hta | exact htb | exact hsu | exact hma | exact hcp | (rw [decide_eq_false_iff_not]; omega)
theorem T_ck {s : ByteArray} (hs : s.size ≤ 1000) {n id : Int} (hn : n ≠ 0) (hi : id < 9223372036854775808) {b : ByteArray} (hb : b.size ≤ 1000000000) (t : List Int) : T Tryz.prog 23 [p0K 0, .int .i64 id, .str b, .agg [.seg .u8 16 t]] [(.o 0, kyB s n)] (.bool (chkB s n id b t)) [(.o 0, kyB s n)] := by
 have h := T_sg hs (n := n) hn hi hb
 by_cases h0 : 0 ≤ id ∧ id < n
 ·have e : chkB s n id b t = decide (sgnV s n id b = t) := by rw [chkB, decide_eq_true h0, Bool.true_and, sgnV, if_pos h0]
  have e2 : sgnE n id = 0 := by rw [sgnE, if_pos h0]
  rw [e]
  generalize sgnV s n id b = u at *
  refine T_al (bdCk_p1 s n id b t u (sgnE n id)) Tryz.func23 ?_
  simp only [All]; and_intros
  all_goals first | exact True.intro | exact h | (rw [decide_eq_true_eq]; omega)
 ·have e : chkB s n id b t = false := by rw [chkB, decide_eq_false h0, Bool.false_and]
  have e2 : sgnE n id = 2 := by rw [sgnE, if_neg h0]
  rw [e]
  generalize sgnV s n id b = u at *
  refine T_al (bdCk_p0 s n id b t u (sgnE n id)) Tryz.func23 ?_
  simp only [All]; and_intros
  all_goals first | exact True.intro | exact h | (rw [decide_eq_false_iff_not]; omega)
end Go.Proofs.YtnmccoincblecaaGreat
namespace Go.Proofs.YtnmccoincblecaaGreat
open Go Sy Go.Proofs
def rS : ByteArray := ByteArray.mk (Array.mk [114])
def xB : ByteArray := ByteArray.mk (Array.mk [120])
def eB : ByteArray := ByteArray.mk (Array.mk [])
def rqP (t : List Int) : SReq := { client := 1, num := 1, data := xB, tag := t }
def bP : ByteArray := baL (bodyL (rqP []))
def msgP (r : SReq) : SMsg := { msg0 1 with epoch := 1, slot := 1, batch := { noop := false, n := 1, req := fun _ => r } }
def clP (t : List Int) : SEnv := { src := 5, body := bP, tag := t }
def clR (cs : List V) : B := .rows 18 1 (fun _ => cs) true
def clS (n : Nm) : V := .sl n 18 0 0 0 1 none
noncomputable def bdKs : Bd := { f := Tryz.f12, args := [], kb := { db := dbQ [(39, fun _ _ lo => [{ val := p0K lo, post := [(.o lo, kyB rS 72)] }]), (38, cVal (.tup [kyV rS 72, .bool true]))] }, names := fun t => match getV t.tmps 0 with | .ptr a _ _ _ _ => [a] | _ => [] }
noncomputable def bdMy (t : List Int) : Bd := { f := Tryz.f67, args := [.int .i64 8, .agg (rqP t).c], kb := kb0 }
noncomputable def bdMk (t : List Int) : Bd := { f := Tryz.f21, args := [p0K 0, .int .i64 4, .int .i64 1, .int .i64 1, .str xB], pre := [(.o 0, kyB rS 72)], base := 1, kb := { db := dbQ [(40, fun _ _ _ => [{ rd := [.o 0], val := .int .i64 72 }]), (67, cVal (.bool true)), (68, cVal (.str bP)), (41, fun _ _ _ => [{ rd := [.o 0], val := .tup [.agg [.seg .u8 16 t], .int .i64 0] }])] }, names := fun _ => [.o 0] }
noncomputable def bdBy0 (m : SMsg) (s : ByteArray) (e : Int) : Bd := { f := Tryz.f102, args := [.agg m.c], kb := { db := dbQ [(19, cVal (.tup [.str s, .int .i64 e]))] } }
noncomputable def bdVt0 (v : SVote) (s : ByteArray) : Bd := { f := Tryz.f72, args := [.agg v.c], kb := { db := dbQ [(102, cVal (.str s))] } }
def kC1 (cs : List V) : Exit → St → Option W := fun _ st => match pull (.o 0) st.heap with
 | some (.flat [.sl a _ _ _ _ _ _], _) => some ⟨[(.o 63, a)], [], [(.o 0, .set (.flat [clS (.o 63)])), (.o 63, .set (clR cs)), (.o 1, .keep)], none, st.next⟩
 | _ => none
noncomputable def bdC1 (t : List Int) : Bd := { f := Tryz.f69, args := [.agg [.bool false, rq 1 (fun _ => rqP t)], .ptr (.o 0) 0 0 0 0, .ptr (.o 1) 0 0 0 0], pre := [(.o 0, .flat [.snil]), (.o 1, .flat [.int .i64 4])], base := 2, kb := { db := dbQ [(68, cVal (.str bP))], lp := fun _ _ => [(True, .rounds 2)] }, names := fun _ => [.o 0, .o 63, .o 1], k := kC1 (clP t).c }
noncomputable def bdC2 (s : Nat → SSign) (b : ByteArray) : Bd := { f := Tryz.f70, args := [sg 0 s, .str b, .any], kb := { db := fun _ _ _ _ => [], lp := fun _ _ => [(True, .rounds 1)] } }
def fnB : B := .flat [.fn (.func 69) [] [.ptr (.o 2) 0 0 0 0, .ptr (.o 3) 0 0 0 0]]
def fnS : B := .flat [.fn (.func 70) [] [.ptr (.o 2) 0 0 0 0]]
def kC3 (cs : List V) : Exit → St → Option W := fun _ st => match pull (.o 2) st.heap with
 | some (.flat [.sl a _ _ _ _ _ _], _) => some ⟨[(.o 63, a)], [], [(.o 2, .set (.flat [clS (.o 63)])), (.o 63, .set (clR cs)), (.o 0, .set fnB), (.o 1, .set fnS), (.o 3, .keep)], none, st.next⟩
 | _ => none
def c1C (t : List Int) : List V → Heap → Nat → List Cl := fun _ _ lo => [{ pre := [.o 2], rd := [.o 3], val := .tup [], post := [(.o 2, .flat [clS (.o lo)]), (.o lo, clR (clP t).c)] }]
noncomputable def bdC3 (t : List Int) : Bd := { f := Tryz.f71, args := [.agg (msgP (rqP t)).c, .ptr (.o 0) 0 0 0 0, .ptr (.o 1) 0 0 0 0], pre := [(.o 2, .flat [.snil]), (.o 0, fnB), (.o 1, fnS), (.o 3, .flat [.int .i64 4])], base := 4, kb := { db := dbQ [(69, c1C t), (70, cVal (.tup [])), (72, cVal (.str eB))], lp := fun _ _ => [(True, .rounds 1)] }, names := fun _ => [.o 2, .o 63, .o 0, .o 1, .o 3], k := kC3 (clP t).c }
def c3C (t : List Int) : List V → Heap → Nat → List Cl := fun a h lo => match a with
 | [_, .ptr c7 _ _ _ _, .ptr c8 _ _ _ _] => match pull c7 h with
  | some (.flat [.fn _ _ [.ptr o _ _ _ _, .ptr n _ _ _ _]], _) => [{ pre := [o], rd := [c7, c8, n], val := .tup [], post := [(o, .flat [clS (.o lo)]), (.o lo, clR (clP t).c)] }]
  | _ => []
 | _ => []
def nmCl (st : St) : List Nm := match getV st.tmps 4 with
 | .ptr c _ _ _ _ => match pull c st.heap with
  | some (.flat [.sl a _ _ _ _ _ _], _) => [a]
  | _ => []
 | _ => []
noncomputable def bdCl (t : List Int) (s : ByteArray) : Bd := { f := Tryz.f22, args := [.int .i64 4, .str s], kb := { db := dbQ [(42, cVal (.tup [.agg (msgP (rqP t)).c, .int .i64 0])), (71, c3C t)], lp := fun _ _ => [(True, .rounds 1)] }, names := nmCl }
def rdK (v : V) : List V → Heap → Nat → List Cl := fun a _ _ => match a with
 | .ptr k _ _ _ _ :: _ => [{ rd := [k], val := v }]
 | _ => []
def enC (s : ByteArray) : List V → Heap → Nat → List Cl := fun a _ _ => match a with
 | [.agg (_ :: _ :: _ :: _ :: _ :: _ :: .sl n _ _ _ _ _ _ :: _)] => [{ pre := [n], val := .tup [.str s, .int .i64 0] }]
 | _ => []
def ksC : List V → Heap → Nat → List Cl := fun _ _ lo => [{ val := .tup [p0K lo, kyV rS 72], post := [(.o lo, kyB rS 72)] }]
def clC (t : List Int) : List V → Heap → Nat → List Cl := fun _ _ lo => [{ val := clS (.o lo), post := [(.o lo, clR (clP t).c)] }]
noncomputable def bdLv (t : List Int) (s : ByteArray) : Bd := { f := Tryz.f7, args := [], kb := { db := dbQ [(12, ksC), (21, rdK (.tup [.agg (rqP t).c, .int .i64 0])), (19, enC s), (22, clC t), (23, rdK (.bool true))] } }
end Go.Proofs.YtnmccoincblecaaGreat
namespace Go.Proofs.YtnmccoincblecaaGreat
open Go Sy Go.Proofs
theorem bdKs_p :
  along Tryz.prog (bdKs) [] = (some (.tup [.ptr (.o 576) 0 0 0 0, .agg [.str rS, .int .i64 72]], [(.o 576, .flat [.str rS, .int .i64 72])], [T Tryz.prog 38 [.str (ByteArray.mk (Array.mk [(114 : UInt8)])), .int .i64 72] [] (.tup [.agg [.str rS, .int .i64 72], .bool true]) [], T Tryz.prog 39 [.str (ByteArray.mk (Array.mk [(114 : UInt8)])), .int .i64 72] [] (.ptr (.o 576) 0 0 0 0) [(.o 576, .flat [.str rS, .int .i64 72])]]) : Option (V × Heap × List Prop)) := by kernel_rfl

theorem bdMy_p1111 (t : List Int) :
  along Tryz.prog (bdMy t) [true, true, true, true] = (some (.bool true, [], [q2, q2, q2, q2]) : Option (V × Heap × List Prop)) := by kernel_rfl

theorem bdMk_p00000 (t : List Int) :
  along Tryz.prog (bdMk t) [false, false, false, false, false] = (some (.tup [.agg [.int .i64 1, .int .i64 1, .str xB, .seg .u8 16 t], .int .i64 0], [(.o 0, .flat [.str rS, .int .i64 72])], [T Tryz.prog 40 [.ptr (.o 0) 0 0 0 0] [(.o 0, .flat [.str rS, .int .i64 72])] (.int .i64 72) [(.o 0, .flat [.str rS, .int .i64 72])], q false, T Tryz.prog 67 [.int .i64 8, .agg [.int .i64 1, .int .i64 1, .str xB, .seg .u8 16 z16]] [] (.bool true) [], q false, q false, q false, InR IntKind.i64 (5 : Int), T Tryz.prog 68 [.agg [.int .i64 1, .int .i64 1, .str xB, .seg .u8 16 z16]] [] (.str bP) [], T Tryz.prog 41 [.ptr (.o 0) 0 0 0 0, .int .i64 5, .str bP] [(.o 0, .flat [.str rS, .int .i64 72])] (.tup [.agg [.seg .u8 16 t], .int .i64 0]) [(.o 0, .flat [.str rS, .int .i64 72])], q false]) : Option (V × Heap × List Prop)) := by kernel_rfl

theorem bdBy0_p (m : SMsg) (s : ByteArray) (e : Int) :
  along Tryz.prog (bdBy0 m s e) [] = (some (.str s, [], [T Tryz.prog 19 [.agg (SMsg.c m)] [] (.tup [.str s, .int .i64 e]) []]) : Option (V × Heap × List Prop)) := by kernel_rfl

theorem bdVt0_p (v : SVote) (s : ByteArray) :
  along Tryz.prog (bdVt0 v s) [] = (some (.str s, [], [T Tryz.prog 102 [.agg [.int .i64 2, .int .i64 0, .int .i64 0, .int .i64 0, .int .i64 0, .bool false, .snil, .int .i64 (SVote.kind v), .int .i64 (SVote.epoch v), .int .i64 (SVote.view v), .int .i64 (SVote.slot v), .seg .u8 32 (SVote.digest v), .int .i64 0, .int .i64 0, .int .i64 0, .snil, .snil, .seg .u8 32 z32, .int .i64 0, .int .i64 0, .int .i64 0, .int .i64 0, .seg .u8 32 z32, .snil, .str ByteArray.empty, .snil]] [] (.str s) []]) : Option (V × Heap × List Prop)) := by kernel_rfl

theorem bdC1_p10 (t : List Int) :
  along Tryz.prog (bdC1 t) [true, false] = (some (.tup [], [(.o 0, .flat [.sl (.o 63) 18 0 0 0 1 none]), (.o 63, .rows 18 1 (fun x => SEnv.c (SEnv.mk (5 : Int) bP t)) true), (.o 1, .flat [.int .i64 4])], [q2, (0 : Int) ≤ (0 : Int) ∧ (0 : Int) < (1 : Int), InR IntKind.i64 (5 : Int), T Tryz.prog 68 [.agg [.int .i64 1, .int .i64 1, .str xB, .seg .u8 16 t]] [] (.str bP) [], nat_lit 1 ≤ (1 : Nat), ∀ (k : Nat), k < (1 : Nat) → solid (getL [[V.int IntKind.i64 (5 : Int), V.str bP, V.seg IntKind.u8 (16 : Nat) t]] ((0 : Nat) + k)) = true, nat_lit 40 ≤ (140737488355328 : Nat), InR IntKind.i64 (1 : Int), q false, q0, q0, q0, nat_lit 1 = (1 : Nat), (none : Option Nat) = none ∨ (none : Option Nat) = none, nat_lit 1 = (1 : Nat), ∀ (k : Nat), k < nat_lit 1 → catF (0 : Nat) (fun x => []) (fun k => getL [[V.int IntKind.i64 (5 : Int), V.str bP, V.seg IntKind.u8 (16 : Nat) t]] ((0 : Nat) + k)) k = SEnv.c (SEnv.mk (5 : Int) bP t), true = false → true = false, q2]) : Option (V × Heap × List Prop)) := by kernel_rfl

theorem bdC2_p0 (s : Nat → SSign) (b : ByteArray) :
  along Tryz.prog (bdC2 s b) [false] = (some (.tup [], [], [q false]) : Option (V × Heap × List Prop)) := by kernel_rfl

theorem bdC3_p0 (t : List Int) :
  along Tryz.prog (bdC3 t) [false] = (some (.tup [], [(.o 2, .flat [.sl (.o 63) 18 0 0 0 1 none]), (.o 63, .rows 18 1 (fun x => SEnv.c (SEnv.mk (5 : Int) bP t)) true), (.o 0, .flat [.fn (.func (69 : FuncId)) [] [.ptr (.o 2) 0 0 0 0, .ptr (.o 3) 0 0 0 0]]), (.o 1, .flat [.fn (.func (70 : FuncId)) [] [.ptr (.o 2) 0 0 0 0]]), (.o 3, .flat [.int .i64 4])], [T Tryz.prog (69 : FuncId) [.agg [.bool false, rq 1 fun x => SReq.mk (1 : Int) (1 : Int) xB t], .ptr (.o 2) 0 0 0 0, .ptr (.o 3) 0 0 0 0] [(.o 2, .flat [.snil]), (.o 3, .flat [.int .i64 4])] (.tup []) [(.o 2, .flat [.sl (.o 260) 18 0 0 0 1 none]), (.o 260, .rows 18 1 (fun x => SEnv.c (SEnv.mk (5 : Int) bP t)) true), (.o 3, .flat [.int .i64 4])], q false, T Tryz.prog 72 [.agg [.int .i64 0, .int .i64 0, .int .i64 0, .int .i64 0, .seg .u8 32 z32]] [] (.str eB) [], T Tryz.prog (70 : FuncId) [.ros 17 0 (fun i => SSign.c (SSign.mk (0 : Int) [])) false, .str eB, .ptr (.o 2) 0 0 0 0] [] (.tup []) [], T Tryz.prog (70 : FuncId) [.ros 17 0 (fun i => SSign.c (SSign.mk (0 : Int) [])) false, .str (ByteArray.mk (Array.mk [])), .ptr (.o 2) 0 0 0 0] [] (.tup []) [], q0, q0, q0, q (1 : Nat), (none : Option Nat) = none ∨ (none : Option Nat) = none, q (1 : Nat), ∀ (k : Nat), k < (1 : Nat) → SEnv.c (SEnv.mk (5 : Int) bP t) = SEnv.c (SEnv.mk (5 : Int) bP t), true = false → true = false, q0, q0, q0, q0, q0, q0, q0, q0, q0, q2]) : Option (V × Heap × List Prop)) := by kernel_rfl

theorem bdCl_p0000 (t : List Int) (s : ByteArray) :
  along Tryz.prog (bdCl t s) [false, false, false, false] = (some (.sl (.o 1920) 18 0 0 0 1 none, [(.o 1920, .rows 18 1 (fun x => SEnv.c (SEnv.mk (5 : Int) bP t)) true)], [T Tryz.prog 42 [.str s] [] (.tup [.agg (SMsg.c (SMsg.mk (1 : Int) (1 : Int) (0 : Int) (0 : Int) (1 : Int) (SBatch.mk false 1 fun x => SReq.mk (1 : Int) (1 : Int) xB t) vote0 (0 : Int) (0 : Int) (0 : Int) 0 (fun x => SHeld.mk (SBatch.mk false 0 fun x => SReq.mk (0 : Int) (0 : Int) ByteArray.empty []) (SCert.mk (SVote.mk (0 : Int) (0 : Int) (0 : Int) (0 : Int) []) 0 fun x => SSign.mk (0 : Int) [])) 0 (fun x => SEnv.mk (0 : Int) ByteArray.empty []) z32 (SCert.mk vote0 0 fun x => SSign.mk (0 : Int) []) ByteArray.empty 0 fun x => SSign.mk (0 : Int) [])), .int .i64 0]) [], q false, q false, q false, T Tryz.prog 71 [.agg [.int .i64 1, .int .i64 1, .int .i64 0, .int .i64 0, .int .i64 1, .bool false, rq 1 fun x => SReq.mk (1 : Int) (1 : Int) xB t, .int .i64 0, .int .i64 0, .int .i64 0, .int .i64 0, .seg .u8 32 z32, .int .i64 0, .int .i64 0, .int .i64 0, hl 0 fun x => SHeld.mk (SBatch.mk false 0 fun x => SReq.mk (0 : Int) (0 : Int) ByteArray.empty []) (SCert.mk (SVote.mk (0 : Int) (0 : Int) (0 : Int) (0 : Int) []) 0 fun x => SSign.mk (0 : Int) []), nw 0 fun x => SEnv.mk (0 : Int) ByteArray.empty [], .seg .u8 32 z32, .int .i64 0, .int .i64 0, .int .i64 0, .int .i64 0, .seg .u8 32 z32, sg 0 fun x => SSign.mk (0 : Int) [], .str ByteArray.empty, sg 0 fun x => SSign.mk (0 : Int) []], .ptr (.o 1344) 0 0 0 0, .ptr (.o 1536) 0 0 0 0] [(.o 64, .flat [.snil]), (.o 1344, .flat [.fn (.func 69) [] [.ptr (.o 64) 0 0 0 0, .ptr (.o 0) 0 0 0 0]]), (.o 1536, .flat [.fn (.func 70) [] [.ptr (.o 64) 0 0 0 0]]), (.o 0, .flat [.int .i64 4])] (.tup []) [(.o 64, .flat [.sl (.o 1920) 18 0 0 0 1 none]), (.o 1920, .rows 18 1 (fun x => SEnv.c (SEnv.mk (5 : Int) bP t)) true), (.o 1344, .flat [.fn (.func 69) [] [.ptr (.o 64) 0 0 0 0, .ptr (.o 0) 0 0 0 0]]), (.o 1536, .flat [.fn (.func 70) [] [.ptr (.o 64) 0 0 0 0]]), (.o 0, .flat [.int .i64 4])], q false]) : Option (V × Heap × List Prop)) := by kernel_rfl

theorem bdLv_p1111 (t : List Int) (s : ByteArray) :
  along Tryz.prog (bdLv t s) [true, true, true, true] = (some (.bool true, [], [T Tryz.prog 12 [] [] (.tup [.ptr (.o 64) 0 0 0 0, .agg [.str rS, .int .i64 72]]) [(.o 64, .flat [.str rS, .int .i64 72])], T Tryz.prog 21 [.ptr (.o 64) 0 0 0 0, .int .i64 4, .int .i64 1, .int .i64 1, .str (ByteArray.mk (Array.mk [(120 : UInt8)]))] [(.o 64, .flat [.str rS, .int .i64 72])] (.tup [.agg (SReq.c (SReq.mk (1 : Int) (1 : Int) xB t)), .int .i64 0]) [(.o 64, .flat [.str rS, .int .i64 72])], T Tryz.prog 19 [.agg [.int .i64 1, .int .i64 1, .int .i64 0, .int .i64 0, .int .i64 1, .bool false, .sl (.o 1088) 19 0 0 0 1 (some 1), .int .i64 0, .int .i64 0, .int .i64 0, .int .i64 0, .seg .u8 32 z32, .int .i64 0, .int .i64 0, .int .i64 0, .snil, .snil, .seg .u8 32 z32, .int .i64 0, .int .i64 0, .int .i64 0, .int .i64 0, .seg .u8 32 z32, .snil, .str ByteArray.empty, .snil]] [(.o 1088, .rows 19 1 (getL [[.int .i64 1, .int .i64 1, .str xB, .seg .u8 16 t]]) false)] (.tup [.str s, .int .i64 0]) [], T Tryz.prog 22 [.int .i64 4, .str s] [] (.sl (.o 1728) 18 0 0 0 1 none) [(.o 1728, .rows 18 1 (fun x => SEnv.c (SEnv.mk (5 : Int) bP t)) true)], q2, q2, q2, (0 : Int) ≤ (0 : Int) ∧ (0 : Int) < (1 : Int), nat_lit 0 < (1 : Nat), q2, (0 : Int) ≤ (0 : Int) ∧ (0 : Int) < (1 : Int), nat_lit 0 < (1 : Nat), (0 : Int) ≤ (0 : Int) ∧ (0 : Int) < (1 : Int), nat_lit 0 < (1 : Nat), T Tryz.prog 23 [.ptr (.o 64) 0 0 0 0, .int .i64 5, .str bP, .agg [.seg .u8 16 t]] [(.o 64, .flat [.str rS, .int .i64 72])] (.bool true) [(.o 64, .flat [.str rS, .int .i64 72])]]) : Option (V × Heap × List Prop)) := by kernel_rfl

theorem T.res {P : Program} {f : FuncId} {args : List V} {pre : Heap} {val val' : V} {post : Heap} {cs : List Prop} (h : T P f args pre val post) (hl : leV [] val val' = some cs) (hc : All cs) : T P f args pre val' post := by
 intro U ρ w xs hh ha hf
 refine Calls.mono (h U ρ w xs hh ha hf) ?_
 rintro e w' ⟨x, U', ρ', he, L⟩
 exact ⟨x, U', ρ', he, { L with val := leV_ok (Imm.le_refl U') (fun n b hb => absurd hb List.not_mem_nil) _ _ _ _ hl hc L.val }⟩
theorem w8_rng (x : Int) : 0 ≤ w8 x ∧ w8 x ≤ 255 := by
 simp only [w8, IntKind.wrap, IntKind.signed, IntKind.bits]
 simp
 omega
theorem dA_rng (H : List Int) : ∀ i, ∀ x ∈ dA H i, 0 ≤ x ∧ x ≤ 255
 | 0, x, h => by
  obtain ⟨_, rfl⟩ := List.mem_replicate.1 h
  decide
 | i + 1, x, h => by
  rcases List.mem_or_eq_of_mem_set h with h | rfl
  ·exact dA_rng H i x h
  ·exact w8_rng _
theorem tagL_rng {d : List Int} (h : ∀ x ∈ d, 0 ≤ x ∧ x ≤ 255) : SegOk 16 (tagL d) := by
 refine ⟨tagL_len d, fun x hx => ?_⟩
 obtain ⟨i, _, rfl⟩ := List.mem_map.1 hx
 rw [List.getD_eq_getElem?_getD]
 cases hq : d[i]? with
 | none => decide
 | some y => exact h y (List.mem_of_getElem? hq)
theorem tagV_ok (kb : List UInt8) (body : ByteArray) : SegOk 16 (tagV kb body) := tagL_rng (dA_rng _ _)
theorem z16_ok : SegOk 16 (List.replicate 16 0) := ⟨rfl, fun x h => by obtain ⟨_, rfl⟩ := List.mem_replicate.1 h; decide⟩
theorem sgnV_ok (s : ByteArray) (n id : Int) (b : ByteArray) : SegOk 16 (sgnV s n id b) := by
 unfold sgnV
 split
 ·exact tagV_ok _ _
 ·exact z16_ok
def tgP : List Int := sgnV rS 72 5 bP
theorem tgP_ok : SegOk 16 tgP := sgnV_ok _ _ _ _
theorem rS_size : rS.size = 1 := rfl
theorem bP_size : bP.size = 8 := by kernel_rfl
theorem T_ks (m : Nat) : T Tryz.prog 12 [] [] (.tup [p0K m, kyV rS 72]) [(.o m, kyB rS 72)] := by
 have h1 := fun m => T_de (s := rS) (n := 72) (by rw [rS_size]; decide) (by decide) m
 have h2 := T_re (s := rS) (n := 72) (by rw [rS_size]; decide) (by decide)
 have h : T Tryz.prog 12 [] [] (.tup [p0K 576, kyV rS 72]) [(.o 576, kyB rS 72)] := by
  refine T_al bdKs_p Tryz.func12 ?_
  simp only [All]; and_intros
  all_goals first | exact True.intro | exact h2 | exact h1 _
 obtain ⟨σ, hσ, h3⟩ := T.at h [.o 576] [.o m] (by decide) (by simp) rfl
 simp only [List.map_cons, List.map_nil, List.cons.injEq, and_true] at hσ
 simpa [V.rens, V.ren, Heap.ren, Sy.B.ren, kyB, kyV, p0K, hσ] using h3
theorem T_my (t : List Int) : T Tryz.prog 67 [.int .i64 8, .agg (rqP t).c] [] (.bool true) [] := by
 refine T_al (bdMy_p1111 t) Tryz.func67 ?_
 simp only [All]; and_intros
 all_goals first | exact True.intro
theorem T_bP (t : List Int) : T Tryz.prog 68 [.agg (rqP t).c] [] (.str bP) [] :=
 T_rbd (r := rqP t) (by show num63 1; exact ⟨by decide, by decide⟩) (by show num63 1; exact ⟨by decide, by decide⟩) (by show 1 ≤ _; decide)
theorem T_mk (m : Nat) : T Tryz.prog 21 [p0K m, .int .i64 4, .int .i64 1, .int .i64 1, .str xB] [(.o m, kyB rS 72)] (.tup [.agg (rqP tgP).c, .int .i64 0]) [(.o m, kyB rS 72)] := by
 have h1 := T_le rS 72
 have h2 := T_my z16
 have h3 := T_bP z16
 have h4 := T_sg (s := rS) (by rw [rS_size]; decide) (n := 72) (id := 5) (by decide) (by decide) (b := bP) (by rw [bP_size]; decide)
 rw [show sgnE 72 5 = 0 from rfl] at h4
 have h : T Tryz.prog 21 [p0K 0, .int .i64 4, .int .i64 1, .int .i64 1, .str xB] [(.o 0, kyB rS 72)] (.tup [.agg (rqP tgP).c, .int .i64 0]) [(.o 0, kyB rS 72)] := by
  unfold tgP
  generalize sgnV rS 72 5 bP = t at *
  refine T_al (bdMk_p00000 t) Tryz.func21 ?_
  simp only [All]; and_intros
  all_goals first | exact True.intro | exact h1 | exact h2 | exact h3 | exact h4 | (simp only [IntKind.min, IntKind.max, IntKind.signed, IntKind.bits, if_true]; omega)
 obtain ⟨σ, hσ, h5⟩ := T.at h [.o 0] [.o m] (by decide) (by simp) rfl
 simp only [List.map_cons, List.map_nil, List.cons.injEq, and_true] at hσ
 simpa [V.rens, V.ren, Heap.ren, Sy.B.ren, kyB, p0K, SReq.c, hσ] using h5
theorem T_ckP (m : Nat) : T Tryz.prog 23 [p0K m, .int .i64 5, .str bP, .agg [.seg .u8 16 tgP]] [(.o m, kyB rS 72)] (.bool true) [(.o m, kyB rS 72)] := by
 have h := T_ck (s := rS) (by rw [rS_size]; decide) (n := 72) (id := 5) (by decide) (by decide) (b := bP) (by rw [bP_size]; decide) tgP
 have e : chkB rS 72 5 bP tgP = true := by
  rw [chkB, tgP, sgnV, if_pos (by decide), decide_eq_true (by decide : (0 : Int) ≤ 5 ∧ (5 : Int) < 72)]; simp
 rw [e] at h
 obtain ⟨σ, hσ, h5⟩ := T.at h [.o 0] [.o m] (by decide) (by simp) rfl
 simp only [List.map_cons, List.map_nil, List.cons.injEq, and_true] at hσ
 simpa [V.rens, V.ren, Heap.ren, Sy.B.ren, kyB, p0K, hσ] using h5
theorem T_vtE : T Tryz.prog 72 [.agg vote0.c] [] (.str eB) [] := by
 have hE := T_encG (m := msg0 2) ⟨by decide, by decide, fun k hk => absurd hk (Nat.not_lt_zero k), by decide, by decide, by decide⟩ ⟨fun i hi => absurd hi (Nat.not_lt_zero i), seg32, fun i hi => absurd hi (Nat.not_lt_zero i), fun i hi => absurd hi (Nat.not_lt_zero i), seg32, ⟨seg32, fun i hi => absurd hi (Nat.not_lt_zero i)⟩, fun i hi => absurd hi (Nat.not_lt_zero i)⟩
 have e1 : encE (msg0 2) = 130 := by kernel_rfl
 have e2 : encT (msg0 2) = eB := by rw [encT, if_neg (by rw [e1]; decide)]; rfl
 rw [e1, e2] at hE
 have hB : T Tryz.prog 102 [.agg (msg0 2).c] [] (.str eB) [] := by
  refine T_al (bdBy0_p (msg0 2) eB 130) Tryz.func102 ?_
  simp only [All]; and_intros
  all_goals first | exact True.intro | exact hE
 refine T_al (bdVt0_p vote0 eB) Tryz.func72 ?_
 refine ⟨T.args hB rfl ?_, trivial⟩
 simp [All, msg0, vote0]
theorem T_c1 (t : List Int) (o n m : Nat) (hn : [Nm.o o, Nm.o n, Nm.o m].Nodup) : T Tryz.prog 69 [.agg [.bool false, rq 1 (fun _ => rqP t)], .ptr (.o o) 0 0 0 0, .ptr (.o n) 0 0 0 0] [(.o o, .flat [.snil]), (.o n, .flat [.int .i64 4])] (.tup []) [(.o o, .flat [clS (.o m)]), (.o m, clR (clP t).c), (.o n, .flat [.int .i64 4])] := by
 have h3 := T_bP t
 have h : T Tryz.prog 69 [.agg [.bool false, rq 1 (fun _ => rqP t)], .ptr (.o 0) 0 0 0 0, .ptr (.o 1) 0 0 0 0] [(.o 0, .flat [.snil]), (.o 1, .flat [.int .i64 4])] (.tup []) [(.o 0, .flat [clS (.o 63)]), (.o 63, clR (clP t).c), (.o 1, .flat [.int .i64 4])] := by
  refine T_al (bdC1_p10 t) Tryz.func69 ?_
  simp only [All]; and_intros
  all_goals first | exact True.intro | exact h3 | (intro k hk; obtain rfl : k = 0 := (by omega); rfl) | (simp only [IntKind.min, IntKind.max, IntKind.signed, IntKind.bits, if_true]; omega) | omega | (intro h; exact h) | exact .inl True.intro
 obtain ⟨σ, hσ, h5⟩ := T.at h [.o 0, .o 1, .o 63] [.o o, .o n, .o m] (by decide) hn rfl
 simp only [List.map_cons, List.map_nil, List.cons.injEq, and_true] at hσ
 simpa [V.rens, V.ren, Heap.ren, Sy.B.ren, clS, clR, clP, SEnv.c, rq, hσ.1, hσ.2.1, hσ.2.2] using h5
theorem T_c2 (s : Nat → SSign) (b : ByteArray) : T Tryz.prog 70 [sg 0 s, .str b, .any] [] (.tup []) [] := by
 refine T_al (bdC2_p0 s b) Tryz.func70 ?_
 simp only [All]; and_intros
 all_goals first | exact True.intro
theorem T_c3 (t : List Int) (o n a b m : Nat) (hn : [Nm.o o, Nm.o n, Nm.o a, Nm.o b, Nm.o m].Nodup) : T Tryz.prog 71 [.agg (msgP (rqP t)).c, .ptr (.o a) 0 0 0 0, .ptr (.o b) 0 0 0 0] [(.o o, .flat [.snil]), (.o a, .flat [.fn (.func 69) [] [.ptr (.o o) 0 0 0 0, .ptr (.o n) 0 0 0 0]]), (.o b, .flat [.fn (.func 70) [] [.ptr (.o o) 0 0 0 0]]), (.o n, .flat [.int .i64 4])] (.tup [])
  [(.o o, .flat [clS (.o m)]), (.o m, clR (clP t).c), (.o a, .flat [.fn (.func 69) [] [.ptr (.o o) 0 0 0 0, .ptr (.o n) 0 0 0 0]]), (.o b, .flat [.fn (.func 70) [] [.ptr (.o o) 0 0 0 0]]), (.o n, .flat [.int .i64 4])] := by
 have h1 := T_c1 t 2 3 260 (by decide)
 have h2 : ∀ (s : Nat → SSign) (b : ByteArray), T Tryz.prog 70 [sg 0 s, .str b, .ptr (.o 2) 0 0 0 0] [] (.tup []) [] := fun s b => T.args (T_c2 s b) rfl (by simp [All])
 have h4 := T_vtE
 have h : T Tryz.prog 71 [.agg (msgP (rqP t)).c, .ptr (.o 0) 0 0 0 0, .ptr (.o 1) 0 0 0 0] [(.o 2, .flat [.snil]), (.o 0, fnB), (.o 1, fnS), (.o 3, .flat [.int .i64 4])] (.tup []) [(.o 2, .flat [clS (.o 63)]), (.o 63, clR (clP t).c), (.o 0, fnB), (.o 1, fnS), (.o 3, .flat [.int .i64 4])] := by
  refine T_al (bdC3_p0 t) Tryz.func71 ?_
  simp only [All]; and_intros
  all_goals first | exact True.intro | exact h1 | exact h4 | exact h2 _ _ | (intro _ _; exact True.intro) | (intro h; exact h) | exact .inl True.intro
 obtain ⟨σ, hσ, h5⟩ := T.at h [.o 2, .o 3, .o 0, .o 1, .o 63] [.o o, .o n, .o a, .o b, .o m] (by decide) hn rfl
 simp only [List.map_cons, List.map_nil, List.cons.injEq, and_true] at hσ
 simpa [V.rens, V.ren, Heap.ren, Sy.B.ren, fnB, fnS, clS, clR, clP, SEnv.c, SMsg.c, SBatch.c, SVote.c, SCert.c, rq, Sy.hl, nw, sg, hσ.1, hσ.2.1, hσ.2.2.1, hσ.2.2.2.1, hσ.2.2.2.2] using h5
theorem msgP_good (t : List Int) : goodS (msgP (rqP t)) = true := by
 have e : onlyS (msgP (rqP t)) = msgP (rqP t) := by kernel_rfl
 have hb : mayBatchS (msgP (rqP t)).batch = true := by kernel_rfl
 exact good_iff.2 ⟨by show (1 : Int) ≤ 1 ∧ (1 : Int) ≤ 8; decide, by rw [e]; exact sameM_refl _, fun h => absurd h (by show ¬ (1 : Int) = 2; decide), fun h => absurd h (by show ¬ (1 : Int) = 7; decide), by show (0 : Int) ≤ 1 ∧ (1 : Int) ≤ _; decide, by show (0 : Int) ≤ 1 ∧ (1 : Int) ≤ _; decide, by show (0 : Int) ≤ 0 ∧ (0 : Int) ≤ _; decide, by show (0 : Int) ≤ 0 ∧ (0 : Int) ≤ _; decide, hb, by show (0 : Int) ≤ 0 ∧ (0 : Int) ≤ _; decide, by show (0 : Int) ≤ 0 ∧ (0 : Int) ≤ _; decide, by show (0 : Int) ≤ 0 ∧ (0 : Int) ≤ _; decide,
  ⟨Nat.zero_le _, fun i hi => absurd hi (Nat.not_lt_zero i)⟩, ⟨Nat.zero_le _, fun i hi => absurd hi (Nat.not_lt_zero i)⟩, ⟨Nat.zero_le _, fun i hi => absurd hi (Nat.not_lt_zero i)⟩, by show (0 : Nat) ≤ _; decide⟩
theorem msgP_seg {t : List Int} (h : SegOk 16 t) : segMsg (msgP (rqP t)) := ⟨fun i hi => h, seg32, fun i hi => absurd hi (Nat.not_lt_zero i), fun i hi => absurd hi (Nat.not_lt_zero i), seg32, ⟨seg32, fun i hi => absurd hi (Nat.not_lt_zero i)⟩, fun i hi => absurd hi (Nat.not_lt_zero i)⟩
theorem msgP_len {t : List Int} (h : SegOk 16 t) : (encB (msgP (rqP t))).length ≤ 4194304 := by
 obtain ⟨a, b⟩ := h
 match t, a with
 | [a0, a1, a2, a3, a4, a5, a6, a7, a8, a9, b0, b1, b2, b3, b4, b5], _ =>
  rw [show (encB (msgP (rqP [a0, a1, a2, a3, a4, a5, a6, a7, a8, a9, b0, b1, b2, b3, b4, b5]))).length = 31 by kernel_rfl]; decide
theorem T_decP {t : List Int} (h : SegOk 16 t) : T Tryz.prog 42 [.str (baL (encB (msgP (rqP t))))] [] (.tup [.agg (msgP (rqP t)).c, .int .i64 0]) [] := by
 have hD := T_dec (baL (encB (msgP (rqP t))))
 rw [strB_baL] at hD
 obtain ⟨d1, d2⟩ := dec_enc (msgP_good t) (msgP_seg h) (msgP_len h)
 rw [d1] at hD
 generalize (decR (encB (msgP (rqP t)))).1 = x at *
 have g := sameMsg_iff.1 d2
 have gb := sameBatch_iff.1 g.batch
 have gc := sameCert_iff.1 g.cert
 have g1 : x.kind = 1 := g.kind
 have g2 : x.epoch = 1 := g.epoch
 have g3 : x.leader = 0 := g.leader
 have g4 : x.view = 0 := g.view
 have g5 : x.slot = 1 := g.slot
 have g6 : x.batch.noop = false := gb.1
 have g7 : x.batch.n = 1 := gb.2.1
 have g8 : x.vote = vote0 := g.vote
 have g9 : x.nheld = 0 := g.held.1
 have g10 : x.nnews = 0 := g.news.1
 have g11 : x.digest = z32 := g.digest
 have g12 : x.cert.vote = vote0 := gc.1
 have g13 : x.cert.n = 0 := gc.2.1
 have g14 : x.state = ByteArray.empty := g.state
 have g15 : x.n = 0 := g.sig.1
 have g16 : ∀ k, k < x.batch.n → (x.batch.req k).c = (rqP t).c := fun k hk => congrArg SReq.c (gb.2.2 k hk)
 refine T.res hD rfl ?_
 simp only [All]; and_intros
 all_goals first | exact True.intro | exact g.kind | exact g.epoch | exact g.leader | exact g.view | exact g.slot | exact gb.1 | exact gb.2.1 | exact g16 | exact g.held.1 | exact g.news.1 | exact g.digest | exact gc.2.1 | exact g.state | exact g.sig.1 | exact g.cepoch | exact g.cleader | exact g.cview | (rw [g8]; rfl) | (rw [g12]; rfl) | (rw [g9]; intro k hk; exact absurd hk (Nat.not_lt_zero k)) | (rw [g10]; intro k hk; exact absurd hk (Nat.not_lt_zero k)) | (rw [g13]; intro k hk; exact absurd hk (Nat.not_lt_zero k)) | (rw [g15]; intro k hk; exact absurd hk (Nat.not_lt_zero k)) | (intro h; exact h)
theorem T_cl {t : List Int} (ht : SegOk 16 t) (m : Nat) : T Tryz.prog 22 [.int .i64 4, .str (baL (encB (msgP (rqP t))))] [] (clS (.o m)) [(.o m, clR (clP t).c)] := by
 have h1 := T_decP ht
 have h2 := T_c3 t 64 0 1344 1536 1920 (by decide)
 have h : T Tryz.prog 22 [.int .i64 4, .str (baL (encB (msgP (rqP t))))] [] (clS (.o 1920)) [(.o 1920, clR (clP t).c)] := by
  refine T_al (bdCl_p0000 t (baL (encB (msgP (rqP t))))) Tryz.func22 ?_
  simp only [All]; and_intros
  all_goals first | exact True.intro | exact h1 | exact h2
 obtain ⟨σ, hσ, h5⟩ := T.at h [.o 1920] [.o m] (by decide) (by simp) rfl
 simp only [List.map_cons, List.map_nil, List.cons.injEq, and_true] at hσ
 simpa [V.rens, V.ren, Heap.ren, Sy.B.ren, clS, clR, clP, SEnv.c, hσ] using h5
theorem T_lv : T Tryz.prog 7 [] [] (.bool true) [] := by
 have ht := tgP_ok
 have h1 := T_ks
 have h2 := T_mk
 have h4 := T_cl ht
 have h5 := T_ckP
 have hE := T_encG (fitM_good (msgP_good tgP)) (msgP_seg ht)
 have e1 : encE (msgP (rqP tgP)) = 0 := by rw [encE, if_pos (msgP_good tgP), if_neg (by have := msgP_len ht; omega)]
 rw [e1, encT, if_pos e1] at hE
 have h3 : T Tryz.prog 19 [.agg [.int .i64 1, .int .i64 1, .int .i64 0, .int .i64 0, .int .i64 1, .bool false, .sl (.o 1088) 19 0 0 0 1 (some 1), .int .i64 0, .int .i64 0, .int .i64 0, .int .i64 0, .seg .u8 32 z32, .int .i64 0, .int .i64 0, .int .i64 0, .snil, .snil, .seg .u8 32 z32, .int .i64 0, .int .i64 0, .int .i64 0, .int .i64 0, .seg .u8 32 z32, .snil, .str ByteArray.empty, .snil]] [(.o 1088, .rows 19 1 (getL [(rqP tgP).c]) false)] (.tup [.str (baL (encB (msgP (rqP tgP)))), .int .i64 0]) [] := by
  refine T.frz hE (hw_of rfl ?_) (by rintro n ⟨b, hb⟩; cases hb)
  simp only [All]; and_intros
  all_goals first | exact True.intro | (intro k hk; obtain rfl : k = 0 := (by omega); rfl) | exact rfl | omega | (intro h; cases h; done)
 generalize baL (encB (msgP (rqP tgP))) = s at *
 generalize tgP = t at *
 refine T_al (bdLv_p1111 t s) Tryz.func7 ?_
 simp only [All]; and_intros
 all_goals first | exact True.intro | exact h1 _ | exact h2 _ | exact h3 | exact h4 _ | exact h5 _ | omega
end Go.Proofs.YtnmccoincblecaaGreat
namespace Go.Proofs.YtnmccoincblecaaGreat
open Go Sy Go.Proofs
/-- The same first error; a vote that is none has the message's. -/
def eV (s : RS) : Int := if s.bad then 130 else s.e
def pV (L : List UInt8) (s : RS) : V := if s.e = 0 then .int .i64 (L.length - s.l.length : Nat) else .any
def rx (L : List UInt8) (p : Nat) (e : Int) : B := .flat [roB L, .int .i64 (p : Nat), .int .i64 e]
def rxB (L : List UInt8) (s : RS) : B := .flat [roB L, pV L s, .int .i64 (eV s)]
/-- What is left, as long as there was no error, is the bytes' end. -/
def Ok (L : List UInt8) (s : RS) : Prop := s.e = 0 → s.bad = false ∧ s.l.length ≤ L.length ∧ s.l = L.drop (L.length - s.l.length)
theorem Ok.bad {L : List UInt8} {s : RS} (h : s.e ≠ 0) : Ok L s := fun h' => absurd h' h
theorem Ok.fail {L : List UInt8} {s : RS} {e : Int} (h : e ≠ 0) : Ok L (s.fail e) := Ok.bad h
theorem Ok.drop {L : List UInt8} {s : RS} (h : Ok L s) (n : Nat) : Ok L (s.drop n) := by
 intro he
 obtain ⟨h1, h2, h3⟩ := h he
 refine ⟨h1, ?_, ?_⟩
 ·show (s.l.drop n).length ≤ _
  rw [List.length_drop]; omega
 ·show s.l.drop n = L.drop (L.length - (s.l.drop n).length)
  rw [List.length_drop]
  by_cases hn : n ≤ s.l.length
  ·rw [show L.length - (s.l.length - n) = L.length - s.l.length + n by omega, ← List.drop_drop, ← h3]
  ·rw [List.drop_eq_nil_of_le (by omega), List.drop_eq_nil_of_le (by omega)]
theorem Ok.num {L : List UInt8} {s : RS} (h : Ok L s) (most : Int) : Ok L (numR most s).2 := by
 unfold numR
 split
 ·exact h
 ·split
  ·rename_i h1; exact Ok.fail h1
  ·exact h.drop _
theorem Ok.text {L : List UInt8} {s : RS} (h : Ok L s) (most : Int) : Ok L (textR most s).2 := by
 unfold textR
 split
 ·exact h
 ·split
  ·rename_i h1; exact Ok.fail h1
  ·exact (h.drop _).drop _
theorem Ok.raw {L : List UInt8} {s : RS} (h : Ok L s) (n : Int) : Ok L (rawR n s).2 := by
 unfold rawR
 split
 ·exact h
 ·split
  ·exact Ok.fail (by decide)
  ·split
   ·exact Ok.fail (by decide)
   ·exact h.drop _
theorem Ok.init (L : List UInt8) : Ok L { l := L } := fun _ => ⟨rfl, Nat.le_refl _, by rw [Nat.sub_self]; rfl⟩
theorem rxB_ok {L : List UInt8} {s : RS} (h : Ok L s) (he : s.e = 0) : rxB L s = rx L (L.length - s.l.length) 0 := by
 rw [rxB, rx, pV, if_pos he, eV, (h he).1, if_neg (by simp), he]
theorem rxB_e {L : List UInt8} {s : RS} (he : s.e ≠ 0) : rxB L s = .flat [roB L, .any, .int .i64 (eV s)] := by
 rw [rxB, pV, if_neg he]
end Go.Proofs.YtnmccoincblecaaGreat
namespace Go.Proofs.YtnmccoincblecaaGreat
open Go Sy Go.Proofs
def rxE (L : List UInt8) (e : Int) : B := .flat [roB L, .any, .int .i64 e]
def cX (v : V) (b : B) : List V → Heap → Nat → List Cl := fun args _ _ => match args with
 | .ptr a _ _ _ _ :: _ => [{ pre := [a], val := v, post := [(a, b)] }]
 | _ => []
def kX (b : B) (l : List (Nat × V)) : Exit → St → Option W := fun _ st => some ⟨[], setsOf l, [(.o 0, .set b)], none, st.next⟩
def nbX (L l : List UInt8) (p k : Nat) : St := ⟨mkT 66 [(2, .int .i64 0), (3, .int .i64 0), (4, .int .i64 0), (5, .ros 1 l.length (bl l) false), (6, .int .i64 (kOf l : Nat)), (7, .int .i64 (beN ((l.drop 1).take k) : Nat)), (8, .int .i64 (k + 1 : Nat))], [(.o 0, rx L p 0)], 1, []⟩
noncomputable def bdXr (L : List UInt8) : Bd := { f := Tryz.f29, args := [roB L], kb := kb0, names := fun _ => [.o 63], k := fun _ st => match getV st.tmps 2 with
 | .ptr a _ _ _ _ => some ⟨[(.o 63, a)], [(2, .set (.ptr (.o 63) 0 0 0 0))], [(.o 63, .set (rx L 0 0))], none, st.next⟩
 | _ => none }
noncomputable def bdXn (L l : List UInt8) (p : Nat) : Bd := { f := Tryz.f79, args := [p0], pre := [(.o 0, rx L p 0)], base := 1, kb := { db := fun _ _ _ _ => [], lp := fun _ _ => [(True, .loop (kOf l + 1) (wTo (nbX L l p 0)) (.exit 0) (nbX L l p (kOf l)))] }, names := n0 }
noncomputable def bdXmE (most : Int) (L : List UInt8) (e : Int) : Bd := { f := Tryz.f30, args := [p0, .int .i64 most], pre := [(.o 0, rxE L e)], base := 1, kb := kb0, names := n0 }
noncomputable def bdXm (most : Int) (L : List UInt8) (p : Nat) (n sz e : Int) (b : B) (r : Int) : Bd := { f := Tryz.f30, args := [p0, .int .i64 most], pre := [(.o 0, rx L p 0)], base := 1, kb := { db := dbF [(79, cX (.tup [.int .i64 n, .int .i64 sz, .int .i64 e]) (rx L p 0))] }, names := n0, k := kX b [(4, .int .i64 r)] }
noncomputable def bdXmF (most : Int) (L : List UInt8) (p : Nat) (n sz e e' : Int) : Bd := bdXm most L p n sz e (rxE L e') 0
noncomputable def bdXmO (most : Int) (L : List UInt8) (p : Nat) (n sz : Int) (p' : Nat) : Bd := bdXm most L p n sz 0 (rx L p' 0) n
noncomputable def bdXtE (most : Int) (L : List UInt8) (e : Int) : Bd := { f := Tryz.f31, args := [p0, .int .i64 most], pre := [(.o 0, rxE L e)], base := 1, kb := kb0, names := n0 }
noncomputable def bdXt (most : Int) (L : List UInt8) (p : Nat) (n sz e : Int) (b : B) (s : ByteArray) : Bd := { f := Tryz.f31, args := [p0, .int .i64 most], pre := [(.o 0, rx L p 0)], base := 1, kb := { db := dbF [(79, cX (.tup [.int .i64 n, .int .i64 sz, .int .i64 e]) (rx L p 0))] }, names := n0, k := kX b [(4, .str s)] }
noncomputable def bdXtF (most : Int) (L : List UInt8) (p : Nat) (n sz e e' : Int) : Bd := bdXt most L p n sz e (rxE L e') (ByteArray.mk (Array.mk []))
noncomputable def bdXtO (most : Int) (L : List UInt8) (p : Nat) (n sz : Int) (p' : Nat) (s : ByteArray) : Bd := bdXt most L p n sz 0 (rx L p' 0) s
noncomputable def bdXwE (n : Int) (L : List UInt8) (e : Int) : Bd := { f := Tryz.f32, args := [p0, .int .i64 n], pre := [(.o 0, rxE L e)], base := 1, kb := kb0, names := n0, k := kX (rxE L e) [(4, roB [])] }
noncomputable def bdXwF (n : Int) (L : List UInt8) (p : Nat) (e' : Int) : Bd := { f := Tryz.f32, args := [p0, .int .i64 n], pre := [(.o 0, rx L p 0)], base := 1, kb := kb0, names := n0, k := kX (rxE L e') [(4, roB [])] }
noncomputable def bdXwO (n : Int) (L l : List UInt8) (p p' : Nat) : Bd := { f := Tryz.f32, args := [p0, .int .i64 n], pre := [(.o 0, rx L p 0)], base := 1, kb := kb0, names := n0, k := kX (rx L p' 0) [(4, roB l)] }
noncomputable def bdXdE (L : List UInt8) (e : Int) : Bd := { f := Tryz.f33, args := [p0], pre := [(.o 0, rxE L e)], base := 1, kb := kb0, names := n0 }
noncomputable def bdXd (L : List UInt8) (p : Nat) : Bd := { f := Tryz.f33, args := [p0], pre := [(.o 0, rx L p 0)], base := 1, kb := kb0, names := n0 }
noncomputable def pcXn (L l : List UInt8) (p k : Nat) : Pc := { c := cB (cB (cR (cL (cR (cR (cR (cR (cR (cR (cR (cR (bodyOf Tryz.f79)))))))))))), st := nbX L l p k, p := 1, kb := kb0, k := fun e _ => match e with
 | .normal => some (wTo (nbX L l p (k + 1)))
 | _ => some (wTo (nbX L l p (kOf l))) }
end Go.Proofs.YtnmccoincblecaaGreat
namespace Go.Proofs.YtnmccoincblecaaGreat
open Go Sy Go.Proofs
theorem bdXr_p (L : List UInt8) :
  along Tryz.prog (bdXr L) [] = some (V.ptr (Nm.o (63 : Nat)) (0 : Nat) (0 : Nat) (0 : Nat) (0 : Nat), [(Nm.o (63 : Nat), B.flat [V.ros (1 : Nat) (List.length L) (bl L) false, V.int IntKind.i64 (0 : Int), V.int IntKind.i64 (0 : Int)])], [(0 : Nat) = (0 : Nat), ∀ (k : Nat), k < List.length L → true = true, ((0 : Nat) + List.length L) * (1 : Nat) ≤ (140737488355328 : Nat), (0 : Nat) + List.length L = List.length L, (0 : Nat) + ((0 : Nat) + List.length L) ≤ (0 : Nat) + List.length L, ∀ (k : Nat), k < (0 : Nat) + List.length L → [V.int IntKind.u8 (↑(UInt8.toNat (List.getD L ((0 : Nat) + k - (0 : Nat)) (0 : UInt8))) : Int)] = bl L k, false = true → none = some ((0 : Nat) + List.length L), (0 : Int) = (0 : Int), (0 : Int) = (0 : Int), (0 : Nat) = (0 : Nat), (0 : Nat) = (0 : Nat), (0 : Nat) = (0 : Nat)]) := by kernel_rfl

noncomputable def bdXn_c (L : List UInt8) (l : List UInt8) (p : Nat) : Nat → List Prop
 | 0 => [(0 : Int) ≤ (↑p : Int) ∧ (↑p : Int) ≤ (↑(natO none (List.length L)) : Int)]
 | 1 => [decide ((↑(natO none (List.length L) - natO (some (↑p : Int)) (0 : Nat)) : Int) = (0 : Int)) = false, (0 : Int) ≤ (0 : Int) ∧ (0 : Int) < (↑(natO none (List.length L) - natO (some (↑p : Int)) (0 : Nat)) : Int), InR IntKind.i64 (↑(UInt8.toNat (List.getD L (Int.toNat (↑p : Int) + nat_lit 0) (0 : UInt8))) : Int)]
 | 2 => [decide ((8 : Int) < (↑(UInt8.toNat (List.getD L (Int.toNat (↑p : Int) + nat_lit 0) (0 : UInt8))) : Int)) = false, InR IntKind.i64 ((1 : Int) + (↑(UInt8.toNat (List.getD L (Int.toNat (↑p : Int) + nat_lit 0) (0 : UInt8))) : Int))]
 | 3 => [decide ((↑(natO none (List.length L) - natO (some (↑p : Int)) (0 : Nat)) : Int) < (1 : Int) + (↑(UInt8.toNat (List.getD L (Int.toNat (↑p : Int) + nat_lit 0) (0 : UInt8))) : Int)) = false]
 | 4 => [decide ((0 : Int) < (↑(UInt8.toNat (List.getD L (Int.toNat (↑p : Int) + nat_lit 0) (0 : UInt8))) : Int)) = true, (0 : Int) ≤ (1 : Int) ∧ (1 : Int) < (↑(natO none (List.length L) - natO (some (↑p : Int)) (0 : Nat)) : Int)]
 | 5 => [decide ((↑(UInt8.toNat (List.getD L (Int.toNat (↑p : Int) + nat_lit 1) (0 : UInt8))) : Int) = (0 : Int)) = false]
 | 6 => [decide ((↑(UInt8.toNat (List.getD L (Int.toNat (↑p : Int) + nat_lit 0) (0 : UInt8))) : Int) = (8 : Int)) = true, (0 : Int) ≤ (1 : Int) ∧ (1 : Int) < (↑(natO none (List.length L) - natO (some (↑p : Int)) (0 : Nat)) : Int)]
 | _ => []
theorem bdXn_p1 (L : List UInt8) (l : List UInt8) (p : Nat) :
 along Tryz.prog (bdXn L l p) [true] = (some (.tup [.int .i64 0, .int .i64 0, .int .i64 10], [(.o 0, .flat [.ros 1 (List.length L) (bl L) false, .int .i64 ↑p, .int .i64 0])], bdXn_c L l p 0 ++ [decide ((↑(natO none (List.length L) - natO (some (↑p : Int)) (0 : Nat)) : Int) = (0 : Int)) = true]) : Option (V × Heap × List Prop)) := by kernel_rfl

theorem bdXn_p01 (L : List UInt8) (l : List UInt8) (p : Nat) :
 along Tryz.prog (bdXn L l p) [false, true] = (some (.tup [.int .i64 0, .int .i64 0, .int .i64 11], [(.o 0, .flat [.ros 1 (List.length L) (bl L) false, .int .i64 ↑p, .int .i64 0])], bdXn_c L l p 0 ++ (bdXn_c L l p 1 ++ [decide ((8 : Int) < (↑(UInt8.toNat (List.getD L (Int.toNat (↑p : Int) + nat_lit 0) (0 : UInt8))) : Int)) = true])) : Option (V × Heap × List Prop)) := by kernel_rfl

theorem bdXn_p001 (L : List UInt8) (l : List UInt8) (p : Nat) :
 along Tryz.prog (bdXn L l p) [false, false, true] = (some (.tup [.int .i64 0, .int .i64 0, .int .i64 10], [(.o 0, .flat [.ros 1 (List.length L) (bl L) false, .int .i64 ↑p, .int .i64 0])], bdXn_c L l p 0 ++ (bdXn_c L l p 1 ++ (bdXn_c L l p 2 ++ [decide ((↑(natO none (List.length L) - natO (some (↑p : Int)) (0 : Nat)) : Int) < (1 : Int) + (↑(UInt8.toNat (List.getD L (Int.toNat (↑p : Int) + nat_lit 0) (0 : UInt8))) : Int)) = true]))) : Option (V × Heap × List Prop)) := by kernel_rfl

theorem bdXn_p000111 (L : List UInt8) (l : List UInt8) (p : Nat) :
 along Tryz.prog (bdXn L l p) [false, false, false, true, true, true] = (some (.tup [.int .i64 0, .int .i64 0, .int .i64 11], [(.o 0, .flat [.ros 1 (List.length L) (bl L) false, .int .i64 ↑p, .int .i64 0])], bdXn_c L l p 0 ++ (bdXn_c L l p 1 ++ (bdXn_c L l p 2 ++ (bdXn_c L l p 3 ++ (bdXn_c L l p 4 ++ [decide ((↑(UInt8.toNat (List.getD L (Int.toNat (↑p : Int) + nat_lit 1) (0 : UInt8))) : Int) = (0 : Int)) = true, q2]))))) : Option (V × Heap × List Prop)) := by kernel_rfl

theorem bdXn_p0001011 (L : List UInt8) (l : List UInt8) (p : Nat) :
 along Tryz.prog (bdXn L l p) [false, false, false, true, false, true, true] = (some (.tup [.int .i64 0, .int .i64 0, .int .i64 11], [(.o 0, .flat [.ros 1 (List.length L) (bl L) false, .int .i64 ↑p, .int .i64 0])], bdXn_c L l p 0 ++ (bdXn_c L l p 1 ++ (bdXn_c L l p 2 ++ (bdXn_c L l p 3 ++ (bdXn_c L l p 4 ++ (bdXn_c L l p 5 ++ (bdXn_c L l p 6 ++ [decide ((127 : Int) < (↑(UInt8.toNat (List.getD L (Int.toNat (↑p : Int) + nat_lit 1) (0 : UInt8))) : Int)) = true]))))))) : Option (V × Heap × List Prop)) := by kernel_rfl

theorem bdXn_p0001010 (L : List UInt8) (l : List UInt8) (p : Nat) :
 along Tryz.prog (bdXn L l p) [false, false, false, true, false, true, false] = (some (.tup [.int .i64 (↑(beN (List.take (kOf l) (List.drop 1 l))) : Int), .int .i64 ((1 : Int) + (↑(kOf l) : Int)), .int .i64 0], [(.o 0, .flat [.ros 1 (List.length L) (bl L) false, .int .i64 ↑p, .int .i64 0])], bdXn_c L l p 0 ++ (bdXn_c L l p 1 ++ (bdXn_c L l p 2 ++ (bdXn_c L l p 3 ++ (bdXn_c L l p 4 ++ (bdXn_c L l p 5 ++ (bdXn_c L l p 6 ++ [decide ((127 : Int) < (↑(UInt8.toNat (List.getD L (Int.toNat (↑p : Int) + nat_lit 1) (0 : UInt8))) : Int)) = false, RLoop Tryz.prog none 1 (cB (cB (cR (cL (cR (cR (cR (cR (cR (cR (cR (cR (bodyOf (Bd.f (bdXn L l p))))))))))))))) (kOf l + 1) (St.mk (mkT 66 [(2, .int .i64 0), (3, .int .i64 0), (4, .int .i64 0), (5, .ros 1 (List.length l) (bl l) false), (6, .int .i64 (↑(kOf l) : Int)), (7, .int .i64 0), (8, .int .i64 1)]) [(.o 0, .flat [.ros 1 (List.length L) (bl L) false, .int .i64 ↑p, .int .i64 0])] 1 []) (.exit 0) (St.mk (mkT 66 [(2, .int .i64 0), (3, .int .i64 0), (4, .int .i64 0), (5, .ros 1 (List.length l) (bl l) false), (6, .int .i64 (↑(kOf l) : Int)), (7, .int .i64 (↑(beN (List.take (kOf l) (List.drop 1 l))) : Int)), (8, .int .i64 (↑(kOf l + 1) : Int))]) [(.o 0, .flat [.ros 1 (List.length L) (bl L) false, .int .i64 ↑p, .int .i64 0])] 1 []), q (List.length L), ∀ (k : Nat), k < List.length L → bl L k = bl L k, false = true → false = true, q (↑p : Int), q1, q1, q1, q1, natO none (List.length L) - natO (some (↑p : Int)) (0 : Nat) = List.length l, ∀ (k : Nat), k < natO none (List.length L) - natO (some (↑p : Int)) (0 : Nat) → [V.int IntKind.u8 (↑(UInt8.toNat (List.getD L (Int.toNat (↑p : Int) + k) (0 : UInt8))) : Int)] = bl l k, false = true → false = true, (↑(UInt8.toNat (List.getD L (Int.toNat (↑p : Int) + nat_lit 0) (0 : UInt8))) : Int) = (↑(kOf l) : Int), q1, q (1 : Int), InR IntKind.i64 ((1 : Int) + (↑(kOf l) : Int))]))))))) : Option (V × Heap × List Prop)) := by kernel_rfl

theorem bdXn_p0001000 (L : List UInt8) (l : List UInt8) (p : Nat) :
 along Tryz.prog (bdXn L l p) [false, false, false, true, false, false, false] = (some (.tup [.int .i64 (↑(beN (List.take (kOf l) (List.drop 1 l))) : Int), .int .i64 ((1 : Int) + (↑(kOf l) : Int)), .int .i64 0], [(.o 0, .flat [.ros 1 (List.length L) (bl L) false, .int .i64 ↑p, .int .i64 0])], bdXn_c L l p 0 ++ (bdXn_c L l p 1 ++ (bdXn_c L l p 2 ++ (bdXn_c L l p 3 ++ (bdXn_c L l p 4 ++ (bdXn_c L l p 5 ++ [decide ((↑(UInt8.toNat (List.getD L (Int.toNat (↑p : Int) + nat_lit 0) (0 : UInt8))) : Int) = (8 : Int)) = false, q false, RLoop Tryz.prog none 1 (cB (cB (cR (cL (cR (cR (cR (cR (cR (cR (cR (cR (bodyOf (Bd.f (bdXn L l p))))))))))))))) (kOf l + 1) (St.mk (mkT 66 [(2, .int .i64 0), (3, .int .i64 0), (4, .int .i64 0), (5, .ros 1 (List.length l) (bl l) false), (6, .int .i64 (↑(kOf l) : Int)), (7, .int .i64 0), (8, .int .i64 1)]) [(.o 0, .flat [.ros 1 (List.length L) (bl L) false, .int .i64 ↑p, .int .i64 0])] 1 []) (.exit 0) (St.mk (mkT 66 [(2, .int .i64 0), (3, .int .i64 0), (4, .int .i64 0), (5, .ros 1 (List.length l) (bl l) false), (6, .int .i64 (↑(kOf l) : Int)), (7, .int .i64 (↑(beN (List.take (kOf l) (List.drop 1 l))) : Int)), (8, .int .i64 (↑(kOf l + 1) : Int))]) [(.o 0, .flat [.ros 1 (List.length L) (bl L) false, .int .i64 ↑p, .int .i64 0])] 1 []), q (List.length L), ∀ (k : Nat), k < List.length L → bl L k = bl L k, false = true → false = true, q (↑p : Int), q1, q1, q1, q1, natO none (List.length L) - natO (some (↑p : Int)) (0 : Nat) = List.length l, ∀ (k : Nat), k < natO none (List.length L) - natO (some (↑p : Int)) (0 : Nat) → [V.int IntKind.u8 (↑(UInt8.toNat (List.getD L (Int.toNat (↑p : Int) + k) (0 : UInt8))) : Int)] = bl l k, false = true → false = true, (↑(UInt8.toNat (List.getD L (Int.toNat (↑p : Int) + nat_lit 0) (0 : UInt8))) : Int) = (↑(kOf l) : Int), q1, q (1 : Int), InR IntKind.i64 ((1 : Int) + (↑(kOf l) : Int))])))))) : Option (V × Heap × List Prop)) := by kernel_rfl

theorem bdXn_p0000000 (L : List UInt8) (l : List UInt8) (p : Nat) :
 along Tryz.prog (bdXn L l p) [false, false, false, false, false, false, false] = (some (.tup [.int .i64 (↑(beN (List.take (kOf l) (List.drop 1 l))) : Int), .int .i64 ((1 : Int) + (↑(kOf l) : Int)), .int .i64 0], [(.o 0, .flat [.ros 1 (List.length L) (bl L) false, .int .i64 ↑p, .int .i64 0])], bdXn_c L l p 0 ++ (bdXn_c L l p 1 ++ (bdXn_c L l p 2 ++ (bdXn_c L l p 3 ++ [decide ((0 : Int) < (↑(UInt8.toNat (List.getD L (Int.toNat (↑p : Int) + nat_lit 0) (0 : UInt8))) : Int)) = false, q false, decide ((↑(UInt8.toNat (List.getD L (Int.toNat (↑p : Int) + nat_lit 0) (0 : UInt8))) : Int) = (8 : Int)) = false, q false, RLoop Tryz.prog none 1 (cB (cB (cR (cL (cR (cR (cR (cR (cR (cR (cR (cR (bodyOf (Bd.f (bdXn L l p))))))))))))))) (kOf l + 1) (St.mk (mkT 66 [(2, .int .i64 0), (3, .int .i64 0), (4, .int .i64 0), (5, .ros 1 (List.length l) (bl l) false), (6, .int .i64 (↑(kOf l) : Int)), (7, .int .i64 0), (8, .int .i64 1)]) [(.o 0, .flat [.ros 1 (List.length L) (bl L) false, .int .i64 ↑p, .int .i64 0])] 1 []) (.exit 0) (St.mk (mkT 66 [(2, .int .i64 0), (3, .int .i64 0), (4, .int .i64 0), (5, .ros 1 (List.length l) (bl l) false), (6, .int .i64 (↑(kOf l) : Int)), (7, .int .i64 (↑(beN (List.take (kOf l) (List.drop 1 l))) : Int)), (8, .int .i64 (↑(kOf l + 1) : Int))]) [(.o 0, .flat [.ros 1 (List.length L) (bl L) false, .int .i64 ↑p, .int .i64 0])] 1 []), q (List.length L), ∀ (k : Nat), k < List.length L → bl L k = bl L k, false = true → false = true, q (↑p : Int), q1, q1, q1, q1, natO none (List.length L) - natO (some (↑p : Int)) (0 : Nat) = List.length l, ∀ (k : Nat), k < natO none (List.length L) - natO (some (↑p : Int)) (0 : Nat) → [V.int IntKind.u8 (↑(UInt8.toNat (List.getD L (Int.toNat (↑p : Int) + k) (0 : UInt8))) : Int)] = bl l k, false = true → false = true, (↑(UInt8.toNat (List.getD L (Int.toNat (↑p : Int) + nat_lit 0) (0 : UInt8))) : Int) = (↑(kOf l) : Int), q1, q (1 : Int), InR IntKind.i64 ((1 : Int) + (↑(kOf l) : Int))])))) : Option (V × Heap × List Prop)) := by kernel_rfl

theorem pcXn_p1 (L : List UInt8) (l : List UInt8) (p : Nat) (k : Nat) :
  alongPc Tryz.prog (pcXn L l p k) [true] = (some (.normal, St.mk (mkT 66 [(2, .int .i64 0), (3, .int .i64 0), (4, .int .i64 0), (5, .ros 1 (List.length l) (bl l) false), (6, .int .i64 (↑(kOf l) : Int)), (7, .int .i64 (↑(beN (List.take (k + 1) (List.drop 1 l))) : Int)), (8, .int .i64 (↑(k + 1 + 1) : Int))]) [(.o 0, .flat [.ros 1 (List.length L) (bl L) false, .int .i64 ↑p, .int .i64 0])] 1 [], [decide ((↑(k + (1 : Nat)) : Int) ≤ (↑(kOf l) : Int)) = true, InR IntKind.i64 ((256 : Int) * (↑(beN (List.take k (List.drop (1 : Nat) l))) : Int)), (0 : Int) ≤ (↑(k + (1 : Nat)) : Int) ∧ (↑(k + (1 : Nat)) : Int) < (↑(List.length l) : Int), InR IntKind.i64 (↑(UInt8.toNat (List.getD l (Int.toNat (↑(k + (1 : Nat)) : Int)) (0 : UInt8))) : Int), InR IntKind.i64 ((256 : Int) * (↑(beN (List.take k (List.drop (1 : Nat) l))) : Int) + (↑(UInt8.toNat (List.getD l (Int.toNat (↑(k + (1 : Nat)) : Int)) (0 : UInt8))) : Int)), InR IntKind.i64 ((↑(k + (1 : Nat)) : Int) + (1 : Int)), q (List.length L), ∀ (k : Nat), k < List.length L → bl L k = bl L k, false = true → false = true, q (↑p : Int), q1, q1, q1, q1, q (List.length l), ∀ (k : Nat), k < List.length l → bl l k = bl l k, false = true → false = true, q (↑(kOf l) : Int), (256 : Int) * (↑(beN (List.take k (List.drop (1 : Nat) l))) : Int) + (↑(UInt8.toNat (List.getD l (Int.toNat (↑(k + (1 : Nat)) : Int)) (0 : UInt8))) : Int) = (↑(beN (List.take (k + (1 : Nat)) (List.drop (1 : Nat) l))) : Int), (↑(k + (1 : Nat)) : Int) + (1 : Int) = (↑(k + (1 : Nat) + (1 : Nat)) : Int)]) : Option (Exit × St × List Prop)) := by kernel_rfl
theorem pcXn_p0 (L : List UInt8) (l : List UInt8) (p : Nat) (k : Nat) :
  alongPc Tryz.prog (pcXn L l p k) [false] = (some (.exit 0, St.mk (mkT 66 [(2, .int .i64 0), (3, .int .i64 0), (4, .int .i64 0), (5, .ros 1 (List.length l) (bl l) false), (6, .int .i64 (↑(kOf l) : Int)), (7, .int .i64 (↑(beN (List.take (kOf l) (List.drop 1 l))) : Int)), (8, .int .i64 (↑(kOf l + 1) : Int))]) [(.o 0, .flat [.ros 1 (List.length L) (bl L) false, .int .i64 ↑p, .int .i64 0])] 1 [], [decide ((↑(k + (1 : Nat)) : Int) ≤ (↑(kOf l) : Int)) = false, q (List.length L), ∀ (k : Nat), k < List.length L → bl L k = bl L k, false = true → false = true, q (↑p : Int), q1, q1, q1, q1, q (List.length l), ∀ (k : Nat), k < List.length l → bl l k = bl l k, false = true → false = true, q (↑(kOf l) : Int), (↑(beN (List.take k (List.drop (1 : Nat) l))) : Int) = (↑(beN (List.take (kOf l) (List.drop (1 : Nat) l))) : Int), (↑(k + (1 : Nat)) : Int) = (↑(kOf l + (1 : Nat)) : Int)]) : Option (Exit × St × List Prop)) := by kernel_rfl

theorem bdXmE_p1 (most : Int) (L : List UInt8) (e : Int) :
  along Tryz.prog (bdXmE most L e) [true] = (some (.int .i64 0, [(.o 0, .flat [.ros 1 (List.length L) (bl L) false, .any, .int .i64 e])], [(!decide (e = (0 : Int))) = true]) : Option (V × Heap × List Prop)) := by kernel_rfl

theorem bdXmF_p0111 (most : Int) (L : List UInt8) (p : Nat) (n : Int) (sz : Int) (e : Int) (e' : Int) :
  along Tryz.prog (bdXmF most L p n sz e e') [false, true, true, true] = (some (.int .i64 0, [(.o 0, .flat [.ros 1 (List.length L) (bl L) false, .any, .int .i64 e'])], [q false, T Tryz.prog 79 [.ptr (.o 0) 0 0 0 0] [(.o 0, .flat [.ros 1 (List.length L) (bl L) false, .int .i64 ↑p, .int .i64 0])] (.tup [.int .i64 n, .int .i64 sz, .int .i64 e]) [(.o 0, .flat [.ros 1 (List.length L) (bl L) false, .int .i64 ↑p, .int .i64 0])], decide (e = (0 : Int)) = true, decide (most < n) = true, q2, q (List.length L), ∀ (k : Nat), k < List.length L → bl L k = bl L k, false = true → false = true, (3 : Int) = e', q1]) : Option (V × Heap × List Prop)) := by kernel_rfl

theorem bdXmF_p0001 (most : Int) (L : List UInt8) (p : Nat) (n : Int) (sz : Int) (e : Int) (e' : Int) :
  along Tryz.prog (bdXmF most L p n sz e e') [false, false, false, true] = (some (.int .i64 0, [(.o 0, .flat [.ros 1 (List.length L) (bl L) false, .any, .int .i64 e'])], [q false, T Tryz.prog 79 [.ptr (.o 0) 0 0 0 0] [(.o 0, .flat [.ros 1 (List.length L) (bl L) false, .int .i64 ↑p, .int .i64 0])] (.tup [.int .i64 n, .int .i64 sz, .int .i64 e]) [(.o 0, .flat [.ros 1 (List.length L) (bl L) false, .int .i64 ↑p, .int .i64 0])], decide (e = (0 : Int)) = false, q false, (!decide (e = (0 : Int))) = true, q (List.length L), ∀ (k : Nat), k < List.length L → bl L k = bl L k, false = true → false = true, e = e', q1]) : Option (V × Heap × List Prop)) := by kernel_rfl

theorem bdXmO_p0100 (most : Int) (L : List UInt8) (p : Nat) (n : Int) (sz : Int) (p' : Nat) :
  along Tryz.prog (bdXmO most L p n sz p') [false, true, false, false] = (some (.int .i64 n, [(.o 0, .flat [.ros 1 (List.length L) (bl L) false, .int .i64 (↑p' : Int), .int .i64 0])], [q false, T Tryz.prog 79 [.ptr (.o 0) 0 0 0 0] [(.o 0, .flat [.ros 1 (List.length L) (bl L) false, .int .i64 ↑p, .int .i64 0])] (.tup [.int .i64 n, .int .i64 sz, .int .i64 0]) [(.o 0, .flat [.ros 1 (List.length L) (bl L) false, .int .i64 ↑p, .int .i64 0])], q2, decide (most < n) = false, q false, InR IntKind.i64 ((↑p : Int) + sz), q (List.length L), ∀ (k : Nat), k < List.length L → bl L k = bl L k, false = true → false = true, (↑p : Int) + sz = (↑p' : Int), q1, q n]) : Option (V × Heap × List Prop)) := by kernel_rfl

theorem bdXtE_p1 (most : Int) (L : List UInt8) (e : Int) :
  along Tryz.prog (bdXtE most L e) [true] = (some (.str (ByteArray.mk (Array.mk [])), [(.o 0, .flat [.ros 1 (List.length L) (bl L) false, .any, .int .i64 e])], [(!decide (e = (0 : Int))) = true]) : Option (V × Heap × List Prop)) := by kernel_rfl

theorem bdXtF_p011001 (most : Int) (L : List UInt8) (p : Nat) (n : Int) (sz : Int) (e : Int) (e' : Int) :
  along Tryz.prog (bdXtF most L p n sz e e') [false, true, true, false, false, true] = (some (.str (ByteArray.mk (Array.mk [])), [(.o 0, .flat [.ros 1 (List.length L) (bl L) false, .any, .int .i64 e'])], [q false, T Tryz.prog 79 [.ptr (.o 0) 0 0 0 0] [(.o 0, .flat [.ros 1 (List.length L) (bl L) false, .int .i64 ↑p, .int .i64 0])] (.tup [.int .i64 n, .int .i64 sz, .int .i64 e]) [(.o 0, .flat [.ros 1 (List.length L) (bl L) false, .int .i64 ↑p, .int .i64 0])], decide (e = (0 : Int)) = true, decide (most < n) = true, q false, q false, q2, q (List.length L), ∀ (k : Nat), k < List.length L → bl L k = bl L k, false = true → false = true, (3 : Int) = e', q (ByteArray.mk (Array.mk []))]) : Option (V × Heap × List Prop)) := by kernel_rfl

theorem bdXtF_p010111 (most : Int) (L : List UInt8) (p : Nat) (n : Int) (sz : Int) (e : Int) (e' : Int) :
  along Tryz.prog (bdXtF most L p n sz e e') [false, true, false, true, true, true] = (some (.str (ByteArray.mk (Array.mk [])), [(.o 0, .flat [.ros 1 (List.length L) (bl L) false, .any, .int .i64 e'])], [q false, T Tryz.prog 79 [.ptr (.o 0) 0 0 0 0] [(.o 0, .flat [.ros 1 (List.length L) (bl L) false, .int .i64 ↑p, .int .i64 0])] (.tup [.int .i64 n, .int .i64 sz, .int .i64 e]) [(.o 0, .flat [.ros 1 (List.length L) (bl L) false, .int .i64 ↑p, .int .i64 0])], decide (e = (0 : Int)) = true, decide (most < n) = false, decide (e = (0 : Int)) = true, InR IntKind.i64 ((↑(List.length L) : Int) - (↑p : Int)), InR IntKind.i64 ((↑(List.length L) : Int) - (↑p : Int) - sz), decide ((↑(List.length L) : Int) - (↑p : Int) - sz < n) = true, q2, q (List.length L), ∀ (k : Nat), k < List.length L → bl L k = bl L k, false = true → false = true, (10 : Int) = e', q (ByteArray.mk (Array.mk []))]) : Option (V × Heap × List Prop)) := by kernel_rfl

theorem bdXtF_p000001 (most : Int) (L : List UInt8) (p : Nat) (n : Int) (sz : Int) (e : Int) (e' : Int) :
  along Tryz.prog (bdXtF most L p n sz e e') [false, false, false, false, false, true] = (some (.str (ByteArray.mk (Array.mk [])), [(.o 0, .flat [.ros 1 (List.length L) (bl L) false, .any, .int .i64 e'])], [q false, T Tryz.prog 79 [.ptr (.o 0) 0 0 0 0] [(.o 0, .flat [.ros 1 (List.length L) (bl L) false, .int .i64 ↑p, .int .i64 0])] (.tup [.int .i64 n, .int .i64 sz, .int .i64 e]) [(.o 0, .flat [.ros 1 (List.length L) (bl L) false, .int .i64 ↑p, .int .i64 0])], decide (e = (0 : Int)) = false, q false, decide (e = (0 : Int)) = false, q false, (!decide (e = (0 : Int))) = true, q (List.length L), ∀ (k : Nat), k < List.length L → bl L k = bl L k, false = true → false = true, e = e', q (ByteArray.mk (Array.mk []))]) : Option (V × Heap × List Prop)) := by kernel_rfl

theorem bdXtO_p010100 (most : Int) (L : List UInt8) (p : Nat) (n : Int) (sz : Int) (p' : Nat) (s : ByteArray) :
  along Tryz.prog (bdXtO most L p n sz p' s) [false, true, false, true, false, false] = (some (.str s, [(.o 0, .flat [.ros 1 (List.length L) (bl L) false, .int .i64 (↑p' : Int), .int .i64 0])], [q false, T Tryz.prog 79 [.ptr (.o 0) 0 0 0 0] [(.o 0, .flat [.ros 1 (List.length L) (bl L) false, .int .i64 ↑p, .int .i64 0])] (.tup [.int .i64 n, .int .i64 sz, .int .i64 0]) [(.o 0, .flat [.ros 1 (List.length L) (bl L) false, .int .i64 ↑p, .int .i64 0])], q2, decide (most < n) = false, q2, InR IntKind.i64 ((↑(List.length L) : Int) - (↑p : Int)), InR IntKind.i64 ((↑(List.length L) : Int) - (↑p : Int) - sz), decide ((↑(List.length L) : Int) - (↑p : Int) - sz < n) = false, q false, InR IntKind.i64 ((↑p : Int) + sz), InR IntKind.i64 ((↑p : Int) + sz + n), InR IntKind.i64 ((↑p : Int) + sz + n - n), (0 : Int) ≤ (↑p : Int) + sz + n ∧ (↑p : Int) + sz + n ≤ (↑(natO none (List.length L)) : Int), (0 : Int) ≤ (↑p : Int) + sz + n - n ∧ (↑p : Int) + sz + n - n ≤ (↑(natO (some ((↑p : Int) + sz + n)) (List.length L)) : Int), ∀ (k : Nat), k < natO (some ((↑p : Int) + sz + n)) (List.length L) - natO (some ((↑p : Int) + sz + n - n)) (0 : Nat) → true = true, ∀ (k : Nat), k < natO (some ((↑p : Int) + sz + n)) (List.length L) - natO (some ((↑p : Int) + sz + n - n)) (0 : Nat) → true = true, q (List.length L), ∀ (k : Nat), k < List.length L → bl L k = bl L k, false = true → false = true, (↑p : Int) + sz + n = (↑p' : Int), q1, bytesF (natO (some ((↑p : Int) + sz + n)) (List.length L) - natO (some ((↑p : Int) + sz + n - n)) (0 : Nat)) (shiftF (bl L) (some ((↑p : Int) + sz + n - n))) = s]) : Option (V × Heap × List Prop)) := by kernel_rfl

theorem bdXwE_p1 (n : Int) (L : List UInt8) (e : Int) :
  along Tryz.prog (bdXwE n L e) [true] = (some (.ros 1 0 (bl []) false, [(.o 0, .flat [.ros 1 (List.length L) (bl L) false, .any, .int .i64 e])], [(!decide (e = (0 : Int))) = true, q (List.length L), ∀ (k : Nat), k < List.length L → bl L k = bl L k, false = true → false = true, q e, nat_lit 0 = (0 : Nat)]) : Option (V × Heap × List Prop)) := by kernel_rfl

theorem bdXwF_p01 (n : Int) (L : List UInt8) (p : Nat) (e' : Int) :
  along Tryz.prog (bdXwF n L p e') [false, true] = (some (.ros 1 0 (bl []) false, [(.o 0, .flat [.ros 1 (List.length L) (bl L) false, .any, .int .i64 e'])], [q false, decide (n < (0 : Int)) = true, q (List.length L), ∀ (k : Nat), k < List.length L → bl L k = bl L k, false = true → false = true, (2 : Int) = e', nat_lit 0 = (0 : Nat)]) : Option (V × Heap × List Prop)) := by kernel_rfl

theorem bdXwF_p001 (n : Int) (L : List UInt8) (p : Nat) (e' : Int) :
  along Tryz.prog (bdXwF n L p e') [false, false, true] = (some (.ros 1 0 (bl []) false, [(.o 0, .flat [.ros 1 (List.length L) (bl L) false, .any, .int .i64 e'])], [q false, decide (n < (0 : Int)) = false, InR IntKind.i64 ((↑(List.length L) : Int) - (↑p : Int)), decide ((↑(List.length L) : Int) - (↑p : Int) < n) = true, q (List.length L), ∀ (k : Nat), k < List.length L → bl L k = bl L k, false = true → false = true, (10 : Int) = e', nat_lit 0 = (0 : Nat)]) : Option (V × Heap × List Prop)) := by kernel_rfl

theorem bdXwO_p000 (n : Int) (L : List UInt8) (l : List UInt8) (p : Nat) (p' : Nat) :
  along Tryz.prog (bdXwO n L l p p') [false, false, false] = some (V.ros (1 : Nat) (List.length l) (bl l) false, [(Nm.o (0 : Nat), B.flat [V.ros (1 : Nat) (List.length L) (bl L) false, V.int IntKind.i64 (↑p' : Int), V.int IntKind.i64 (0 : Int)])], [false = false, decide (n < (0 : Int)) = false, InR IntKind.i64 ((↑(List.length L) : Int) - (↑p : Int)), decide ((↑(List.length L) : Int) - (↑p : Int) < n) = false, InR IntKind.i64 ((↑p : Int) + n), InR IntKind.i64 ((↑p : Int) + n - n), (0 : Int) ≤ (↑p : Int) + n ∧ (↑p : Int) + n ≤ (↑(natO none (List.length L)) : Int), (0 : Int) ≤ (↑p : Int) + n - n ∧ (↑p : Int) + n - n ≤ (↑(natO (some ((↑p : Int) + n)) (List.length L)) : Int), (0 : Nat) = (0 : Nat), ∀ (k : Nat), k < natO (some ((↑p : Int) + n)) (List.length L) - natO (some ((↑p : Int) + n - n)) (0 : Nat) → true = true, ((0 : Nat) + (natO (some ((↑p : Int) + n)) (List.length L) - natO (some ((↑p : Int) + n - n)) (0 : Nat))) * (1 : Nat) ≤ (140737488355328 : Nat), List.length L = List.length L, ∀ (k : Nat), k < List.length L → bl L k = bl L k, false = true → false = true, (↑p : Int) + n = (↑p' : Int), (0 : Int) = (0 : Int), (0 : Nat) + (natO (some ((↑p : Int) + n)) (List.length L) - natO (some ((↑p : Int) + n - n)) (0 : Nat)) = List.length l, (0 : Nat) + ((0 : Nat) + (natO (some ((↑p : Int) + n)) (List.length L) - natO (some ((↑p : Int) + n - n)) (0 : Nat))) ≤ (0 : Nat) + (natO (some ((↑p : Int) + n)) (List.length L) - natO (some ((↑p : Int) + n - n)) (0 : Nat)), ∀ (k : Nat), k < (0 : Nat) + (natO (some ((↑p : Int) + n)) (List.length L) - natO (some ((↑p : Int) + n - n)) (0 : Nat)) → [V.int IntKind.u8 (↑(UInt8.toNat (List.getD L (Int.toNat ((↑p : Int) + n - n) + ((0 : Nat) + k - (0 : Nat))) (0 : UInt8))) : Int)] = bl l k, false = true → none = some ((0 : Nat) + (natO (some ((↑p : Int) + n)) (List.length L) - natO (some ((↑p : Int) + n - n)) (0 : Nat)))]) := by kernel_rfl

theorem bdXdE_p1 (L : List UInt8) (e : Int) :
  along Tryz.prog (bdXdE L e) [true] = (some (.int .i64 e, [(.o 0, .flat [.ros 1 (List.length L) (bl L) false, .any, .int .i64 e])], [(!decide (e = (0 : Int))) = true]) : Option (V × Heap × List Prop)) := by kernel_rfl

theorem bdXd_p01 (L : List UInt8) (p : Nat) :
  along Tryz.prog (bdXd L p) [false, true] = (some (.int .i64 12, [(.o 0, .flat [.ros 1 (List.length L) (bl L) false, .int .i64 ↑p, .int .i64 0])], [q false, decide ((↑p : Int) < (↑(List.length L) : Int)) = true]) : Option (V × Heap × List Prop)) := by kernel_rfl

theorem bdXd_p00 (L : List UInt8) (p : Nat) :
  along Tryz.prog (bdXd L p) [false, false] = (some (.int .i64 0, [(.o 0, .flat [.ros 1 (List.length L) (bl L) false, .int .i64 ↑p, .int .i64 0])], [q false, decide ((↑p : Int) < (↑(List.length L) : Int)) = false]) : Option (V × Heap × List Prop)) := by kernel_rfl

theorem T_xr1 {L : List UInt8} (hl : L.length ≤ 1000000000) : T Tryz.prog 29 [roB L] [] (.ptr (.o 63) 0 0 0 0) [(.o 63, rx L 0 0)] := by
 refine T_al (bdXr_p L) Tryz.func29 ?_
 simp only [All, All_append, bdXn_c]; and_intros
 all_goals first | trivial | omega | (intro k _; simp [bl]; done) | simp
theorem T_xr (m : Nat) {L : List UInt8} (hl : L.length ≤ 1000000000) : T Tryz.prog 29 [roB L] [] (.ptr (.o m) 0 0 0 0) [(.o m, rx L 0 0)] := by
 obtain ⟨σ, hσ, h1⟩ := T.at (T_xr1 hl) [.o 63] [.o m] (by simp) (by simp) rfl
 simp only [List.map_cons, List.map_nil, List.cons.injEq, and_true] at hσ
 simpa [V.rens, V.ren, roB, rx, Heap.ren, B.ren, hσ] using h1
theorem numStepX {L l : List UInt8} {p : Nat} (h : NumOk l) (k : Nat) (hk : k < kOf l) : R Tryz.prog none 1 (pcXn L l p 0).c (nbX L l p k) .normal (nbX L l p (k + 1)) := by
 have hl := h.len
 have h8 := h.k
 have hd : k < (l.drop 1).length := by rw [List.length_drop]; omega
 have e := take_snoc hd
 have hx := ((l.drop 1).getD k 0).toNat_lt
 have hm := beN_mono (d := l.drop 1) (j := k + 1) (k := kOf l) (by omega) (by rw [List.length_drop]; omega)
 have hlt := h.lt
 have e2 := beN_snoc ((l.drop 1).take k) ((l.drop 1).getD k 0)
 rw [← e] at e2
 have e3 : l.getD (k + 1) 0 = (l.drop 1).getD k 0 := by simp [List.getD_eq_getElem?_getD, Nat.add_comm]
 refine R_alongPc NG MO _ (pcXn_p1 L l p k) ?_ (Nat.le_refl _)
 simp only [All, All_append, bdXn_c, Int.toNat_natCast, e3]
 and_intros
 all_goals first | exact True.intro | (intro _ _; trivial) | (rw [decide_eq_true_eq]; omega) | (simp only [IntKind.min, IntKind.max, IntKind.signed, IntKind.bits, if_true]; omega) | omega | (intro h; exact h)
theorem numLoopX {L l : List UInt8} {p : Nat} (h : NumOk l) : RLoop Tryz.prog none 1 (pcXn L l p 0).c (kOf l + 1) (nbX L l p 0) (.exit 0) (nbX L l p (kOf l)) :=
 RLoop.inv (nbX L l p) (kOf l) (fun k hk => numStepX h k hk) (R_alongPc NG MO _ (pcXn_p0 L l p (kOf l)) (by simp only [All, All_append, bdXn_c]; and_intros; all_goals first | exact True.intro | (rw [decide_eq_false_iff_not]; omega) | (simp; done)) (Nat.le_refl _)) (by simp)
theorem T_xn {L : List UInt8} {p : Nat} (hp : p ≤ L.length) (hL : L.length ≤ 1000000000) : T Tryz.prog 79 [p0] [(.o 0, rx L p 0)] (numberV (L.drop p)) [(.o 0, rx L p 0)] := by
 have e0 : L.getD p 0 = (L.drop p).getD 0 0 := by simp [List.getD_eq_getElem?_getD]
 have e1 : L.getD (p + 1) 0 = (L.drop p).getD 1 0 := by simp [List.getD_eq_getElem?_getD]
 have e2 : L.length - p = (L.drop p).length := by rw [List.length_drop]
 have e3 : ∀ k, [V.int .u8 ((L.getD (p + k) 0).toNat : Int)] = bl (L.drop p) k := fun k => by simp [bl, List.getD_eq_getElem?_getD]
 have hlp : (L.drop p).length ≤ L.length := by rw [List.length_drop]; omega
 have hlq : p + (L.drop p).length = L.length := by rw [List.length_drop]; omega
 generalize L.drop p = l at *
 have hk := kOf_lt l
 have hkk : (l.getD 0 0).toNat = kOf l := rfl
 by_cases h1 : l.length = 0
 ·refine T.conv (T_al (bdXn_p1 L l p) Tryz.func79 ?_) rfl rfl (by simp [numberV, nV, nS, nE, h1]) rfl
  simp only [All, All_append, bdXn_c, natO, Int.toNat_natCast, Nat.add_zero, e0, e1, e2, hkk]; and_intros
  all_goals first | trivial | omega | (rw [decide_eq_true_eq]; omega)
 by_cases h2 : 8 < kOf l
 ·refine T.conv (T_al (bdXn_p01 L l p) Tryz.func79 ?_) rfl rfl (by simp [numberV, nV, nS, nE, h1, h2]) rfl
  simp only [All, All_append, bdXn_c, natO, Int.toNat_natCast, Nat.add_zero, e0, e1, e2, hkk]; and_intros
  all_goals first | (rw [decide_eq_false_iff_not]; omega) | (rw [decide_eq_true_eq]; omega) | omega | exact inR1 (by omega) (by omega) | exact inR2 (by omega) (by omega) | trivial
 by_cases h3 : l.length ≤ kOf l
 ·refine T.conv (T_al (bdXn_p001 L l p) Tryz.func79 ?_) rfl rfl (by simp [numberV, nV, nS, nE, h1, h2, h3]) rfl
  simp only [All, All_append, bdXn_c, natO, Int.toNat_natCast, Nat.add_zero, e0, e1, e2, hkk]; and_intros
  all_goals first | (rw [decide_eq_false_iff_not]; omega) | (rw [decide_eq_true_eq]; omega) | omega | exact inR1 (by omega) (by omega) | exact inR2 (by omega) (by omega) | trivial
 by_cases h4 : 0 < kOf l ∧ (l.getD 1 0).toNat = 0
 ·refine T.conv (T_al (bdXn_p000111 L l p) Tryz.func79 ?_) rfl rfl (by simp only [numberV, nV, nS, nE, if_neg h1, if_neg h2, if_neg h3, if_pos h4]; rfl) rfl
  simp only [All, All_append, bdXn_c, natO, Int.toNat_natCast, Nat.add_zero, e0, e1, e2, hkk]; and_intros
  all_goals first | (rw [decide_eq_false_iff_not]; omega) | (rw [decide_eq_true_eq]; omega) | omega | exact inR1 (by omega) (by omega) | exact inR2 (by omega) (by omega) | trivial
 by_cases h5 : kOf l = 8 ∧ 127 < (l.getD 1 0).toNat
 ·refine T.conv (T_al (bdXn_p0001011 L l p) Tryz.func79 ?_) rfl rfl (by simp only [numberV, nV, nS, nE, if_neg h1, if_neg h2, if_neg h3, if_neg h4, if_pos h5]; rfl) rfl
  simp only [All, All_append, bdXn_c, natO, Int.toNat_natCast, Nat.add_zero, e0, e1, e2, hkk]; and_intros
  all_goals first | (rw [decide_eq_false_iff_not]; omega) | (rw [decide_eq_true_eq]; omega) | omega | exact inR1 (by omega) (by omega) | exact inR2 (by omega) (by omega) | trivial
 have hok : NumOk l := ⟨by omega, by omega, fun h => by omega⟩
 have hv : numberV l = .tup [.int .i64 (beN ((l.drop 1).take (kOf l)) : Nat), .int .i64 (1 + (kOf l : Int)), .int .i64 0] := by
  simp only [numberV, nV, nS, nE, if_neg h1, if_neg h2, if_neg h3, if_neg h4, if_neg h5, if_true]
  rw [Int.add_comm]; rfl
 by_cases h6 : 0 < kOf l
 ·by_cases h7 : kOf l = 8
  ·refine T.conv (T_al (bdXn_p0001010 L l p) Tryz.func79 ?_) rfl rfl hv.symm rfl
   simp only [All, All_append, bdXn_c, natO, Int.toNat_natCast, Nat.add_zero, e0, e1, e2, hkk, e3]; and_intros
   all_goals first | exact numLoopX hok | exact fun _ _ => trivial | (rw [decide_eq_false_iff_not]; omega) | (rw [decide_eq_true_eq]; omega) | omega | exact inR1 (by omega) (by omega) | exact inR2 (by omega) (by omega) | trivial
  ·refine T.conv (T_al (bdXn_p0001000 L l p) Tryz.func79 ?_) rfl rfl hv.symm rfl
   simp only [All, All_append, bdXn_c, natO, Int.toNat_natCast, Nat.add_zero, e0, e1, e2, hkk, e3]; and_intros
   all_goals first | exact numLoopX hok | exact fun _ _ => trivial | (rw [decide_eq_false_iff_not]; omega) | (rw [decide_eq_true_eq]; omega) | omega | exact inR1 (by omega) (by omega) | exact inR2 (by omega) (by omega) | trivial
 ·refine T.conv (T_al (bdXn_p0000000 L l p) Tryz.func79 ?_) rfl rfl hv.symm rfl
  simp only [All, All_append, bdXn_c, natO, Int.toNat_natCast, Nat.add_zero, e0, e1, e2, hkk, e3]; and_intros
  all_goals first | exact numLoopX hok | exact fun _ _ => trivial | (rw [decide_eq_false_iff_not]; omega) | omega | exact inR1 (by omega) (by omega) | exact inR2 (by omega) (by omega) | trivial
theorem rxE_of {L : List UInt8} {s : RS} (he : s.e ≠ 0) : rxB L s = rxE L (eV s) := rxB_e he
theorem eV_ne {s : RS} (he : s.e ≠ 0) : eV s ≠ 0 := by
 unfold eV
 split
 ·decide
 ·exact he
theorem rxB_fail {L : List UInt8} {s : RS} (hb : s.bad = false) {e : Int} (he : e ≠ 0) : rxB L (s.fail e) = rxE L e := by
 rw [rxE_of (s := s.fail e) he, eV, show (s.fail e).bad = false from hb, if_neg (by simp)]; rfl
theorem rxB_drop {L : List UInt8} {s : RS} (h : Ok L s) (he : s.e = 0) {n : Nat} (hn : n ≤ s.l.length) : rxB L (s.drop n) = rx L (L.length - s.l.length + n) 0 := by
 have h2 := (h he).2.1
 rw [rxB_ok (h.drop n) he, show (s.drop n).l.length = s.l.length - n by rw [RS.drop, List.length_drop]]
 congr 1
 omega
theorem T_xm0 {most : Int} {L : List UInt8} {s : RS} (h : Ok L s) (hL : L.length ≤ 1000000000) : T Tryz.prog 30 [p0, .int .i64 most] [(.o 0, rxB L s)] (.int .i64 (numR most s).1) [(.o 0, rxB L (numR most s).2)] := by
 have hS := @nS_le s.l
 by_cases h1 : s.e = 0
 ·obtain ⟨hb, hlen, hl⟩ := h h1
  have hN := T_xn (L := L) (p := L.length - s.l.length) (by omega) hL
  rw [← hl] at hN
  rw [rxB_ok h h1]
  by_cases h2 : nE s.l = 0
  ·by_cases h3 : most < nV s.l
   ·have e1 : nE1 most s.l = 3 := by simp [nE1, h2, h3]
    have e : numR most s = (0, s.fail 3) := by simp [numR, h1, e1]
    rw [e, rxB_fail hb (by decide)]
    refine T_al (bdXmF_p0111 most L (L.length - s.l.length) (nV s.l) (nS s.l) (nE s.l) 3) Tryz.func30 ?_
    simp only [All, All_append, bdXn_c]; and_intros
    all_goals first | exact True.intro | exact hN | (rw [decide_eq_true_eq]; omega) | (intro _ _; exact True.intro) | (intro h; exact h)
   ·have e1 : nE1 most s.l = 0 := by simp [nE1, h2, h3]
    have e : numR most s = (nV s.l, s.drop (nS s.l).toNat) := by simp [numR, h1, e1]
    rw [e, rxB_drop h h1 (by omega)]
    rw [numberV, h2] at hN
    refine T_al (bdXmO_p0100 most L (L.length - s.l.length) (nV s.l) (nS s.l) (L.length - s.l.length + (nS s.l).toNat)) Tryz.func30 ?_
    simp only [All, All_append, bdXn_c]; and_intros
    all_goals first | exact True.intro | exact hN | (rw [decide_eq_false_iff_not]; omega) | (intro _ _; exact True.intro) | (simp only [IntKind.min, IntKind.max, IntKind.signed, IntKind.bits, if_true]; omega) | omega | (intro h; exact h)
  ·have e1 : nE1 most s.l = nE s.l := by simp [nE1, h2]
   have e : numR most s = (0, s.fail (nE s.l)) := by simp [numR, h1, e1, h2]
   rw [e, rxB_fail hb h2]
   refine T_al (bdXmF_p0001 most L (L.length - s.l.length) (nV s.l) (nS s.l) (nE s.l) (nE s.l)) Tryz.func30 ?_
   simp only [All, All_append, bdXn_c]; and_intros
   all_goals first | exact True.intro | exact hN | (simp [h2]; done)
 ·have e : numR most s = (0, s) := by simp [numR, h1]
  rw [e, rxE_of h1]
  refine T_al (bdXmE_p1 most L (eV s)) Tryz.func30 ?_
  simp only [All, All_append, bdXn_c]; and_intros
  all_goals first | exact True.intro | (simp [eV_ne h1]; done)
theorem txX {L l : List UInt8} {p a n : Nat} (hl : l = L.drop p) (h : a + n ≤ l.length) : bytesF n (fun k => [V.int .u8 ((L.getD (p + a + k) 0).toNat : Int)]) = baL ((l.drop a).take n) := by
 subst hl
 have hlen : (((L.drop p).drop a).take n).length = n := by rw [List.length_take, List.length_drop]; omega
 have h0 := bytesF_bl (((L.drop p).drop a).take n)
 rw [hlen] at h0
 rw [← h0]
 unfold bytesF
 congr 2
 apply List.map_congr_left
 intro i hi
 have hi := List.mem_range.1 hi
 have e : bl (((L.drop p).drop a).take n) (0 + i) = [V.int .u8 ((L.getD (p + a + i) 0).toNat : Int)] := by
  rw [Nat.zero_add, bl_take _ hi, bl_drop, bl_drop, ← Nat.add_assoc]; rfl
 show UInt8.ofNat (intOf [V.int .u8 ((L.getD (p + a + i) 0).toNat : Int)]).toNat = UInt8.ofNat (intOf (bl (((L.drop p).drop a).take n) (0 + i))).toNat
 rw [e]
theorem T_xt0 {most : Int} {L : List UInt8} {s : RS} (h : Ok L s) (hL : L.length ≤ 1000000000) : T Tryz.prog 31 [p0, .int .i64 most] [(.o 0, rxB L s)] (.str (textR most s).1) [(.o 0, rxB L (textR most s).2)] := by
 have hS := @nS_le s.l
 have hV := @nV_le s.l
 by_cases h1 : s.e = 0
 ·obtain ⟨hb, hlen, hl⟩ := h h1
  have hN := T_xn (L := L) (p := L.length - s.l.length) (by omega) hL
  rw [← hl] at hN
  rw [rxB_ok h h1]
  by_cases h2 : nE s.l = 0
  ·by_cases h3 : most < nV s.l
   ·have e1 : tE most s.l = 3 := by simp [tE, h2, h3]
    have e : textR most s = (baL [], s.fail 3) := by simp [textR, h1, e1]
    rw [e, rxB_fail hb (by decide)]
    refine T_al (bdXtF_p011001 most L (L.length - s.l.length) (nV s.l) (nS s.l) (nE s.l) 3) Tryz.func31 ?_
    simp only [All, All_append, bdXn_c]; and_intros
    all_goals first | exact True.intro | exact hN | (rw [decide_eq_true_eq]; omega) | (intro _ _; exact True.intro) | (intro h; exact h)
   ·by_cases h4 : (s.l.length : Int) - nS s.l < nV s.l
    ·have e1 : tE most s.l = 10 := by simp [tE, h2, h3, h4]
     have e : textR most s = (baL [], s.fail 10) := by simp [textR, h1, e1]
     rw [e, rxB_fail hb (by decide)]
     refine T_al (bdXtF_p010111 most L (L.length - s.l.length) (nV s.l) (nS s.l) (nE s.l) 10) Tryz.func31 ?_
     simp only [All, All_append, bdXn_c]; and_intros
     all_goals first | exact True.intro | exact hN | (rw [decide_eq_true_eq]; omega) | (rw [decide_eq_false_iff_not]; omega) | (intro _ _; exact True.intro) | (simp only [IntKind.min, IntKind.max, IntKind.signed, IntKind.bits, if_true]; omega) | (intro h; exact h)
    ·have e1 : tE most s.l = 0 := by simp [tE, h2, h3, h4]
     have e : textR most s = (baL ((s.l.drop (nS s.l).toNat).take (nV s.l).toNat), s.drop ((nS s.l).toNat + (nV s.l).toNat)) := by
      simp [textR, h1, e1, RS.drop, List.drop_drop]
     rw [e, rxB_drop h h1 (by omega)]
     rw [numberV, h2] at hN
     have hb := txX hl (a := (nS s.l).toNat) (n := (nV s.l).toNat) (by omega)
     refine T_al (bdXtO_p010100 most L (L.length - s.l.length) (nV s.l) (nS s.l) (L.length - s.l.length + ((nS s.l).toNat + (nV s.l).toNat)) (baL ((s.l.drop (nS s.l).toNat).take (nV s.l).toNat))) Tryz.func31 ?_
     have q1 : (((L.length - s.l.length : Nat) : Int) + nS s.l + nV s.l).toNat = L.length - s.l.length + (nS s.l).toNat + (nV s.l).toNat := by omega
     have q2 : (((L.length - s.l.length : Nat) : Int) + nS s.l + nV s.l - nV s.l).toNat = L.length - s.l.length + (nS s.l).toNat := by omega
     have q3 : L.length - s.l.length + (nS s.l).toNat + (nV s.l).toNat - (L.length - s.l.length + (nS s.l).toNat) = (nV s.l).toNat := by omega
     have q4 : (((L.length - s.l.length : Nat) : Int) + nS s.l).toNat = L.length - s.l.length + (nS s.l).toNat := by omega
     simp only [All, All_append, bdXn_c, natO, q1, q2, q3]; and_intros
     all_goals first | exact True.intro | exact hN | (refine Eq.trans ?_ hb; refine congrArg (bytesF _) ?_; funext k; rw [shiftF_eq]; simp only [natO, q2]; rfl) | (rw [decide_eq_false_iff_not]; omega) | (intro _ _; exact True.intro) | (simp only [IntKind.min, IntKind.max, IntKind.signed, IntKind.bits, if_true]; omega) | omega | (intro h; exact h)
  ·have e1 : tE most s.l = nE s.l := by simp [tE, h2]
   have e : textR most s = (baL [], s.fail (nE s.l)) := by simp [textR, h1, e1, h2]
   rw [e, rxB_fail hb h2]
   refine T_al (bdXtF_p000001 most L (L.length - s.l.length) (nV s.l) (nS s.l) (nE s.l) (nE s.l)) Tryz.func31 ?_
   simp only [All, All_append, bdXn_c]; and_intros
   all_goals first | exact True.intro | exact hN | (simp [h2]; done)
 ·have e : textR most s = (baL [], s) := by simp [textR, h1]
  rw [e, rxE_of h1]
  refine T_al (bdXtE_p1 most L (eV s)) Tryz.func31 ?_
  simp only [All, All_append, bdXn_c]; and_intros
  all_goals first | exact True.intro | (simp [eV_ne h1]; done)
theorem T_xw0 {n : Int} {L : List UInt8} {s : RS} (h : Ok L s) (hL : L.length ≤ 1000000000) : T Tryz.prog 32 [p0, .int .i64 n] [(.o 0, rxB L s)] (roB (rawR n s).1) [(.o 0, rxB L (rawR n s).2)] := by
 by_cases h1 : s.e = 0
 ·obtain ⟨hb, hlen, hl⟩ := h h1
  rw [rxB_ok h h1]
  by_cases h2 : n < 0
  ·have e : rawR n s = ([], s.fail 2) := by simp [rawR, h1, h2]
   rw [e, rxB_fail hb (by decide)]
   refine T_al (bdXwF_p01 n L (L.length - s.l.length) 2) Tryz.func32 ?_
   simp only [All, All_append, bdXn_c]; and_intros
   all_goals first | exact True.intro | (rw [decide_eq_true_eq]; omega) | (intro _ _; exact True.intro) | (intro h; exact h)
  ·by_cases h3 : (s.l.length : Int) < n
   ·have e : rawR n s = ([], s.fail 10) := by simp [rawR, h1, h2, h3]
    rw [e, rxB_fail hb (by decide)]
    refine T_al (bdXwF_p001 n L (L.length - s.l.length) 10) Tryz.func32 ?_
    simp only [All, All_append, bdXn_c]; and_intros
    all_goals first | exact True.intro | (rw [decide_eq_true_eq]; omega) | (rw [decide_eq_false_iff_not]; omega) | (intro _ _; exact True.intro) | (simp only [IntKind.min, IntKind.max, IntKind.signed, IntKind.bits, if_true]; omega) | (intro h; exact h)
   ·have e : rawR n s = (s.l.take n.toNat, s.drop n.toNat) := by simp [rawR, h1, h2, h3]
    have hln : (s.l.take n.toNat).length = n.toNat := by rw [List.length_take]; omega
    rw [e, rxB_drop h h1 (by omega)]
    have q1 : (((L.length - s.l.length : Nat) : Int) + n).toNat = L.length - s.l.length + n.toNat := by omega
    have q2 : (((L.length - s.l.length : Nat) : Int) + n - n).toNat = L.length - s.l.length := by omega
    have q3 : L.length - s.l.length + n.toNat - (L.length - s.l.length) = n.toNat := by omega
    have q5 : ∀ k, k < n.toNat → bl L (L.length - s.l.length + k) = bl (s.l.take n.toNat) k := fun k hk => by
     have : bl (L.drop (L.length - s.l.length)) k = bl L (L.length - s.l.length + k) := bl_drop _ _ _
     rw [bl_take _ hk, ← this, ← hl]
    refine T_al (bdXwO_p000 n L (s.l.take n.toNat) (L.length - s.l.length) (L.length - s.l.length + n.toNat)) Tryz.func32 ?_
    simp only [All, All_append, bdXn_c, natO, q1, q2, q3, hln, Nat.zero_add]; and_intros
    all_goals first | exact True.intro | (intro k hk; rw [Nat.sub_zero]; exact q5 k hk) | (rw [decide_eq_false_iff_not]; omega) | (intro _ _; exact True.intro) | (simp only [IntKind.min, IntKind.max, IntKind.signed, IntKind.bits, if_true]; omega) | omega | (intro h; exact h) | (intro h; cases h; done)
 ·have e : rawR n s = ([], s) := by simp [rawR, h1]
  rw [e, rxE_of h1]
  refine T_al (bdXwE_p1 n L (eV s)) Tryz.func32 ?_
  simp only [All, All_append, bdXn_c]; and_intros
  all_goals first | exact True.intro | (simp [eV_ne h1]; done)
def doneX (s : RS) : Int := if s.bad then 130 else doneR s
theorem T_xd0 {L : List UInt8} {s : RS} (h : Ok L s) : T Tryz.prog 33 [p0] [(.o 0, rxB L s)] (.int .i64 (doneX s)) [(.o 0, rxB L s)] := by
 by_cases h1 : s.e = 0
 ·obtain ⟨hb, hlen, hl⟩ := h h1
  rw [rxB_ok h h1]
  by_cases h2 : 0 < s.l.length
  ·refine T.val (T_al (bdXd_p01 L (L.length - s.l.length)) Tryz.func33 ?_) (by simp [doneX, hb, doneR, h1, h2])
   simp only [All, All_append, bdXn_c]; and_intros
   all_goals first | exact True.intro | (rw [decide_eq_true_eq]; omega)
  ·refine T.val (T_al (bdXd_p00 L (L.length - s.l.length)) Tryz.func33 ?_) (by simp [doneX, hb, doneR, h1, h2])
   simp only [All, All_append, bdXn_c]; and_intros
   all_goals first | exact True.intro | (rw [decide_eq_false_iff_not]; omega)
 ·rw [rxE_of h1]
  refine T.val (T_al (bdXdE_p1 L (eV s)) Tryz.func33 ?_) (by unfold doneX eV doneR; split <;> simp [h1])
  simp only [All, All_append, bdXn_c]; and_intros
  all_goals first | exact True.intro | (simp [eV_ne h1]; done)
end Go.Proofs.YtnmccoincblecaaGreat
namespace Go.Proofs.YtnmccoincblecaaGreat
open Go Sy Go.Proofs
/-- The sender's error is none of a reader's; what is left stays the bytes' end. -/
def Ev (s s' : RS) : Prop := (s.e ≠ 140 → s'.e ≠ 140) ∧ ∀ L, Ok L s → Ok L s'
theorem Ev.refl (s : RS) : Ev s s := ⟨id, fun _ h => h⟩
theorem Ev.trans {a b c : RS} (h : Ev a b) (h' : Ev b c) : Ev a c := ⟨fun e => h'.1 (h.1 e), fun L o => h'.2 L (h.2 L o)⟩
end Go.Proofs.YtnmccoincblecaaGreat
namespace Go.Proofs.YtnmccoincblecaaGreat
open Go Sy Go.Proofs
def putI (z : Int) : List UInt8 := if z < 0 then [] else putZ z
def envI (e : SEnv) : List UInt8 := putI e.src ++ textB e.body ++ segB e.tag
noncomputable def bdPnR (z : Int) (l : List UInt8) (c : Bool) : Bd := { f := Tryz.f35, args := [.ros 1 l.length (bl l) c, .int .i64 z], kb := kb0 }
noncomputable def bdToR (l : List UInt8) (c : Bool) (s : ByteArray) : Bd := { f := Tryz.f34, args := [.ros 1 l.length (bl l) c, .str s], base := 1, kb := { db := dbF [(35, ubC (l ++ putZ s.size))] }, k := kSb 4 63 (l ++ textB s), names := fun _ => [.o 63] }
noncomputable def bdEaR (l : List UInt8) (e : SEnv) : Bd := { f := Tryz.f10, args := [roB l, .agg e.c], base := 1, kb := { db := dbF [(35, ubC (l ++ putZ e.src)), (34, fun a _ lo => cNew (l ++ (putI e.src ++ textB e.body)) a lo)] }, k := kSb 4 63 (l ++ envI e), names := fun _ => [.o 63] }
noncomputable def bdEnR (l : List UInt8) (e : SEnv) : Bd := { f := Tryz.f10, args := [roB l, .agg e.c], base := 1, kb := { db := dbF [(35, cVal (.ros 1 l.length (bl l) true)), (34, ubC (l ++ (putI e.src ++ textB e.body)))] }, k := kSb 4 63 (l ++ envI e), names := fun _ => [.o 63] }
noncomputable def bdRoR (n : Nat) (l : List UInt8) : Bd := { f := Tryz.f37, args := [roB l, .int .i64 n], base := 1, kb := { db := dbF [(81, ubC (digs 8 n))] }, names := fun _ => [.o 63], k := kSb 4 63 (l ++ putN n) }
noncomputable def bdRnR (z : Int) (l : List UInt8) : Bd := { f := Tryz.f37, args := [roB l, .int .i64 z], base := 1, kb := kb0, names := fun _ => [.o 63], k := kSb 4 63 l }
def E2S (l : List UInt8) (e : SEnv) (k : Nat) : St := ⟨mkT 25 [(0, sb (.o 1) (l ++ segB (e.tag.take k))), (3, .ptr (.o 2) 0 0 0 0), (5, .int .i64 (k : Nat))], [(.o 1, bs (l ++ segB (e.tag.take k))), (.o 2, .flat e.c)], 3, []⟩
def lpE2 (l : List UInt8) (e : SEnv) : Nat → St → List (Prop × Hint) := fun _ t => match getV t.tmps 0 with
 | .sl a _ _ _ _ _ _ => match getV t.tmps 3 with
  | .ptr b _ _ _ _ => [(True, .loop 17 (wToS [(.o 1, a), (.o 2, b)] (E2S l e 0)) (.exit 0) (E2S l e 16))]
  | _ => []
 | _ => []
noncomputable def bdE2 (l0 : List UInt8) (e : SEnv) : Bd := { f := Tryz.f11, args := [roB l0, .agg e.c], base := 1, kb := { db := dbF [(37, ubC (l0 ++ putI e.src)), (36, fun a _ lo => cNew (l0 ++ putI e.src ++ textB e.body) a lo)], lp := lpE2 (l0 ++ putI e.src ++ textB e.body) e }, k := kSb 4 63 (l0 ++ envI e), names := fun _ => [.o 63] }
noncomputable def pcE2 (l : List UInt8) (e : SEnv) (k : Nat) : Pc := { c := cB (cB (cR (cL (cR (cR (bodyOf Tryz.f11)))))), st := E2S l e k, p := 1, kb := kb0, k := fun x t => match x with
 | .normal => match getV t.tmps 0 with
  | .sl a _ _ _ _ _ _ => some (wToS [(.o 1, a)] (E2S l e (k + 1)))
  | _ => none
 | _ => some (wTo (E2S l e k)) }
def G2S (x : SEnv) (xs : List UInt8) (w : List Int) (j : Nat) : St := ⟨mkT 38 [(2, .ptr (.o 0) 0 0 0 0), (5, .ptr (.o 1) 0 0 0 0), (6, .ros 1 16 (bl xs) false), (8, .int .i64 (j : Nat))], [(.o 0, .flat envZ.c), (.o 1, .flat [.int .i64 x.src, .str x.body, (.seg .u8 16 w)])], 2, []⟩
def lpG2 (x : SEnv) (xs : List UInt8) (w : List Int) : Nat → St → List (Prop × Hint) := fun _ t => match getV t.tmps 5 with
 | .ptr b _ _ _ _ => [(True, .loop 17 (wToS [(.o 1, b)] (G2S x xs z16 0)) (.exit 0) (G2S x xs w 16))]
 | _ => []
noncomputable def bdG2 (L : List UInt8) (s : ByteArray) (s1 s2 s3 : RS) (x : SEnv) (r : V) (xs : List UInt8) (d : Int) (w : List Int) : Bd := { f := Tryz.f9, args := [.str s], kb := { db := dbF [(29, fun _ _ lo => [{ val := .ptr (.o lo) 0 0 0 0, post := [(.o lo, rxB L { l := L })] }]), (30, cX (.int .i64 x.src) (rxB L s1)), (31, cX (.str x.body) (rxB L s2)), (32, cX r (rxB L s3)), (33, cX (.int .i64 d) (rxB L s3))], lp := lpG2 x xs w } }
noncomputable def bdG2O (L : List UInt8) (s : ByteArray) (s1 s2 s3 : RS) (x : SEnv) (xs : List UInt8) (w : List Int) : Bd := bdG2 L s s1 s2 s3 x (.ros 1 16 (bl xs) false) xs 0 w
noncomputable def bdG2F (L : List UInt8) (s : ByteArray) (s1 s2 s3 : RS) (x : SEnv) (xs : List UInt8) (d : Int) : Bd := bdG2 L s s1 s2 s3 x (roB xs) xs d []
noncomputable def pcG2 (x : SEnv) (xs : List UInt8) (w : List Int) (j : Nat) (w' : List Int) : Pc := { c := cB (cB (cR (cL (cR (cR (cR (cR (cR (cR (cR (cR (bodyOf Tryz.f9)))))))))))), st := G2S x xs w j, p := 0, kb := kb0, k := fun e _ => match e with
 | .normal => some (wTo (G2S x xs w' (j + 1)))
 | _ => some (wTo (G2S x xs w j)) }
noncomputable def bdEr (l : List UInt8) (e : SEnv) (s : ByteArray) (x : SEnv) (d : Int) (r : List UInt8) : Bd := { f := Tryz.f3, args := [roB l, .agg e.c, .str s], kb := { db := dbF [(7, cVal (.bool true)), (8, cVal (.tup [.agg x.c, .int .i64 d])), (9, cVal (.tup [.agg x.c, .int .i64 d])), (10, ubC r), (11, ubC r)] } }
end Go.Proofs.YtnmccoincblecaaGreat
