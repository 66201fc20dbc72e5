/-
  The law LeadersOne holds (own work of this seat).
-/
import Derived.Test.YthifjamdfpjilaaRows
import Derived.WalkKit
import Derived.ProofKit
import Derived.OpenShut
import Derived.Test.YthifjamdfpjilaaC04
import Derived.Test.YthifjamdfpjilaaC09
import Derived.Test.YthifjamdfpjilaaC10
set_option linter.unusedVariables false
set_option linter.unusedSimpArgs false
set_option maxHeartbeats 1000000
namespace Go.Proofs.Ythifjamdfpjilaa.leadersOne
open Go Sy Go.Proofs Go.ChangeShapes Go.WideShapes Go.ChangeAt Go.RowKit
theorem ownKnobs : ownKnob Try.prog.godebug = none := by kernel_rfl
theorem walk {H : Type} (enc : TypeId × Value → H) (W : World) (base : Nat) (args : Array Value) (ds gs : List (DataW H)) (before : List MemPlace)
  (hval : ∀ (j : Nat) t v, Try.f3.params[j]? = some t → args[j]? = some v → Value.okWide Try.prog W .any base t v)
  (hW : DataW.Whole enc Try.prog Try.f3.params.toList Rows.leadersOneSpec.vars false W args.toList ds gs before) :
  Calls Try.prog 3 args W fun e W' => ∃ v, e = .returned v ∧ Rows.leadersOneSpec.post enc Try.prog Try.f3 false true false false W args v W' := by
 have hW' := hW
 obtain ⟨p, q, hA, hV, rfl, hfz, hnd⟩ := hW
 rw [Try.params3] at hA hval
 obtain ⟨v0, vs0, d0, ds0, p0, q0, hargs, rfl, rfl, ⟨fuel0, h00⟩, r0⟩ := trodAll_cons hA
 obtain ⟨v1, vs1, d1, ds1, p1, q1, rfl, rfl, rfl, ⟨fuel1, h01⟩, r1⟩ := trodAll_cons r0
 obtain ⟨v2, vs2, d2, ds2, p2, q2, rfl, rfl, rfl, ⟨fuel2, h02⟩, r2⟩ := trodAll_cons r1
 obtain ⟨rfl, rfl, rfl⟩ := trodAll_nil r2
 obtain ⟨rfl, rfl⟩ := trodVars_none hV
 obtain rfl : args = #[v0, v1, v2] := by cases args; simp_all
 obtain ⟨cs0, hag0⟩ := args_struct (j := 0) (t := 23) (v := v0) @hval (by simp) (by simp) Try.underlying23
 subst hag0
 obtain ⟨w0, h10, h20⟩ := trod_open fuel0 23 _ _ h00 12 (by kernel_rfl)
 obtain ⟨m0, eq0, fa0⟩ := sg_config h20
 subst eq0
 have h50 := h10
 have h70 : VRel (Uof W) Env.none (.agg m0.c) (.agg cs0) := VRel_agg h50
 obtain ⟨w1, h11, h21⟩ := trod_open fuel1 3 _ _ h01 12 (by kernel_rfl)
 obtain ⟨m1, eq1, fa1⟩ := sh_int h21 Try.underlying3
 subst eq1
 have h51 := h11
 have h71 : VRel (Uof W) Env.none (.int .i64 m1) v1 := VRel_one rfl (args_one (j := 1) (t := 3) @hval (by simp) (by simp) (by kernel_rfl)) h51
 obtain ⟨w2, h12, h22⟩ := trod_open fuel2 24 _ _ h02 12 (by kernel_rfl)
 obtain ⟨m2, le2, fa2⟩ := sg_ints (Uof W) h22
 have h52 := le2 _ h12
 have h72 : VRel (Uof W) Env.none (lr m2) v2 := VRel_one rfl (args_one (j := 2) (t := 24) @hval (by simp) (by simp) (by kernel_rfl)) h52
 have hv : VsRel (Uof W) Env.none [.agg m0.c, .int .i64 m1, lr m2] (#[.agg cs0, v1, v2] : Array Value).toList := (by rw [VsRel]; exact ⟨_, _, rfl, h70, (by rw [VsRel]; exact ⟨_, _, rfl, h71, (by rw [VsRel]; exact ⟨_, _, rfl, h72, by rw [VsRel]⟩)⟩)⟩)
 exact law_walk (T_o1 m0 m1 m2) hv fun W' hK => ⟨_, rfl, law_post (tb := 4) hW' rfl rfl rfl Try.underlying4 (by kernel_rfl) hK⟩
set_option maxRecDepth 100000 in
theorem lifted (os : Os) (started : os.Started) (H : Type) (enc : TypeId × Value → H) :
  ReturnsInHanded {} Try.checked os 3 .any (Rows.leadersOneSpec.pre6 enc Try.prog Try.f3 Rows.leadersOneRow.domain false) (Rows.leadersOneSpec.post enc Try.prog Try.f3 false true false false) := by
 refine returnsInHanded_of_change (C := Try.checked) ownKnobs started (by kernel_rfl) Try.func3
  (ChangeSpec.witness6 (enc := enc) (C := Try.checked) false ⟨#[], #[.agg (Array.replicate 10 (.int .i64 0)), .int .i64 0, .slice none 0 0], []⟩ 8 (by kernel_rfl) (by kernel_rfl) (by kernel_rfl) (by kernel_rfl)) ?_
 intro W base args ds gs before hval hW hcnd _
 exact walk enc W base args ds gs before hval hW
theorem over : Rows.leadersOneRow.holds Try.pinned (OpenSpec.ofChange Rows.leadersOneSpec) :=
 OpenClaim.holds_of_wide 3 Try.f3 rfl rfl rfl rfl rfl rfl rfl ⟨rfl, rfl, rfl, rfl, rfl⟩ rfl rfl rfl rfl rfl (by kernel_rfl) Try.func3 (by kernel_rfl)
  (of_decide_eq_true (by kernel_rfl)) (by unfold Func.isWrapper; first | (rw [if_pos (by decide +kernel)]; kernel_rfl) | (rw [if_neg (by decide +kernel)]; exact ⟨rfl, rfl⟩))
  (fun os started H enc _ => lifted os started H enc)
theorem proved : Rows.LeadersOneSaid := over
#print axioms proved
end Go.Proofs.Ythifjamdfpjilaa.leadersOne
