/-
  An envelope that is not too great is read as it was put; with more bytes behind it is none: EnvelopeBack is true of every input.
-/
import Derived.Test.YtnmccoincblecaaGreatRows
import Derived.WalkKit
import Derived.ProofKit
import Derived.OpenShut
import Derived.Test.YtnmccoincblecaaGreatC04
import Derived.Test.YtnmccoincblecaaGreatC11
set_option linter.unusedVariables false
set_option linter.unusedSimpArgs false
set_option maxHeartbeats 1000000
namespace Go.Proofs.YtnmccoincblecaaGreat.envelopeBack
open Go Sy Go.Proofs Go.ChangeShapes Go.WideShapes Go.ChangeAt Go.RowKit
theorem ownKnobs : ownKnob Tryz.prog.godebug = none := by kernel_rfl
theorem walk {H : Type} (enc : TypeId × Value → H) (W : World) (base : Nat) (args : Array Value) (ds gs : List (DataW H)) (before : List MemPlace)
  (hval : ∀ (j : Nat) t v, Tryz.f4.params[j]? = some t → args[j]? = some v → Value.okWide Tryz.prog W .any base t v)
  (hW : DataW.Whole enc Tryz.prog Tryz.f4.params.toList Rows.envelopeBackSpec.vars false W args.toList ds gs before) :
  Calls Tryz.prog 4 args W fun e W' => ∃ v, e = .returned v ∧ Rows.envelopeBackSpec.post enc Tryz.prog Tryz.f4 false true false false W args v W' := by
 have hW' := hW
 obtain ⟨p, q, hA, hV, rfl, hfz, hnd⟩ := hW
 rw [Tryz.params4] at hA hval
 obtain ⟨v0, vs0, d0, ds0, p0, q0, hargs, rfl, rfl, ⟨fuel0, h00⟩, r0⟩ := trodAll_cons hA
 obtain ⟨v1, vs1, d1, ds1, p1, q1, rfl, rfl, rfl, ⟨fuel1, h01⟩, r1⟩ := trodAll_cons r0
 obtain ⟨rfl, rfl, rfl⟩ := trodAll_nil r1
 obtain ⟨rfl, rfl⟩ := trodVars_none hV
 obtain rfl : args = #[v0, v1] := by cases args; simp_all
 obtain ⟨cs0, hag0⟩ := args_struct (j := 0) (t := 26) (v := v0) @hval (by simp) (by simp) Tryz.underlying26
 subst hag0
 obtain ⟨w0, h10, h20⟩ := trod_open fuel0 26 _ _ h00 12 (by kernel_rfl)
 obtain ⟨m0, eq0, fa0, fb0⟩ := sg_env h20
 subst eq0
 have h50 := h10
 have h70 : VRel (Uof W) Env.none (.agg m0.c) (.agg cs0) := VRel_agg h50
 obtain ⟨w1, h11, h21⟩ := trod_open fuel1 9 _ _ h01 12 (by kernel_rfl)
 obtain ⟨m1, eq1, fa1⟩ := sh_str h21 Tryz.underlying9
 subst eq1
 have h51 := h11
 have h71 : VRel (Uof W) Env.none (.str m1) v1 := VRel_one rfl (args_one (j := 1) (t := 9) @hval (by simp) (by simp) (by kernel_rfl)) h51
 have hv : VsRel (Uof W) Env.none [.agg m0.c, .str m1] (#[.agg cs0, v1] : Array Value).toList := (by rw [VsRel]; exact ⟨_, _, rfl, h70, (by rw [VsRel]; exact ⟨_, _, rfl, h71, by rw [VsRel]⟩)⟩)
 exact law_walk (T_eb fb0) hv fun W' hK => ⟨_, rfl, law_post (tb := 4) hW' rfl rfl rfl Tryz.underlying4 (by kernel_rfl) hK⟩
set_option maxRecDepth 100000 in
theorem lifted (os : Os) (started : os.Started) (H : Type) (enc : TypeId × Value → H) :
  ReturnsInHanded {} Tryz.checked os 4 .any (Rows.envelopeBackSpec.pre6 enc Tryz.prog Tryz.f4 Rows.envelopeBackRow.domain false) (Rows.envelopeBackSpec.post enc Tryz.prog Tryz.f4 false true false false) := by
 refine returnsInHanded_of_change (C := Tryz.checked) ownKnobs started (by kernel_rfl) Tryz.func4
  (ChangeSpec.witness6 (enc := enc) (C := Tryz.checked) false ⟨#[], #[.agg (Array.replicate 1 (.int .i64 0) ++ #[.string ByteArray.empty] ++ Array.replicate 16 (.int .u8 0)), .string ByteArray.empty], []⟩ 8 (by kernel_rfl) (by kernel_rfl) (by kernel_rfl) (by kernel_rfl)) ?_
 intro W base args ds gs before hval hW hcnd _
 exact walk enc W base args ds gs before hval hW
theorem over : Rows.envelopeBackRow.holds Tryz.pinned (OpenSpec.ofChange Rows.envelopeBackSpec) :=
 OpenClaim.holds_of_wide 4 Tryz.f4 rfl rfl rfl rfl rfl rfl rfl ⟨rfl, rfl, rfl, rfl, rfl⟩ rfl rfl rfl rfl rfl (by kernel_rfl) Tryz.func4 (by kernel_rfl)
  (of_decide_eq_true (by kernel_rfl)) (by unfold Func.isWrapper; first | (rw [if_pos (by decide +kernel)]; kernel_rfl) | (rw [if_neg (by decide +kernel)]; exact ⟨rfl, rfl⟩))
  (fun os started H enc _ => lifted os started H enc)
theorem proved : Rows.EnvelopeBackSaid := over
#print axioms proved
end Go.Proofs.YtnmccoincblecaaGreat.envelopeBack
