/-
  Any envelope has the bytes that the document says, any bytes are the envelope that it says: EnvelopeReads is true of every input.
-/
import Derived.Test.YtnmccoincblecaaGreatRows
import Derived.WalkKit
import Derived.ProofKit
import Derived.OpenShut
import Derived.Test.YtnmccoincblecaaGreatC04
import Derived.Test.YtnmccoincblecaaGreatC12
set_option linter.unusedVariables false
set_option linter.unusedSimpArgs false
set_option maxHeartbeats 1000000
namespace Go.Proofs.YtnmccoincblecaaGreat.envelopeReads
open Go Sy Go.Proofs Go.ChangeShapes Go.WideShapes Go.ChangeAt Go.RowKit
theorem ownKnobs : ownKnob Tryz.prog.godebug = none := by kernel_rfl
theorem walk {H : Type} (enc : TypeId × Value → H) (W : World) (base : Nat) (args : Array Value) (ds gs : List (DataW H)) (before : List MemPlace)
  (hval : ∀ (j : Nat) t v, Tryz.f3.params[j]? = some t → args[j]? = some v → Value.okWide Tryz.prog W .any base t v)
  (hW : DataW.Whole enc Tryz.prog Tryz.f3.params.toList Rows.envelopeReadsSpec.vars false W args.toList ds gs before) :
  Calls Tryz.prog 3 args W fun e W' => ∃ v, e = .returned v ∧ Rows.envelopeReadsSpec.post enc Tryz.prog Tryz.f3 false true false false W args v W' := by
 have hW' := hW
 obtain ⟨p, q, hA, hV, rfl, hfz, hnd⟩ := hW
 rw [Tryz.params3] at hA hval
 obtain ⟨v0, vs0, d0, ds0, p0, q0, hargs, rfl, rfl, ⟨fuel0, h00⟩, r0⟩ := trodAll_cons hA
 obtain ⟨v1, vs1, d1, ds1, p1, q1, rfl, rfl, rfl, ⟨fuel1, h01⟩, r1⟩ := trodAll_cons r0
 obtain ⟨v2, vs2, d2, ds2, p2, q2, rfl, rfl, rfl, ⟨fuel2, h02⟩, r2⟩ := trodAll_cons r1
 obtain ⟨rfl, rfl, rfl⟩ := trodAll_nil r2
 obtain ⟨rfl, rfl⟩ := trodVars_none hV
 obtain rfl : args = #[v0, v1, v2] := by cases args; simp_all
 obtain ⟨w0, h10, h20⟩ := trod_open fuel0 22 _ _ h00 12 (by kernel_rfl)
 obtain ⟨m0, le0, fa0⟩ := sg_byts (Uof W) h20
 have h50 := le0 _ h10
 have h70 : VRel (Uof W) Env.none (roB m0) v0 := VRel_one rfl (args_one (j := 0) (t := 22) @hval (by simp) (by simp) (by kernel_rfl)) h50
 obtain ⟨cs1, hag1⟩ := args_struct (j := 1) (t := 26) (v := v1) @hval (by simp) (by simp) Tryz.underlying26
 subst hag1
 obtain ⟨w1, h11, h21⟩ := trod_open fuel1 26 _ _ h01 12 (by kernel_rfl)
 obtain ⟨m1, eq1, fa1, fb1⟩ := sg_env h21
 subst eq1
 have h51 := h11
 have h71 : VRel (Uof W) Env.none (.agg m1.c) (.agg cs1) := VRel_agg h51
 obtain ⟨w2, h12, h22⟩ := trod_open fuel2 9 _ _ h02 12 (by kernel_rfl)
 obtain ⟨m2, eq2, fa2⟩ := sh_str h22 Tryz.underlying9
 subst eq2
 have h52 := h12
 have h72 : VRel (Uof W) Env.none (.str m2) v2 := VRel_one rfl (args_one (j := 2) (t := 9) @hval (by simp) (by simp) (by kernel_rfl)) h52
 have hv : VsRel (Uof W) Env.none [roB m0, .agg m1.c, .str m2] (#[v0, .agg cs1, v2] : Array Value).toList := (by rw [VsRel]; exact ⟨_, _, rfl, h70, (by rw [VsRel]; exact ⟨_, _, rfl, h71, (by rw [VsRel]; exact ⟨_, _, rfl, h72, by rw [VsRel]⟩)⟩)⟩)
 exact law_walk (T_er fa1 fb1) hv fun W' hK => ⟨_, rfl, law_post (tb := 4) hW' rfl rfl rfl Tryz.underlying4 (by kernel_rfl) hK⟩
set_option maxRecDepth 100000 in
theorem lifted (os : Os) (started : os.Started) (H : Type) (enc : TypeId × Value → H) :
  ReturnsInHanded {} Tryz.checked os 3 .any (Rows.envelopeReadsSpec.pre6 enc Tryz.prog Tryz.f3 Rows.envelopeReadsRow.domain false) (Rows.envelopeReadsSpec.post enc Tryz.prog Tryz.f3 false true false false) := by
 refine returnsInHanded_of_change (C := Tryz.checked) ownKnobs started (by kernel_rfl) Tryz.func3
  (ChangeSpec.witness6 (enc := enc) (C := Tryz.checked) false ⟨#[], #[.slice none 0 0, .agg (Array.replicate 1 (.int .i64 0) ++ #[.string ByteArray.empty] ++ Array.replicate 16 (.int .u8 0)), .string ByteArray.empty], []⟩ 8 (by kernel_rfl) (by kernel_rfl) (by kernel_rfl) (by kernel_rfl)) ?_
 intro W base args ds gs before hval hW hcnd _
 exact walk enc W base args ds gs before hval hW
theorem over : Rows.envelopeReadsRow.holds Tryz.pinned (OpenSpec.ofChange Rows.envelopeReadsSpec) :=
 OpenClaim.holds_of_wide 3 Tryz.f3 rfl rfl rfl rfl rfl rfl rfl ⟨rfl, rfl, rfl, rfl, rfl⟩ rfl rfl rfl rfl rfl (by kernel_rfl) Tryz.func3 (by kernel_rfl)
  (of_decide_eq_true (by kernel_rfl)) (by unfold Func.isWrapper; first | (rw [if_pos (by decide +kernel)]; kernel_rfl) | (rw [if_neg (by decide +kernel)]; exact ⟨rfl, rfl⟩))
  (fun os started H enc _ => lifted os started H enc)
theorem proved : Rows.EnvelopeReadsSaid := over
#print axioms proved
end Go.Proofs.YtnmccoincblecaaGreat.envelopeReads
