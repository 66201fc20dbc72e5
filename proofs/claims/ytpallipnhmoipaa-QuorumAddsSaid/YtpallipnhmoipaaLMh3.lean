/-
  QuorumAdds: one more signer is put where the document says; the list stays as it was; for all signs.
-/
import Derived.Test.YtpallipnhmoipaaRows
import Derived.WalkKit
import Derived.ProofKit
import Derived.OpenShut
import Derived.Test.YtpallipnhmoipaaC04
import Derived.Test.YtpallipnhmoipaaC06
set_option linter.unusedVariables false
set_option linter.unusedSimpArgs false
set_option maxHeartbeats 1000000
namespace Go.Proofs.Ytpallipnhmoipaa.quorumAdds
open Go Sy Go.Proofs Go.ChangeShapes Go.WideShapes Go.ChangeAt Go.RowKit
theorem ownKnobs : ownKnob Try.prog.godebug = none := by kernel_rfl
theorem walk {H : Type} (enc : TypeId × Value → H) (W : World) (base : Nat) (args : Array Value) (ds gs : List (DataW H)) (before : List MemPlace)
  (hval : ∀ (j : Nat) t v, Try.f6.params[j]? = some t → args[j]? = some v → Value.okWide Try.prog W .any base t v)
  (hW : DataW.Whole enc Try.prog Try.f6.params.toList Rows.quorumAddsSpec.vars false W args.toList ds gs before) :
  Calls Try.prog 6 args W fun e W' => ∃ v, e = .returned v ∧ Rows.quorumAddsSpec.post enc Try.prog Try.f6 false true false false W args v W' := by
 have hW' := hW
 obtain ⟨p, q, hA, hV, rfl, hfz, hnd⟩ := hW
 rw [Try.params6] at hA hval
 obtain ⟨v0, vs0, d0, ds0, p0, q0, hargs, rfl, rfl, ⟨fuel0, h00⟩, r0⟩ := trodAll_cons hA
 obtain ⟨v1, vs1, d1, ds1, p1, q1, rfl, rfl, rfl, ⟨fuel1, h01⟩, r1⟩ := trodAll_cons r0
 obtain ⟨rfl, rfl, rfl⟩ := trodAll_nil r1
 obtain ⟨rfl, rfl⟩ := trodVars_none hV
 obtain rfl : args = #[v0, v1] := by cases args; simp_all
 obtain ⟨w0, h10, h20⟩ := trod_open fuel0 33 _ _ h00 12 (by kernel_rfl)
 obtain ⟨k0, m0, le0, fa0, fb0⟩ := sg_signs (Uof W) h20
 have h50 := le0 _ h10
 have h70 : VRel (Uof W) Env.none (sg k0 m0) v0 := VRel_one rfl (args_one (j := 0) (t := 33) @hval (by simp) (by simp) (by kernel_rfl)) h50
 obtain ⟨cs1, hag1⟩ := args_struct (j := 1) (t := 37) (v := v1) @hval (by simp) (by simp) Try.underlying37
 subst hag1
 obtain ⟨w1, h11, h21⟩ := trod_open fuel1 37 _ _ h01 12 (by kernel_rfl)
 obtain ⟨m1, eq1, fa1⟩ := sg_sign h21
 subst eq1
 have h51 := h11
 have h71 : VRel (Uof W) Env.none (.agg m1.c) (.agg cs1) := VRel_agg h51
 have hv : VsRel (Uof W) Env.none [sg k0 m0, .agg m1.c] (#[v0, .agg cs1] : Array Value).toList := (by rw [VsRel]; exact ⟨_, _, rfl, h70, (by rw [VsRel]; exact ⟨_, _, rfl, h71, by rw [VsRel]⟩)⟩)
 exact law_walk (T_qa m0 m1 fa0) hv fun W' hK => ⟨_, rfl, law_post (tb := 4) hW' rfl rfl rfl Try.underlying4 (by kernel_rfl) hK⟩
set_option maxRecDepth 100000 in
theorem lifted (os : Os) (started : os.Started) (H : Type) (enc : TypeId × Value → H) :
  ReturnsInHanded {} Try.checked os 6 .any (Rows.quorumAddsSpec.pre6 enc Try.prog Try.f6 Rows.quorumAddsRow.domain false) (Rows.quorumAddsSpec.post enc Try.prog Try.f6 false true false false) := by
 refine returnsInHanded_of_change (C := Try.checked) ownKnobs started (by kernel_rfl) Try.func6
  (ChangeSpec.witness6 (enc := enc) (C := Try.checked) false ⟨#[], #[.slice none 0 0, .agg (Array.replicate 1 (.int .i64 0) ++ Array.replicate 16 (.int .u8 0))], []⟩ 8 (by kernel_rfl) (by kernel_rfl) (by kernel_rfl) (by kernel_rfl)) ?_
 intro W base args ds gs before hval hW hcnd _
 exact walk enc W base args ds gs before hval hW
theorem over : Rows.quorumAddsRow.holds Try.pinned (OpenSpec.ofChange Rows.quorumAddsSpec) :=
 OpenClaim.holds_of_wide 6 Try.f6 rfl rfl rfl rfl rfl rfl rfl ⟨rfl, rfl, rfl, rfl, rfl⟩ rfl rfl rfl rfl rfl (by kernel_rfl) Try.func6 (by kernel_rfl)
  (of_decide_eq_true (by kernel_rfl)) (by unfold Func.isWrapper; first | (rw [if_pos (by decide +kernel)]; kernel_rfl) | (rw [if_neg (by decide +kernel)]; exact ⟨rfl, rfl⟩))
  (fun os started H enc _ => lifted os started H enc)
theorem proved : Rows.QuorumAddsSaid := over
#print axioms proved
end Go.Proofs.Ytpallipnhmoipaa.quorumAdds
