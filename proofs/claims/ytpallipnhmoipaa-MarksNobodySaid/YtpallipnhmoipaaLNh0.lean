/-
  Marks that no call made take nothing (own work of this seat).
-/
import Derived.Test.YtpallipnhmoipaaRows
import Derived.WalkKit
import Derived.ProofKit
import Derived.OpenShut
import Derived.Test.YtpallipnhmoipaaC04
import Derived.Test.YtpallipnhmoipaaC07
set_option linter.unusedVariables false
set_option linter.unusedSimpArgs false
set_option maxHeartbeats 1000000
namespace Go.Proofs.Ytpallipnhmoipaa.marksNobody
open Go Sy Go.Proofs Go.ChangeShapes Go.WideShapes Go.ChangeAt Go.RowKit
theorem ownKnobs : ownKnob Try.prog.godebug = none := by kernel_rfl
theorem walk {H : Type} (enc : TypeId × Value → H) (W : World) (base : Nat) (args : Array Value) (ds gs : List (DataW H)) (before : List MemPlace)
  (hval : ∀ (j : Nat) t v, Try.f9.params[j]? = some t → args[j]? = some v → Value.okWide Try.prog W .any base t v)
  (hW : DataW.Whole enc Try.prog Try.f9.params.toList Rows.marksNobodySpec.vars false W args.toList ds gs before) :
  Calls Try.prog 9 args W fun e W' => ∃ v, e = .returned v ∧ Rows.marksNobodySpec.post enc Try.prog Try.f9 false true false false W args v W' := by
 have hW' := hW
 obtain ⟨p, q, hA, hV, rfl, hfz, hnd⟩ := hW
 rw [Try.params9] at hA hval
 obtain ⟨v0, vs0, d0, ds0, p0, q0, hargs, rfl, rfl, ⟨fuel0, h00⟩, r0⟩ := trodAll_cons hA
 obtain ⟨rfl, rfl, rfl⟩ := trodAll_nil r0
 obtain ⟨rfl, rfl⟩ := trodVars_none hV
 obtain rfl : args = #[v0] := by cases args; simp_all
 obtain ⟨cs0, hag0⟩ := args_struct (j := 0) (t := 48) (v := v0) @hval (by simp) (by simp) Try.underlying48
 subst hag0
 obtain ⟨w0, h10, h20⟩ := trod_open fuel0 48 _ _ h00 12 (by kernel_rfl)
 obtain ⟨m0, eq0, fa0⟩ := sg_act h20
 subst eq0
 have h50 := h10
 have h70 : VRel (Uof W) Env.none (.agg m0.c) (.agg cs0) := VRel_agg h50
 have hv : VsRel (Uof W) Env.none [.agg m0.c] (#[.agg cs0] : Array Value).toList := (by rw [VsRel]; exact ⟨_, _, rfl, h70, by rw [VsRel]⟩)
 exact law_walk (T_nb m0) hv fun W' hK => ⟨_, rfl, law_post (tb := 4) hW' rfl rfl rfl Try.underlying4 (by kernel_rfl) hK⟩
set_option maxRecDepth 100000 in
theorem lifted (os : Os) (started : os.Started) (H : Type) (enc : TypeId × Value → H) :
  ReturnsInHanded {} Try.checked os 9 .any (Rows.marksNobodySpec.pre6 enc Try.prog Try.f9 Rows.marksNobodyRow.domain false) (Rows.marksNobodySpec.post enc Try.prog Try.f9 false true false false) := by
 refine returnsInHanded_of_change (C := Try.checked) ownKnobs started (by kernel_rfl) Try.func9
  (ChangeSpec.witness6 (enc := enc) (C := Try.checked) false ⟨#[], #[.agg (Array.replicate 2 (.int .i64 0) ++ Array.replicate 32 (.int .u8 0) ++ Array.replicate 16 (.int .u8 0))], []⟩ 8 (by kernel_rfl) (by kernel_rfl) (by kernel_rfl) (by kernel_rfl)) ?_
 intro W base args ds gs before hval hW hcnd _
 exact walk enc W base args ds gs before hval hW
theorem over : Rows.marksNobodyRow.holds Try.pinned (OpenSpec.ofChange Rows.marksNobodySpec) :=
 OpenClaim.holds_of_wide 9 Try.f9 rfl rfl rfl rfl rfl rfl rfl ⟨rfl, rfl, rfl, rfl, rfl⟩ rfl rfl rfl rfl rfl (by kernel_rfl) Try.func9 (by kernel_rfl)
  (of_decide_eq_true (by kernel_rfl)) (by unfold Func.isWrapper; first | (rw [if_pos (by decide +kernel)]; kernel_rfl) | (rw [if_neg (by decide +kernel)]; exact ⟨rfl, rfl⟩))
  (fun os started H enc _ => lifted os started H enc)
theorem proved : Rows.MarksNobodySaid := over
#print axioms proved
end Go.Proofs.Ytpallipnhmoipaa.marksNobody
