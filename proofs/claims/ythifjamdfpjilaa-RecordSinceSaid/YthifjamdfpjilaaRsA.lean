/-
  Of any records those from the last state on are told; they stay as they were.
-/
import Derived.Test.YthifjamdfpjilaaRs9
import Derived.Test.YthifjamdfpjilaaRsLives
import Derived.Test.YthifjamdfpjilaaRows
import Derived.WalkKit
import Derived.ProofKit
import Derived.OpenShut
namespace Go.Proofs.Ythifjamdfpjilaa.recordSince
open Go Sy Go.Proofs Go.ChangeShapes Go.WideShapes Go.ChangeAt Go.RowKit
theorem ownKnobs : ownKnob Try.prog.godebug = none := by kernel_rfl

theorem walk {H : Type} (enc : TypeId × Value → H) (W : World) (base : Nat) (args : Array Value) (ds gs : List (DataW H)) (before : List MemPlace)
    (hval : ∀ (j : Nat) t v, Try.f10.params[j]? = some t → args[j]? = some v → Value.okWide Try.prog W .any base t v)
    (hW : DataW.Whole enc Try.prog Try.f10.params.toList Rows.recordSinceSpec.vars false W args.toList ds gs before) :
    Calls Try.prog 10 args W fun e W' => ∃ v, e = .returned v ∧ Rows.recordSinceSpec.post enc Try.prog Try.f10 false true false false W args v W' := by
  have hW' := hW
  obtain ⟨p, q, hA, hV, rfl, hfz, hnd⟩ := hW
  rw [Try.params10] at hA hval
  obtain ⟨v0, vs0, d0, ds0, p0, q0, hargs, rfl, rfl, ⟨fuel, h0⟩, r0⟩ := trodAll_cons hA
  obtain ⟨rfl, rfl, rfl⟩ := trodAll_nil r0
  obtain ⟨rfl, rfl⟩ := trodVars_none hV
  obtain ⟨vs, h1, h2⟩ := trod_open fuel 73 _ _ h0 12 (by kernel_rfl)
  obtain ⟨n, r, h3, h4⟩ := sh_recs (Uof W) h2
  have h5 := h3 _ h1
  obtain rfl : args = #[v0] := by cases args; simp_all
  have h7 : VRel (Uof W) Env.none (rc n r) v0 := VRel_one rfl (args_one (j := 0) (t := 73) @hval (by simp) (by simp) (by kernel_rfl)) h5
  have hv : VsRel (Uof W) Env.none [rc n r] (#[v0] : Array Value).toList := by
    rw [VsRel]; exact ⟨v0, [], rfl, h7, by rw [VsRel]⟩
  exact law_walk (T_recordSince c50 r h4) hv fun W' hK => ⟨_, rfl, law_post (tb := 4) hW' rfl rfl rfl Try.underlying4 (by kernel_rfl) hK⟩

set_option maxRecDepth 100000 in
theorem lifted (os : Os) (started : os.Started) (H : Type) (enc : TypeId × Value → H) :
    ReturnsInHanded {} Try.checked os 10 .any (Rows.recordSinceSpec.pre6 enc Try.prog Try.f10 Rows.recordSinceRow.domain false) (Rows.recordSinceSpec.post enc Try.prog Try.f10 false true false false) := by
  refine returnsInHanded_of_change (C := Try.checked) ownKnobs started (by kernel_rfl) Try.func10
    (ChangeSpec.witness6 (enc := enc) (C := Try.checked) false ⟨#[], #[.slice none 0 0], []⟩ 8 (by kernel_rfl) (by kernel_rfl) (by kernel_rfl) (by kernel_rfl)) ?_
  intro W base args ds gs before hval hW hcnd _
  exact walk enc W base args ds gs before hval hW

theorem over : Rows.recordSinceRow.holds Try.pinned (OpenSpec.ofChange Rows.recordSinceSpec) :=
  OpenClaim.holds_of_wide 10 Try.f10 rfl rfl rfl rfl rfl rfl rfl ⟨rfl, rfl, rfl, rfl, rfl⟩ rfl rfl rfl rfl rfl (by kernel_rfl) Try.func10 (by kernel_rfl)
    (of_decide_eq_true (by kernel_rfl)) (by unfold Func.isWrapper; first | (rw [if_pos (by decide +kernel)]; kernel_rfl) | (rw [if_neg (by decide +kernel)]; exact ⟨rfl, rfl⟩))
    (fun os started H enc _ => lifted os started H enc)

theorem proved : Rows.RecordSinceSaid := over
end Go.Proofs.Ythifjamdfpjilaa.recordSince
