/-
  A record that may be comes back from its bytes, and what is decoded, encoded, is the same bytes: for every record and every bytes the law answers true.
-/
import Derived.Test.YthifjamdfpjilaaRows
import Derived.WalkKit
import Derived.ProofKit
import Derived.OpenShut
import Derived.Test.YthifjamdfpjilaaC12
set_option linter.unusedVariables false
set_option linter.unusedSimpArgs false
namespace Go.Proofs.Ythifjamdfpjilaa.recordBack
open Go Sy Go.Proofs Go.ChangeShapes Go.WideShapes Go.ChangeAt Go.RowKit
theorem ownKnobs : ownKnob Try.prog.godebug = none := by kernel_rfl
theorem walk {H : Type} (enc : TypeId × Value → H) (W : World) (base : Nat) (args : Array Value) (ds gs : List (DataW H)) (before : List MemPlace)
  (hval : ∀ (j : Nat) t v, Try.f9.params[j]? = some t → args[j]? = some v → Value.okWide Try.prog W .any base t v)
  (hW : DataW.Whole enc Try.prog Try.f9.params.toList Rows.recordBackSpec.vars false W args.toList ds gs before) :
  Calls Try.prog 9 args W fun e W' => ∃ v, e = .returned v ∧ Rows.recordBackSpec.post enc Try.prog Try.f9 false true false false W args v W' := by
 have hW' := hW
 obtain ⟨p, q, hA, hV, rfl, hfz, hnd⟩ := hW
 rw [Try.params9] at hA hval
 obtain ⟨v0, vs0, d0, ds0, p0, q0, hargs, rfl, rfl, ⟨fuel0, h00⟩, r0⟩ := trodAll_cons hA
 obtain ⟨v1, vs1, d1, ds1, p1, q1, rfl, rfl, rfl, ⟨fuel1, h01⟩, r1⟩ := trodAll_cons r0
 obtain ⟨rfl, rfl, rfl⟩ := trodAll_nil r1
 obtain ⟨rfl, rfl⟩ := trodVars_none hV
 obtain rfl : args = #[v0, v1] := by cases args; simp_all
 obtain ⟨cs0, hag0⟩ := args_struct (j := 0) (t := 64) (v := v0) @hval (by simp) (by simp) Try.underlying64
 subst hag0
 obtain ⟨w0, h10, h20⟩ := trod_open fuel0 64 _ _ h00 12 (by kernel_rfl)
 obtain ⟨m0, le0, fa0, fb0⟩ := sg_rec (Uof W) h20
 have h50 := le0 _ h10
 have h70 : VRel (Uof W) Env.none (.agg m0.c) (.agg cs0) := VRel_agg h50
 obtain ⟨w1, h11, h21⟩ := trod_open fuel1 65 _ _ h01 12 (by kernel_rfl)
 obtain ⟨m1, le1, fa1⟩ := sg_byts (Uof W) h21
 have h51 := le1 _ h11
 have h71 : VRel (Uof W) Env.none (roB m1) v1 := VRel_one rfl (args_one (j := 1) (t := 65) @hval (by simp) (by simp) (by kernel_rfl)) h51
 have hv : VsRel (Uof W) Env.none [.agg m0.c, roB m1] (#[.agg cs0, v1] : Array Value).toList := (by rw [VsRel]; exact ⟨_, _, rfl, h70, (by rw [VsRel]; exact ⟨_, _, rfl, h71, by rw [VsRel]⟩)⟩)
 exact law_walk (T_recBack fa0 fb0 fa1) hv fun W' hK => ⟨_, rfl, law_post (tb := 4) hW' rfl rfl rfl Try.underlying4 (by kernel_rfl) hK⟩
set_option maxRecDepth 100000 in
theorem lifted (os : Os) (started : os.Started) (H : Type) (enc : TypeId × Value → H) :
  ReturnsInHanded {} Try.checked os 9 .any (Rows.recordBackSpec.pre6 enc Try.prog Try.f9 Rows.recordBackRow.domain false) (Rows.recordBackSpec.post enc Try.prog Try.f9 false true false false) := by
 refine returnsInHanded_of_change (C := Try.checked) ownKnobs started (by kernel_rfl) Try.func9
  (ChangeSpec.witness6 (enc := enc) (C := Try.checked) false ⟨#[], #[.agg (Array.replicate 4 (.int .i64 0) ++ #[.bool false, .slice none 0 0] ++ ((Array.replicate 4 (.int .i64 0) ++ Array.replicate 32 (.int .u8 0)) ++ #[.slice none 0 0]) ++ #[.string ByteArray.empty, .slice none 0 0]), .slice none 0 0], []⟩ 8 (by kernel_rfl) (by kernel_rfl) (by kernel_rfl) (by kernel_rfl)) ?_
 intro W base args ds gs before hval hW hcnd _
 exact walk enc W base args ds gs before hval hW
theorem over : Rows.recordBackRow.holds Try.pinned (OpenSpec.ofChange Rows.recordBackSpec) :=
 OpenClaim.holds_of_wide 9 Try.f9 rfl rfl rfl rfl rfl rfl rfl ⟨rfl, rfl, rfl, rfl, rfl⟩ rfl rfl rfl rfl rfl (by kernel_rfl) Try.func9 (by kernel_rfl)
  (of_decide_eq_true (by kernel_rfl)) (by unfold Func.isWrapper; first | (rw [if_pos (by decide +kernel)]; kernel_rfl) | (rw [if_neg (by decide +kernel)]; exact ⟨rfl, rfl⟩))
  (fun os started H enc _ => lifted os started H enc)
theorem proved : Rows.RecordBackSaid := over
#print axioms proved
end Go.Proofs.Ythifjamdfpjilaa.recordBack
