/-
  If signs take more than half of the nodes, there are some of one digest of an epoch at most (own work of this seat).
-/
import Derived.Test.YtpallipnhmoipaaRows
import Derived.WalkKit
import Derived.ProofKit
import Derived.OpenShut
import Derived.Test.YtpallipnhmoipaaC04
import Derived.Test.YtpallipnhmoipaaC08
set_option linter.unusedVariables false
set_option linter.unusedSimpArgs false
set_option maxHeartbeats 1000000
namespace Go.Proofs.Ytpallipnhmoipaa.marksOne
open Go Sy Go.Proofs Go.ChangeShapes Go.WideShapes Go.ChangeAt Go.RowKit
theorem ownKnobs : ownKnob Try.prog.godebug = none := by kernel_rfl
theorem walk {H : Type} (enc : TypeId × Value → H) (W : World) (base : Nat) (args : Array Value) (ds gs : List (DataW H)) (before : List MemPlace)
  (hval : ∀ (j : Nat) t v, Try.f7.params[j]? = some t → args[j]? = some v → Value.okWide Try.prog W .any base t v)
  (hW : DataW.Whole enc Try.prog Try.f7.params.toList Rows.marksOneSpec.vars false W args.toList ds gs before) :
  Calls Try.prog 7 args W fun e W' => ∃ v, e = .returned v ∧ Rows.marksOneSpec.post enc Try.prog Try.f7 false true false false W args v W' := by
 have hW' := hW
 obtain ⟨p, q, hA, hV, rfl, hfz, hnd⟩ := hW
 rw [Try.params7] at hA hval
 obtain ⟨v0, vs0, d0, ds0, p0, q0, hargs, rfl, rfl, ⟨fuel0, h00⟩, r0⟩ := trodAll_cons hA
 obtain ⟨v1, vs1, d1, ds1, p1, q1, rfl, rfl, rfl, ⟨fuel1, h01⟩, r1⟩ := trodAll_cons r0
 obtain ⟨v2, vs2, d2, ds2, p2, q2, rfl, rfl, rfl, ⟨fuel2, h02⟩, r2⟩ := trodAll_cons r1
 obtain ⟨rfl, rfl, rfl⟩ := trodAll_nil r2
 obtain ⟨rfl, rfl⟩ := trodVars_none hV
 obtain rfl : args = #[v0, v1, v2] := by cases args; simp_all
 obtain ⟨w0, h10, h20⟩ := trod_open fuel0 3 _ _ h00 12 (by kernel_rfl)
 obtain ⟨m0, eq0, fa0⟩ := sh_int h20 Try.underlying3
 subst eq0
 have h50 := h10
 have h70 : VRel (Uof W) Env.none (.int .i64 m0) v0 := VRel_one rfl (args_one (j := 0) (t := 3) @hval (by simp) (by simp) (by kernel_rfl)) h50
 obtain ⟨w1, h11, h21⟩ := trod_open fuel1 42 _ _ h01 12 (by kernel_rfl)
 obtain ⟨k1, m1, le1, fa1⟩ := sg_acts (Uof W) h21
 have h51 := le1 _ h11
 have h71 : VRel (Uof W) Env.none (ac k1 m1) v1 := VRel_one rfl (args_one (j := 1) (t := 42) @hval (by simp) (by simp) (by kernel_rfl)) h51
 obtain ⟨w2, h12, h22⟩ := trod_open fuel2 3 _ _ h02 12 (by kernel_rfl)
 obtain ⟨m2, eq2, fa2⟩ := sh_int h22 Try.underlying3
 subst eq2
 have h52 := h12
 have h72 : VRel (Uof W) Env.none (.int .i64 m2) v2 := VRel_one rfl (args_one (j := 2) (t := 3) @hval (by simp) (by simp) (by kernel_rfl)) h52
 have hv : VsRel (Uof W) Env.none [.int .i64 m0, ac k1 m1, .int .i64 m2] (#[v0, v1, v2] : Array Value).toList := (by rw [VsRel]; exact ⟨_, _, rfl, h70, (by rw [VsRel]; exact ⟨_, _, rfl, h71, (by rw [VsRel]; exact ⟨_, _, rfl, h72, by rw [VsRel]⟩)⟩)⟩)
 exact law_walk (T_mo1 m0 k1 m1 m2) hv fun W' hK => ⟨_, rfl, law_post (tb := 4) hW' rfl rfl rfl Try.underlying4 (by kernel_rfl) hK⟩
set_option maxRecDepth 100000 in
theorem lifted (os : Os) (started : os.Started) (H : Type) (enc : TypeId × Value → H) :
  ReturnsInHanded {} Try.checked os 7 .any (Rows.marksOneSpec.pre6 enc Try.prog Try.f7 Rows.marksOneRow.domain false) (Rows.marksOneSpec.post enc Try.prog Try.f7 false true false false) := by
 refine returnsInHanded_of_change (C := Try.checked) ownKnobs started (by kernel_rfl) Try.func7
  (ChangeSpec.witness6 (enc := enc) (C := Try.checked) false ⟨#[], #[.int .i64 0, .slice none 0 0, .int .i64 0], []⟩ 8 (by kernel_rfl) (by kernel_rfl) (by kernel_rfl) (by kernel_rfl)) ?_
 intro W base args ds gs before hval hW hcnd _
 exact walk enc W base args ds gs before hval hW
theorem over : Rows.marksOneRow.holds Try.pinned (OpenSpec.ofChange Rows.marksOneSpec) :=
 OpenClaim.holds_of_wide 7 Try.f7 rfl rfl rfl rfl rfl rfl rfl ⟨rfl, rfl, rfl, rfl, rfl⟩ rfl rfl rfl rfl rfl (by kernel_rfl) Try.func7 (by kernel_rfl)
  (of_decide_eq_true (by kernel_rfl)) (by unfold Func.isWrapper; first | (rw [if_pos (by decide +kernel)]; kernel_rfl) | (rw [if_neg (by decide +kernel)]; exact ⟨rfl, rfl⟩))
  (fun os started H enc _ => lifted os started H enc)
theorem proved : Rows.MarksOneSaid := over
#print axioms proved
end Go.Proofs.Ytpallipnhmoipaa.marksOne
