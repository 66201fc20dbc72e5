/-
  Signs that were gathered one by one are taken just if there are enough unlike nodes.
-/
import Derived.Test.YtpallipnhmoipaaRows
import Derived.WalkKit
import Derived.ProofKit
import Derived.OpenShut
import Derived.Test.YtpallipnhmoipaaC04
import Derived.Test.YtpallipnhmoipaaC09
set_option linter.unusedVariables false
set_option linter.unusedSimpArgs false
set_option maxHeartbeats 1000000
namespace Go.Proofs.Ytpallipnhmoipaa.quorumGathers
open Go Sy Go.Proofs Go.ChangeShapes Go.WideShapes Go.ChangeAt Go.RowKit
theorem ownKnobs : ownKnob Try.prog.godebug = none := by kernel_rfl
theorem walk {H : Type} (enc : TypeId × Value → H) (W : World) (base : Nat) (args : Array Value) (ds gs : List (DataW H)) (before : List MemPlace)
  (hval : ∀ (j : Nat) t v, Try.f11.params[j]? = some t → args[j]? = some v → Value.okWide Try.prog W .any base t v)
  (hW : DataW.Whole enc Try.prog Try.f11.params.toList Rows.quorumGathersSpec.vars false W args.toList ds gs before) :
  Calls Try.prog 11 args W fun e W' => ∃ v, e = .returned v ∧ Rows.quorumGathersSpec.post enc Try.prog Try.f11 false true false false W args v W' := by
 have hW' := hW
 obtain ⟨p, q, hA, hV, rfl, hfz, hnd⟩ := hW
 rw [Try.params11] at hA hval
 obtain ⟨v0, vs0, d0, ds0, p0, q0, hargs, rfl, rfl, ⟨fuel0, h00⟩, r0⟩ := trodAll_cons hA
 obtain ⟨v1, vs1, d1, ds1, p1, q1, rfl, rfl, rfl, ⟨fuel1, h01⟩, r1⟩ := trodAll_cons r0
 obtain ⟨v2, vs2, d2, ds2, p2, q2, rfl, rfl, rfl, ⟨fuel2, h02⟩, r2⟩ := trodAll_cons r1
 obtain ⟨v3, vs3, d3, ds3, p3, q3, rfl, rfl, rfl, ⟨fuel3, h03⟩, r3⟩ := trodAll_cons r2
 obtain ⟨rfl, rfl, rfl⟩ := trodAll_nil r3
 obtain ⟨rfl, rfl⟩ := trodVars_none hV
 obtain rfl : args = #[v0, v1, v2, v3] := by cases args; simp_all
 obtain ⟨w0, h10, h20⟩ := trod_open fuel0 3 _ _ h00 12 (by kernel_rfl)
 obtain ⟨m0, eq0, fa0⟩ := sh_int h20 Try.underlying3
 subst eq0
 have h50 := h10
 have h70 : VRel (Uof W) Env.none (.int .i64 m0) v0 := VRel_one rfl (args_one (j := 0) (t := 3) @hval (by simp) (by simp) (by kernel_rfl)) h50
 obtain ⟨w1, h11, h21⟩ := trod_open fuel1 9 _ _ h01 12 (by kernel_rfl)
 obtain ⟨m1, eq1, fa1⟩ := sh_str h21 Try.underlying9
 subst eq1
 have h51 := h11
 have h71 : VRel (Uof W) Env.none (.str m1) v1 := VRel_one rfl (args_one (j := 1) (t := 9) @hval (by simp) (by simp) (by kernel_rfl)) h51
 obtain ⟨w2, h12, h22⟩ := trod_open fuel2 25 _ _ h02 12 (by kernel_rfl)
 obtain ⟨m2, le2, fa2⟩ := sg_ints (Uof W) h22
 have h52 := le2 _ h12
 have h72 : VRel (Uof W) Env.none (lr m2) v2 := VRel_one rfl (args_one (j := 2) (t := 25) @hval (by simp) (by simp) (by kernel_rfl)) h52
 obtain ⟨w3, h13, h23⟩ := trod_open fuel3 3 _ _ h03 12 (by kernel_rfl)
 obtain ⟨m3, eq3, fa3⟩ := sh_int h23 Try.underlying3
 subst eq3
 have h53 := h13
 have h73 : VRel (Uof W) Env.none (.int .i64 m3) v3 := VRel_one rfl (args_one (j := 3) (t := 3) @hval (by simp) (by simp) (by kernel_rfl)) h53
 have hv : VsRel (Uof W) Env.none [.int .i64 m0, .str m1, lr m2, .int .i64 m3] (#[v0, v1, v2, v3] : Array Value).toList := (by rw [VsRel]; exact ⟨_, _, rfl, h70, (by rw [VsRel]; exact ⟨_, _, rfl, h71, (by rw [VsRel]; exact ⟨_, _, rfl, h72, (by rw [VsRel]; exact ⟨_, _, rfl, h73, by rw [VsRel]⟩)⟩)⟩)⟩)
 exact law_walk (T_ga m0 m1 m2 m3) hv fun W' hK => ⟨_, rfl, law_post (tb := 4) hW' rfl rfl rfl Try.underlying4 (by kernel_rfl) hK⟩
set_option maxRecDepth 100000 in
theorem lifted (os : Os) (started : os.Started) (H : Type) (enc : TypeId × Value → H) :
  ReturnsInHanded {} Try.checked os 11 .any (Rows.quorumGathersSpec.pre6 enc Try.prog Try.f11 Rows.quorumGathersRow.domain false) (Rows.quorumGathersSpec.post enc Try.prog Try.f11 false true false false) := by
 refine returnsInHanded_of_change (C := Try.checked) ownKnobs started (by kernel_rfl) Try.func11
  (ChangeSpec.witness6 (enc := enc) (C := Try.checked) false ⟨#[], #[.int .i64 0, .string ByteArray.empty, .slice none 0 0, .int .i64 0], []⟩ 8 (by kernel_rfl) (by kernel_rfl) (by kernel_rfl) (by kernel_rfl)) ?_
 intro W base args ds gs before hval hW hcnd _
 exact walk enc W base args ds gs before hval hW
theorem over : Rows.quorumGathersRow.holds Try.pinned (OpenSpec.ofChange Rows.quorumGathersSpec) :=
 OpenClaim.holds_of_wide 11 Try.f11 rfl rfl rfl rfl rfl rfl rfl ⟨rfl, rfl, rfl, rfl, rfl⟩ rfl rfl rfl rfl rfl (by kernel_rfl) Try.func11 (by kernel_rfl)
  (of_decide_eq_true (by kernel_rfl)) (by unfold Func.isWrapper; first | (rw [if_pos (by decide +kernel)]; kernel_rfl) | (rw [if_neg (by decide +kernel)]; exact ⟨rfl, rfl⟩))
  (fun os started H enc _ => lifted os started H enc)
theorem proved : Rows.QuorumGathersSaid := over
#print axioms proved
end Go.Proofs.Ytpallipnhmoipaa.quorumGathers
