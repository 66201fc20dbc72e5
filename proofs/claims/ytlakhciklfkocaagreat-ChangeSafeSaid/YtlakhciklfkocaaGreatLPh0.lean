/-
  ChangeSafe: if a quorum held a batch for a slot in a view, it is chosen out of any quorum's changes, of which few say what they like of views below (own work of this seat).
-/
import Derived.Test.YtlakhciklfkocaaGreatRows
import Derived.WalkKit
import Derived.ProofKit
import Derived.OpenShut
import Derived.Test.YtlakhciklfkocaaGreatC04
import Derived.Test.YtlakhciklfkocaaGreatC09
set_option linter.unusedVariables false
set_option linter.unusedSimpArgs false
set_option maxHeartbeats 1000000
namespace Go.Proofs.YtlakhciklfkocaaGreat.changeSafe
open Go Sy Go.Proofs Go.ChangeShapes Go.WideShapes Go.ChangeAt Go.RowKit
theorem ownKnobs : ownKnob Tryz.prog.godebug = none := by kernel_rfl
theorem walk {H : Type} (enc : TypeId × Value → H) (W : World) (base : Nat) (args : Array Value) (ds gs : List (DataW H)) (before : List MemPlace)
  (hval : ∀ (j : Nat) t v, Tryz.f3.params[j]? = some t → args[j]? = some v → Value.okWide Tryz.prog W .any base t v)
  (hW : DataW.Whole enc Tryz.prog Tryz.f3.params.toList Rows.changeSafeSpec.vars false W args.toList ds gs before) :
  Calls Tryz.prog 3 args W fun e W' => ∃ v, e = .returned v ∧ Rows.changeSafeSpec.post enc Tryz.prog Tryz.f3 false true false false W args v W' := by
 have hW' := hW
 obtain ⟨p, q, hA, hV, rfl, hfz, hnd⟩ := hW
 rw [Tryz.params3] at hA hval
 obtain ⟨v0, vs0, d0, ds0, p0, q0, hargs, rfl, rfl, ⟨fuel0, h00⟩, r0⟩ := trodAll_cons hA
 obtain ⟨v1, vs1, d1, ds1, p1, q1, rfl, rfl, rfl, ⟨fuel1, h01⟩, r1⟩ := trodAll_cons r0
 obtain ⟨v2, vs2, d2, ds2, p2, q2, rfl, rfl, rfl, ⟨fuel2, h02⟩, r2⟩ := trodAll_cons r1
 obtain ⟨v3, vs3, d3, ds3, p3, q3, rfl, rfl, rfl, ⟨fuel3, h03⟩, r3⟩ := trodAll_cons r2
 obtain ⟨v4, vs4, d4, ds4, p4, q4, rfl, rfl, rfl, ⟨fuel4, h04⟩, r4⟩ := trodAll_cons r3
 obtain ⟨v5, vs5, d5, ds5, p5, q5, rfl, rfl, rfl, ⟨fuel5, h05⟩, r5⟩ := trodAll_cons r4
 obtain ⟨v6, vs6, d6, ds6, p6, q6, rfl, rfl, rfl, ⟨fuel6, h06⟩, r6⟩ := trodAll_cons r5
 obtain ⟨v7, vs7, d7, ds7, p7, q7, rfl, rfl, rfl, ⟨fuel7, h07⟩, r7⟩ := trodAll_cons r6
 obtain ⟨rfl, rfl, rfl⟩ := trodAll_nil r7
 obtain ⟨rfl, rfl⟩ := trodVars_none hV
 obtain rfl : args = #[v0, v1, v2, v3, v4, v5, v6, v7] := by cases args; simp_all
 obtain ⟨cs0, hag0⟩ := args_struct (j := 0) (t := 26) (v := v0) @hval (by simp) (by simp) Tryz.underlying26
 subst hag0
 obtain ⟨w0, h10, h20⟩ := trod_open fuel0 26 _ _ h00 12 (by kernel_rfl)
 obtain ⟨m0, le0, fa0⟩ := sg_epoch (Uof W) h20
 have h50 := le0 _ h10
 have h70 : VRel (Uof W) Env.none (.agg m0.c) (.agg cs0) := VRel_agg h50
 obtain ⟨w1, h11, h21⟩ := trod_open fuel1 3 _ _ h01 12 (by kernel_rfl)
 obtain ⟨m1, eq1, fa1⟩ := sh_int h21 Tryz.underlying3
 subst eq1
 have h51 := h11
 have h71 : VRel (Uof W) Env.none (.int .i64 m1) v1 := VRel_one rfl (args_one (j := 1) (t := 3) @hval (by simp) (by simp) (by kernel_rfl)) h51
 obtain ⟨w2, h12, h22⟩ := trod_open fuel2 3 _ _ h02 12 (by kernel_rfl)
 obtain ⟨m2, eq2, fa2⟩ := sh_int h22 Tryz.underlying3
 subst eq2
 have h52 := h12
 have h72 : VRel (Uof W) Env.none (.int .i64 m2) v2 := VRel_one rfl (args_one (j := 2) (t := 3) @hval (by simp) (by simp) (by kernel_rfl)) h52
 obtain ⟨w3, h13, h23⟩ := trod_open fuel3 3 _ _ h03 12 (by kernel_rfl)
 obtain ⟨m3, eq3, fa3⟩ := sh_int h23 Tryz.underlying3
 subst eq3
 have h53 := h13
 have h73 : VRel (Uof W) Env.none (.int .i64 m3) v3 := VRel_one rfl (args_one (j := 3) (t := 3) @hval (by simp) (by simp) (by kernel_rfl)) h53
 obtain ⟨cs4, hag4⟩ := args_struct (j := 4) (t := 29) (v := v4) @hval (by simp) (by simp) Tryz.underlying29
 subst hag4
 obtain ⟨w4, h14, h24⟩ := trod_open fuel4 29 _ _ h04 12 (by kernel_rfl)
 obtain ⟨m4, le4, fa4, fb4⟩ := sg_batch (Uof W) h24
 have h54 := le4 _ h14
 have h74 : VRel (Uof W) Env.none (.agg m4.c) (.agg cs4) := VRel_agg h54
 obtain ⟨w5, h15, h25⟩ := trod_open fuel5 24 _ _ h05 12 (by kernel_rfl)
 obtain ⟨m5, le5, fa5⟩ := sg_ints (Uof W) h25
 have h55 := le5 _ h15
 have h75 : VRel (Uof W) Env.none (lr m5) v5 := VRel_one rfl (args_one (j := 5) (t := 24) @hval (by simp) (by simp) (by kernel_rfl)) h55
 obtain ⟨w6, h16, h26⟩ := trod_open fuel6 24 _ _ h06 12 (by kernel_rfl)
 obtain ⟨m6, le6, fa6⟩ := sg_ints (Uof W) h26
 have h56 := le6 _ h16
 have h76 : VRel (Uof W) Env.none (lr m6) v6 := VRel_one rfl (args_one (j := 6) (t := 24) @hval (by simp) (by simp) (by kernel_rfl)) h56
 obtain ⟨w7, h17, h27⟩ := trod_open fuel7 30 _ _ h07 12 (by kernel_rfl)
 obtain ⟨k7, m7, le7, fa7⟩ := sg_helds (Uof W) h27
 have h57 := le7 _ h17
 have h77 : VRel (Uof W) Env.none (hl k7 m7) v7 := VRel_one rfl (args_one (j := 7) (t := 30) @hval (by simp) (by simp) (by kernel_rfl)) h57
 have hv : VsRel (Uof W) Env.none [.agg m0.c, .int .i64 m1, .int .i64 m2, .int .i64 m3, .agg m4.c, lr m5, lr m6, hl k7 m7] (#[.agg cs0, v1, v2, v3, .agg cs4, v5, v6, v7] : Array Value).toList := (by rw [VsRel]; exact ⟨_, _, rfl, h70, (by rw [VsRel]; exact ⟨_, _, rfl, h71, (by rw [VsRel]; exact ⟨_, _, rfl, h72, (by rw [VsRel]; exact ⟨_, _, rfl, h73, (by rw [VsRel]; exact ⟨_, _, rfl, h74, (by rw [VsRel]; exact ⟨_, _, rfl, h75, (by rw [VsRel]; exact ⟨_, _, rfl, h76, (by rw [VsRel]; exact ⟨_, _, rfl, h77, by rw [VsRel]⟩)⟩)⟩)⟩)⟩)⟩)⟩)⟩)
 exact law_walk (T_cs m0 m1 m2 m3 m4 m5 m6 k7 m7 fa4 fb4) hv fun W' hK => ⟨_, rfl, law_post (tb := 4) hW' rfl rfl rfl Tryz.underlying4 (by kernel_rfl) hK⟩
set_option maxRecDepth 100000 in
theorem lifted (os : Os) (started : os.Started) (H : Type) (enc : TypeId × Value → H) :
  ReturnsInHanded {} Tryz.checked os 3 .any (Rows.changeSafeSpec.pre6 enc Tryz.prog Tryz.f3 Rows.changeSafeRow.domain false) (Rows.changeSafeSpec.post enc Tryz.prog Tryz.f3 false true false false) := by
 refine returnsInHanded_of_change (C := Tryz.checked) ownKnobs started (by kernel_rfl) Tryz.func3
  (ChangeSpec.witness6 (enc := enc) (C := Tryz.checked) false ⟨#[], #[.agg (Array.replicate 12 (.int .i64 0) ++ #[.slice none 0 0]), .int .i64 0, .int .i64 0, .int .i64 0, .agg #[.bool false, .slice none 0 0], .slice none 0 0, .slice none 0 0, .slice none 0 0], []⟩ 8 (by kernel_rfl) (by kernel_rfl) (by kernel_rfl) (by kernel_rfl)) ?_
 intro W base args ds gs before hval hW hcnd _
 exact walk enc W base args ds gs before hval hW
theorem over : Rows.changeSafeRow.holds Tryz.pinned (OpenSpec.ofChange Rows.changeSafeSpec) :=
 OpenClaim.holds_of_wide 3 Tryz.f3 rfl rfl rfl rfl rfl rfl rfl ⟨rfl, rfl, rfl, rfl, rfl⟩ rfl rfl rfl rfl rfl (by kernel_rfl) Tryz.func3 (by kernel_rfl)
  (of_decide_eq_true (by kernel_rfl)) (by unfold Func.isWrapper; first | (rw [if_pos (by decide +kernel)]; kernel_rfl) | (rw [if_neg (by decide +kernel)]; exact ⟨rfl, rfl⟩))
  (fun os started H enc _ => lifted os started H enc)
theorem proved : Rows.ChangeSafeSaid := over
#print axioms proved
end Go.Proofs.YtlakhciklfkocaaGreat.changeSafe
