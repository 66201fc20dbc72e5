/-
  Any body is sealed by anybody as the document says, and any envelope opened as it says: EnvelopeSeals is true of every input.
-/
import Derived.Test.YtnmccoincblecaaGreatRows
import Derived.WalkKit
import Derived.ProofKit
import Derived.OpenShut
import Derived.Test.YtnmccoincblecaaGreatC04
import Derived.Test.YtnmccoincblecaaGreatC11
set_option linter.unusedVariables false
set_option linter.unusedSimpArgs false
set_option maxHeartbeats 1000000
namespace Go.Proofs.YtnmccoincblecaaGreat.envelopeSeals
open Go Sy Go.Proofs Go.ChangeShapes Go.WideShapes Go.ChangeAt Go.RowKit
theorem ownKnobs : ownKnob Tryz.prog.godebug = none := by kernel_rfl
theorem walk {H : Type} (enc : TypeId × Value → H) (W : World) (base : Nat) (args : Array Value) (ds gs : List (DataW H)) (before : List MemPlace)
  (hval : ∀ (j : Nat) t v, Tryz.f5.params[j]? = some t → args[j]? = some v → Value.okWide Tryz.prog W .any base t v)
  (hW : DataW.Whole enc Tryz.prog Tryz.f5.params.toList Rows.envelopeSealsSpec.vars false W args.toList ds gs before) :
  Calls Tryz.prog 5 args W fun e W' => ∃ v, e = .returned v ∧ Rows.envelopeSealsSpec.post enc Tryz.prog Tryz.f5 false true false false W args v W' := by
 have hW' := hW
 obtain ⟨p, q, hA, hV, rfl, hfz, hnd⟩ := hW
 rw [Tryz.params5] at hA hval
 obtain ⟨v0, vs0, d0, ds0, p0, q0, hargs, rfl, rfl, ⟨fuel0, h00⟩, r0⟩ := trodAll_cons hA
 obtain ⟨v1, vs1, d1, ds1, p1, q1, rfl, rfl, rfl, ⟨fuel1, h01⟩, r1⟩ := trodAll_cons r0
 obtain ⟨v2, vs2, d2, ds2, p2, q2, rfl, rfl, rfl, ⟨fuel2, h02⟩, r2⟩ := trodAll_cons r1
 obtain ⟨v3, vs3, d3, ds3, p3, q3, rfl, rfl, rfl, ⟨fuel3, h03⟩, r3⟩ := trodAll_cons r2
 obtain ⟨rfl, rfl, rfl⟩ := trodAll_nil r3
 obtain ⟨rfl, rfl⟩ := trodVars_none hV
 obtain rfl : args = #[v0, v1, v2, v3] := by cases args; simp_all
 obtain ⟨w0, h10, h20⟩ := N6 fuel0 3 _ _ h00 12 (by kernel_rfl)
 obtain ⟨m0, eq0, fa0⟩ := aH0 h20 Tryz.underlying3
 subst eq0
 have h50 := h10
 have h70 : c9 (Uof W) Env.none (.int .i64 m0) v0 := aj9 rfl (ak1 (j := 0) (t := 3) @hval (by simp) (by simp) (by kernel_rfl)) h50
 obtain ⟨w1, h11, h21⟩ := N6 fuel1 3 _ _ h01 12 (by kernel_rfl)
 obtain ⟨m1, eq1, fa1⟩ := aH0 h21 Tryz.underlying3
 subst eq1
 have h51 := h11
 have h71 : c9 (Uof W) Env.none (.int .i64 m1) v1 := aj9 rfl (ak1 (j := 1) (t := 3) @hval (by simp) (by simp) (by kernel_rfl)) h51
 obtain ⟨w2, h12, h22⟩ := N6 fuel2 9 _ _ h02 12 (by kernel_rfl)
 obtain ⟨m2, eq2, fa2⟩ := be6 h22 Tryz.underlying9
 subst eq2
 have h52 := h12
 have h72 : c9 (Uof W) Env.none (.str m2) v2 := aj9 rfl (ak1 (j := 2) (t := 9) @hval (by simp) (by simp) (by kernel_rfl)) h52
 obtain ⟨cs3, hag3⟩ := aH6 (j := 3) (t := 26) (v := v3) @hval (by simp) (by simp) Tryz.underlying26
 subst hag3
 obtain ⟨w3, h13, h23⟩ := N6 fuel3 26 _ _ h03 12 (by kernel_rfl)
 obtain ⟨m3, eq3, fa3, fb3⟩ := b8_ h23
 subst eq3
 have h53 := h13
 have h73 : c9 (Uof W) Env.none (.agg m3.c) (.agg cs3) := bg2 h53
 have hv : i8 (Uof W) Env.none [.int .i64 m0, .int .i64 m1, .str m2, .agg m3.c] (#[v0, v1, v2, .agg cs3] : Array Value).toList := (by rw [i8]; exact ⟨_, _, rfl, h70, (by rw [i8]; exact ⟨_, _, rfl, h71, (by rw [i8]; exact ⟨_, _, rfl, h72, (by rw [i8]; exact ⟨_, _, rfl, h73, by rw [i8]⟩)⟩)⟩)⟩)
 exact bo2 (T_sl (by have := (InR64.1 fa0).2; omega) fa3) hv fun W' hK => ⟨_, rfl, bo1 (tb := 4) hW' rfl rfl rfl Tryz.underlying4 (by kernel_rfl) hK⟩
set_option maxRecDepth 100000 in
theorem lifted (os : Os) (started : os.Started) (H : Type) (enc : TypeId × Value → H) :
  ReturnsInHanded {} Tryz.checked os 5 .any (Rows.envelopeSealsSpec.pre6 enc Tryz.prog Tryz.f5 Rows.envelopeSealsRow.domain false) (Rows.envelopeSealsSpec.post enc Tryz.prog Tryz.f5 false true false false) := by
 refine returnsInHanded_of_change (C := Tryz.checked) ownKnobs started (by kernel_rfl) Tryz.func5
  (ChangeSpec.witness6 (enc := enc) (C := Tryz.checked) false ⟨#[], #[.int .i64 0, .int .i64 0, .string ByteArray.empty, .agg (Array.replicate 1 (.int .i64 0) ++ #[.string ByteArray.empty] ++ Array.replicate 16 (.int .u8 0))], []⟩ 8 (by kernel_rfl) (by kernel_rfl) (by kernel_rfl) (by kernel_rfl)) ?_
 intro W base args ds gs before hval hW hcnd _
 exact walk enc W base args ds gs before hval hW
theorem over : Rows.envelopeSealsRow.holds Tryz.pinned (OpenSpec.ofChange Rows.envelopeSealsSpec) :=
 OpenClaim.holds_of_wide 5 Tryz.f5 rfl rfl rfl rfl rfl rfl rfl ⟨rfl, rfl, rfl, rfl, rfl⟩ rfl rfl rfl rfl rfl (by kernel_rfl) Tryz.func5 (by kernel_rfl)
  (of_decide_eq_true (by kernel_rfl)) (by unfold Func.isWrapper; first | (rw [if_pos (by decide +kernel)]; kernel_rfl) | (rw [if_neg (by decide +kernel)]; exact ⟨rfl, rfl⟩))
  (fun os started H enc _ => lifted os started H enc)
theorem proved : Rows.EnvelopeSealsSaid := over
#print axioms proved
end Go.Proofs.YtnmccoincblecaaGreat.envelopeSeals
