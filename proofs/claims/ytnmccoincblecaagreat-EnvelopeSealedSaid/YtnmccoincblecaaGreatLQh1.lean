/-
  What was sealed is opened as the message that it was; with another sender, or another body, it is refused as long as the tags are unlike: EnvelopeSealed is true of every input.
-/
import Derived.Test.YtnmccoincblecaaGreatRows
import Derived.WalkKit
import Derived.ProofKit
import Derived.OpenShut
import Derived.Test.YtnmccoincblecaaGreatC04
import Derived.Test.YtnmccoincblecaaGreatC13
set_option linter.unusedVariables false
set_option linter.unusedSimpArgs false
set_option maxHeartbeats 1000000
namespace Go.Proofs.YtnmccoincblecaaGreat.envelopeSealed
open Go Sy Go.Proofs Go.ChangeShapes Go.WideShapes Go.ChangeAt Go.RowKit
theorem ownKnobs : ownKnob Tryz.prog.godebug = none := by kernel_rfl
theorem walk {H : Type} (enc : TypeId × Value → H) (W : World) (base : Nat) (args : Array Value) (ds gs : List (DataW H)) (before : List MemPlace)
  (hval : ∀ (j : Nat) t v, Tryz.f6.params[j]? = some t → args[j]? = some v → Value.okWide Tryz.prog W .any base t v)
  (hW : DataW.Whole enc Tryz.prog Tryz.f6.params.toList Rows.envelopeSealedSpec.vars false W args.toList ds gs before) :
  Calls Tryz.prog 6 args W fun e W' => ∃ v, e = .returned v ∧ Rows.envelopeSealedSpec.post enc Tryz.prog Tryz.f6 false true false false W args v W' := by
 have hW' := hW
 obtain ⟨p, q, hA, hV, rfl, hfz, hnd⟩ := hW
 rw [Tryz.params6] at hA hval
 obtain ⟨v0, vs0, d0, ds0, p0, q0, hargs, rfl, rfl, ⟨fuel0, h00⟩, r0⟩ := trodAll_cons hA
 obtain ⟨v1, vs1, d1, ds1, p1, q1, rfl, rfl, rfl, ⟨fuel1, h01⟩, r1⟩ := trodAll_cons r0
 obtain ⟨v2, vs2, d2, ds2, p2, q2, rfl, rfl, rfl, ⟨fuel2, h02⟩, r2⟩ := trodAll_cons r1
 obtain ⟨v3, vs3, d3, ds3, p3, q3, rfl, rfl, rfl, ⟨fuel3, h03⟩, r3⟩ := trodAll_cons r2
 obtain ⟨rfl, rfl, rfl⟩ := trodAll_nil r3
 obtain ⟨rfl, rfl⟩ := trodVars_none hV
 obtain rfl : args = #[v0, v1, v2, v3] := by cases args; simp_all
 obtain ⟨cs0, hag0⟩ := aV6 (j := 0) (t := 58) (v := v0) @hval (by simp) (by simp) Tryz.underlying58
 subst hag0
 obtain ⟨w0, h10, h20⟩ := U6 fuel0 58 _ _ h00 12 (by kernel_rfl)
 obtain ⟨m0, le0, fa0, fb0⟩ := cp0 (Uof W) h20
 have h50 := le0 _ h10
 have h70 : e9 (Uof W) Env.none (.agg m0.c) (.agg cs0) := bw5 h50
 obtain ⟨w1, h11, h21⟩ := U6 fuel1 3 _ _ h01 12 (by kernel_rfl)
 obtain ⟨m1, eq1, fa1⟩ := F0 h21 Tryz.underlying3
 subst eq1
 have h51 := h11
 have h71 : e9 (Uof W) Env.none (.int .i64 m1) v1 := au1 rfl (au2 (j := 1) (t := 3) @hval (by simp) (by simp) (by kernel_rfl)) h51
 obtain ⟨w2, h12, h22⟩ := U6 fuel2 3 _ _ h02 12 (by kernel_rfl)
 obtain ⟨m2, eq2, fa2⟩ := F0 h22 Tryz.underlying3
 subst eq2
 have h52 := h12
 have h72 : e9 (Uof W) Env.none (.int .i64 m2) v2 := au1 rfl (au2 (j := 2) (t := 3) @hval (by simp) (by simp) (by kernel_rfl)) h52
 obtain ⟨w3, h13, h23⟩ := U6 fuel3 9 _ _ h03 12 (by kernel_rfl)
 obtain ⟨m3, eq3, fa3⟩ := aC9 h23 Tryz.underlying9
 subst eq3
 have h53 := h13
 have h73 : e9 (Uof W) Env.none (.str m3) v3 := au1 rfl (au2 (j := 3) (t := 9) @hval (by simp) (by simp) (by kernel_rfl)) h53
 have hv : j1 (Uof W) Env.none [.agg m0.c, .int .i64 m1, .int .i64 m2, .str m3] (#[.agg cs0, v1, v2, v3] : Array Value).toList := (by rw [j1]; exact ⟨_, _, rfl, h70, (by rw [j1]; exact ⟨_, _, rfl, h71, (by rw [j1]; exact ⟨_, _, rfl, h72, (by rw [j1]; exact ⟨_, _, rfl, h73, by rw [j1]⟩)⟩)⟩)⟩)
 exact bD_ (T_sd fa0 fb0) hv fun W' hK => ⟨_, rfl, bD9 (tb := 4) hW' rfl rfl rfl Tryz.underlying4 (by kernel_rfl) hK⟩
set_option maxRecDepth 100000 in
theorem lifted (os : Os) (started : os.Started) (H : Type) (enc : TypeId × Value → H) :
  ReturnsInHanded {} Tryz.checked os 6 .any (Rows.envelopeSealedSpec.pre6 enc Tryz.prog Tryz.f6 Rows.envelopeSealedRow.domain false) (Rows.envelopeSealedSpec.post enc Tryz.prog Tryz.f6 false true false false) := by
 refine returnsInHanded_of_change (C := Tryz.checked) ownKnobs started (by kernel_rfl) Tryz.func6
  (ChangeSpec.witness6 (enc := enc) (C := Tryz.checked) false ⟨#[], #[.agg (Array.replicate 5 (.int .i64 0) ++ #[.bool false, .slice none 0 0] ++ (Array.replicate 4 (.int .i64 0) ++ Array.replicate 32 (.int .u8 0)) ++ Array.replicate 3 (.int .i64 0) ++ #[.slice none 0 0, .slice none 0 0] ++ Array.replicate 32 (.int .u8 0) ++ ((Array.replicate 4 (.int .i64 0) ++ Array.replicate 32 (.int .u8 0)) ++ #[.slice none 0 0]) ++ #[.string ByteArray.empty, .slice none 0 0]), .int .i64 0, .int .i64 0, .string ByteArray.empty], []⟩ 8 (by kernel_rfl) (by kernel_rfl) (by kernel_rfl) (by kernel_rfl)) ?_
 intro W base args ds gs before hval hW hcnd _
 exact walk enc W base args ds gs before hval hW
theorem over : Rows.envelopeSealedRow.holds Tryz.pinned (OpenSpec.ofChange Rows.envelopeSealedSpec) :=
 OpenClaim.holds_of_wide 6 Tryz.f6 rfl rfl rfl rfl rfl rfl rfl ⟨rfl, rfl, rfl, rfl, rfl⟩ rfl rfl rfl rfl rfl (by kernel_rfl) Tryz.func6 (by kernel_rfl)
  (of_decide_eq_true (by kernel_rfl)) (by unfold Func.isWrapper; first | (rw [if_pos (by decide +kernel)]; kernel_rfl) | (rw [if_neg (by decide +kernel)]; exact ⟨rfl, rfl⟩))
  (fun os started H enc _ => lifted os started H enc)
theorem proved : Rows.EnvelopeSealedSaid := over
#print axioms proved
end Go.Proofs.YtnmccoincblecaaGreat.envelopeSealed
