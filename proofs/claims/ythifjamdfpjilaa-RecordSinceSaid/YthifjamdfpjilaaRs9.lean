/-
  The shapes of records that are handed in (own work of this seat).
-/
import Derived.Test.YthifjamdfpjilaaRs8
import Derived.Test.YthifjamdfpjilaaSyShape
namespace Go.Proofs.Ythifjamdfpjilaa
open Go Sy Go.Proofs
theorem cells114 : Try.prog.cellsOf 114 = 17 := by kernel_rfl
theorem cells158 : Try.prog.cellsOf 158 = 19 := by kernel_rfl
theorem cells64 : Try.prog.cellsOf 64 = 45 := by kernel_rfl
theorem max63 : maxLen = 9223372036854775807 := rfl

theorem sh_sign {d : Nat} {cs : List V} (h : ShC Try.prog d 114 cs) : ∃ s : SSign, cs = s.c := by
  obtain ⟨d, a, _, rfl, ha, b, _, rfl, hb, rfl⟩ := sh_struct h Try.underlying114
  obtain ⟨n, rfl, _⟩ := sh_int ha Try.underlying3
  obtain ⟨xs, rfl, _⟩ := sh_arr hb Try.underlying95 Try.underlying5
  exact ⟨⟨n, xs⟩, rfl⟩
theorem sh_req {d : Nat} {cs : List V} (h : ShC Try.prog d 158 cs) : ∃ s : SReq, cs = s.c ∧ s.data.size ≤ 9223372036854775807 := by
  obtain ⟨d, a, _, rfl, ha, b, _, rfl, hb, c, _, rfl, hc, e, _, rfl, he, rfl⟩ := sh_struct h Try.underlying158
  obtain ⟨n, rfl, _⟩ := sh_int ha Try.underlying3
  obtain ⟨m, rfl, _⟩ := sh_int hb Try.underlying3
  obtain ⟨s, rfl, hs⟩ := sh_str hc Try.underlying9
  obtain ⟨xs, rfl, _⟩ := sh_arr he Try.underlying95 Try.underlying5
  exact ⟨⟨n, m, s, xs⟩, rfl, hs⟩
theorem sh_vote {d : Nat} {cs : List V} (h : ShC Try.prog d 45 cs) : ∃ s : SVote, cs = s.c := by
  obtain ⟨d, a, _, rfl, ha, b, _, rfl, hb, c, _, rfl, hc, e, _, rfl, he, f, _, rfl, hf, rfl⟩ := sh_struct h Try.underlying45
  obtain ⟨n, rfl, _⟩ := sh_int ha Try.underlying3
  obtain ⟨m, rfl, _⟩ := sh_int hb Try.underlying3
  obtain ⟨o, rfl, _⟩ := sh_int hc Try.underlying3
  obtain ⟨p, rfl, _⟩ := sh_int he Try.underlying3
  obtain ⟨xs, rfl, _⟩ := sh_arr hf Try.underlying43 Try.underlying5
  exact ⟨⟨n, m, o, p, xs⟩, rfl⟩
theorem sh_signs (U : Imm) {d : Nat} {cs : List V} (h : ShC Try.prog d 50 cs) : ∃ n s, CsLe U cs [sg n s] ∧ n ≤ 9223372036854775807 := by
  obtain ⟨d, len, f, rfl, hl, hf⟩ := sh_slice h Try.underlying50
  obtain ⟨s, hs⟩ := choose_fn fun i hi => sh_sign (hf i hi)
  refine ⟨len, s, ?_, hl⟩
  rw [cells114]
  exact CsLe.ros fun i hi => by rw [hs i hi]; exact CsLe.refl _ _
theorem sh_batch (U : Imm) {d : Nat} {cs : List V} (h : ShC Try.prog d 41 cs) : ∃ b : SBatch, CsLe U cs b.c ∧ b.n ≤ 9223372036854775807 ∧ ∀ k, k < b.n → (b.req k).data.size ≤ 9223372036854775807 := by
  obtain ⟨d, a, _, rfl, ha, b, _, rfl, hb, rfl⟩ := sh_struct h Try.underlying41
  obtain ⟨n, rfl⟩ := sh_bool ha Try.underlying4
  obtain ⟨d, len, f, rfl, hl, hf⟩ := sh_slice hb Try.underlying39
  obtain ⟨s, hs⟩ := choose_fn fun i hi => sh_req (hf i hi)
  refine ⟨⟨n, len, s⟩, ?_, hl, fun k hk => (hs k hk).2⟩
  rw [cells158]
  refine CsLe.app (CsLe.refl U [.bool n]) ?_
  exact CsLe.ros fun i hi => by rw [(hs i hi).1]; exact CsLe.refl _ _
theorem sh_cert (U : Imm) {d : Nat} {cs : List V} (h : ShC Try.prog d 52 cs) : ∃ c : SCert, CsLe U cs c.c ∧ c.n ≤ 9223372036854775807 := by
  obtain ⟨d, a, _, rfl, ha, b, _, rfl, hb, rfl⟩ := sh_struct h Try.underlying52
  obtain ⟨v, rfl⟩ := sh_vote ha
  obtain ⟨n, s, hs, hn⟩ := sh_signs U hb
  refine ⟨⟨v, n, s⟩, ?_, hn⟩
  refine CsLe.app (CsLe.refl U v.c) ?_
  rw [List.append_nil]; exact hs
theorem sh_rec (U : Imm) {d : Nat} {cs : List V} (h : ShC Try.prog d 64 cs) : ∃ r : SRec, CsLe U cs r.c ∧ FitR r := by
  obtain ⟨d, a1, _, rfl, h1, a2, _, rfl, h2, a3, _, rfl, h3, a4, _, rfl, h4, a5, _, rfl, h5, a6, _, rfl, h6, a7, _, rfl, h7, a8, _, rfl, h8, rfl⟩ := sh_struct h Try.underlying64
  obtain ⟨n1, rfl, _⟩ := sh_int h1 Try.underlying3
  obtain ⟨n2, rfl, _⟩ := sh_int h2 Try.underlying3
  obtain ⟨n3, rfl, _⟩ := sh_int h3 Try.underlying3
  obtain ⟨n4, rfl, _⟩ := sh_int h4 Try.underlying3
  obtain ⟨b, hb, hb1, hb2⟩ := sh_batch U h5
  obtain ⟨c, hc, _⟩ := sh_cert U h6
  obtain ⟨s, rfl, _⟩ := sh_str h7 Try.underlying9
  obtain ⟨n, sg, hs, _⟩ := sh_signs U h8
  refine ⟨⟨n1, n2, n3, n4, b, c, s, n, sg⟩, ?_, hb1, hb2⟩
  show CsLe U _ ([V.int .i64 n1] ++ ([V.int .i64 n2] ++ ([V.int .i64 n3] ++ ([V.int .i64 n4] ++ (b.c ++ (c.c ++ ([V.str s] ++ [Sy.sg n sg])))))))
  refine CsLe.app (CsLe.refl U [_]) (CsLe.app (CsLe.refl U [_]) (CsLe.app (CsLe.refl U [_]) (CsLe.app (CsLe.refl U [_]) (CsLe.app hb (CsLe.app hc (CsLe.app (CsLe.refl U [_]) ?_))))))
  rw [List.append_nil]; exact hs
theorem sh_recs (U : Imm) {d : Nat} {cs : List V} (h : ShC Try.prog d 73 cs) : ∃ n r, CsLe U cs [rc n r] ∧ ∀ k, k < n → FitR (r k) := by
  obtain ⟨d, len, f, rfl, hl, hf⟩ := sh_slice h Try.underlying73
  obtain ⟨r, hr⟩ := choose_fn fun i hi => sh_rec U (hf i hi)
  refine ⟨len, r, ?_, fun k hk => (hr k hk).2⟩
  rw [cells64]
  exact CsLe.ros fun i hi => (hr i hi).1
end Go.Proofs.Ythifjamdfpjilaa
