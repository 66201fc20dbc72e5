/-
  Contracts and laws that the claim's theorem leans on, joined out of the texts Te3 Te4 Ua0D Ua0 Ua1D (own work of this seat): The plain law of messages: what was put is read, what is read was put; What a message that may be has; its bytes, or why not; Contracts: records: sameness, what a kind has alone, what is told, which may be; Contracts: records: sameness, what a kind has alone, what is told, which may be; Contracts: a record's bytes, and what is read of bytes.
-/
import Derived.Test.YthifjamdfpjilaaC06
import Derived.Test.YthifjamdfpjilaaC07
import Derived.Test.YthifjamdfpjilaaC10
set_option linter.unusedVariables false
set_option linter.unusedSimpArgs false
namespace Go.Proofs.Ythifjamdfpjilaa
open Go Sy Go.Proofs
/-- Arrays as they are: bytes, so many. -/
structure segMsg (m : SMsg) : Prop where
 batch : segBatch m.batch
 vote : SegOk 32 m.vote.digest
 held : ∀ i, i < m.nheld → segHeld (m.held i)
 news : ∀ i, i < m.nnews → SegOk 16 (m.news i).tag
 digest : SegOk 32 m.digest
 cert : segCert m.cert
 sig : ∀ i, i < m.n → SegOk 16 (m.sig i).tag
theorem sameHeld_iff {a b : SHeld} : sameHeldS a b = true ↔ sameBatchS a.batch b.batch = true ∧ sameCertS a.cert b.cert = true := by simp [sameHeldS]
structure SameM (a b : SMsg) : Prop where
 kind : a.kind = b.kind
 epoch : a.epoch = b.epoch
 leader : a.leader = b.leader
 view : a.view = b.view
 slot : a.slot = b.slot
 batch : sameBatchS a.batch b.batch = true
 vote : a.vote = b.vote
 cepoch : a.cepoch = b.cepoch
 cleader : a.cleader = b.cleader
 cview : a.cview = b.cview
 held : a.nheld = b.nheld ∧ ∀ i, i < a.nheld → sameHeldS (a.held i) (b.held i) = true
 news : a.nnews = b.nnews ∧ ∀ i, i < a.nnews → a.news i = b.news i
 digest : a.digest = b.digest
 cert : sameCertS a.cert b.cert = true
 state : a.state = b.state
 sig : a.n = b.n ∧ ∀ i, i < a.n → a.sig i = b.sig i
theorem sameMsg_iff {a b : SMsg} : sameMsgS a b = true ↔ SameM a b := by
 simp only [sameMsgS, sameChangeS, Bool.and_eq_true, decide_eq_true_eq, sameL_iff, signEq_iff, voteEq_iff, envEq_iff]
 constructor
 ·rintro ⟨h1, h2, h3, h4, h5, h6, h7, ⟨h8, h9, h10, h11⟩, h12, h13, h14, h15, h16⟩
  exact ⟨h1, h2, h3, h4, h5, h6, h7, h8, h9, h10, h11, h12, h13, h14, h15, h16⟩
 ·rintro ⟨h1, h2, h3, h4, h5, h6, h7, h8, h9, h10, h11, h12, h13, h14, h15, h16⟩
  exact ⟨h1, h2, h3, h4, h5, h6, h7, ⟨h8, h9, h10, h11⟩, h12, h13, h14, h15, h16⟩
theorem sameBatch_refl (b : SBatch) : sameBatchS b b = true := sameBatch_iff.2 ⟨rfl, rfl, fun _ _ => rfl⟩
theorem sameCert_refl (b : SCert) : sameCertS b b = true := sameCert_iff.2 ⟨rfl, rfl, fun _ _ => rfl⟩
theorem sameHeld_refl (b : SHeld) : sameHeldS b b = true := sameHeld_iff.2 ⟨sameBatch_refl _, sameCert_refl _⟩
theorem sameBatch_symm {a b : SBatch} (h : sameBatchS a b = true) : sameBatchS b a = true := by
 obtain ⟨h1, h2, h3⟩ := sameBatch_iff.1 h
 exact sameBatch_iff.2 ⟨h1.symm, h2.symm, fun i hi => (h3 i (by omega)).symm⟩
theorem sameCert_symm {a b : SCert} (h : sameCertS a b = true) : sameCertS b a = true := by
 obtain ⟨h1, h2, h3⟩ := sameCert_iff.1 h
 exact sameCert_iff.2 ⟨h1.symm, h2.symm, fun i hi => (h3 i (by omega)).symm⟩
theorem sameHeld_symm {a b : SHeld} (h : sameHeldS a b = true) : sameHeldS b a = true :=
 sameHeld_iff.2 ⟨sameBatch_symm (sameHeld_iff.1 h).1, sameCert_symm (sameHeld_iff.1 h).2⟩
theorem sameM_symm {a b : SMsg} (h : SameM a b) : SameM b a :=
 ⟨h.kind.symm, h.epoch.symm, h.leader.symm, h.view.symm, h.slot.symm, sameBatch_symm h.batch, h.vote.symm, h.cepoch.symm, h.cleader.symm, h.cview.symm, ⟨h.held.1.symm, fun i hi => sameHeld_symm (h.held.2 i (by have := h.held.1; omega))⟩, ⟨h.news.1.symm, fun i hi => (h.news.2 i (by have := h.news.1; omega)).symm⟩, h.digest.symm, sameCert_symm h.cert, h.state.symm, ⟨h.sig.1.symm, fun i hi => (h.sig.2 i (by have := h.sig.1; omega)).symm⟩⟩
theorem sameM_refl (m : SMsg) : SameM m m := ⟨rfl, rfl, rfl, rfl, rfl, sameBatch_refl _, rfl, rfl, rfl, rfl, ⟨rfl, fun _ _ => sameHeld_refl _⟩, ⟨rfl, fun _ _ => rfl⟩, rfl, sameCert_refl _, rfl, ⟨rfl, fun _ _ => rfl⟩⟩
/-- What a message that may be has. -/
structure Good (m : SMsg) : Prop where
 kind : 1 ≤ m.kind ∧ m.kind ≤ 8
 only : SameM m (onlyS m)
 vote : m.kind = 2 → mayVoteS m.vote = true
 cert : m.kind = 7 → mayCertS m.cert = true
 epoch : 0 ≤ m.epoch ∧ m.epoch ≤ 1048576
 slot : 0 ≤ m.slot ∧ m.slot ≤ 1099511627776
 view : 0 ≤ m.view ∧ m.view ≤ 1099511627776
 leader : 0 ≤ m.leader ∧ m.leader ≤ 64
 batch : mayBatchS m.batch = true
 cepoch : 0 ≤ m.cepoch ∧ m.cepoch ≤ 1048576
 cleader : 0 ≤ m.cleader ∧ m.cleader ≤ 64
 cview : 0 ≤ m.cview ∧ m.cview ≤ 1099511627776
 held : m.nheld ≤ 4 ∧ ∀ i, i < m.nheld → mayHeldS (m.held i) = true
 news : m.nnews ≤ 64 ∧ ∀ i, i < m.nnews → mayEnvS (m.news i) = true
 sig : m.n ≤ 64 ∧ ∀ i, i < m.n → maySignS (m.sig i) = true
 state : m.state.size ≤ 4194304
theorem good_iff {m : SMsg} : goodS m = true ↔ Good m := by
 simp only [goodS, mayChangeS, Bool.and_eq_true, decide_eq_true_eq, upto_iff, allS_iff, Bool.or_eq_true, Bool.not_eq_true', decide_eq_false_iff_not, sameMsg_iff]
 constructor
 ·rintro ⟨h1, h2, h3, h4, h5, h6, h7, h8, h9, h10, ⟨h11, h12, h13, h14⟩, h15, h16, h17⟩
  exact ⟨⟨h1, h2⟩, h3, fun h => h4.resolve_left (fun g => g h), fun h => h5.resolve_left (fun g => g h), h6, h7, h8, h9, h10, h11, h12, h13, h14, h15, h16, by omega⟩
 ·rintro ⟨⟨h1, h2⟩, h3, h4, h5, h6, h7, h8, h9, h10, h11, h12, h13, h14, h15, h16, h17⟩
  exact ⟨h1, h2, h3, (Classical.em (m.kind = 2)).elim (fun g => .inr (h4 g)) .inl, (Classical.em (m.kind = 7)).elim (fun g => .inr (h5 g)) .inl, h6, h7, h8, h9, h10, ⟨h11, h12, h13, h14⟩, h15, h16, by omega⟩
theorem fld1_rd {m : SMsg} (g : Good m) (ht : segMsg m) (hk : m.kind = 1) {s : RS} {t : List UInt8} (he : s.e = 0) (hb : s.l = bodyB m ++ t) : SameM (fld1 (msg0 m.kind) s).1 m ∧ (fld1 (msg0 m.kind) s).2 = { s with l := t } := by
 rw [bodyB] at hb
 rw [if_pos hk] at hb
 try simp only [numsB, List.append_nil, List.append_assoc] at hb
 have ho : SameM m (o1 m) := by have := g.only; rw [onlyS] at this; simpa [hk] using this
 obtain ⟨a1, b1⟩ := num_rd (n := m.epoch) (most := 1048576) g.epoch.1 g.epoch.2 (by decide) s _ he hb
 have e1 : f1S1 s = { s with l := putZ m.slot ++ (batchB m.batch ++ t) } := by show (numR 1048576 s).2 = _; rw [b1]
 obtain ⟨a2, b2⟩ := num_rd (n := m.slot) (most := 1099511627776) g.slot.1 g.slot.2 (by decide) (f1S1 s) _ (by rw [e1]; exact he) (by rw [e1])
 have e2 : f1S2 s = { s with l := batchB m.batch ++ t } := by show (numR 1099511627776 (f1S1 s)).2 = _; rw [b2, e1]
 obtain ⟨a3, b3⟩ := batch_rd g.batch ht.batch (f1S2 s) _ (by rw [e2]; exact he) (by rw [e2])
 have e3 : f1S3 s = { s with l := t } := by show (batchR (f1S2 s)).2 = _; rw [b3, e2]
 refine ⟨?_, e3⟩
 have hs := sameM_symm ho
 exact ⟨rfl, a1, hs.leader, hs.view, a2, a3, hs.vote, hs.cepoch, hs.cleader, hs.cview, hs.held, hs.news, hs.digest, hs.cert, hs.state, hs.sig⟩
theorem seg32 : SegOk 32 z32 := ⟨rfl, by decide⟩
theorem mayBatch0 : mayBatchS {} = true := by decide
theorem fld1_wr {s : RS} (he : (fld1 (msg0 1) s).2.e = 0) (hl : (fld1 (msg0 1) s).2.l = []) : s.e = 0 ∧ s.l = bodyB (fld1 (msg0 1) s).1 ∧ Good (fld1 (msg0 1) s).1 ∧ segMsg (fld1 (msg0 1) s).1 := by
 obtain ⟨g3, l3, o3, b3⟩ := batch_wr (f1S2 s) he
 obtain ⟨g2, l2, o2, b2⟩ := num_wr 1099511627776 (f1S1 s) g3
 obtain ⟨g1, l1, o1, b1⟩ := num_wr 1048576 s g2
 refine ⟨g1, ?_, ?_, ?_⟩
 ·have hk : (fld1 (msg0 1) s).1.kind = 1 := rfl
  rw [bodyB, hk]
  rw [if_pos (show (1 : Int) = 1 from rfl)]
  show s.l = numsB [(numR 1048576 s).1, (numR 1099511627776 (f1S1 s)).1] ++ (batchB (batchR (f1S2 s)).1)
  have z : s.l = (numsB [(numR 1048576 s).1, (numR 1099511627776 (f1S1 s)).1] ++ (batchB (batchR (f1S2 s)).1)) ++ (fld1 (msg0 1) s).2.l := by
   try simp only [numsB, List.append_nil, List.append_assoc]
   have l3' : (f1S2 s).l = batchB (batchR (f1S2 s)).1 ++ (fld1 (msg0 1) s).2.l := l3
   rw [← l3']
   have l2' : (f1S1 s).l = putZ (numR 1099511627776 (f1S1 s)).1 ++ (f1S2 s).l := l2
   rw [← l2']
   have l1' : s.l = putZ (numR 1048576 s).1 ++ (f1S1 s).l := l1
   exact l1'
  rw [hl, List.append_nil] at z
  exact z
 ·exact ⟨⟨show (1 : Int) ≤ 1 by decide, show (1 : Int) ≤ 8 by decide⟩, sameM_refl _, fun h => absurd h (show ¬ (1 : Int) = 2 by decide), fun h => absurd h (show ¬ (1 : Int) = 7 by decide), ⟨o1.1, o1.2.1⟩, ⟨o2.1, o2.2.1⟩, ⟨Int.le_refl _, (by decide : (0 : Int) ≤ 1099511627776)⟩, ⟨Int.le_refl _, (by decide : (0 : Int) ≤ 64)⟩, o3.1, ⟨Int.le_refl _, (by decide : (0 : Int) ≤ 1048576)⟩, ⟨Int.le_refl _, (by decide : (0 : Int) ≤ 64)⟩, ⟨Int.le_refl _, (by decide : (0 : Int) ≤ 1099511627776)⟩, ⟨Nat.zero_le _, fun i hi => absurd hi (Nat.not_lt_zero i)⟩, ⟨Nat.zero_le _, fun i hi => absurd hi (Nat.not_lt_zero i)⟩, ⟨Nat.zero_le _, fun i hi => absurd hi (Nat.not_lt_zero i)⟩, Nat.zero_le _⟩
 ·exact ⟨o3.2, seg32, fun i hi => absurd hi (Nat.not_lt_zero i), fun i hi => absurd hi (Nat.not_lt_zero i), seg32, ⟨seg32, fun i hi => absurd hi (Nat.not_lt_zero i)⟩, fun i hi => absurd hi (Nat.not_lt_zero i)⟩
theorem fld2_rd {m : SMsg} (g : Good m) (ht : segMsg m) (hk : m.kind = 2) {s : RS} {t : List UInt8} (he : s.e = 0) (hb : s.l = bodyB m ++ t) : SameM (fld2 (msg0 m.kind) s).1 m ∧ (fld2 (msg0 m.kind) s).2 = { s with l := t } := by
 rw [bodyB] at hb
 rw [if_neg (by omega)] at hb
 rw [if_pos hk] at hb
 try simp only [numsB, List.append_nil, List.append_assoc] at hb
 have ho : SameM m (o2 m) := by have := g.only; rw [onlyS] at this; simpa [hk] using this
 obtain ⟨a1, b1⟩ := vote_rd (g.vote hk) ht.vote s _ he hb
 have e1 : f2S1 s = { s with l := t } := by show (voteR s).2 = _; rw [b1]
 refine ⟨?_, e1⟩
 have hs := sameM_symm ho
 exact ⟨rfl, hs.epoch, hs.leader, hs.view, hs.slot, hs.batch, a1, hs.cepoch, hs.cleader, hs.cview, hs.held, hs.news, hs.digest, hs.cert, hs.state, hs.sig⟩
theorem fld2_wr {s : RS} (he : (fld2 (msg0 2) s).2.e = 0) (hl : (fld2 (msg0 2) s).2.l = []) : s.e = 0 ∧ s.l = bodyB (fld2 (msg0 2) s).1 ∧ Good (fld2 (msg0 2) s).1 ∧ segMsg (fld2 (msg0 2) s).1 := by
 obtain ⟨g1, l1, o1, b1⟩ := vote_wr s he
 refine ⟨g1, ?_, ?_, ?_⟩
 ·have hk : (fld2 (msg0 2) s).1.kind = 2 := rfl
  rw [bodyB, hk]
  rw [if_neg (show ¬ (2 : Int) = 1 by decide)]
  rw [if_pos (show (2 : Int) = 2 from rfl)]
  show s.l = voteB (voteR s).1
  have z : s.l = (voteB (voteR s).1) ++ (fld2 (msg0 2) s).2.l := by
   try simp only [numsB, List.append_nil, List.append_assoc]
   have l1' : s.l = voteB (voteR s).1 ++ (fld2 (msg0 2) s).2.l := l1
   exact l1'
  rw [hl, List.append_nil] at z
  exact z
 ·exact ⟨⟨show (1 : Int) ≤ 2 by decide, show (2 : Int) ≤ 8 by decide⟩, sameM_refl _, fun _ => o1.1, fun h => absurd h (show ¬ (2 : Int) = 7 by decide), ⟨Int.le_refl _, (by decide : (0 : Int) ≤ 1048576)⟩, ⟨Int.le_refl _, (by decide : (0 : Int) ≤ 1099511627776)⟩, ⟨Int.le_refl _, (by decide : (0 : Int) ≤ 1099511627776)⟩, ⟨Int.le_refl _, (by decide : (0 : Int) ≤ 64)⟩, mayBatch0, ⟨Int.le_refl _, (by decide : (0 : Int) ≤ 1048576)⟩, ⟨Int.le_refl _, (by decide : (0 : Int) ≤ 64)⟩, ⟨Int.le_refl _, (by decide : (0 : Int) ≤ 1099511627776)⟩, ⟨Nat.zero_le _, fun i hi => absurd hi (Nat.not_lt_zero i)⟩, ⟨Nat.zero_le _, fun i hi => absurd hi (Nat.not_lt_zero i)⟩, ⟨Nat.zero_le _, fun i hi => absurd hi (Nat.not_lt_zero i)⟩, Nat.zero_le _⟩
 ·exact ⟨fun i hi => absurd hi (Nat.not_lt_zero i), o1.2, fun i hi => absurd hi (Nat.not_lt_zero i), fun i hi => absurd hi (Nat.not_lt_zero i), seg32, ⟨seg32, fun i hi => absurd hi (Nat.not_lt_zero i)⟩, fun i hi => absurd hi (Nat.not_lt_zero i)⟩
theorem fld3_rd {m : SMsg} (g : Good m) (ht : segMsg m) (hk : m.kind = 3) {s : RS} {t : List UInt8} (he : s.e = 0) (hb : s.l = bodyB m ++ t) : SameM (fld3 (msg0 m.kind) s).1 m ∧ (fld3 (msg0 m.kind) s).2 = { s with l := t } := by
 rw [bodyB] at hb
 rw [if_neg (by omega)] at hb
 rw [if_neg (by omega)] at hb
 rw [if_pos hk] at hb
 try simp only [numsB, List.append_nil, List.append_assoc] at hb
 have ho : SameM m (o3 m) := by have := g.only; rw [onlyS] at this; simpa [hk] using this
 obtain ⟨a1, b1⟩ := num_rd (n := m.cepoch) (most := 1048576) g.cepoch.1 g.cepoch.2 (by decide) s _ he hb
 have e1 : f3S1 s = { s with l := putZ m.cleader ++ (putZ m.cview ++ (putZ (m.nheld : Int) ++ (heldsB m.held m.nheld ++ t))) } := by show (numR 1048576 s).2 = _; rw [b1]
 obtain ⟨a2, b2⟩ := num_rd (n := m.cleader) (most := 64) g.cleader.1 g.cleader.2 (by decide) (f3S1 s) _ (by rw [e1]; exact he) (by rw [e1])
 have e2 : f3S2 s = { s with l := putZ m.cview ++ (putZ (m.nheld : Int) ++ (heldsB m.held m.nheld ++ t)) } := by show (numR 64 (f3S1 s)).2 = _; rw [b2, e1]
 obtain ⟨a3, b3⟩ := num_rd (n := m.cview) (most := 1099511627776) g.cview.1 g.cview.2 (by decide) (f3S2 s) _ (by rw [e2]; exact he) (by rw [e2])
 have e3 : f3S3 s = { s with l := putZ (m.nheld : Int) ++ (heldsB m.held m.nheld ++ t) } := by show (numR 1099511627776 (f3S2 s)).2 = _; rw [b3, e2]
 obtain ⟨n4, a4, b4⟩ := get_rd (one := heldR) (enc := heldB) (rel := fun x y => sameHeldS x y = true) (el := m.held) (n := m.nheld) (most := 4) (by have := g.held.1; omega) (by decide) (fun i hi => held_rd (g.held.2 i hi) (ht.held i hi)) (s := (f3S3 s)) (by rw [e3]; exact he) (tail := t) (by rw [e3]; simp only [numsB, List.append_nil, heldsB_encs])
 have e4 : f3S4 s = { s with l := t } := by show getS heldR 4 (f3S3 s) = _; rw [b4, e3]
 refine ⟨?_, e4⟩
 have hs := sameM_symm ho
 exact ⟨rfl, hs.epoch, hs.leader, hs.view, hs.slot, hs.batch, hs.vote, a1, a2, a3, ⟨n4, fun i hi => a4 i (by rw [← n4]; exact hi)⟩, hs.news, hs.digest, hs.cert, hs.state, hs.sig⟩
theorem fld3_wr {s : RS} (he : (fld3 (msg0 3) s).2.e = 0) (hl : (fld3 (msg0 3) s).2.l = []) : s.e = 0 ∧ s.l = bodyB (fld3 (msg0 3) s).1 ∧ Good (fld3 (msg0 3) s).1 ∧ segMsg (fld3 (msg0 3) s).1 := by
 obtain ⟨g4, l4, n4, o4, b4⟩ := get_wr held_wr (most := 4) (s := (f3S3 s)) he
 obtain ⟨g3, l3, o3, b3⟩ := num_wr 1099511627776 (f3S2 s) g4
 obtain ⟨g2, l2, o2, b2⟩ := num_wr 64 (f3S1 s) g3
 obtain ⟨g1, l1, o1, b1⟩ := num_wr 1048576 s g2
 refine ⟨g1, ?_, ?_, ?_⟩
 ·have hk : (fld3 (msg0 3) s).1.kind = 3 := rfl
  rw [bodyB, hk]
  rw [if_neg (show ¬ (3 : Int) = 1 by decide)]
  rw [if_neg (show ¬ (3 : Int) = 2 by decide)]
  rw [if_pos (show (3 : Int) = 3 from rfl)]
  show s.l = numsB [(numR 1048576 s).1, (numR 64 (f3S1 s)).1, (numR 1099511627776 (f3S2 s)).1] ++ ((numsB [((getN heldR 4 (f3S3 s) : Nat) : Int)] ++ heldsB (getEl heldR 4 (f3S3 s)) (getN heldR 4 (f3S3 s))))
  have z : s.l = (numsB [(numR 1048576 s).1, (numR 64 (f3S1 s)).1, (numR 1099511627776 (f3S2 s)).1] ++ ((numsB [((getN heldR 4 (f3S3 s) : Nat) : Int)] ++ heldsB (getEl heldR 4 (f3S3 s)) (getN heldR 4 (f3S3 s))))) ++ (fld3 (msg0 3) s).2.l := by
   try simp only [numsB, List.append_nil, List.append_assoc]
   have l4' : (f3S3 s).l = putZ ((getN heldR 4 (f3S3 s) : Nat) : Int) ++ (heldsB (getEl heldR 4 (f3S3 s)) (getN heldR 4 (f3S3 s)) ++ (fld3 (msg0 3) s).2.l) := by rw [heldsB_encs]; have := l4; simp only [numsB, List.append_nil] at this; exact this
   rw [← l4']
   have l3' : (f3S2 s).l = putZ (numR 1099511627776 (f3S2 s)).1 ++ (f3S3 s).l := l3
   rw [← l3']
   have l2' : (f3S1 s).l = putZ (numR 64 (f3S1 s)).1 ++ (f3S2 s).l := l2
   rw [← l2']
   have l1' : s.l = putZ (numR 1048576 s).1 ++ (f3S1 s).l := l1
   exact l1'
  rw [hl, List.append_nil] at z
  exact z
 ·exact ⟨⟨show (1 : Int) ≤ 3 by decide, show (3 : Int) ≤ 8 by decide⟩, sameM_refl _, fun h => absurd h (show ¬ (3 : Int) = 2 by decide), fun h => absurd h (show ¬ (3 : Int) = 7 by decide), ⟨Int.le_refl _, (by decide : (0 : Int) ≤ 1048576)⟩, ⟨Int.le_refl _, (by decide : (0 : Int) ≤ 1099511627776)⟩, ⟨Int.le_refl _, (by decide : (0 : Int) ≤ 1099511627776)⟩, ⟨Int.le_refl _, (by decide : (0 : Int) ≤ 64)⟩, mayBatch0, ⟨o1.1, o1.2.1⟩, ⟨o2.1, o2.2.1⟩, ⟨o3.1, o3.2.1⟩, ⟨Int.ofNat_le.1 n4, fun i hi => (o4 i hi).1⟩, ⟨Nat.zero_le _, fun i hi => absurd hi (Nat.not_lt_zero i)⟩, ⟨Nat.zero_le _, fun i hi => absurd hi (Nat.not_lt_zero i)⟩, Nat.zero_le _⟩
 ·exact ⟨fun i hi => absurd hi (Nat.not_lt_zero i), seg32, fun i hi => (o4 i hi).2, fun i hi => absurd hi (Nat.not_lt_zero i), seg32, ⟨seg32, fun i hi => absurd hi (Nat.not_lt_zero i)⟩, fun i hi => absurd hi (Nat.not_lt_zero i)⟩
theorem fld4_rd {m : SMsg} (g : Good m) (ht : segMsg m) (hk : m.kind = 4) {s : RS} {t : List UInt8} (he : s.e = 0) (hb : s.l = bodyB m ++ t) : SameM (fld4 (msg0 m.kind) s).1 m ∧ (fld4 (msg0 m.kind) s).2 = { s with l := t } := by
 rw [bodyB] at hb
 rw [if_neg (by omega)] at hb
 rw [if_neg (by omega)] at hb
 rw [if_neg (by omega)] at hb
 rw [if_pos hk] at hb
 try simp only [numsB, List.append_nil, List.append_assoc] at hb
 have ho : SameM m (o4 m) := by have := g.only; rw [onlyS] at this; simpa [hk] using this
 obtain ⟨a1, b1⟩ := num_rd (n := m.epoch) (most := 1048576) g.epoch.1 g.epoch.2 (by decide) s _ he hb
 have e1 : f4S1 s = { s with l := putZ m.leader ++ (putZ m.view ++ (putZ (m.nnews : Int) ++ (envsB m.news m.nnews ++ t))) } := by show (numR 1048576 s).2 = _; rw [b1]
 obtain ⟨a2, b2⟩ := num_rd (n := m.leader) (most := 64) g.leader.1 g.leader.2 (by decide) (f4S1 s) _ (by rw [e1]; exact he) (by rw [e1])
 have e2 : f4S2 s = { s with l := putZ m.view ++ (putZ (m.nnews : Int) ++ (envsB m.news m.nnews ++ t)) } := by show (numR 64 (f4S1 s)).2 = _; rw [b2, e1]
 obtain ⟨a3, b3⟩ := num_rd (n := m.view) (most := 1099511627776) g.view.1 g.view.2 (by decide) (f4S2 s) _ (by rw [e2]; exact he) (by rw [e2])
 have e3 : f4S3 s = { s with l := putZ (m.nnews : Int) ++ (envsB m.news m.nnews ++ t) } := by show (numR 1099511627776 (f4S2 s)).2 = _; rw [b3, e2]
 obtain ⟨n4, a4, b4⟩ := get_rd (one := envR) (enc := envB) (rel := fun x y => x = y) (el := m.news) (n := m.nnews) (most := 64) (by have := g.news.1; omega) (by decide) (fun i hi => env_rd (g.news.2 i hi) (ht.news i hi)) (s := (f4S3 s)) (by rw [e3]; exact he) (tail := t) (by rw [e3]; simp only [numsB, List.append_nil, envsB_encs])
 have e4 : f4S4 s = { s with l := t } := by show getS envR 64 (f4S3 s) = _; rw [b4, e3]
 refine ⟨?_, e4⟩
 have hs := sameM_symm ho
 exact ⟨rfl, a1, a2, a3, hs.slot, hs.batch, hs.vote, hs.cepoch, hs.cleader, hs.cview, hs.held, ⟨n4, fun i hi => a4 i (by rw [← n4]; exact hi)⟩, hs.digest, hs.cert, hs.state, hs.sig⟩
theorem fld4_wr {s : RS} (he : (fld4 (msg0 4) s).2.e = 0) (hl : (fld4 (msg0 4) s).2.l = []) : s.e = 0 ∧ s.l = bodyB (fld4 (msg0 4) s).1 ∧ Good (fld4 (msg0 4) s).1 ∧ segMsg (fld4 (msg0 4) s).1 := by
 obtain ⟨g4, l4, n4, o4, b4⟩ := get_wr env_wr (most := 64) (s := (f4S3 s)) he
 obtain ⟨g3, l3, o3, b3⟩ := num_wr 1099511627776 (f4S2 s) g4
 obtain ⟨g2, l2, o2, b2⟩ := num_wr 64 (f4S1 s) g3
 obtain ⟨g1, l1, o1, b1⟩ := num_wr 1048576 s g2
 refine ⟨g1, ?_, ?_, ?_⟩
 ·have hk : (fld4 (msg0 4) s).1.kind = 4 := rfl
  rw [bodyB, hk]
  rw [if_neg (show ¬ (4 : Int) = 1 by decide)]
  rw [if_neg (show ¬ (4 : Int) = 2 by decide)]
  rw [if_neg (show ¬ (4 : Int) = 3 by decide)]
  rw [if_pos (show (4 : Int) = 4 from rfl)]
  show s.l = numsB [(numR 1048576 s).1, (numR 64 (f4S1 s)).1, (numR 1099511627776 (f4S2 s)).1] ++ ((numsB [((getN envR 64 (f4S3 s) : Nat) : Int)] ++ envsB (getEl envR 64 (f4S3 s)) (getN envR 64 (f4S3 s))))
  have z : s.l = (numsB [(numR 1048576 s).1, (numR 64 (f4S1 s)).1, (numR 1099511627776 (f4S2 s)).1] ++ ((numsB [((getN envR 64 (f4S3 s) : Nat) : Int)] ++ envsB (getEl envR 64 (f4S3 s)) (getN envR 64 (f4S3 s))))) ++ (fld4 (msg0 4) s).2.l := by
   try simp only [numsB, List.append_nil, List.append_assoc]
   have l4' : (f4S3 s).l = putZ ((getN envR 64 (f4S3 s) : Nat) : Int) ++ (envsB (getEl envR 64 (f4S3 s)) (getN envR 64 (f4S3 s)) ++ (fld4 (msg0 4) s).2.l) := by rw [envsB_encs]; have := l4; simp only [numsB, List.append_nil] at this; exact this
   rw [← l4']
   have l3' : (f4S2 s).l = putZ (numR 1099511627776 (f4S2 s)).1 ++ (f4S3 s).l := l3
   rw [← l3']
   have l2' : (f4S1 s).l = putZ (numR 64 (f4S1 s)).1 ++ (f4S2 s).l := l2
   rw [← l2']
   have l1' : s.l = putZ (numR 1048576 s).1 ++ (f4S1 s).l := l1
   exact l1'
  rw [hl, List.append_nil] at z
  exact z
 ·exact ⟨⟨show (1 : Int) ≤ 4 by decide, show (4 : Int) ≤ 8 by decide⟩, sameM_refl _, fun h => absurd h (show ¬ (4 : Int) = 2 by decide), fun h => absurd h (show ¬ (4 : Int) = 7 by decide), ⟨o1.1, o1.2.1⟩, ⟨Int.le_refl _, (by decide : (0 : Int) ≤ 1099511627776)⟩, ⟨o3.1, o3.2.1⟩, ⟨o2.1, o2.2.1⟩, mayBatch0, ⟨Int.le_refl _, (by decide : (0 : Int) ≤ 1048576)⟩, ⟨Int.le_refl _, (by decide : (0 : Int) ≤ 64)⟩, ⟨Int.le_refl _, (by decide : (0 : Int) ≤ 1099511627776)⟩, ⟨Nat.zero_le _, fun i hi => absurd hi (Nat.not_lt_zero i)⟩, ⟨Int.ofNat_le.1 n4, fun i hi => (o4 i hi).1⟩, ⟨Nat.zero_le _, fun i hi => absurd hi (Nat.not_lt_zero i)⟩, Nat.zero_le _⟩
 ·exact ⟨fun i hi => absurd hi (Nat.not_lt_zero i), seg32, fun i hi => absurd hi (Nat.not_lt_zero i), fun i hi => (o4 i hi).2, seg32, ⟨seg32, fun i hi => absurd hi (Nat.not_lt_zero i)⟩, fun i hi => absurd hi (Nat.not_lt_zero i)⟩
theorem fld5_rd {m : SMsg} (g : Good m) (ht : segMsg m) (hk : m.kind = 5) {s : RS} {t : List UInt8} (he : s.e = 0) (hb : s.l = bodyB m ++ t) : SameM (fld5 (msg0 m.kind) s).1 m ∧ (fld5 (msg0 m.kind) s).2 = { s with l := t } := by
 rw [bodyB] at hb
 rw [if_neg (by omega)] at hb
 rw [if_neg (by omega)] at hb
 rw [if_neg (by omega)] at hb
 rw [if_neg (by omega)] at hb
 rw [if_pos hk] at hb
 try simp only [numsB, List.append_nil, List.append_assoc] at hb
 have ho : SameM m (o5 m) := by have := g.only; rw [onlyS] at this; simpa [hk] using this
 obtain ⟨a1, b1⟩ := num_rd (n := m.epoch) (most := 1048576) g.epoch.1 g.epoch.2 (by decide) s _ he hb
 have e1 : f5S1 s = { s with l := segB m.digest ++ t } := by show (numR 1048576 s).2 = _; rw [b1]
 obtain ⟨a2, b2⟩ := dig_rd ht.digest (f5S1 s) _ (by rw [e1]; exact he) (by rw [e1])
 have e2 : f5S2 s = { s with l := t } := by show (digR (f5S1 s)).2 = _; rw [b2, e1]
 refine ⟨?_, e2⟩
 have hs := sameM_symm ho
 exact ⟨rfl, a1, hs.leader, hs.view, hs.slot, hs.batch, hs.vote, hs.cepoch, hs.cleader, hs.cview, hs.held, hs.news, a2, hs.cert, hs.state, hs.sig⟩
theorem fld5_wr {s : RS} (he : (fld5 (msg0 5) s).2.e = 0) (hl : (fld5 (msg0 5) s).2.l = []) : s.e = 0 ∧ s.l = bodyB (fld5 (msg0 5) s).1 ∧ Good (fld5 (msg0 5) s).1 ∧ segMsg (fld5 (msg0 5) s).1 := by
 obtain ⟨g2, l2, o2, b2⟩ := dig_wr (f5S1 s) he
 obtain ⟨g1, l1, o1, b1⟩ := num_wr 1048576 s g2
 refine ⟨g1, ?_, ?_, ?_⟩
 ·have hk : (fld5 (msg0 5) s).1.kind = 5 := rfl
  rw [bodyB, hk]
  rw [if_neg (show ¬ (5 : Int) = 1 by decide)]
  rw [if_neg (show ¬ (5 : Int) = 2 by decide)]
  rw [if_neg (show ¬ (5 : Int) = 3 by decide)]
  rw [if_neg (show ¬ (5 : Int) = 4 by decide)]
  rw [if_pos (show (5 : Int) = 5 from rfl)]
  show s.l = numsB [(numR 1048576 s).1] ++ (segB (digR (f5S1 s)).1)
  have z : s.l = (numsB [(numR 1048576 s).1] ++ (segB (digR (f5S1 s)).1)) ++ (fld5 (msg0 5) s).2.l := by
   try simp only [numsB, List.append_nil, List.append_assoc]
   have l2' : (f5S1 s).l = segB (digR (f5S1 s)).1 ++ (fld5 (msg0 5) s).2.l := l2
   rw [← l2']
   have l1' : s.l = putZ (numR 1048576 s).1 ++ (f5S1 s).l := l1
   exact l1'
  rw [hl, List.append_nil] at z
  exact z
 ·exact ⟨⟨show (1 : Int) ≤ 5 by decide, show (5 : Int) ≤ 8 by decide⟩, sameM_refl _, fun h => absurd h (show ¬ (5 : Int) = 2 by decide), fun h => absurd h (show ¬ (5 : Int) = 7 by decide), ⟨o1.1, o1.2.1⟩, ⟨Int.le_refl _, (by decide : (0 : Int) ≤ 1099511627776)⟩, ⟨Int.le_refl _, (by decide : (0 : Int) ≤ 1099511627776)⟩, ⟨Int.le_refl _, (by decide : (0 : Int) ≤ 64)⟩, mayBatch0, ⟨Int.le_refl _, (by decide : (0 : Int) ≤ 1048576)⟩, ⟨Int.le_refl _, (by decide : (0 : Int) ≤ 64)⟩, ⟨Int.le_refl _, (by decide : (0 : Int) ≤ 1099511627776)⟩, ⟨Nat.zero_le _, fun i hi => absurd hi (Nat.not_lt_zero i)⟩, ⟨Nat.zero_le _, fun i hi => absurd hi (Nat.not_lt_zero i)⟩, ⟨Nat.zero_le _, fun i hi => absurd hi (Nat.not_lt_zero i)⟩, Nat.zero_le _⟩
 ·exact ⟨fun i hi => absurd hi (Nat.not_lt_zero i), seg32, fun i hi => absurd hi (Nat.not_lt_zero i), fun i hi => absurd hi (Nat.not_lt_zero i), o2, ⟨seg32, fun i hi => absurd hi (Nat.not_lt_zero i)⟩, fun i hi => absurd hi (Nat.not_lt_zero i)⟩
theorem fld6_rd {m : SMsg} (g : Good m) (ht : segMsg m) (hk : m.kind = 6) {s : RS} {t : List UInt8} (he : s.e = 0) (hb : s.l = bodyB m ++ t) : SameM (fld6 (msg0 m.kind) s).1 m ∧ (fld6 (msg0 m.kind) s).2 = { s with l := t } := by
 rw [bodyB] at hb
 rw [if_neg (by omega)] at hb
 rw [if_neg (by omega)] at hb
 rw [if_neg (by omega)] at hb
 rw [if_neg (by omega)] at hb
 rw [if_neg (by omega)] at hb
 rw [if_pos hk] at hb
 try simp only [numsB, List.append_nil, List.append_assoc] at hb
 have ho : SameM m (o6 m) := by have := g.only; rw [onlyS] at this; simpa [hk] using this
 obtain ⟨a1, b1⟩ := num_rd (n := m.epoch) (most := 1048576) g.epoch.1 g.epoch.2 (by decide) s _ he hb
 have e1 : f6S1 s = { s with l := putZ m.slot ++ t } := by show (numR 1048576 s).2 = _; rw [b1]
 obtain ⟨a2, b2⟩ := num_rd (n := m.slot) (most := 1099511627776) g.slot.1 g.slot.2 (by decide) (f6S1 s) _ (by rw [e1]; exact he) (by rw [e1])
 have e2 : f6S2 s = { s with l := t } := by show (numR 1099511627776 (f6S1 s)).2 = _; rw [b2, e1]
 refine ⟨?_, e2⟩
 have hs := sameM_symm ho
 exact ⟨rfl, a1, hs.leader, hs.view, a2, hs.batch, hs.vote, hs.cepoch, hs.cleader, hs.cview, hs.held, hs.news, hs.digest, hs.cert, hs.state, hs.sig⟩
theorem fld6_wr {s : RS} (he : (fld6 (msg0 6) s).2.e = 0) (hl : (fld6 (msg0 6) s).2.l = []) : s.e = 0 ∧ s.l = bodyB (fld6 (msg0 6) s).1 ∧ Good (fld6 (msg0 6) s).1 ∧ segMsg (fld6 (msg0 6) s).1 := by
 obtain ⟨g2, l2, o2, b2⟩ := num_wr 1099511627776 (f6S1 s) he
 obtain ⟨g1, l1, o1, b1⟩ := num_wr 1048576 s g2
 refine ⟨g1, ?_, ?_, ?_⟩
 ·have hk : (fld6 (msg0 6) s).1.kind = 6 := rfl
  rw [bodyB, hk]
  rw [if_neg (show ¬ (6 : Int) = 1 by decide)]
  rw [if_neg (show ¬ (6 : Int) = 2 by decide)]
  rw [if_neg (show ¬ (6 : Int) = 3 by decide)]
  rw [if_neg (show ¬ (6 : Int) = 4 by decide)]
  rw [if_neg (show ¬ (6 : Int) = 5 by decide)]
  rw [if_pos (show (6 : Int) = 6 from rfl)]
  show s.l = numsB [(numR 1048576 s).1, (numR 1099511627776 (f6S1 s)).1]
  have z : s.l = (numsB [(numR 1048576 s).1, (numR 1099511627776 (f6S1 s)).1]) ++ (fld6 (msg0 6) s).2.l := by
   try simp only [numsB, List.append_nil, List.append_assoc]
   have l2' : (f6S1 s).l = putZ (numR 1099511627776 (f6S1 s)).1 ++ (fld6 (msg0 6) s).2.l := l2
   rw [← l2']
   have l1' : s.l = putZ (numR 1048576 s).1 ++ (f6S1 s).l := l1
   exact l1'
  rw [hl, List.append_nil] at z
  exact z
 ·exact ⟨⟨show (1 : Int) ≤ 6 by decide, show (6 : Int) ≤ 8 by decide⟩, sameM_refl _, fun h => absurd h (show ¬ (6 : Int) = 2 by decide), fun h => absurd h (show ¬ (6 : Int) = 7 by decide), ⟨o1.1, o1.2.1⟩, ⟨o2.1, o2.2.1⟩, ⟨Int.le_refl _, (by decide : (0 : Int) ≤ 1099511627776)⟩, ⟨Int.le_refl _, (by decide : (0 : Int) ≤ 64)⟩, mayBatch0, ⟨Int.le_refl _, (by decide : (0 : Int) ≤ 1048576)⟩, ⟨Int.le_refl _, (by decide : (0 : Int) ≤ 64)⟩, ⟨Int.le_refl _, (by decide : (0 : Int) ≤ 1099511627776)⟩, ⟨Nat.zero_le _, fun i hi => absurd hi (Nat.not_lt_zero i)⟩, ⟨Nat.zero_le _, fun i hi => absurd hi (Nat.not_lt_zero i)⟩, ⟨Nat.zero_le _, fun i hi => absurd hi (Nat.not_lt_zero i)⟩, Nat.zero_le _⟩
 ·exact ⟨fun i hi => absurd hi (Nat.not_lt_zero i), seg32, fun i hi => absurd hi (Nat.not_lt_zero i), fun i hi => absurd hi (Nat.not_lt_zero i), seg32, ⟨seg32, fun i hi => absurd hi (Nat.not_lt_zero i)⟩, fun i hi => absurd hi (Nat.not_lt_zero i)⟩
theorem fld7_rd {m : SMsg} (g : Good m) (ht : segMsg m) (hk : m.kind = 7) {s : RS} {t : List UInt8} (he : s.e = 0) (hb : s.l = bodyB m ++ t) : SameM (fld7 (msg0 m.kind) s).1 m ∧ (fld7 (msg0 m.kind) s).2 = { s with l := t } := by
 rw [bodyB] at hb
 rw [if_neg (by omega)] at hb
 rw [if_neg (by omega)] at hb
 rw [if_neg (by omega)] at hb
 rw [if_neg (by omega)] at hb
 rw [if_neg (by omega)] at hb
 rw [if_neg (by omega)] at hb
 rw [if_pos hk] at hb
 try simp only [numsB, List.append_nil, List.append_assoc] at hb
 have ho : SameM m (o7 m) := by have := g.only; rw [onlyS] at this; simpa [hk] using this
 obtain ⟨a1, b1⟩ := batch_rd g.batch ht.batch s _ he hb
 have e1 : f7S1 s = { s with l := certB m.cert ++ t } := by show (batchR s).2 = _; rw [b1]
 obtain ⟨a2, b2⟩ := cert_rd (g.cert hk) ht.cert (f7S1 s) _ (by rw [e1]; exact he) (by rw [e1])
 have e2 : f7S2 s = { s with l := t } := by show (certR (f7S1 s)).2 = _; rw [b2, e1]
 refine ⟨?_, e2⟩
 have hs := sameM_symm ho
 exact ⟨rfl, hs.epoch, hs.leader, hs.view, hs.slot, a1, hs.vote, hs.cepoch, hs.cleader, hs.cview, hs.held, hs.news, hs.digest, a2, hs.state, hs.sig⟩
theorem fld7_wr {s : RS} (he : (fld7 (msg0 7) s).2.e = 0) (hl : (fld7 (msg0 7) s).2.l = []) : s.e = 0 ∧ s.l = bodyB (fld7 (msg0 7) s).1 ∧ Good (fld7 (msg0 7) s).1 ∧ segMsg (fld7 (msg0 7) s).1 := by
 obtain ⟨g2, l2, o2, b2⟩ := cert_wr (f7S1 s) he
 obtain ⟨g1, l1, o1, b1⟩ := batch_wr s g2
 refine ⟨g1, ?_, ?_, ?_⟩
 ·have hk : (fld7 (msg0 7) s).1.kind = 7 := rfl
  rw [bodyB, hk]
  rw [if_neg (show ¬ (7 : Int) = 1 by decide)]
  rw [if_neg (show ¬ (7 : Int) = 2 by decide)]
  rw [if_neg (show ¬ (7 : Int) = 3 by decide)]
  rw [if_neg (show ¬ (7 : Int) = 4 by decide)]
  rw [if_neg (show ¬ (7 : Int) = 5 by decide)]
  rw [if_neg (show ¬ (7 : Int) = 6 by decide)]
  rw [if_pos (show (7 : Int) = 7 from rfl)]
  show s.l = batchB (batchR s).1 ++ (certB (certR (f7S1 s)).1)
  have z : s.l = (batchB (batchR s).1 ++ (certB (certR (f7S1 s)).1)) ++ (fld7 (msg0 7) s).2.l := by
   try simp only [numsB, List.append_nil, List.append_assoc]
   have l2' : (f7S1 s).l = certB (certR (f7S1 s)).1 ++ (fld7 (msg0 7) s).2.l := l2
   rw [← l2']
   have l1' : s.l = batchB (batchR s).1 ++ (f7S1 s).l := l1
   exact l1'
  rw [hl, List.append_nil] at z
  exact z
 ·exact ⟨⟨show (1 : Int) ≤ 7 by decide, show (7 : Int) ≤ 8 by decide⟩, sameM_refl _, fun h => absurd h (show ¬ (7 : Int) = 2 by decide), fun _ => o2.1, ⟨Int.le_refl _, (by decide : (0 : Int) ≤ 1048576)⟩, ⟨Int.le_refl _, (by decide : (0 : Int) ≤ 1099511627776)⟩, ⟨Int.le_refl _, (by decide : (0 : Int) ≤ 1099511627776)⟩, ⟨Int.le_refl _, (by decide : (0 : Int) ≤ 64)⟩, o1.1, ⟨Int.le_refl _, (by decide : (0 : Int) ≤ 1048576)⟩, ⟨Int.le_refl _, (by decide : (0 : Int) ≤ 64)⟩, ⟨Int.le_refl _, (by decide : (0 : Int) ≤ 1099511627776)⟩, ⟨Nat.zero_le _, fun i hi => absurd hi (Nat.not_lt_zero i)⟩, ⟨Nat.zero_le _, fun i hi => absurd hi (Nat.not_lt_zero i)⟩, ⟨Nat.zero_le _, fun i hi => absurd hi (Nat.not_lt_zero i)⟩, Nat.zero_le _⟩
 ·exact ⟨o1.2, seg32, fun i hi => absurd hi (Nat.not_lt_zero i), fun i hi => absurd hi (Nat.not_lt_zero i), seg32, o2.2, fun i hi => absurd hi (Nat.not_lt_zero i)⟩
theorem fld8_rd {m : SMsg} (g : Good m) (ht : segMsg m) (hk : m.kind = 8) {s : RS} {t : List UInt8} (he : s.e = 0) (hb : s.l = bodyB m ++ t) : SameM (fld8 (msg0 m.kind) s).1 m ∧ (fld8 (msg0 m.kind) s).2 = { s with l := t } := by
 rw [bodyB] at hb
 rw [if_neg (by omega)] at hb
 rw [if_neg (by omega)] at hb
 rw [if_neg (by omega)] at hb
 rw [if_neg (by omega)] at hb
 rw [if_neg (by omega)] at hb
 rw [if_neg (by omega)] at hb
 rw [if_neg (by omega)] at hb
 rw [if_pos hk] at hb
 try simp only [numsB, List.append_nil, List.append_assoc] at hb
 have ho : SameM m (o8 m) := by have := g.only; rw [onlyS] at this; simpa [hk] using this
 obtain ⟨a1, b1⟩ := text_rd (t := m.state) (most := 4194304) (by have := g.state; omega) (by decide) s _ he hb
 have e1 : f8S1 s = { s with l := putZ (m.n : Int) ++ (signsB m.sig m.n ++ t) } := by show (textR 4194304 s).2 = _; rw [b1]
 obtain ⟨n2, a2, b2⟩ := get_rd (one := signR) (enc := signB) (rel := fun x y => x = y) (el := m.sig) (n := m.n) (most := 64) (by have := g.sig.1; omega) (by decide) (fun i hi => sign_rd (g.sig.2 i hi) (ht.sig i hi)) (s := (f8S1 s)) (by rw [e1]; exact he) (tail := t) (by rw [e1]; simp only [numsB, List.append_nil, signsB_encs])
 have e2 : f8S2 s = { s with l := t } := by show getS signR 64 (f8S1 s) = _; rw [b2, e1]
 refine ⟨?_, e2⟩
 have hs := sameM_symm ho
 exact ⟨rfl, hs.epoch, hs.leader, hs.view, hs.slot, hs.batch, hs.vote, hs.cepoch, hs.cleader, hs.cview, hs.held, hs.news, hs.digest, hs.cert, a1, ⟨n2, fun i hi => a2 i (by rw [← n2]; exact hi)⟩⟩
theorem fld8_wr {s : RS} (he : (fld8 (msg0 8) s).2.e = 0) (hl : (fld8 (msg0 8) s).2.l = []) : s.e = 0 ∧ s.l = bodyB (fld8 (msg0 8) s).1 ∧ Good (fld8 (msg0 8) s).1 ∧ segMsg (fld8 (msg0 8) s).1 := by
 obtain ⟨g2, l2, n2, o2, b2⟩ := get_wr sign_wr (most := 64) (s := (f8S1 s)) he
 obtain ⟨g1, l1, o1, b1⟩ := text_wr 4194304 (by decide) s g2
 refine ⟨g1, ?_, ?_, ?_⟩
 ·have hk : (fld8 (msg0 8) s).1.kind = 8 := rfl
  rw [bodyB, hk]
  rw [if_neg (show ¬ (8 : Int) = 1 by decide)]
  rw [if_neg (show ¬ (8 : Int) = 2 by decide)]
  rw [if_neg (show ¬ (8 : Int) = 3 by decide)]
  rw [if_neg (show ¬ (8 : Int) = 4 by decide)]
  rw [if_neg (show ¬ (8 : Int) = 5 by decide)]
  rw [if_neg (show ¬ (8 : Int) = 6 by decide)]
  rw [if_neg (show ¬ (8 : Int) = 7 by decide)]
  rw [if_pos (show (8 : Int) = 8 from rfl)]
  show s.l = textB (textR 4194304 s).1 ++ ((numsB [((getN signR 64 (f8S1 s) : Nat) : Int)] ++ signsB (getEl signR 64 (f8S1 s)) (getN signR 64 (f8S1 s))))
  have z : s.l = (textB (textR 4194304 s).1 ++ ((numsB [((getN signR 64 (f8S1 s) : Nat) : Int)] ++ signsB (getEl signR 64 (f8S1 s)) (getN signR 64 (f8S1 s))))) ++ (fld8 (msg0 8) s).2.l := by
   try simp only [numsB, List.append_nil, List.append_assoc]
   have l2' : (f8S1 s).l = putZ ((getN signR 64 (f8S1 s) : Nat) : Int) ++ (signsB (getEl signR 64 (f8S1 s)) (getN signR 64 (f8S1 s)) ++ (fld8 (msg0 8) s).2.l) := by rw [signsB_encs]; have := l2; simp only [numsB, List.append_nil] at this; exact this
   rw [← l2']
   have l1' : s.l = textB (textR 4194304 s).1 ++ (f8S1 s).l := l1
   exact l1'
  rw [hl, List.append_nil] at z
  exact z
 ·exact ⟨⟨show (1 : Int) ≤ 8 by decide, show (8 : Int) ≤ 8 by decide⟩, sameM_refl _, fun h => absurd h (show ¬ (8 : Int) = 2 by decide), fun h => absurd h (show ¬ (8 : Int) = 7 by decide), ⟨Int.le_refl _, (by decide : (0 : Int) ≤ 1048576)⟩, ⟨Int.le_refl _, (by decide : (0 : Int) ≤ 1099511627776)⟩, ⟨Int.le_refl _, (by decide : (0 : Int) ≤ 1099511627776)⟩, ⟨Int.le_refl _, (by decide : (0 : Int) ≤ 64)⟩, mayBatch0, ⟨Int.le_refl _, (by decide : (0 : Int) ≤ 1048576)⟩, ⟨Int.le_refl _, (by decide : (0 : Int) ≤ 64)⟩, ⟨Int.le_refl _, (by decide : (0 : Int) ≤ 1099511627776)⟩, ⟨Nat.zero_le _, fun i hi => absurd hi (Nat.not_lt_zero i)⟩, ⟨Nat.zero_le _, fun i hi => absurd hi (Nat.not_lt_zero i)⟩, ⟨Int.ofNat_le.1 n2, fun i hi => (o2 i hi).1⟩, (by have : (((textR 4194304 s).1.size : Nat) : Int) ≤ 4194304 := o1; exact Int.ofNat_le.1 this)⟩
 ·exact ⟨fun i hi => absurd hi (Nat.not_lt_zero i), seg32, fun i hi => absurd hi (Nat.not_lt_zero i), fun i hi => absurd hi (Nat.not_lt_zero i), seg32, ⟨seg32, fun i hi => absurd hi (Nat.not_lt_zero i)⟩, fun i hi => (o2 i hi).2⟩
theorem fields_rd {m : SMsg} (g : Good m) (ht : segMsg m) {s : RS} {t : List UInt8} (he : s.e = 0) (hl : s.l = bodyB m ++ t) : SameM (fieldsR (msg0 m.kind) s).1 m ∧ (fieldsR (msg0 m.kind) s).2 = { s with l := t } := by
 have hk := g.kind
 have hm : (msg0 m.kind).kind = m.kind := rfl
 have : m.kind = 1 ∨ m.kind = 2 ∨ m.kind = 3 ∨ m.kind = 4 ∨ m.kind = 5 ∨ m.kind = 6 ∨ m.kind = 7 ∨ m.kind = 8 := by omega
 rcases this with h | h | h | h | h | h | h | h
 ·have e : fieldsR (msg0 m.kind) s = fld1 (msg0 m.kind) s := by simp only [fieldsR, hm, if_pos h]
  rw [e]; exact fld1_rd g ht h he hl
 ·have e : fieldsR (msg0 m.kind) s = fld2 (msg0 m.kind) s := by simp only [fieldsR, hm, if_neg (show ¬ m.kind = 1 by omega), if_pos h]
  rw [e]; exact fld2_rd g ht h he hl
 ·have e : fieldsR (msg0 m.kind) s = fld3 (msg0 m.kind) s := by simp only [fieldsR, hm, if_neg (show ¬ m.kind = 1 by omega), if_neg (show ¬ m.kind = 2 by omega), if_pos h]
  rw [e]; exact fld3_rd g ht h he hl
 ·have e : fieldsR (msg0 m.kind) s = fld4 (msg0 m.kind) s := by simp only [fieldsR, hm, if_neg (show ¬ m.kind = 1 by omega), if_neg (show ¬ m.kind = 2 by omega), if_neg (show ¬ m.kind = 3 by omega), if_pos h]
  rw [e]; exact fld4_rd g ht h he hl
 ·have e : fieldsR (msg0 m.kind) s = fld5 (msg0 m.kind) s := by simp only [fieldsR, hm, if_neg (show ¬ m.kind = 1 by omega), if_neg (show ¬ m.kind = 2 by omega), if_neg (show ¬ m.kind = 3 by omega), if_neg (show ¬ m.kind = 4 by omega), if_pos h]
  rw [e]; exact fld5_rd g ht h he hl
 ·have e : fieldsR (msg0 m.kind) s = fld6 (msg0 m.kind) s := by simp only [fieldsR, hm, if_neg (show ¬ m.kind = 1 by omega), if_neg (show ¬ m.kind = 2 by omega), if_neg (show ¬ m.kind = 3 by omega), if_neg (show ¬ m.kind = 4 by omega), if_neg (show ¬ m.kind = 5 by omega), if_pos h]
  rw [e]; exact fld6_rd g ht h he hl
 ·have e : fieldsR (msg0 m.kind) s = fld7 (msg0 m.kind) s := by simp only [fieldsR, hm, if_neg (show ¬ m.kind = 1 by omega), if_neg (show ¬ m.kind = 2 by omega), if_neg (show ¬ m.kind = 3 by omega), if_neg (show ¬ m.kind = 4 by omega), if_neg (show ¬ m.kind = 5 by omega), if_neg (show ¬ m.kind = 6 by omega), if_pos h]
  rw [e]; exact fld7_rd g ht h he hl
 ·have e : fieldsR (msg0 m.kind) s = fld8 (msg0 m.kind) s := by simp only [fieldsR, hm, if_neg (show ¬ m.kind = 1 by omega), if_neg (show ¬ m.kind = 2 by omega), if_neg (show ¬ m.kind = 3 by omega), if_neg (show ¬ m.kind = 4 by omega), if_neg (show ¬ m.kind = 5 by omega), if_neg (show ¬ m.kind = 6 by omega), if_neg (show ¬ m.kind = 7 by omega), if_pos h]
  rw [e]; exact fld8_rd g ht h he hl
theorem fields_wr {k : Int} (hk : 1 ≤ k ∧ k ≤ 8) {s : RS} (he : (fieldsR (msg0 k) s).2.e = 0) (hl : (fieldsR (msg0 k) s).2.l = []) : s.e = 0 ∧ s.l = bodyB (fieldsR (msg0 k) s).1 ∧ Good (fieldsR (msg0 k) s).1 ∧ segMsg (fieldsR (msg0 k) s).1 ∧ (fieldsR (msg0 k) s).1.kind = k := by
 have hm : (msg0 k).kind = k := rfl
 have : k = 1 ∨ k = 2 ∨ k = 3 ∨ k = 4 ∨ k = 5 ∨ k = 6 ∨ k = 7 ∨ k = 8 := by omega
 rcases this with rfl | rfl | rfl | rfl | rfl | rfl | rfl | rfl
 ·have e : fieldsR (msg0 1) s = fld1 (msg0 1) s := by simp only [fieldsR, hm, if_true]
  rw [e] at he hl ⊢
  obtain ⟨q1, q2, q3, q4⟩ := fld1_wr he hl
  exact ⟨q1, q2, q3, q4, rfl⟩
 ·have e : fieldsR (msg0 2) s = fld2 (msg0 2) s := by simp only [fieldsR, hm, if_neg (show ¬ (2 : Int) = 1 by decide), if_true]
  rw [e] at he hl ⊢
  obtain ⟨q1, q2, q3, q4⟩ := fld2_wr he hl
  exact ⟨q1, q2, q3, q4, rfl⟩
 ·have e : fieldsR (msg0 3) s = fld3 (msg0 3) s := by simp only [fieldsR, hm, if_neg (show ¬ (3 : Int) = 1 by decide), if_neg (show ¬ (3 : Int) = 2 by decide), if_true]
  rw [e] at he hl ⊢
  obtain ⟨q1, q2, q3, q4⟩ := fld3_wr he hl
  exact ⟨q1, q2, q3, q4, rfl⟩
 ·have e : fieldsR (msg0 4) s = fld4 (msg0 4) s := by simp only [fieldsR, hm, if_neg (show ¬ (4 : Int) = 1 by decide), if_neg (show ¬ (4 : Int) = 2 by decide), if_neg (show ¬ (4 : Int) = 3 by decide), if_true]
  rw [e] at he hl ⊢
  obtain ⟨q1, q2, q3, q4⟩ := fld4_wr he hl
  exact ⟨q1, q2, q3, q4, rfl⟩
 ·have e : fieldsR (msg0 5) s = fld5 (msg0 5) s := by simp only [fieldsR, hm, if_neg (show ¬ (5 : Int) = 1 by decide), if_neg (show ¬ (5 : Int) = 2 by decide), if_neg (show ¬ (5 : Int) = 3 by decide), if_neg (show ¬ (5 : Int) = 4 by decide), if_true]
  rw [e] at he hl ⊢
  obtain ⟨q1, q2, q3, q4⟩ := fld5_wr he hl
  exact ⟨q1, q2, q3, q4, rfl⟩
 ·have e : fieldsR (msg0 6) s = fld6 (msg0 6) s := by simp only [fieldsR, hm, if_neg (show ¬ (6 : Int) = 1 by decide), if_neg (show ¬ (6 : Int) = 2 by decide), if_neg (show ¬ (6 : Int) = 3 by decide), if_neg (show ¬ (6 : Int) = 4 by decide), if_neg (show ¬ (6 : Int) = 5 by decide), if_true]
  rw [e] at he hl ⊢
  obtain ⟨q1, q2, q3, q4⟩ := fld6_wr he hl
  exact ⟨q1, q2, q3, q4, rfl⟩
 ·have e : fieldsR (msg0 7) s = fld7 (msg0 7) s := by simp only [fieldsR, hm, if_neg (show ¬ (7 : Int) = 1 by decide), if_neg (show ¬ (7 : Int) = 2 by decide), if_neg (show ¬ (7 : Int) = 3 by decide), if_neg (show ¬ (7 : Int) = 4 by decide), if_neg (show ¬ (7 : Int) = 5 by decide), if_neg (show ¬ (7 : Int) = 6 by decide), if_true]
  rw [e] at he hl ⊢
  obtain ⟨q1, q2, q3, q4⟩ := fld7_wr he hl
  exact ⟨q1, q2, q3, q4, rfl⟩
 ·have e : fieldsR (msg0 8) s = fld8 (msg0 8) s := by simp only [fieldsR, hm, if_neg (show ¬ (8 : Int) = 1 by decide), if_neg (show ¬ (8 : Int) = 2 by decide), if_neg (show ¬ (8 : Int) = 3 by decide), if_neg (show ¬ (8 : Int) = 4 by decide), if_neg (show ¬ (8 : Int) = 5 by decide), if_neg (show ¬ (8 : Int) = 6 by decide), if_neg (show ¬ (8 : Int) = 7 by decide), if_true]
  rw [e] at he hl ⊢
  obtain ⟨q1, q2, q3, q4⟩ := fld8_wr he hl
  exact ⟨q1, q2, q3, q4, rfl⟩
/-- What was put is read, whatever stands behind. -/
theorem decF_enc {m : SMsg} (h : goodS m = true) (ht : segMsg m) (t : List UInt8) : decK (encB m ++ t) = m.kind ∧ (dec1 (encB m ++ t)).e = 0 ∧ SameM (decF (encB m ++ t)).1 m ∧ (decF (encB m ++ t)).2 = { l := t } := by
 have g := good_iff.1 h
 have hk := g.kind
 obtain ⟨a1, b1⟩ := num_rd (n := m.kind) (most := 8) (by omega) hk.2 (by decide) { l := encB m ++ t } (bodyB m ++ t) rfl (by rw [encB, List.append_assoc])
 have e1 : dec1 (encB m ++ t) = { l := bodyB m ++ t } := b1
 have eK : decK (encB m ++ t) = m.kind := a1
 obtain ⟨q1, q2⟩ := fields_rd g ht (s := { l := bodyB m ++ t }) (t := t) rfl rfl
 have eF : decF (encB m ++ t) = fieldsR (msg0 m.kind) { l := bodyB m ++ t } := by rw [decF, eK, e1]
 exact ⟨eK, by rw [e1], by rw [eF]; exact q1, by rw [eF, q2]⟩
theorem dec_enc {m : SMsg} (h : goodS m = true) (ht : segMsg m) (hlen : (encB m).length ≤ 4194304) : (decR (encB m)).2 = 0 ∧ sameMsgS (decR (encB m)).1 m = true := by
 have hk := (good_iff.1 h).kind
 obtain ⟨eK, e1, q1, q2⟩ := decF_enc h ht []
 rw [List.append_nil] at eK e1 q1 q2
 have : decR (encB m) = ((decF (encB m)).1, 0) := by
  unfold decR
  rw [if_neg (by omega), if_neg (by rw [eK]; omega), if_neg (by rw [q2]; simp), if_neg (by rw [q2]; simp [doneR])]
 rw [this]
 exact ⟨rfl, sameMsg_iff.2 q1⟩
/-- With more behind it there is no message. -/
theorem dec_more {m : SMsg} (h : goodS m = true) (ht : segMsg m) {t : List UInt8} (hne : t ≠ []) : (decR (encB m ++ t)).2 ≠ 0 := by
 have hk := (good_iff.1 h).kind
 obtain ⟨eK, e1, q1, q2⟩ := decF_enc h ht t
 unfold decR
 have hl : 0 < t.length := List.length_pos_iff.2 hne
 split
 ·decide
 ·rw [if_neg (by rw [eK]; omega), if_neg (by rw [q2]; simp)]
  have hd : doneR (decF (encB m ++ t)).2 = 12 := by rw [q2]; simp [doneR, hl]
  rw [hd, if_pos (by decide)]
  decide
/-- What is read was put. -/
theorem enc_dec {l : List UInt8} {x : SMsg} (h : decR l = (x, 0)) : goodS x = true ∧ segMsg x ∧ encB x = l ∧ l.length ≤ 4194304 := by
 unfold decR at h
 split at h
 ·exact absurd (congrArg Prod.snd h) (by simp)
 ·rename_i h0
  split at h
  ·exact absurd (congrArg Prod.snd h) (by simp)
  ·rename_i h1
   split at h
   ·exact absurd (congrArg Prod.snd h) (by simp)
   ·rename_i h2
    split at h
    ·rename_i h3
     exact absurd (congrArg Prod.snd h) h3
    ·rename_i h3
     have h3 : doneR (decF l).2 = 0 := by simpa using h3
     have hx : (decF l).1 = x := congrArg Prod.fst h
     have he : (decF l).2.e = 0 := by
      unfold doneR at h3
      split at h3
      ·rename_i h4; exact absurd h3 h4
      ·rename_i h4; simpa using h4
     have hl : (decF l).2.l = [] := by
      unfold doneR at h3
      rw [if_neg (by simpa using he)] at h3
      split at h3
      ·cases h3
      ·exact List.eq_nil_of_length_eq_zero (by omega)
     have he1 : (dec1 l).e = 0 := by
      refine Classical.byContradiction fun hne => ?_
      exact (fieldsR_aft (msg0 (decK l)) (dec1 l)).2 hne he
     obtain ⟨g1, g2, g3, g4⟩ := num_wr 8 { l := l } he1
     have hk : 1 ≤ decK l ∧ decK l ≤ 8 := by
      have k1 : 0 ≤ decK l := g3.1
      have k2 : decK l ≤ 8 := g3.2.1
      have k3 : decK l ≠ 0 := fun k3 => h1 ⟨k3, he1⟩
      omega
     obtain ⟨q1, q2, q3, q4, q5⟩ := fields_wr hk (s := dec1 l) he hl
     have hx' : (fieldsR (msg0 (decK l)) (dec1 l)).1 = x := hx
     rw [hx'] at q2 q3 q4 q5
     refine ⟨good_iff.2 q3, q4, ?_, by omega⟩
     rw [encB, q5, ← q2]
     exact g2.symm
/-- No beginning is a message. -/
theorem dec_begin {m : SMsg} (h : goodS m = true) (ht : segMsg m) {k : Nat} (hk : k < (encB m).length) : (decR ((encB m).take k)).2 ≠ 0 := by
 intro h0
 have h1 : decR ((encB m).take k) = ((decR ((encB m).take k)).1, 0) := by rw [← h0]
 obtain ⟨g1, g2, g3, g4⟩ := enc_dec h1
 have e : encB m = encB (decR ((encB m).take k)).1 ++ (encB m).drop k := by rw [g3, List.take_append_drop]
 obtain ⟨_, _, _, q2⟩ := decF_enc h ht []
 obtain ⟨_, _, _, r2⟩ := decF_enc g1 g2 ((encB m).drop k)
 rw [← e] at r2
 rw [List.append_nil, r2] at q2
 have := congrArg RS.l q2
 have hl := congrArg List.length this
 rw [List.length_drop] at hl
 simp at hl
 omega
end Go.Proofs.Ythifjamdfpjilaa
namespace Go.Proofs.Ythifjamdfpjilaa
open Go Sy Go.Proofs
def encE (m : SMsg) : Int := if goodS m = true then (if 4194304 < (encB m).length then 3 else 0) else 130
def encT (m : SMsg) : ByteArray := if encE m = 0 then baL (encB m) else ByteArray.mk (Array.mk [])
theorem num63_of {n : Int} {k : Int} (h : 0 ≤ n ∧ n ≤ k) (hk : k < 9223372036854775808) : num63 n := ⟨h.1, by omega⟩
theorem reqOk_of {r : SReq} (h : mayReqS r = true) (ht : SegOk 16 r.tag) : ReqOk r ∧ r.data.size ≤ 10000 := by
 simp only [mayReqS, Bool.and_eq_true, decide_eq_true_eq, upto_iff] at h
 exact ⟨⟨num63_of h.1 (by decide), num63_of h.2.1 (by decide), by omega, ht⟩, by omega⟩
theorem batchOk_of {b : SBatch} (h : mayBatchS b = true) (ht : segBatch b) : BatchOk b := by
 simp only [mayBatchS, Bool.and_eq_true, Bool.not_eq_true', Bool.and_eq_false_iff, decide_eq_false_iff_not, allS_iff] at h
 obtain ⟨h1, h2, h3⟩ := h
 refine ⟨by omega, fun hn => ?_, fun k hk => (reqOk_of (h3 k hk) (ht k hk)).1, fun k hk => (reqOk_of (h3 k hk) (ht k hk)).2⟩
 rcases h1 with h1 | h1
 ·rw [hn] at h1; cases h1
 ·omega
theorem voteOk_of {v : SVote} (h : mayVoteS v = true) (ht : SegOk 32 v.digest) : VoteOk v := by
 simp only [mayVoteS, Bool.and_eq_true, Bool.or_eq_true, decide_eq_true_eq, upto_iff] at h
 obtain ⟨h1, h2, h3, h4⟩ := h
 exact ⟨⟨by omega, by omega⟩, num63_of h2 (by decide), num63_of h3 (by decide), num63_of h4 (by decide), ht⟩
theorem signOk_of {s : SSign} (h : maySignS s = true) (ht : SegOk 16 s.tag) : SignOk s := ⟨num63_of (upto_iff.1 h) (by decide), ht⟩
theorem certOk_of {c : SCert} (h : mayCertS c = true) (ht : segCert c) : CertOk c := by
 simp only [mayCertS, Bool.and_eq_true, allS_iff] at h
 exact ⟨voteOk_of h.1 ht.vote, by have := h.2.1; omega, fun k hk => signOk_of (h.2.2 k hk) (ht.sig k hk)⟩
theorem heldOk_of {x : SHeld} (h : mayHeldS x = true) (ht : segHeld x) : HeldOk x := by
 simp only [mayHeldS, Bool.and_eq_true] at h
 exact ⟨batchOk_of h.1 ht.batch, certOk_of h.2 ht.cert⟩
theorem envOk_of {x : SEnv} (h : mayEnvS x = true) (ht : SegOk 16 x.tag) : EnvOk x := by
 simp only [mayEnvS, Bool.and_eq_true, decide_eq_true_eq, upto_iff] at h
 exact ⟨num63_of h.1 (by decide), by have := h.2; omega, ht⟩
theorem encOk_of {m : SMsg} (h : goodS m = true) (ht : segMsg m) : EncOk m := by
 have g := good_iff.1 h
 exact ⟨g.kind, num63_of g.epoch (by decide), num63_of g.leader (by decide), num63_of g.view (by decide), num63_of g.slot (by decide), num63_of g.cepoch (by decide), num63_of g.cleader (by decide), num63_of g.cview (by decide),
  batchOk_of g.batch ht.batch, fun hk => voteOk_of (g.vote hk) ht.vote, by have := g.held.1; omega, fun k hk => heldOk_of (g.held.2 k hk) (ht.held k hk), by have := g.news.1; omega, fun k hk => envOk_of (g.news.2 k hk) (ht.news k hk),
  ht.digest, fun hk => certOk_of (g.cert hk) ht.cert, by have := g.state; omega, by have := g.sig.1; omega, fun k hk => signOk_of (g.sig.2 k hk) (ht.sig k hk)⟩
theorem fitM_good {m : SMsg} (h : goodS m = true) : FitM m := by
 have g := good_iff.1 h
 have hb : ∀ {b : SBatch}, mayBatchS b = true → b.n ≤ 1000000 := fun h => by
  simp only [mayBatchS, Bool.and_eq_true, allS_iff] at h
  have := h.2.1; omega
 have hc : ∀ {c : SCert}, mayCertS c = true → c.n ≤ 1000000 := fun h => by
  simp only [mayCertS, Bool.and_eq_true, allS_iff] at h
  have := h.2.1; omega
 refine ⟨hb g.batch, by have := g.held.1; omega, fun k hk => ?_, by have := g.news.1; omega, ?_, by have := g.sig.1; omega⟩
 ·have := g.held.2 k hk
  simp only [mayHeldS, Bool.and_eq_true] at this
  exact ⟨hb this.1, hc this.2⟩
 ·by_cases h7 : m.kind = 7
  ·exact hc (g.cert h7)
  ·have ho := g.only.cert
   have : (onlyS m).cert = { vote := vote0 } := by
    unfold onlyS
    repeat' split
    all_goals first | rfl | contradiction
   rw [this] at ho
   have := (sameCert_iff.1 ho).2.1
   rw [this]; exact Nat.zero_le _
theorem T_encG {m : SMsg} (hf : FitM m) (ht : segMsg m) : T Try.prog 21 [.agg m.c] [] (.tup [.str (encT m), .int .i64 (encE m)]) [] := by
 have h := T_enc (m := m) (T_good hf) fun h => encOk_of h ht
 have e : encV m (goodS m) = .tup [.str (encT m), .int .i64 (encE m)] := by
  unfold encV encT encE
  cases goodS m with
  | false => rfl
  | true =>
   simp only [if_true]
   by_cases hl : 4194304 < (encB m).length
   ·simp only [if_pos hl]; rfl
   ·simp only [if_neg hl]; rfl
 rw [e] at h; exact h
theorem encE_zero {m : SMsg} (h : encE m = 0) : goodS m = true ∧ (encB m).length ≤ 4194304 ∧ encT m = baL (encB m) := by
 have h' := h
 unfold encE at h
 split at h
 ·rename_i h1
  split at h
  ·cases h
  ·rename_i h2
   exact ⟨h1, by omega, by rw [encT, if_pos h']⟩
 ·cases h
end Go.Proofs.Ythifjamdfpjilaa
namespace Go.Proofs.Ythifjamdfpjilaa
open Go Sy Go.Proofs
def rec0 (k : Int) : SRec := { kind := k, cert := { vote := vote0 } }
def sameRecS (a b : SRec) : Bool := decide (a.kind = b.kind) && (decide (a.leader = b.leader) && (decide (a.view = b.view) && (decide (a.slot = b.slot) && (decide (a.state = b.state) && (sameBatchS a.batch b.batch && (voteEq a.cert.vote b.cert.vote && (sameL a.cert.n b.cert.n (fun i => signEq (a.cert.sig i) (b.cert.sig i)) && sameL a.n b.n (fun i => signEq (a.sig i) (b.sig i)))))))))
def ro1 (r : SRec) : SRec := { rec0 r.kind with slot := r.slot, view := r.view, batch := r.batch }
def ro3 (r : SRec) : SRec := { rec0 r.kind with leader := r.leader, view := r.view }
def ro5 (r : SRec) : SRec := { rec0 r.kind with state := r.state, n := r.n, sig := r.sig }
def ro2 (r : SRec) : SRec := { rec0 r.kind with batch := r.batch, cert := r.cert }
def ro9 (r : SRec) : SRec := rec0 r.kind
def onlyRS (r : SRec) : SRec := if r.kind = 1 then ro1 r else if r.kind = 3 then ro3 r else if r.kind = 5 then ro5 r else if r.kind = 2 then ro2 r else if r.kind = 4 then ro2 r else ro9 r
def to1 (r : SRec) : SMsg := { msg0 1 with slot := r.slot, batch := r.batch }
def to3 (r : SRec) : SMsg := { msg0 4 with leader := r.leader, view := r.view }
def to5 (r : SRec) : SMsg := { msg0 8 with state := r.state, n := r.n, sig := r.sig }
def to7 (r : SRec) : SMsg := { msg0 7 with batch := r.batch, cert := r.cert }
def toldS (r : SRec) : SMsg := if r.kind = 1 then to1 r else if r.kind = 3 then to3 r else if r.kind = 5 then to5 r else to7 r
def goodRS (r : SRec) : Bool := decide (1 ≤ r.kind) && (decide (r.kind ≤ 5) && (sameRecS r (onlyRS r) && (goodS (toldS r) && (decide (0 ≤ r.view) && decide (r.view ≤ 1099511627776)))))
def rsI (a b : V) (n k : Nat) : St := ⟨mkT 26 [(0, a), (1, b), (12, .int .i64 n), (13, .int .i64 k)], [], 0, []⟩
noncomputable def bdXs (n n' : Nat) (a b : Nat → SSign) (m : Nat) : Bd := { f := Try.f141, args := [sg n a, sg n' b], kb := { db := fun _ _ _ _ => [], lp := fun _ _ => [(True, .loop (n + 1) (wTo (rsI (sg n a) (sg n' b) n 0)) (.exit 0) (rsI (sg n a) (sg n' b) n n)), (True, .loop (m + 1) (wTo (rsI (sg n a) (sg n' b) n 0)) .ret (smF 4 26))] } }
noncomputable def pcXs (n n' : Nat) (a b : Nat → SSign) (k : Nat) : Pc := { c := cB (cB (cR (cL (cR (cR (bodyOf Try.f141)))))), st := rsI (sg n a) (sg n' b) n k, kb := kb0, k := fun e _ => match e with
 | .normal => some (wTo (rsI (sg n a) (sg n' b) n (k + 1)))
 | .ret => some (wTo (smF 4 26))
 | _ => some (wTo (rsI (sg n a) (sg n' b) n n)) }
def dbXS (a b : SRec) : Nat → List V → Heap → Nat → List Cl := fun k _ _ lo => match k with
 | 109 => [{ val := .bool (sameBatchS a.batch b.batch) }]
 | 141 => bif Nat.blt (lo / 64) 64 then [{ val := .bool (sameL a.cert.n b.cert.n (fun i => signEq (a.cert.sig i) (b.cert.sig i))) }] else [{ val := .bool (sameL a.n b.n (fun i => signEq (a.sig i) (b.sig i))) }]
 | _ => []
noncomputable def bdXS (a b : SRec) : Bd := { f := Try.f120, args := [.agg a.c, .agg b.c], kb := { db := dbXS a b } }
noncomputable def bdYS (a b : SRec) : Bd := { f := Try.f29, args := [.agg a.c, .agg b.c], kb := { db := dbV [(67, .bool (sameBatchS a.batch b.batch)), (69, .bool (sameCertS a.cert b.cert)), (70, .bool (sameL a.n b.n (fun i => signEq (a.sig i) (b.sig i))))] } }
def kCl (cs : List V) : Exit → St → Option W := fun _ st => match getV st.tmps 2 with
 | .ptr a _ _ _ _ => some ⟨[], [(2, .set (.ptr a 0 0 0 0))], [(a, .set (.flat cs))], none, st.next⟩
 | _ => none
noncomputable def bdRo (r o : SRec) : Bd := { f := Try.f121, args := [.agg r.c], kb := kb0, k := kCl o.c }
noncomputable def bdRo1 (r : SRec) : Bd := bdRo r (ro1 r)
noncomputable def bdRo3 (r : SRec) : Bd := bdRo r (ro3 r)
noncomputable def bdRo5 (r : SRec) : Bd := bdRo r (ro5 r)
noncomputable def bdRo2 (r : SRec) : Bd := bdRo r (ro2 r)
noncomputable def bdRo9 (r : SRec) : Bd := bdRo r (ro9 r)
noncomputable def bdTo (r : SRec) (o : SMsg) : Bd := { f := Try.f85, args := [.agg r.c], kb := kb0, k := kCl o.c }
noncomputable def bdTo1 (r : SRec) : Bd := bdTo r (to1 r)
noncomputable def bdTo3 (r : SRec) : Bd := bdTo r (to3 r)
noncomputable def bdTo5 (r : SRec) : Bd := bdTo r (to5 r)
noncomputable def bdTo7 (r : SRec) : Bd := bdTo r (to7 r)
noncomputable def bdRg (r o : SRec) (t : SMsg) : Bd := { f := Try.f82, args := [.agg r.c], kb := { db := dbV [(121, .agg o.c), (120, .bool (sameRecS r o)), (85, .agg t.c), (24, .bool (goodS t))] } }
end Go.Proofs.Ythifjamdfpjilaa
namespace Go.Proofs.Ythifjamdfpjilaa
open Go Sy Go.Proofs
theorem bdXs_p1 (n : Nat) (n' : Nat) (a : Nat → SSign) (b : Nat → SSign) (m : Nat) :
  along Try.prog (bdXs n n' a b m) [true] = (some (.bool false, [], [(!decide ((↑n : Int) = (↑n' : Int))) = true]) : Option (V × Heap × List Prop)) := by kernel_rfl
theorem bdXs_p01 (n : Nat) (n' : Nat) (a : Nat → SSign) (b : Nat → SSign) (m : Nat) :
  along Try.prog (bdXs n n' a b m) [false, true] = (some (.bool true, [], [(!decide ((↑n : Int) = (↑n' : Int))) = false, RLoop Try.prog none 0 (cB (cB (cR (cL (cR (cR (bodyOf (Bd.f (bdXs n n' a b m))))))))) (n + 1) (St.mk [.ros 17 n (fun i => SSign.c (a i)) false, .ros 17 n' (fun i => SSign.c (b i)) false, .any, .any, .any, .any, .any, .any, .any, .any, .any, .any, .int .i64 ↑n, .int .i64 0, .any, .any, .any, .any, .any, .any, .any, .any, .any, .any, .any, .any] [] 0 []) (.exit 0) (St.mk [.ros 17 n (fun i => SSign.c (a i)) false, .ros 17 n' (fun i => SSign.c (b i)) false, .any, .any, .any, .any, .any, .any, .any, .any, .any, .any, .int .i64 ↑n, .int .i64 ↑n, .any, .any, .any, .any, .any, .any, .any, .any, .any, .any, .any, .any] [] 0 []), q n, ∀ (k : Nat), k < n → SSign.c (a k) = SSign.c (a k), false = true → false = true, q (n'), ∀ (k : Nat), k < n' → SSign.c (b k) = SSign.c (b k), false = true → false = true, q (↑n : Int), q1]) : Option (V × Heap × List Prop)) := by kernel_rfl
theorem bdXs_p00 (n : Nat) (n' : Nat) (a : Nat → SSign) (b : Nat → SSign) (m : Nat) :
  along Try.prog (bdXs n n' a b m) [false, false] = (some (.bool false, [], [(!decide ((↑n : Int) = (↑n' : Int))) = false, RLoop Try.prog none 0 (cB (cB (cR (cL (cR (cR (bodyOf (Bd.f (bdXs n n' a b m))))))))) (m + 1) (St.mk [.ros 17 n (fun i => SSign.c (a i)) false, .ros 17 n' (fun i => SSign.c (b i)) false, .any, .any, .any, .any, .any, .any, .any, .any, .any, .any, .int .i64 ↑n, .int .i64 0, .any, .any, .any, .any, .any, .any, .any, .any, .any, .any, .any, .any] [] 0 []) .ret (St.mk [.any, .any, .any, .any, .bool false, .any, .any, .any, .any, .any, .any, .any, .any, .any, .any, .any, .any, .any, .any, .any, .any, .any, .any, .any, .any, .any] [] 0 []), q n, ∀ (k : Nat), k < n → SSign.c (a k) = SSign.c (a k), false = true → false = true, q (n'), ∀ (k : Nat), k < n' → SSign.c (b k) = SSign.c (b k), false = true → false = true, q (↑n : Int), q1]) : Option (V × Heap × List Prop)) := by kernel_rfl

theorem pcXs_p11 (n : Nat) (n' : Nat) (a : Nat → SSign) (b : Nat → SSign) (k : Nat) :
  alongPc Try.prog (pcXs n n' a b k) [true, true] = (some (.ret, St.mk [.any, .any, .any, .any, .bool false, .any, .any, .any, .any, .any, .any, .any, .any, .any, .any, .any, .any, .any, .any, .any, .any, .any, .any, .any, .any, .any] [] 0 [], [decide ((↑k : Int) < (↑n : Int)) = true, (0 : Int) ≤ (↑k : Int) ∧ (↑k : Int) < (↑n : Int), (0 : Int) ≤ (↑k : Int) ∧ (↑k : Int) < (↑n' : Int), (!(decide (SSign.node (a (Int.toNat (↑k : Int))) = SSign.node (b (Int.toNat (↑k : Int)))) && (decide (SSign.tag (a (Int.toNat (↑k : Int))) = SSign.tag (b (Int.toNat (↑k : Int)))) && true))) = true, q false]) : Option (Exit × St × List Prop)) := by kernel_rfl
theorem pcXs_p10 (n : Nat) (n' : Nat) (a : Nat → SSign) (b : Nat → SSign) (k : Nat) :
  alongPc Try.prog (pcXs n n' a b k) [true, false] = (some (.normal, St.mk [.ros 17 n (fun i => SSign.c (a i)) false, .ros 17 n' (fun i => SSign.c (b i)) false, .any, .any, .any, .any, .any, .any, .any, .any, .any, .any, .int .i64 ↑n, .int .i64 (↑(k + 1) : Int), .any, .any, .any, .any, .any, .any, .any, .any, .any, .any, .any, .any] [] 0 [], [decide ((↑k : Int) < (↑n : Int)) = true, (0 : Int) ≤ (↑k : Int) ∧ (↑k : Int) < (↑n : Int), (0 : Int) ≤ (↑k : Int) ∧ (↑k : Int) < (↑n' : Int), (!(decide (SSign.node (a (Int.toNat (↑k : Int))) = SSign.node (b (Int.toNat (↑k : Int)))) && (decide (SSign.tag (a (Int.toNat (↑k : Int))) = SSign.tag (b (Int.toNat (↑k : Int)))) && true))) = false, InR IntKind.i64 ((↑k : Int) + (1 : Int)), q n, ∀ (k : Nat), k < n → SSign.c (a k) = SSign.c (a k), false = true → false = true, q (n'), ∀ (k : Nat), k < n' → SSign.c (b k) = SSign.c (b k), false = true → false = true, q (↑n : Int), (↑k : Int) + (1 : Int) = (↑(k + (1 : Nat)) : Int)]) : Option (Exit × St × List Prop)) := by kernel_rfl
theorem pcXs_p0 (n : Nat) (n' : Nat) (a : Nat → SSign) (b : Nat → SSign) (k : Nat) :
  alongPc Try.prog (pcXs n n' a b k) [false] = (some (.exit 0, St.mk [.ros 17 n (fun i => SSign.c (a i)) false, .ros 17 n' (fun i => SSign.c (b i)) false, .any, .any, .any, .any, .any, .any, .any, .any, .any, .any, .int .i64 ↑n, .int .i64 ↑n, .any, .any, .any, .any, .any, .any, .any, .any, .any, .any, .any, .any] [] 0 [], [decide ((↑k : Int) < (↑n : Int)) = false, q n, ∀ (k : Nat), k < n → SSign.c (a k) = SSign.c (a k), false = true → false = true, q (n'), ∀ (k : Nat), k < n' → SSign.c (b k) = SSign.c (b k), false = true → false = true, q (↑n : Int), (↑k : Int) = (↑n : Int)]) : Option (Exit × St × List Prop)) := by kernel_rfl

theorem bdXS_p11111111 (a : SRec) (b : SRec) :
  along Try.prog (bdXS a b) [true, true, true, true, true, true, true, true] = (some (.bool (sameL (SRec.n a) (SRec.n b) fun i => signEq (SRec.sig a i) (SRec.sig b i)), [], [decide (SRec.kind a = SRec.kind b) = true, decide (SRec.leader a = SRec.leader b) = true, decide (SRec.view a = SRec.view b) = true, decide (SRec.slot a = SRec.slot b) = true, decide (SRec.state a = SRec.state b) = true, T Try.prog 109 [.agg (SBatch.c (SRec.batch a)), .agg (SBatch.c (SRec.batch b))] [] (.bool (sameBatchS (SRec.batch a) (SRec.batch b))) [], sameBatchS (SRec.batch a) (SRec.batch b) = true, (decide (SVote.kind (SCert.vote (SRec.cert a)) = SVote.kind (SCert.vote (SRec.cert b))) && (decide (SVote.epoch (SCert.vote (SRec.cert a)) = SVote.epoch (SCert.vote (SRec.cert b))) && (decide (SVote.view (SCert.vote (SRec.cert a)) = SVote.view (SCert.vote (SRec.cert b))) && (decide (SVote.slot (SCert.vote (SRec.cert a)) = SVote.slot (SCert.vote (SRec.cert b))) && (decide (SVote.digest (SCert.vote (SRec.cert a)) = SVote.digest (SCert.vote (SRec.cert b))) && true))))) = true, T Try.prog 141 [.ros 17 (SCert.n (SRec.cert a)) (fun i => SSign.c (SCert.sig (SRec.cert a) i)) false, .ros 17 (SCert.n (SRec.cert b)) (fun i => SSign.c (SCert.sig (SRec.cert b) i)) false] [] (.bool (sameL (SCert.n (SRec.cert a)) (SCert.n (SRec.cert b)) fun i => signEq (SCert.sig (SRec.cert a) i) (SCert.sig (SRec.cert b) i))) [], (sameL (SCert.n (SRec.cert a)) (SCert.n (SRec.cert b)) fun i => signEq (SCert.sig (SRec.cert a) i) (SCert.sig (SRec.cert b) i)) = true, T Try.prog 141 [.ros 17 (SRec.n a) (fun i => SSign.c (SRec.sig a i)) false, .ros 17 (SRec.n b) (fun i => SSign.c (SRec.sig b i)) false] [] (.bool (sameL (SRec.n a) (SRec.n b) fun i => signEq (SRec.sig a i) (SRec.sig b i))) []]) : Option (V × Heap × List Prop)) := by kernel_rfl
theorem bdXS_p11111110 (a : SRec) (b : SRec) :
  along Try.prog (bdXS a b) [true, true, true, true, true, true, true, false] = (some (.bool false, [], [decide (SRec.kind a = SRec.kind b) = true, decide (SRec.leader a = SRec.leader b) = true, decide (SRec.view a = SRec.view b) = true, decide (SRec.slot a = SRec.slot b) = true, decide (SRec.state a = SRec.state b) = true, T Try.prog 109 [.agg (SBatch.c (SRec.batch a)), .agg (SBatch.c (SRec.batch b))] [] (.bool (sameBatchS (SRec.batch a) (SRec.batch b))) [], sameBatchS (SRec.batch a) (SRec.batch b) = true, (decide (SVote.kind (SCert.vote (SRec.cert a)) = SVote.kind (SCert.vote (SRec.cert b))) && (decide (SVote.epoch (SCert.vote (SRec.cert a)) = SVote.epoch (SCert.vote (SRec.cert b))) && (decide (SVote.view (SCert.vote (SRec.cert a)) = SVote.view (SCert.vote (SRec.cert b))) && (decide (SVote.slot (SCert.vote (SRec.cert a)) = SVote.slot (SCert.vote (SRec.cert b))) && (decide (SVote.digest (SCert.vote (SRec.cert a)) = SVote.digest (SCert.vote (SRec.cert b))) && true))))) = true, T Try.prog 141 [.ros 17 (SCert.n (SRec.cert a)) (fun i => SSign.c (SCert.sig (SRec.cert a) i)) false, .ros 17 (SCert.n (SRec.cert b)) (fun i => SSign.c (SCert.sig (SRec.cert b) i)) false] [] (.bool (sameL (SCert.n (SRec.cert a)) (SCert.n (SRec.cert b)) fun i => signEq (SCert.sig (SRec.cert a) i) (SCert.sig (SRec.cert b) i))) [], (sameL (SCert.n (SRec.cert a)) (SCert.n (SRec.cert b)) fun i => signEq (SCert.sig (SRec.cert a) i) (SCert.sig (SRec.cert b) i)) = false]) : Option (V × Heap × List Prop)) := by kernel_rfl
theorem bdXS_p11111100 (a : SRec) (b : SRec) :
  along Try.prog (bdXS a b) [true, true, true, true, true, true, false, false] = (some (.bool false, [], [decide (SRec.kind a = SRec.kind b) = true, decide (SRec.leader a = SRec.leader b) = true, decide (SRec.view a = SRec.view b) = true, decide (SRec.slot a = SRec.slot b) = true, decide (SRec.state a = SRec.state b) = true, T Try.prog 109 [.agg (SBatch.c (SRec.batch a)), .agg (SBatch.c (SRec.batch b))] [] (.bool (sameBatchS (SRec.batch a) (SRec.batch b))) [], sameBatchS (SRec.batch a) (SRec.batch b) = true, (decide (SVote.kind (SCert.vote (SRec.cert a)) = SVote.kind (SCert.vote (SRec.cert b))) && (decide (SVote.epoch (SCert.vote (SRec.cert a)) = SVote.epoch (SCert.vote (SRec.cert b))) && (decide (SVote.view (SCert.vote (SRec.cert a)) = SVote.view (SCert.vote (SRec.cert b))) && (decide (SVote.slot (SCert.vote (SRec.cert a)) = SVote.slot (SCert.vote (SRec.cert b))) && (decide (SVote.digest (SCert.vote (SRec.cert a)) = SVote.digest (SCert.vote (SRec.cert b))) && true))))) = false, q false]) : Option (V × Heap × List Prop)) := by kernel_rfl
theorem bdXS_p11111000 (a : SRec) (b : SRec) :
  along Try.prog (bdXS a b) [true, true, true, true, true, false, false, false] = (some (.bool false, [], [decide (SRec.kind a = SRec.kind b) = true, decide (SRec.leader a = SRec.leader b) = true, decide (SRec.view a = SRec.view b) = true, decide (SRec.slot a = SRec.slot b) = true, decide (SRec.state a = SRec.state b) = true, T Try.prog 109 [.agg (SBatch.c (SRec.batch a)), .agg (SBatch.c (SRec.batch b))] [] (.bool (sameBatchS (SRec.batch a) (SRec.batch b))) [], sameBatchS (SRec.batch a) (SRec.batch b) = false, q false, q false]) : Option (V × Heap × List Prop)) := by kernel_rfl
theorem bdXS_p11110000 (a : SRec) (b : SRec) :
  along Try.prog (bdXS a b) [true, true, true, true, false, false, false, false] = (some (.bool false, [], [decide (SRec.kind a = SRec.kind b) = true, decide (SRec.leader a = SRec.leader b) = true, decide (SRec.view a = SRec.view b) = true, decide (SRec.slot a = SRec.slot b) = true, decide (SRec.state a = SRec.state b) = false, q false, q false, q false]) : Option (V × Heap × List Prop)) := by kernel_rfl
theorem bdXS_p11100000 (a : SRec) (b : SRec) :
  along Try.prog (bdXS a b) [true, true, true, false, false, false, false, false] = (some (.bool false, [], [decide (SRec.kind a = SRec.kind b) = true, decide (SRec.leader a = SRec.leader b) = true, decide (SRec.view a = SRec.view b) = true, decide (SRec.slot a = SRec.slot b) = false, q false, q false, q false, q false]) : Option (V × Heap × List Prop)) := by kernel_rfl
theorem bdXS_p11000000 (a : SRec) (b : SRec) :
  along Try.prog (bdXS a b) [true, true, false, false, false, false, false, false] = (some (.bool false, [], [decide (SRec.kind a = SRec.kind b) = true, decide (SRec.leader a = SRec.leader b) = true, decide (SRec.view a = SRec.view b) = false, q false, q false, q false, q false, q false]) : Option (V × Heap × List Prop)) := by kernel_rfl
theorem bdXS_p10000000 (a : SRec) (b : SRec) :
  along Try.prog (bdXS a b) [true, false, false, false, false, false, false, false] = (some (.bool false, [], [decide (SRec.kind a = SRec.kind b) = true, decide (SRec.leader a = SRec.leader b) = false, q false, q false, q false, q false, q false, q false]) : Option (V × Heap × List Prop)) := by kernel_rfl
theorem bdXS_p00000000 (a : SRec) (b : SRec) :
  along Try.prog (bdXS a b) [false, false, false, false, false, false, false, false] = (some (.bool false, [], [decide (SRec.kind a = SRec.kind b) = false, q false, q false, q false, q false, q false, q false, q false]) : Option (V × Heap × List Prop)) := by kernel_rfl

theorem bdYS_p11111 (a : SRec) (b : SRec) :
  along Try.prog (bdYS a b) [true, true, true, true, true] = (some (.bool false, [], [(!decide (SRec.kind a = SRec.kind b)) = true, q2, q2, q2, q2]) : Option (V × Heap × List Prop)) := by kernel_rfl
theorem bdYS_p01111 (a : SRec) (b : SRec) :
  along Try.prog (bdYS a b) [false, true, true, true, true] = (some (.bool false, [], [(!decide (SRec.kind a = SRec.kind b)) = false, (!decide (SRec.leader a = SRec.leader b)) = true, q2, q2, q2]) : Option (V × Heap × List Prop)) := by kernel_rfl
theorem bdYS_p00111 (a : SRec) (b : SRec) :
  along Try.prog (bdYS a b) [false, false, true, true, true] = (some (.bool false, [], [(!decide (SRec.kind a = SRec.kind b)) = false, (!decide (SRec.leader a = SRec.leader b)) = false, (!decide (SRec.view a = SRec.view b)) = true, q2, q2]) : Option (V × Heap × List Prop)) := by kernel_rfl
theorem bdYS_p00011 (a : SRec) (b : SRec) :
  along Try.prog (bdYS a b) [false, false, false, true, true] = (some (.bool false, [], [(!decide (SRec.kind a = SRec.kind b)) = false, (!decide (SRec.leader a = SRec.leader b)) = false, (!decide (SRec.view a = SRec.view b)) = false, (!decide (SRec.slot a = SRec.slot b)) = true, q2]) : Option (V × Heap × List Prop)) := by kernel_rfl
theorem bdYS_p00001 (a : SRec) (b : SRec) :
  along Try.prog (bdYS a b) [false, false, false, false, true] = (some (.bool false, [], [(!decide (SRec.kind a = SRec.kind b)) = false, (!decide (SRec.leader a = SRec.leader b)) = false, (!decide (SRec.view a = SRec.view b)) = false, (!decide (SRec.slot a = SRec.slot b)) = false, (!decide (SRec.state a = SRec.state b)) = true]) : Option (V × Heap × List Prop)) := by kernel_rfl
theorem bdYS_p0000011 (a : SRec) (b : SRec) :
  along Try.prog (bdYS a b) [false, false, false, false, false, true, true] = (some (.bool (sameL (SRec.n a) (SRec.n b) fun i => signEq (SRec.sig a i) (SRec.sig b i)), [], [(!decide (SRec.kind a = SRec.kind b)) = false, (!decide (SRec.leader a = SRec.leader b)) = false, (!decide (SRec.view a = SRec.view b)) = false, (!decide (SRec.slot a = SRec.slot b)) = false, (!decide (SRec.state a = SRec.state b)) = false, T Try.prog 67 [.agg (SBatch.c (SRec.batch a)), .agg (SBatch.c (SRec.batch b))] [] (.bool (sameBatchS (SRec.batch a) (SRec.batch b))) [], sameBatchS (SRec.batch a) (SRec.batch b) = true, T Try.prog 69 [.agg [.int .i64 (SVote.kind (SCert.vote (SRec.cert a))), .int .i64 (SVote.epoch (SCert.vote (SRec.cert a))), .int .i64 (SVote.view (SCert.vote (SRec.cert a))), .int .i64 (SVote.slot (SCert.vote (SRec.cert a))), .seg .u8 32 (SVote.digest (SCert.vote (SRec.cert a))), sg (SCert.n (SRec.cert a)) (SCert.sig (SRec.cert a))], .agg [.int .i64 (SVote.kind (SCert.vote (SRec.cert b))), .int .i64 (SVote.epoch (SCert.vote (SRec.cert b))), .int .i64 (SVote.view (SCert.vote (SRec.cert b))), .int .i64 (SVote.slot (SCert.vote (SRec.cert b))), .seg .u8 32 (SVote.digest (SCert.vote (SRec.cert b))), sg (SCert.n (SRec.cert b)) (SCert.sig (SRec.cert b))]] [] (.bool (sameCertS (SRec.cert a) (SRec.cert b))) [], sameCertS (SRec.cert a) (SRec.cert b) = true, T Try.prog 70 [.ros 17 (SRec.n a) (fun i => SSign.c (SRec.sig a i)) false, .ros 17 (SRec.n b) (fun i => SSign.c (SRec.sig b i)) false] [] (.bool (sameL (SRec.n a) (SRec.n b) fun i => signEq (SRec.sig a i) (SRec.sig b i))) []]) : Option (V × Heap × List Prop)) := by kernel_rfl
theorem bdYS_p0000010 (a : SRec) (b : SRec) :
  along Try.prog (bdYS a b) [false, false, false, false, false, true, false] = (some (.bool false, [], [(!decide (SRec.kind a = SRec.kind b)) = false, (!decide (SRec.leader a = SRec.leader b)) = false, (!decide (SRec.view a = SRec.view b)) = false, (!decide (SRec.slot a = SRec.slot b)) = false, (!decide (SRec.state a = SRec.state b)) = false, T Try.prog 67 [.agg (SBatch.c (SRec.batch a)), .agg (SBatch.c (SRec.batch b))] [] (.bool (sameBatchS (SRec.batch a) (SRec.batch b))) [], sameBatchS (SRec.batch a) (SRec.batch b) = true, T Try.prog 69 [.agg [.int .i64 (SVote.kind (SCert.vote (SRec.cert a))), .int .i64 (SVote.epoch (SCert.vote (SRec.cert a))), .int .i64 (SVote.view (SCert.vote (SRec.cert a))), .int .i64 (SVote.slot (SCert.vote (SRec.cert a))), .seg .u8 32 (SVote.digest (SCert.vote (SRec.cert a))), sg (SCert.n (SRec.cert a)) (SCert.sig (SRec.cert a))], .agg [.int .i64 (SVote.kind (SCert.vote (SRec.cert b))), .int .i64 (SVote.epoch (SCert.vote (SRec.cert b))), .int .i64 (SVote.view (SCert.vote (SRec.cert b))), .int .i64 (SVote.slot (SCert.vote (SRec.cert b))), .seg .u8 32 (SVote.digest (SCert.vote (SRec.cert b))), sg (SCert.n (SRec.cert b)) (SCert.sig (SRec.cert b))]] [] (.bool (sameCertS (SRec.cert a) (SRec.cert b))) [], sameCertS (SRec.cert a) (SRec.cert b) = false]) : Option (V × Heap × List Prop)) := by kernel_rfl
theorem bdYS_p0000000 (a : SRec) (b : SRec) :
  along Try.prog (bdYS a b) [false, false, false, false, false, false, false] = (some (.bool false, [], [(!decide (SRec.kind a = SRec.kind b)) = false, (!decide (SRec.leader a = SRec.leader b)) = false, (!decide (SRec.view a = SRec.view b)) = false, (!decide (SRec.slot a = SRec.slot b)) = false, (!decide (SRec.state a = SRec.state b)) = false, T Try.prog 67 [.agg (SBatch.c (SRec.batch a)), .agg (SBatch.c (SRec.batch b))] [] (.bool (sameBatchS (SRec.batch a) (SRec.batch b))) [], sameBatchS (SRec.batch a) (SRec.batch b) = false, q false]) : Option (V × Heap × List Prop)) := by kernel_rfl

theorem bdRo1_p1 (r : SRec) :
  along Try.prog (bdRo1 r) [true] = (some (.agg [.int .i64 (SRec.kind r), .int .i64 0, .int .i64 (SRec.view r), .int .i64 (SRec.slot r), .bool (SBatch.noop (SRec.batch r)), rq (SBatch.n (SRec.batch r)) (SBatch.req (SRec.batch r)), .int .i64 0, .int .i64 0, .int .i64 0, .int .i64 0, .seg .u8 32 z32, sg 0 fun x => SSign.mk (0 : Int) [], .str ByteArray.empty, sg 0 fun x => SSign.mk (0 : Int) []], [], [decide (SRec.kind r = (1 : Int)) = true, q (SRec.kind r), q1, q (SRec.view r), q (SRec.slot r), q (SBatch.noop (SRec.batch r)), q (SBatch.n (SRec.batch r)), ∀ (k : Nat), k < SBatch.n (SRec.batch r) → SReq.c (SBatch.req (SRec.batch r) k) = SReq.c (SBatch.req (SRec.batch r) k), false = true → false = true, q1, q1, q1, q1, q (32 : Nat), q z32, q0, q ByteArray.empty, q0, q0, q0, q0]) : Option (V × Heap × List Prop)) := by kernel_rfl

theorem bdRo3_p01 (r : SRec) :
  along Try.prog (bdRo3 r) [false, true] = (some (.agg [.int .i64 (SRec.kind r), .int .i64 (SRec.leader r), .int .i64 (SRec.view r), .int .i64 0, .bool false, rq 0 fun x => SReq.mk (0 : Int) (0 : Int) ByteArray.empty [], .int .i64 0, .int .i64 0, .int .i64 0, .int .i64 0, .seg .u8 32 z32, sg 0 fun x => SSign.mk (0 : Int) [], .str ByteArray.empty, sg 0 fun x => SSign.mk (0 : Int) []], [], [decide (SRec.kind r = (1 : Int)) = false, decide (SRec.kind r = (3 : Int)) = true, q (SRec.kind r), q (SRec.leader r), q (SRec.view r), q1, q false, q0, q1, q1, q1, q1, q (32 : Nat), q z32, q0, q ByteArray.empty, q0, q0, q0, q0]) : Option (V × Heap × List Prop)) := by kernel_rfl

theorem bdRo5_p001 (r : SRec) :
  along Try.prog (bdRo5 r) [false, false, true] = (some (.agg [.int .i64 (SRec.kind r), .int .i64 0, .int .i64 0, .int .i64 0, .bool false, rq 0 fun x => SReq.mk (0 : Int) (0 : Int) ByteArray.empty [], .int .i64 0, .int .i64 0, .int .i64 0, .int .i64 0, .seg .u8 32 z32, sg 0 fun x => SSign.mk (0 : Int) [], .str (SRec.state r), sg (SRec.n r) (SRec.sig r)], [], [decide (SRec.kind r = (1 : Int)) = false, decide (SRec.kind r = (3 : Int)) = false, decide (SRec.kind r = (5 : Int)) = true, q (SRec.kind r), q1, q1, q1, q false, q0, q1, q1, q1, q1, q (32 : Nat), q z32, q0, q (SRec.state r), q (SRec.n r), ∀ (k : Nat), k < SRec.n r → SSign.c (SRec.sig r k) = SSign.c (SRec.sig (SRec.mk (SRec.kind r) (0 : Int) (0 : Int) (0 : Int) (SBatch.mk false (0 : Nat) fun x => SReq.mk (0 : Int) (0 : Int) ByteArray.empty []) (SCert.mk vote0 (0 : Nat) fun x => SSign.mk (0 : Int) []) (SRec.state r) (SRec.n r) (SRec.sig r)) k), false = true → false = true, q0, q0, q0]) : Option (V × Heap × List Prop)) := by kernel_rfl

theorem bdRo2_p0001 (r : SRec) :
  along Try.prog (bdRo2 r) [false, false, false, true] = (some (.agg [.int .i64 (SRec.kind r), .int .i64 0, .int .i64 0, .int .i64 0, .bool (SBatch.noop (SRec.batch r)), rq (SBatch.n (SRec.batch r)) (SBatch.req (SRec.batch r)), .int .i64 (SVote.kind (SCert.vote (SRec.cert r))), .int .i64 (SVote.epoch (SCert.vote (SRec.cert r))), .int .i64 (SVote.view (SCert.vote (SRec.cert r))), .int .i64 (SVote.slot (SCert.vote (SRec.cert r))), .seg .u8 32 (SVote.digest (SCert.vote (SRec.cert r))), sg (SCert.n (SRec.cert r)) (SCert.sig (SRec.cert r)), .str ByteArray.empty, sg 0 fun x => SSign.mk (0 : Int) []], [], [decide (SRec.kind r = (1 : Int)) = false, decide (SRec.kind r = (3 : Int)) = false, decide (SRec.kind r = (5 : Int)) = false, decide (SRec.kind r = (2 : Int)) = true, q (SRec.kind r), q1, q1, q1, q (SBatch.noop (SRec.batch r)), q (SBatch.n (SRec.batch r)), ∀ (k : Nat), k < SBatch.n (SRec.batch r) → SReq.c (SBatch.req (SRec.batch r) k) = SReq.c (SBatch.req (SRec.batch r) k), false = true → false = true, q (SVote.kind (SCert.vote (SRec.cert r))), q (SVote.epoch (SCert.vote (SRec.cert r))), q (SVote.view (SCert.vote (SRec.cert r))), q (SVote.slot (SCert.vote (SRec.cert r))), q (32 : Nat), q (SVote.digest (SCert.vote (SRec.cert r))), q (SCert.n (SRec.cert r)), ∀ (k : Nat), k < SCert.n (SRec.cert r) → SSign.c (SCert.sig (SRec.cert r) k) = SSign.c (SCert.sig (SRec.cert r) k), false = true → false = true, q ByteArray.empty, q0, q0, q0, q0]) : Option (V × Heap × List Prop)) := by kernel_rfl

theorem bdRo2_p00001 (r : SRec) :
  along Try.prog (bdRo2 r) [false, false, false, false, true] = (some (.agg [.int .i64 (SRec.kind r), .int .i64 0, .int .i64 0, .int .i64 0, .bool (SBatch.noop (SRec.batch r)), rq (SBatch.n (SRec.batch r)) (SBatch.req (SRec.batch r)), .int .i64 (SVote.kind (SCert.vote (SRec.cert r))), .int .i64 (SVote.epoch (SCert.vote (SRec.cert r))), .int .i64 (SVote.view (SCert.vote (SRec.cert r))), .int .i64 (SVote.slot (SCert.vote (SRec.cert r))), .seg .u8 32 (SVote.digest (SCert.vote (SRec.cert r))), sg (SCert.n (SRec.cert r)) (SCert.sig (SRec.cert r)), .str ByteArray.empty, sg 0 fun x => SSign.mk (0 : Int) []], [], [decide (SRec.kind r = (1 : Int)) = false, decide (SRec.kind r = (3 : Int)) = false, decide (SRec.kind r = (5 : Int)) = false, decide (SRec.kind r = (2 : Int)) = false, decide (SRec.kind r = (4 : Int)) = true, q (SRec.kind r), q1, q1, q1, q (SBatch.noop (SRec.batch r)), q (SBatch.n (SRec.batch r)), ∀ (k : Nat), k < SBatch.n (SRec.batch r) → SReq.c (SBatch.req (SRec.batch r) k) = SReq.c (SBatch.req (SRec.batch r) k), false = true → false = true, q (SVote.kind (SCert.vote (SRec.cert r))), q (SVote.epoch (SCert.vote (SRec.cert r))), q (SVote.view (SCert.vote (SRec.cert r))), q (SVote.slot (SCert.vote (SRec.cert r))), q (32 : Nat), q (SVote.digest (SCert.vote (SRec.cert r))), q (SCert.n (SRec.cert r)), ∀ (k : Nat), k < SCert.n (SRec.cert r) → SSign.c (SCert.sig (SRec.cert r) k) = SSign.c (SCert.sig (SRec.cert r) k), false = true → false = true, q ByteArray.empty, q0, q0, q0, q0]) : Option (V × Heap × List Prop)) := by kernel_rfl

theorem bdRo9_p00000 (r : SRec) :
  along Try.prog (bdRo9 r) [false, false, false, false, false] = (some (.agg [.int .i64 (SRec.kind r), .int .i64 0, .int .i64 0, .int .i64 0, .bool false, rq 0 fun x => SReq.mk (0 : Int) (0 : Int) ByteArray.empty [], .int .i64 0, .int .i64 0, .int .i64 0, .int .i64 0, .seg .u8 32 z32, sg 0 fun x => SSign.mk (0 : Int) [], .str ByteArray.empty, sg 0 fun x => SSign.mk (0 : Int) []], [], [decide (SRec.kind r = (1 : Int)) = false, decide (SRec.kind r = (3 : Int)) = false, decide (SRec.kind r = (5 : Int)) = false, decide (SRec.kind r = (2 : Int)) = false, decide (SRec.kind r = (4 : Int)) = false, q (SRec.kind r), q1, q1, q1, q false, q0, q1, q1, q1, q1, q (32 : Nat), q z32, q0, q ByteArray.empty, q0, q0, q0, q0]) : Option (V × Heap × List Prop)) := by kernel_rfl

theorem bdTo1_p1 (r : SRec) :
  along Try.prog (bdTo1 r) [true] = (some (.agg [.int .i64 1, .int .i64 0, .int .i64 0, .int .i64 0, .int .i64 (SRec.slot r), .bool (SBatch.noop (SRec.batch r)), rq (SBatch.n (SRec.batch r)) (SBatch.req (SRec.batch r)), .int .i64 0, .int .i64 0, .int .i64 0, .int .i64 0, .seg .u8 32 z32, .int .i64 0, .int .i64 0, .int .i64 0, hl 0 fun x => SHeld.mk (SBatch.mk false 0 fun x => SReq.mk (0 : Int) (0 : Int) ByteArray.empty []) (SCert.mk (SVote.mk (0 : Int) (0 : Int) (0 : Int) (0 : Int) []) 0 fun x => SSign.mk (0 : Int) []), nw 0 fun x => SEnv.mk (0 : Int) ByteArray.empty [], .seg .u8 32 z32, .int .i64 0, .int .i64 0, .int .i64 0, .int .i64 0, .seg .u8 32 z32, sg 0 fun x => SSign.mk (0 : Int) [], .str ByteArray.empty, sg 0 fun x => SSign.mk (0 : Int) []], [], [decide (SRec.kind r = (1 : Int)) = true, q (1 : Int), q1, q1, q1, q (SRec.slot r), q (SBatch.noop (SRec.batch r)), q (SBatch.n (SRec.batch r)), ∀ (k : Nat), k < SBatch.n (SRec.batch r) → SReq.c (SBatch.req (SRec.batch r) k) = SReq.c (SBatch.req (SRec.batch r) k), false = true → false = true, q1, q1, q1, q1, q (32 : Nat), q z32, q1, q1, q1, q0, q0, q (32 : Nat), q z32, q1, q1, q1, q1, q (32 : Nat), q z32, q0, q ByteArray.empty, q0, q0, q0, q0]) : Option (V × Heap × List Prop)) := by kernel_rfl

theorem bdTo3_p01 (r : SRec) :
  along Try.prog (bdTo3 r) [false, true] = (some (.agg [.int .i64 4, .int .i64 0, .int .i64 (SRec.leader r), .int .i64 (SRec.view r), .int .i64 0, .bool false, rq 0 fun x => SReq.mk (0 : Int) (0 : Int) ByteArray.empty [], .int .i64 0, .int .i64 0, .int .i64 0, .int .i64 0, .seg .u8 32 z32, .int .i64 0, .int .i64 0, .int .i64 0, hl 0 fun x => SHeld.mk (SBatch.mk false 0 fun x => SReq.mk (0 : Int) (0 : Int) ByteArray.empty []) (SCert.mk (SVote.mk (0 : Int) (0 : Int) (0 : Int) (0 : Int) []) 0 fun x => SSign.mk (0 : Int) []), nw 0 fun x => SEnv.mk (0 : Int) ByteArray.empty [], .seg .u8 32 z32, .int .i64 0, .int .i64 0, .int .i64 0, .int .i64 0, .seg .u8 32 z32, sg 0 fun x => SSign.mk (0 : Int) [], .str ByteArray.empty, sg 0 fun x => SSign.mk (0 : Int) []], [], [decide (SRec.kind r = (1 : Int)) = false, decide (SRec.kind r = (3 : Int)) = true, q (4 : Int), q1, q (SRec.leader r), q (SRec.view r), q1, q false, q0, q1, q1, q1, q1, q (32 : Nat), q z32, q1, q1, q1, q0, q0, q (32 : Nat), q z32, q1, q1, q1, q1, q (32 : Nat), q z32, q0, q ByteArray.empty, q0, q0, q0, q0]) : Option (V × Heap × List Prop)) := by kernel_rfl

theorem bdTo5_p001 (r : SRec) :
  along Try.prog (bdTo5 r) [false, false, true] = (some (.agg [.int .i64 8, .int .i64 0, .int .i64 0, .int .i64 0, .int .i64 0, .bool false, rq 0 fun x => SReq.mk (0 : Int) (0 : Int) ByteArray.empty [], .int .i64 0, .int .i64 0, .int .i64 0, .int .i64 0, .seg .u8 32 z32, .int .i64 0, .int .i64 0, .int .i64 0, hl 0 fun x => SHeld.mk (SBatch.mk false 0 fun x => SReq.mk (0 : Int) (0 : Int) ByteArray.empty []) (SCert.mk (SVote.mk (0 : Int) (0 : Int) (0 : Int) (0 : Int) []) 0 fun x => SSign.mk (0 : Int) []), nw 0 fun x => SEnv.mk (0 : Int) ByteArray.empty [], .seg .u8 32 z32, .int .i64 0, .int .i64 0, .int .i64 0, .int .i64 0, .seg .u8 32 z32, sg 0 fun x => SSign.mk (0 : Int) [], .str (SRec.state r), sg (SRec.n r) (SRec.sig r)], [], [decide (SRec.kind r = (1 : Int)) = false, decide (SRec.kind r = (3 : Int)) = false, decide (SRec.kind r = (5 : Int)) = true, q (8 : Int), q1, q1, q1, q1, q false, q0, q1, q1, q1, q1, q (32 : Nat), q z32, q1, q1, q1, q0, q0, q (32 : Nat), q z32, q1, q1, q1, q1, q (32 : Nat), q z32, q0, q (SRec.state r), q (SRec.n r), ∀ (k : Nat), k < SRec.n r → SSign.c (SRec.sig r k) = SSign.c (SMsg.sig (SMsg.mk (8 : Int) (0 : Int) (0 : Int) (0 : Int) (0 : Int) (SBatch.mk false (0 : Nat) fun x => SReq.mk (0 : Int) (0 : Int) ByteArray.empty []) vote0 (0 : Int) (0 : Int) (0 : Int) (0 : Nat) (fun x => SHeld.mk (SBatch.mk false (0 : Nat) fun x => SReq.mk (0 : Int) (0 : Int) ByteArray.empty []) (SCert.mk (SVote.mk (0 : Int) (0 : Int) (0 : Int) (0 : Int) []) (0 : Nat) fun x => SSign.mk (0 : Int) [])) (0 : Nat) (fun x => SEnv.mk (0 : Int) ByteArray.empty []) z32 (SCert.mk vote0 (0 : Nat) fun x => SSign.mk (0 : Int) []) (SRec.state r) (SRec.n r) (SRec.sig r)) k), false = true → false = true, q0, q0, q0]) : Option (V × Heap × List Prop)) := by kernel_rfl

theorem bdTo7_p000 (r : SRec) :
  along Try.prog (bdTo7 r) [false, false, false] = (some (.agg [.int .i64 7, .int .i64 0, .int .i64 0, .int .i64 0, .int .i64 0, .bool (SBatch.noop (SRec.batch r)), rq (SBatch.n (SRec.batch r)) (SBatch.req (SRec.batch r)), .int .i64 0, .int .i64 0, .int .i64 0, .int .i64 0, .seg .u8 32 z32, .int .i64 0, .int .i64 0, .int .i64 0, hl 0 fun x => SHeld.mk (SBatch.mk false 0 fun x => SReq.mk (0 : Int) (0 : Int) ByteArray.empty []) (SCert.mk (SVote.mk (0 : Int) (0 : Int) (0 : Int) (0 : Int) []) 0 fun x => SSign.mk (0 : Int) []), nw 0 fun x => SEnv.mk (0 : Int) ByteArray.empty [], .seg .u8 32 z32, .int .i64 (SVote.kind (SCert.vote (SRec.cert r))), .int .i64 (SVote.epoch (SCert.vote (SRec.cert r))), .int .i64 (SVote.view (SCert.vote (SRec.cert r))), .int .i64 (SVote.slot (SCert.vote (SRec.cert r))), .seg .u8 32 (SVote.digest (SCert.vote (SRec.cert r))), sg (SCert.n (SRec.cert r)) (SCert.sig (SRec.cert r)), .str ByteArray.empty, sg 0 fun x => SSign.mk (0 : Int) []], [], [decide (SRec.kind r = (1 : Int)) = false, decide (SRec.kind r = (3 : Int)) = false, decide (SRec.kind r = (5 : Int)) = false, q (7 : Int), q1, q1, q1, q1, q (SBatch.noop (SRec.batch r)), q (SBatch.n (SRec.batch r)), ∀ (k : Nat), k < SBatch.n (SRec.batch r) → SReq.c (SBatch.req (SRec.batch r) k) = SReq.c (SBatch.req (SRec.batch r) k), false = true → false = true, q1, q1, q1, q1, q (32 : Nat), q z32, q1, q1, q1, q0, q0, q (32 : Nat), q z32, q (SVote.kind (SCert.vote (SRec.cert r))), q (SVote.epoch (SCert.vote (SRec.cert r))), q (SVote.view (SCert.vote (SRec.cert r))), q (SVote.slot (SCert.vote (SRec.cert r))), q (32 : Nat), q (SVote.digest (SCert.vote (SRec.cert r))), q (SCert.n (SRec.cert r)), ∀ (k : Nat), k < SCert.n (SRec.cert r) → SSign.c (SCert.sig (SRec.cert r) k) = SSign.c (SCert.sig (SRec.cert r) k), false = true → false = true, q ByteArray.empty, q0, q0, q0, q0]) : Option (V × Heap × List Prop)) := by kernel_rfl

theorem bdRg_p11111 (r : SRec) (o : SRec) (t : SMsg) :
  along Try.prog (bdRg r o t) [true, true, true, true, true] = (some (.bool (decide (SRec.view r ≤ (1099511627776 : Int))), [], [decide ((1 : Int) ≤ SRec.kind r) = true, decide (SRec.kind r ≤ (5 : Int)) = true, T Try.prog 121 [.agg (SRec.c r)] [] (.agg (SRec.c o)) [], T Try.prog 120 [.agg (SRec.c r), .agg (SRec.c o)] [] (.bool (sameRecS r o)) [], sameRecS r o = true, T Try.prog 85 [.agg (SRec.c r)] [] (.agg (SMsg.c t)) [], T Try.prog 24 [.agg (SMsg.c t)] [] (.bool (goodS t)) [], goodS t = true, decide ((0 : Int) ≤ SRec.view r) = true]) : Option (V × Heap × List Prop)) := by kernel_rfl
theorem bdRg_p11110 (r : SRec) (o : SRec) (t : SMsg) :
  along Try.prog (bdRg r o t) [true, true, true, true, false] = (some (.bool false, [], [decide ((1 : Int) ≤ SRec.kind r) = true, decide (SRec.kind r ≤ (5 : Int)) = true, T Try.prog 121 [.agg (SRec.c r)] [] (.agg (SRec.c o)) [], T Try.prog 120 [.agg (SRec.c r), .agg (SRec.c o)] [] (.bool (sameRecS r o)) [], sameRecS r o = true, T Try.prog 85 [.agg (SRec.c r)] [] (.agg (SMsg.c t)) [], T Try.prog 24 [.agg (SMsg.c t)] [] (.bool (goodS t)) [], goodS t = true, decide ((0 : Int) ≤ SRec.view r) = false]) : Option (V × Heap × List Prop)) := by kernel_rfl
theorem bdRg_p11100 (r : SRec) (o : SRec) (t : SMsg) :
  along Try.prog (bdRg r o t) [true, true, true, false, false] = (some (.bool false, [], [decide ((1 : Int) ≤ SRec.kind r) = true, decide (SRec.kind r ≤ (5 : Int)) = true, T Try.prog 121 [.agg (SRec.c r)] [] (.agg (SRec.c o)) [], T Try.prog 120 [.agg (SRec.c r), .agg (SRec.c o)] [] (.bool (sameRecS r o)) [], sameRecS r o = true, T Try.prog 85 [.agg (SRec.c r)] [] (.agg (SMsg.c t)) [], T Try.prog 24 [.agg (SMsg.c t)] [] (.bool (goodS t)) [], goodS t = false, q false]) : Option (V × Heap × List Prop)) := by kernel_rfl
theorem bdRg_p11000 (r : SRec) (o : SRec) (t : SMsg) :
  along Try.prog (bdRg r o t) [true, true, false, false, false] = (some (.bool false, [], [decide ((1 : Int) ≤ SRec.kind r) = true, decide (SRec.kind r ≤ (5 : Int)) = true, T Try.prog 121 [.agg (SRec.c r)] [] (.agg (SRec.c o)) [], T Try.prog 120 [.agg (SRec.c r), .agg (SRec.c o)] [] (.bool (sameRecS r o)) [], sameRecS r o = false, q false, q false]) : Option (V × Heap × List Prop)) := by kernel_rfl
theorem bdRg_p10000 (r : SRec) (o : SRec) (t : SMsg) :
  along Try.prog (bdRg r o t) [true, false, false, false, false] = (some (.bool false, [], [decide ((1 : Int) ≤ SRec.kind r) = true, decide (SRec.kind r ≤ (5 : Int)) = false, q false, q false, q false]) : Option (V × Heap × List Prop)) := by kernel_rfl
theorem bdRg_p00000 (r : SRec) (o : SRec) (t : SMsg) :
  along Try.prog (bdRg r o t) [false, false, false, false, false] = (some (.bool false, [], [decide ((1 : Int) ≤ SRec.kind r) = false, q false, q false, q false, q false]) : Option (V × Heap × List Prop)) := by kernel_rfl

theorem T_xs {n n' : Nat} (a b : Nat → SSign) (hn : n ≤ 1000000) : T Try.prog 141 [sg n a, sg n' b] [] (.bool (sameL n n' (fun i => signEq (a i) (b i)))) [] := by
 by_cases hnn : n = n'
 ·subst hnn
  rcases loop_all (P := Try.prog) (ro := none) (p := 0) (c := cB (cB (cR (cL (cR (cR (bodyOf Try.f141))))))) (I := rsI (sg n a) (sg n b) n) (F := fun _ => smF 4 26) (e := fun _ => .ret) (q := fun k => signEq (a k) (b k) = true) (n := n)
   (fun k hk hq => by
    refine R_alongPc NG MO _ (pcXs_p10 n n a b k) ?_ (Nat.zero_le _)
    simp only [All, Int.toNat_natCast]; and_intros
    all_goals first
     | exact neg_t hq
     | (simp [hk, IntKind.min, IntKind.max, IntKind.signed, IntKind.bits] <;> omega))
   (fun k hk hq => by
    refine R_alongPc NG MO _ (pcXs_p11 n n a b k) ?_ (Nat.zero_le _)
    simp only [All, Int.toNat_natCast]; and_intros
    all_goals first
     | exact neg_f hq
     | (simp [hk, IntKind.min, IntKind.max, IntKind.signed, IntKind.bits] <;> omega))
   (by simp) (R_alongPc NG MO _ (pcXs_p0 n n a b n) (by simp [All]) (Nat.zero_le _)) (by simp) with ⟨h, hL⟩ | ⟨m, hm, _, hq, hL⟩
  ·refine T.bool (T_al (bdXs_p01 n n a b n) Try.func141 ⟨by simp, hL, ?_⟩) (by simp [sameL]; exact h)
   simp [All]
  ·refine T.bool (T_al (bdXs_p00 n n a b m) Try.func141 ⟨by simp, hL, ?_⟩) (by
    have : ¬ ∀ i, i < n → signEq (a i) (b i) = true := fun h => hq (h m hm)
    simp only [sameL, this, decide_false, Bool.and_false])
   simp [All]
 ·exact T.bool (T_al (bdXs_p1 n n' a b 0) Try.func141 ⟨by simp <;> omega, trivial⟩) (by simp [sameL, hnn])
structure FitRec (a : SRec) : Prop where
 batch : a.batch.n ≤ 1000000
 cert : a.cert.n ≤ 1000000
 n : a.n ≤ 1000000
theorem T_xS (a b : SRec) (h : FitRec a) : T Try.prog 120 [.agg a.c, .agg b.c] [] (.bool (sameRecS a b)) [] := by
 rcases Bool.eq_false_or_eq_true (decide (SRec.kind a = SRec.kind b)) with h1 | h1
 ·
  rcases Bool.eq_false_or_eq_true (decide (SRec.leader a = SRec.leader b)) with h2 | h2
  ·
   rcases Bool.eq_false_or_eq_true (decide (SRec.view a = SRec.view b)) with h3 | h3
   ·
    rcases Bool.eq_false_or_eq_true (decide (SRec.slot a = SRec.slot b)) with h4 | h4
    ·
     rcases Bool.eq_false_or_eq_true (decide (SRec.state a = SRec.state b)) with h5 | h5
     ·
      rcases Bool.eq_false_or_eq_true (sameBatchS (SRec.batch a) (SRec.batch b)) with h6 | h6
      ·
       rcases Bool.eq_false_or_eq_true ((decide (SVote.kind (SCert.vote (SRec.cert a)) = SVote.kind (SCert.vote (SRec.cert b))) && (decide (SVote.epoch (SCert.vote (SRec.cert a)) = SVote.epoch (SCert.vote (SRec.cert b))) && (decide (SVote.view (SCert.vote (SRec.cert a)) = SVote.view (SCert.vote (SRec.cert b))) && (decide (SVote.slot (SCert.vote (SRec.cert a)) = SVote.slot (SCert.vote (SRec.cert b))) && (decide (SVote.digest (SCert.vote (SRec.cert a)) = SVote.digest (SCert.vote (SRec.cert b))) && true)))))) with h7 | h7
       ·
        rcases Bool.eq_false_or_eq_true ((sameL (SCert.n (SRec.cert a)) (SCert.n (SRec.cert b)) fun i => signEq (SCert.sig (SRec.cert a) i) (SCert.sig (SRec.cert b) i))) with h8 | h8
        ·
         refine T.conv (T_al (bdXS_p11111111 a b) Try.func120 ?_) rfl rfl ?_ ?_
         ·simp only [All]; and_intros
          all_goals first
           | assumption
           | exact T_bS a.batch b.batch h.batch
           | exact T_xs a.cert.sig b.cert.sig h.cert
           | exact T_xs a.sig b.sig h.n
           | trivial
           | rfl
           | (intro _ _; trivial)
           | (intro _ _; rfl)
           | (simp; done)
           | omega
         ·first | replace h1 := not_t h1 | replace h1 := not_f h1 | skip
          first | replace h2 := not_t h2 | replace h2 := not_f h2 | skip
          first | replace h3 := not_t h3 | replace h3 := not_f h3 | skip
          first | replace h4 := not_t h4 | replace h4 := not_f h4 | skip
          first | replace h5 := not_t h5 | replace h5 := not_f h5 | skip
          first | replace h6 := not_t h6 | replace h6 := not_f h6 | skip
          first | replace h7 := not_t h7 | replace h7 := not_f h7 | skip
          first | replace h8 := not_t h8 | replace h8 := not_f h8 | skip
          first | rfl | (congr 1; simp only [sameRecS, voteEq, h1, h2, h3, h4, h5, h6, h7, h8, Bool.true_and, Bool.false_and, Bool.and_false]; done)
         ·rfl
        ·
         refine T.conv (T_al (bdXS_p11111110 a b) Try.func120 ?_) rfl rfl ?_ ?_
         ·simp only [All]; and_intros
          all_goals first
           | assumption
           | exact T_bS a.batch b.batch h.batch
           | exact T_xs a.cert.sig b.cert.sig h.cert
           | exact T_xs a.sig b.sig h.n
           | trivial
           | rfl
           | (intro _ _; trivial)
           | (intro _ _; rfl)
           | (simp; done)
           | omega
         ·first | replace h1 := not_t h1 | replace h1 := not_f h1 | skip
          first | replace h2 := not_t h2 | replace h2 := not_f h2 | skip
          first | replace h3 := not_t h3 | replace h3 := not_f h3 | skip
          first | replace h4 := not_t h4 | replace h4 := not_f h4 | skip
          first | replace h5 := not_t h5 | replace h5 := not_f h5 | skip
          first | replace h6 := not_t h6 | replace h6 := not_f h6 | skip
          first | replace h7 := not_t h7 | replace h7 := not_f h7 | skip
          first | replace h8 := not_t h8 | replace h8 := not_f h8 | skip
          first | rfl | (congr 1; simp only [sameRecS, voteEq, h1, h2, h3, h4, h5, h6, h7, h8, Bool.true_and, Bool.false_and, Bool.and_false]; done)
         ·rfl
       ·
        refine T.conv (T_al (bdXS_p11111100 a b) Try.func120 ?_) rfl rfl ?_ ?_
        ·simp only [All]; and_intros
         all_goals first
          | assumption
          | exact T_bS a.batch b.batch h.batch
          | exact T_xs a.cert.sig b.cert.sig h.cert
          | exact T_xs a.sig b.sig h.n
          | trivial
          | rfl
          | (intro _ _; trivial)
          | (intro _ _; rfl)
          | (simp; done)
          | omega
        ·first | replace h1 := not_t h1 | replace h1 := not_f h1 | skip
         first | replace h2 := not_t h2 | replace h2 := not_f h2 | skip
         first | replace h3 := not_t h3 | replace h3 := not_f h3 | skip
         first | replace h4 := not_t h4 | replace h4 := not_f h4 | skip
         first | replace h5 := not_t h5 | replace h5 := not_f h5 | skip
         first | replace h6 := not_t h6 | replace h6 := not_f h6 | skip
         first | replace h7 := not_t h7 | replace h7 := not_f h7 | skip
         first | rfl | (congr 1; simp only [sameRecS, voteEq, h1, h2, h3, h4, h5, h6, h7, Bool.true_and, Bool.false_and, Bool.and_false]; done)
        ·rfl
      ·
       refine T.conv (T_al (bdXS_p11111000 a b) Try.func120 ?_) rfl rfl ?_ ?_
       ·simp only [All]; and_intros
        all_goals first
         | assumption
         | exact T_bS a.batch b.batch h.batch
         | exact T_xs a.cert.sig b.cert.sig h.cert
         | exact T_xs a.sig b.sig h.n
         | trivial
         | rfl
         | (intro _ _; trivial)
         | (intro _ _; rfl)
         | (simp; done)
         | omega
       ·first | replace h1 := not_t h1 | replace h1 := not_f h1 | skip
        first | replace h2 := not_t h2 | replace h2 := not_f h2 | skip
        first | replace h3 := not_t h3 | replace h3 := not_f h3 | skip
        first | replace h4 := not_t h4 | replace h4 := not_f h4 | skip
        first | replace h5 := not_t h5 | replace h5 := not_f h5 | skip
        first | replace h6 := not_t h6 | replace h6 := not_f h6 | skip
        first | rfl | (congr 1; simp only [sameRecS, voteEq, h1, h2, h3, h4, h5, h6, Bool.true_and, Bool.false_and, Bool.and_false]; done)
       ·rfl
     ·
      refine T.conv (T_al (bdXS_p11110000 a b) Try.func120 ?_) rfl rfl ?_ ?_
      ·simp only [All]; and_intros
       all_goals first
        | assumption
        | exact T_bS a.batch b.batch h.batch
        | exact T_xs a.cert.sig b.cert.sig h.cert
        | exact T_xs a.sig b.sig h.n
        | trivial
        | rfl
        | (intro _ _; trivial)
        | (intro _ _; rfl)
        | (simp; done)
        | omega
      ·first | replace h1 := not_t h1 | replace h1 := not_f h1 | skip
       first | replace h2 := not_t h2 | replace h2 := not_f h2 | skip
       first | replace h3 := not_t h3 | replace h3 := not_f h3 | skip
       first | replace h4 := not_t h4 | replace h4 := not_f h4 | skip
       first | replace h5 := not_t h5 | replace h5 := not_f h5 | skip
       first | rfl | (congr 1; simp only [sameRecS, voteEq, h1, h2, h3, h4, h5, Bool.true_and, Bool.false_and, Bool.and_false]; done)
      ·rfl
    ·
     refine T.conv (T_al (bdXS_p11100000 a b) Try.func120 ?_) rfl rfl ?_ ?_
     ·simp only [All]; and_intros
      all_goals first
       | assumption
       | exact T_bS a.batch b.batch h.batch
       | exact T_xs a.cert.sig b.cert.sig h.cert
       | exact T_xs a.sig b.sig h.n
       | trivial
       | rfl
       | (intro _ _; trivial)
       | (intro _ _; rfl)
       | (simp; done)
       | omega
     ·first | replace h1 := not_t h1 | replace h1 := not_f h1 | skip
      first | replace h2 := not_t h2 | replace h2 := not_f h2 | skip
      first | replace h3 := not_t h3 | replace h3 := not_f h3 | skip
      first | replace h4 := not_t h4 | replace h4 := not_f h4 | skip
      first | rfl | (congr 1; simp only [sameRecS, voteEq, h1, h2, h3, h4, Bool.true_and, Bool.false_and, Bool.and_false]; done)
     ·rfl
   ·
    refine T.conv (T_al (bdXS_p11000000 a b) Try.func120 ?_) rfl rfl ?_ ?_
    ·simp only [All]; and_intros
     all_goals first
      | assumption
      | exact T_bS a.batch b.batch h.batch
      | exact T_xs a.cert.sig b.cert.sig h.cert
      | exact T_xs a.sig b.sig h.n
      | trivial
      | rfl
      | (intro _ _; trivial)
      | (intro _ _; rfl)
      | (simp; done)
      | omega
    ·first | replace h1 := not_t h1 | replace h1 := not_f h1 | skip
     first | replace h2 := not_t h2 | replace h2 := not_f h2 | skip
     first | replace h3 := not_t h3 | replace h3 := not_f h3 | skip
     first | rfl | (congr 1; simp only [sameRecS, voteEq, h1, h2, h3, Bool.true_and, Bool.false_and, Bool.and_false]; done)
    ·rfl
  ·
   refine T.conv (T_al (bdXS_p10000000 a b) Try.func120 ?_) rfl rfl ?_ ?_
   ·simp only [All]; and_intros
    all_goals first
     | assumption
     | exact T_bS a.batch b.batch h.batch
     | exact T_xs a.cert.sig b.cert.sig h.cert
     | exact T_xs a.sig b.sig h.n
     | trivial
     | rfl
     | (intro _ _; trivial)
     | (intro _ _; rfl)
     | (simp; done)
     | omega
   ·first | replace h1 := not_t h1 | replace h1 := not_f h1 | skip
    first | replace h2 := not_t h2 | replace h2 := not_f h2 | skip
    first | rfl | (congr 1; simp only [sameRecS, voteEq, h1, h2, Bool.true_and, Bool.false_and, Bool.and_false]; done)
   ·rfl
 ·
  refine T.conv (T_al (bdXS_p00000000 a b) Try.func120 ?_) rfl rfl ?_ ?_
  ·simp only [All]; and_intros
   all_goals first
    | assumption
    | exact T_bS a.batch b.batch h.batch
    | exact T_xs a.cert.sig b.cert.sig h.cert
    | exact T_xs a.sig b.sig h.n
    | trivial
    | rfl
    | (intro _ _; trivial)
    | (intro _ _; rfl)
    | (simp; done)
    | omega
  ·first | replace h1 := not_t h1 | replace h1 := not_f h1 | skip
   first | rfl | (congr 1; simp only [sameRecS, voteEq, h1, Bool.true_and, Bool.false_and, Bool.and_false]; done)
  ·rfl
def yRecS (a b : SRec) : Bool := decide (a.kind = b.kind) && (decide (a.leader = b.leader) && (decide (a.view = b.view) && (decide (a.slot = b.slot) && (decide (a.state = b.state) && (sameBatchS a.batch b.batch && (sameCertS a.cert b.cert && sameL a.n b.n (fun i => signEq (a.sig i) (b.sig i))))))))
theorem T_yS1 (a b : SRec) (h : FitRec a) : T Try.prog 29 [.agg a.c, .agg b.c] [] (.bool (yRecS a b)) [] := by
 rcases Bool.eq_false_or_eq_true ((!decide (SRec.kind a = SRec.kind b))) with h1 | h1
 ·
  refine T.conv (T_al (bdYS_p11111 a b) Try.func29 ?_) rfl rfl ?_ ?_
  ·simp only [All]; and_intros
   all_goals first
    | assumption
    | exact T_rb a.batch b.batch h.batch
    | exact T_rc a.cert b.cert h.cert
    | exact T_rs a.sig b.sig h.n
    | trivial
    | rfl
    | (intro _ _; trivial)
    | (intro _ _; rfl)
    | (simp; done)
    | omega
  ·first | replace h1 := not_t h1 | replace h1 := not_f h1 | skip
   first | rfl | (congr 1; simp only [yRecS, h1, Bool.true_and, Bool.false_and, Bool.and_false]; done)
  ·rfl
 ·
  rcases Bool.eq_false_or_eq_true ((!decide (SRec.leader a = SRec.leader b))) with h2 | h2
  ·
   refine T.conv (T_al (bdYS_p01111 a b) Try.func29 ?_) rfl rfl ?_ ?_
   ·simp only [All]; and_intros
    all_goals first
     | assumption
     | exact T_rb a.batch b.batch h.batch
     | exact T_rc a.cert b.cert h.cert
     | exact T_rs a.sig b.sig h.n
     | trivial
     | rfl
     | (intro _ _; trivial)
     | (intro _ _; rfl)
     | (simp; done)
     | omega
   ·first | replace h1 := not_t h1 | replace h1 := not_f h1 | skip
    first | replace h2 := not_t h2 | replace h2 := not_f h2 | skip
    first | rfl | (congr 1; simp only [yRecS, h1, h2, Bool.true_and, Bool.false_and, Bool.and_false]; done)
   ·rfl
  ·
   rcases Bool.eq_false_or_eq_true ((!decide (SRec.view a = SRec.view b))) with h3 | h3
   ·
    refine T.conv (T_al (bdYS_p00111 a b) Try.func29 ?_) rfl rfl ?_ ?_
    ·simp only [All]; and_intros
     all_goals first
      | assumption
      | exact T_rb a.batch b.batch h.batch
      | exact T_rc a.cert b.cert h.cert
      | exact T_rs a.sig b.sig h.n
      | trivial
      | rfl
      | (intro _ _; trivial)
      | (intro _ _; rfl)
      | (simp; done)
      | omega
    ·first | replace h1 := not_t h1 | replace h1 := not_f h1 | skip
     first | replace h2 := not_t h2 | replace h2 := not_f h2 | skip
     first | replace h3 := not_t h3 | replace h3 := not_f h3 | skip
     first | rfl | (congr 1; simp only [yRecS, h1, h2, h3, Bool.true_and, Bool.false_and, Bool.and_false]; done)
    ·rfl
   ·
    rcases Bool.eq_false_or_eq_true ((!decide (SRec.slot a = SRec.slot b))) with h4 | h4
    ·
     refine T.conv (T_al (bdYS_p00011 a b) Try.func29 ?_) rfl rfl ?_ ?_
     ·simp only [All]; and_intros
      all_goals first
       | assumption
       | exact T_rb a.batch b.batch h.batch
       | exact T_rc a.cert b.cert h.cert
       | exact T_rs a.sig b.sig h.n
       | trivial
       | rfl
       | (intro _ _; trivial)
       | (intro _ _; rfl)
       | (simp; done)
       | omega
     ·first | replace h1 := not_t h1 | replace h1 := not_f h1 | skip
      first | replace h2 := not_t h2 | replace h2 := not_f h2 | skip
      first | replace h3 := not_t h3 | replace h3 := not_f h3 | skip
      first | replace h4 := not_t h4 | replace h4 := not_f h4 | skip
      first | rfl | (congr 1; simp only [yRecS, h1, h2, h3, h4, Bool.true_and, Bool.false_and, Bool.and_false]; done)
     ·rfl
    ·
     rcases Bool.eq_false_or_eq_true ((!decide (SRec.state a = SRec.state b))) with h5 | h5
     ·
      refine T.conv (T_al (bdYS_p00001 a b) Try.func29 ?_) rfl rfl ?_ ?_
      ·simp only [All]; and_intros
       all_goals first
        | assumption
        | exact T_rb a.batch b.batch h.batch
        | exact T_rc a.cert b.cert h.cert
        | exact T_rs a.sig b.sig h.n
        | trivial
        | rfl
        | (intro _ _; trivial)
        | (intro _ _; rfl)
        | (simp; done)
        | omega
      ·first | replace h1 := not_t h1 | replace h1 := not_f h1 | skip
       first | replace h2 := not_t h2 | replace h2 := not_f h2 | skip
       first | replace h3 := not_t h3 | replace h3 := not_f h3 | skip
       first | replace h4 := not_t h4 | replace h4 := not_f h4 | skip
       first | replace h5 := not_t h5 | replace h5 := not_f h5 | skip
       first | rfl | (congr 1; simp only [yRecS, h1, h2, h3, h4, h5, Bool.true_and, Bool.false_and, Bool.and_false]; done)
      ·rfl
     ·
      rcases Bool.eq_false_or_eq_true (sameBatchS (SRec.batch a) (SRec.batch b)) with h6 | h6
      ·
       rcases Bool.eq_false_or_eq_true (sameCertS (SRec.cert a) (SRec.cert b)) with h7 | h7
       ·
        refine T.conv (T_al (bdYS_p0000011 a b) Try.func29 ?_) rfl rfl ?_ ?_
        ·simp only [All]; and_intros
         all_goals first
          | assumption
          | exact T_rb a.batch b.batch h.batch
          | exact T_rc a.cert b.cert h.cert
          | exact T_rs a.sig b.sig h.n
          | trivial
          | rfl
          | (intro _ _; trivial)
          | (intro _ _; rfl)
          | (simp; done)
          | omega
        ·first | replace h1 := not_t h1 | replace h1 := not_f h1 | skip
         first | replace h2 := not_t h2 | replace h2 := not_f h2 | skip
         first | replace h3 := not_t h3 | replace h3 := not_f h3 | skip
         first | replace h4 := not_t h4 | replace h4 := not_f h4 | skip
         first | replace h5 := not_t h5 | replace h5 := not_f h5 | skip
         first | replace h6 := not_t h6 | replace h6 := not_f h6 | skip
         first | replace h7 := not_t h7 | replace h7 := not_f h7 | skip
         first | rfl | (congr 1; simp only [yRecS, h1, h2, h3, h4, h5, h6, h7, Bool.true_and, Bool.false_and, Bool.and_false]; done)
        ·rfl
       ·
        refine T.conv (T_al (bdYS_p0000010 a b) Try.func29 ?_) rfl rfl ?_ ?_
        ·simp only [All]; and_intros
         all_goals first
          | assumption
          | exact T_rb a.batch b.batch h.batch
          | exact T_rc a.cert b.cert h.cert
          | exact T_rs a.sig b.sig h.n
          | trivial
          | rfl
          | (intro _ _; trivial)
          | (intro _ _; rfl)
          | (simp; done)
          | omega
        ·first | replace h1 := not_t h1 | replace h1 := not_f h1 | skip
         first | replace h2 := not_t h2 | replace h2 := not_f h2 | skip
         first | replace h3 := not_t h3 | replace h3 := not_f h3 | skip
         first | replace h4 := not_t h4 | replace h4 := not_f h4 | skip
         first | replace h5 := not_t h5 | replace h5 := not_f h5 | skip
         first | replace h6 := not_t h6 | replace h6 := not_f h6 | skip
         first | replace h7 := not_t h7 | replace h7 := not_f h7 | skip
         first | rfl | (congr 1; simp only [yRecS, h1, h2, h3, h4, h5, h6, h7, Bool.true_and, Bool.false_and, Bool.and_false]; done)
        ·rfl
      ·
       refine T.conv (T_al (bdYS_p0000000 a b) Try.func29 ?_) rfl rfl ?_ ?_
       ·simp only [All]; and_intros
        all_goals first
         | assumption
         | exact T_rb a.batch b.batch h.batch
         | exact T_rc a.cert b.cert h.cert
         | exact T_rs a.sig b.sig h.n
         | trivial
         | rfl
         | (intro _ _; trivial)
         | (intro _ _; rfl)
         | (simp; done)
         | omega
       ·first | replace h1 := not_t h1 | replace h1 := not_f h1 | skip
        first | replace h2 := not_t h2 | replace h2 := not_f h2 | skip
        first | replace h3 := not_t h3 | replace h3 := not_f h3 | skip
        first | replace h4 := not_t h4 | replace h4 := not_f h4 | skip
        first | replace h5 := not_t h5 | replace h5 := not_f h5 | skip
        first | replace h6 := not_t h6 | replace h6 := not_f h6 | skip
        first | rfl | (congr 1; simp only [yRecS, h1, h2, h3, h4, h5, h6, Bool.true_and, Bool.false_and, Bool.and_false]; done)
       ·rfl
theorem T_yS (a b : SRec) (h : FitRec a) : T Try.prog 29 [.agg a.c, .agg b.c] [] (.bool (sameRecS a b)) [] := by
 have e : sameRecS a b = yRecS a b := by simp only [sameRecS, yRecS, sameCertS, Bool.and_assoc]
 rw [e]; exact T_yS1 a b h
theorem T_ro (r : SRec) : T Try.prog 121 [.agg r.c] [] (.agg (onlyRS r).c) [] := by
 by_cases h1 : r.kind = 1
 ·refine T.val (T_al (bdRo1_p1 r) Try.func121 ?_) (by simp only [onlyRS, if_pos h1]; rfl)
  simp [All, h1]
 by_cases h2 : r.kind = 3
 ·refine T.val (T_al (bdRo3_p01 r) Try.func121 ?_) (by simp only [onlyRS, if_neg h1, if_pos h2]; rfl)
  simp [All, h1, h2]
 by_cases h3 : r.kind = 5
 ·refine T.val (T_al (bdRo5_p001 r) Try.func121 ?_) (by simp only [onlyRS, if_neg h1, if_neg h2, if_pos h3]; rfl)
  simp [All, h1, h2, h3]
 by_cases h4 : r.kind = 2
 ·refine T.val (T_al (bdRo2_p0001 r) Try.func121 ?_) (by simp only [onlyRS, if_neg h1, if_neg h2, if_neg h3, if_pos h4]; rfl)
  simp [All, h1, h2, h3, h4]
 by_cases h5 : r.kind = 4
 ·refine T.val (T_al (bdRo2_p00001 r) Try.func121 ?_) (by simp only [onlyRS, if_neg h1, if_neg h2, if_neg h3, if_neg h4, if_pos h5]; rfl)
  simp [All, h1, h2, h3, h4, h5]
 refine T.val (T_al (bdRo9_p00000 r) Try.func121 ?_) (by simp only [onlyRS, if_neg h1, if_neg h2, if_neg h3, if_neg h4, if_neg h5]; rfl)
 simp [All, h1, h2, h3, h4, h5]
theorem T_to (r : SRec) : T Try.prog 85 [.agg r.c] [] (.agg (toldS r).c) [] := by
 by_cases h1 : r.kind = 1
 ·refine T.val (T_al (bdTo1_p1 r) Try.func85 ?_) (by simp only [toldS, if_pos h1]; rfl)
  simp [All, to1, to3, to5, to7, msg0, vote0, h1]
 by_cases h2 : r.kind = 3
 ·refine T.val (T_al (bdTo3_p01 r) Try.func85 ?_) (by simp only [toldS, if_neg h1, if_pos h2]; rfl)
  simp [All, to1, to3, to5, to7, msg0, vote0, h1, h2]
 by_cases h3 : r.kind = 5
 ·refine T.val (T_al (bdTo5_p001 r) Try.func85 ?_) (by simp only [toldS, if_neg h1, if_neg h2, if_pos h3]; rfl)
  simp [All, to1, to3, to5, to7, msg0, vote0, h1, h2, h3]
 refine T.val (T_al (bdTo7_p000 r) Try.func85 ?_) (by simp only [toldS, if_neg h1, if_neg h2, if_neg h3]; rfl)
 simp [All, to1, to3, to5, to7, msg0, vote0, h1, h2, h3]
theorem fitM_told {r : SRec} (h : FitRec r) : FitM (toldS r) := by
 unfold toldS
 repeat' split
 all_goals exact ⟨by first | exact h.batch | exact Nat.zero_le _, Nat.zero_le _, fun k hk => absurd hk (Nat.not_lt_zero k), Nat.zero_le _, by first | exact h.cert | exact Nat.zero_le _, by first | exact h.n | exact Nat.zero_le _⟩
theorem T_rg {r : SRec} (hf : FitRec r) : T Try.prog 82 [.agg r.c] [] (.bool (goodRS r)) [] := by
 rcases Bool.eq_false_or_eq_true (decide ((1 : Int) ≤ SRec.kind r)) with h1 | h1
 ·
  rcases Bool.eq_false_or_eq_true (decide (SRec.kind r ≤ (5 : Int))) with h2 | h2
  ·
   rcases Bool.eq_false_or_eq_true (sameRecS r ((onlyRS r))) with h3 | h3
   ·
    rcases Bool.eq_false_or_eq_true (goodS ((toldS r))) with h4 | h4
    ·
     rcases Bool.eq_false_or_eq_true (decide ((0 : Int) ≤ SRec.view r)) with h5 | h5
     ·
      refine T.conv (T_al (bdRg_p11111 r (onlyRS r) (toldS r)) Try.func82 ?_) rfl rfl ?_ ?_
      ·simp only [All]; and_intros
       all_goals first
        | assumption
        | exact T_ro r
        | exact T_to r
        | exact T_xS r (onlyRS r) hf
        | exact T_good (fitM_told hf)
        | trivial
        | rfl
        | (intro _ _; trivial)
        | (intro _ _; rfl)
        | (simp; done)
        | omega
      ·first | replace h1 := not_t h1 | replace h1 := not_f h1 | skip
       first | replace h2 := not_t h2 | replace h2 := not_f h2 | skip
       first | replace h3 := not_t h3 | replace h3 := not_f h3 | skip
       first | replace h4 := not_t h4 | replace h4 := not_f h4 | skip
       first | replace h5 := not_t h5 | replace h5 := not_f h5 | skip
       first | rfl | (congr 1; simp only [goodRS, h1, h2, h3, h4, h5, Bool.true_and, Bool.false_and, Bool.and_false]; done)
      ·rfl
     ·
      refine T.conv (T_al (bdRg_p11110 r (onlyRS r) (toldS r)) Try.func82 ?_) rfl rfl ?_ ?_
      ·simp only [All]; and_intros
       all_goals first
        | assumption
        | exact T_ro r
        | exact T_to r
        | exact T_xS r (onlyRS r) hf
        | exact T_good (fitM_told hf)
        | trivial
        | rfl
        | (intro _ _; trivial)
        | (intro _ _; rfl)
        | (simp; done)
        | omega
      ·first | replace h1 := not_t h1 | replace h1 := not_f h1 | skip
       first | replace h2 := not_t h2 | replace h2 := not_f h2 | skip
       first | replace h3 := not_t h3 | replace h3 := not_f h3 | skip
       first | replace h4 := not_t h4 | replace h4 := not_f h4 | skip
       first | replace h5 := not_t h5 | replace h5 := not_f h5 | skip
       first | rfl | (congr 1; simp only [goodRS, h1, h2, h3, h4, h5, Bool.true_and, Bool.false_and, Bool.and_false]; done)
      ·rfl
    ·
     refine T.conv (T_al (bdRg_p11100 r (onlyRS r) (toldS r)) Try.func82 ?_) rfl rfl ?_ ?_
     ·simp only [All]; and_intros
      all_goals first
       | assumption
       | exact T_ro r
       | exact T_to r
       | exact T_xS r (onlyRS r) hf
       | exact T_good (fitM_told hf)
       | trivial
       | rfl
       | (intro _ _; trivial)
       | (intro _ _; rfl)
       | (simp; done)
       | omega
     ·first | replace h1 := not_t h1 | replace h1 := not_f h1 | skip
      first | replace h2 := not_t h2 | replace h2 := not_f h2 | skip
      first | replace h3 := not_t h3 | replace h3 := not_f h3 | skip
      first | replace h4 := not_t h4 | replace h4 := not_f h4 | skip
      first | rfl | (congr 1; simp only [goodRS, h1, h2, h3, h4, Bool.true_and, Bool.false_and, Bool.and_false]; done)
     ·rfl
   ·
    refine T.conv (T_al (bdRg_p11000 r (onlyRS r) (toldS r)) Try.func82 ?_) rfl rfl ?_ ?_
    ·simp only [All]; and_intros
     all_goals first
      | assumption
      | exact T_ro r
      | exact T_to r
      | exact T_xS r (onlyRS r) hf
      | exact T_good (fitM_told hf)
      | trivial
      | rfl
      | (intro _ _; trivial)
      | (intro _ _; rfl)
      | (simp; done)
      | omega
    ·first | replace h1 := not_t h1 | replace h1 := not_f h1 | skip
     first | replace h2 := not_t h2 | replace h2 := not_f h2 | skip
     first | replace h3 := not_t h3 | replace h3 := not_f h3 | skip
     first | rfl | (congr 1; simp only [goodRS, h1, h2, h3, Bool.true_and, Bool.false_and, Bool.and_false]; done)
    ·rfl
  ·
   refine T.conv (T_al (bdRg_p10000 r (onlyRS r) (toldS r)) Try.func82 ?_) rfl rfl ?_ ?_
   ·simp only [All]; and_intros
    all_goals first
     | assumption
     | exact T_ro r
     | exact T_to r
     | exact T_xS r (onlyRS r) hf
     | exact T_good (fitM_told hf)
     | trivial
     | rfl
     | (intro _ _; trivial)
     | (intro _ _; rfl)
     | (simp; done)
     | omega
   ·first | replace h1 := not_t h1 | replace h1 := not_f h1 | skip
    first | replace h2 := not_t h2 | replace h2 := not_f h2 | skip
    first | rfl | (congr 1; simp only [goodRS, h1, h2, Bool.true_and, Bool.false_and, Bool.and_false]; done)
   ·rfl
 ·
  refine T.conv (T_al (bdRg_p00000 r (onlyRS r) (toldS r)) Try.func82 ?_) rfl rfl ?_ ?_
  ·simp only [All]; and_intros
   all_goals first
    | assumption
    | exact T_ro r
    | exact T_to r
    | exact T_xS r (onlyRS r) hf
    | exact T_good (fitM_told hf)
    | trivial
    | rfl
    | (intro _ _; trivial)
    | (intro _ _; rfl)
    | (simp; done)
    | omega
  ·first | replace h1 := not_t h1 | replace h1 := not_f h1 | skip
   first | rfl | (congr 1; simp only [goodRS, h1, Bool.true_and, Bool.false_and, Bool.and_false]; done)
  ·rfl
end Go.Proofs.Ythifjamdfpjilaa
namespace Go.Proofs.Ythifjamdfpjilaa
open Go Sy Go.Proofs
def cN (l : List UInt8) : List V → Heap → Nat → List Cl := fun args _ lo => cNew l args lo
def recB (r : SRec) : List UInt8 := if r.kind = 1 then putZ r.kind ++ putZ r.slot ++ putZ r.view ++ batchB r.batch else if r.kind = 3 then putZ r.kind ++ putZ r.leader ++ putZ r.view else putZ r.kind ++ textB (encT (toldS r))
def recE (r : SRec) : Int := if goodRS r = true then (if (r.kind = 1 ∨ r.kind = 3) ∨ encE (toldS r) = 0 then (if 4194304 < (recB r).length then 3 else 0) else encE (toldS r)) else 240
def recT (r : SRec) : List UInt8 := if recE r = 0 then recB r else []
def kRe (l : List UInt8) (e : Int) : Exit → St → Option W := fun _ st => some ⟨[], [(2, .set (roB l)), (3, .set (.int .i64 e))], [], none, st.next⟩
noncomputable def bdRe (r : SRec) (g : Bool) (t : SMsg) (s : ByteArray) (e2 : Int) (l : List UInt8) (e : Int) : Bd := { f := Try.f27, args := [.agg r.c], kb := { db := dbSeqF 0 [(82, 4, cVal (.bool g)), (83, 8, cN (putZ r.kind)), (83, 17, cN (putZ r.kind ++ putZ r.slot)), (83, 20, cN (putZ r.kind ++ putZ r.slot ++ putZ r.view)), (84, 23, cN (putZ r.kind ++ putZ r.slot ++ putZ r.view ++ batchB r.batch)), (83, 19, cN (putZ r.kind ++ putZ r.leader)), (83, 22, cN (putZ r.kind ++ putZ r.leader ++ putZ r.view)), (85, 17, cVal (.agg t.c)), (21, 18, cVal (.tup [.str s, .int .i64 e2])), (86, 28, cN (putZ r.kind ++ textB s))] }, k := kRe l e }
noncomputable def bdReG (r : SRec) : Bd := bdRe r false {} .empty 0 [] 240
noncomputable def bdRe1 (r : SRec) : Bd := bdRe r true {} .empty 0 (putZ r.kind ++ putZ r.slot ++ putZ r.view ++ batchB r.batch) 0
noncomputable def bdRe1L (r : SRec) : Bd := bdRe r true {} .empty 0 [] 3
noncomputable def bdRe3 (r : SRec) : Bd := bdRe r true {} .empty 0 (putZ r.kind ++ putZ r.leader ++ putZ r.view) 0
noncomputable def bdRe3L (r : SRec) : Bd := bdRe r true {} .empty 0 [] 3
noncomputable def bdRe5 (r : SRec) (t : SMsg) (s : ByteArray) : Bd := bdRe r true t s 0 (putZ r.kind ++ textB s) 0
noncomputable def bdRe5L (r : SRec) (t : SMsg) (s : ByteArray) : Bd := bdRe r true t s 0 [] 3
noncomputable def bdRe5E (r : SRec) (t : SMsg) (s : ByteArray) (e2 : Int) : Bd := bdRe r true t s e2 [] e2
/-- What is read: canonical, behind a kind's fields. -/
def stRD (r : SRec) (s : RS) (x : ByteArray) : St := ⟨mkT 91 [(2, .ptr (.o 8) 0 0 0 0), (3, .int .i64 0), (4, .ptr (.o 5) 0 0 0 0), (5, .ptr (.o 7) 0 0 0 0), (6, .str x)], [(.o 5, rdB s), (.o 7, .flat r.c), (.o 8, .flat (rec0 0).c)], 9, []⟩
def fxRD (r : SRec) (s : RS) (x : ByteArray) : Nat → St → List Hint := fun id t => bif Nat.beq id 12 then match getV t.tmps 4 with
  | .ptr a _ _ _ _ => match getV t.tmps 5 with
   | .ptr q _ _ _ _ => match getV t.tmps 2 with
    | .ptr c _ _ _ _ => [.wk (wToS [(.o 5, a), (.o 7, q), (.o 8, c)] (stRD r s x))]
    | _ => []
   | _ => []
  | _ => []
 else []
def kRD (r : SRec) (e : Int) : Exit → St → Option W := fun _ t => match getV t.tmps 2 with
 | .ptr c _ _ _ _ => some ⟨[], [(2, .set (.ptr c 0 0 0 0)), (3, .set (.int .i64 e))], [(c, .set (.flat r.c))], none, t.next⟩
 | _ => none
def cRead (s0 : RS) : List V → Heap → Nat → List Cl := fun _ _ lo => [{ val := .ptr (.o lo) 0 0 0 0, post := [(.o lo, rdB s0)] }]
/-- One of its kinds: the calls of its fields; then what is at the end. -/
noncomputable def bdRD (l : List UInt8) (s0 : RS) (k : Int) (s1 s2 : RS) (fs : List (Nat × Nat × (List V → Heap → Nat → List Cl))) (r : SRec) (x : ByteArray) (d : Int) (m : SMsg) (e2 : Int) (t : SMsg) (o : SRec) (e : Int) : Bd := { f := Try.f28, args := [roB l], k := kRD o e, kb := { fx := fxRD r s2 x, db := fun j a h lo => match dbF [(65, cRd (.int .i64 d) s2), (22, cVal (.tup [.agg m.c, .int .i64 e2])), (85, cVal (.agg t.c))] j a h lo with
 | [] => dbSeqF 0 ([(61, 3, cRead s0), (62, 6, cRd (.int .i64 k) s1)] ++ fs) j a h lo
 | r => r } }
noncomputable def bdRD0 (l : List UInt8) (s0 s1 : RS) (d : Int) (o : SRec) (e : Int) : Bd := bdRD l s0 0 s1 s1 [] (rec0 0) .empty d {} 0 {} o e
noncomputable def bdRD1 (l : List UInt8) (s0 s1 s2 s3 s4 : RS) (sl vw : Int) (b : SBatch) (d : Int) (o : SRec) (e : Int) : Bd := bdRD l s0 1 s1 s4 [(62, 18, cRd (.int .i64 sl) s2), (62, 20, cRd (.int .i64 vw) s3), (87, 26, cRd (.agg b.c) s4)] { rec0 1 with slot := sl, view := vw, batch := b } .empty d {} 0 {} o e
noncomputable def bdRD3 (l : List UInt8) (s0 s1 s2 s3 : RS) (ld vw : Int) (d : Int) (o : SRec) (e : Int) : Bd := bdRD l s0 3 s1 s3 [(62, 20, cRd (.int .i64 ld) s2), (62, 22, cRd (.int .i64 vw) s3)] { rec0 3 with leader := ld, view := vw } .empty d {} 0 {} o e
noncomputable def bdRD5 (l : List UInt8) (s0 : RS) (k : Int) (s1 s2 : RS) (x : ByteArray) (d : Int) (m : SMsg) (e2 : Int) (t : SMsg) (o : SRec) (e : Int) : Bd := bdRD l s0 k s1 s2 [(88, 20, cRd (.str x) s2)] (rec0 k) x d m e2 t o e
noncomputable def bdRD0E (l : List UInt8) (s0 s1 : RS) (d : Int) : Bd := bdRD0 l s0 s1 d (rec0 0) d
noncomputable def bdRD0O (l : List UInt8) (s0 s1 : RS) (d : Int) : Bd := bdRD0 l s0 s1 d (rec0 0) 240
noncomputable def bdRD1E (l : List UInt8) (s0 s1 s2 s3 s4 : RS) (sl vw : Int) (b : SBatch) (d : Int) : Bd := bdRD1 l s0 s1 s2 s3 s4 sl vw b d (rec0 0) d
noncomputable def bdRD1O (l : List UInt8) (s0 s1 s2 s3 s4 : RS) (sl vw : Int) (b : SBatch) (d : Int) : Bd := bdRD1 l s0 s1 s2 s3 s4 sl vw b d { rec0 1 with slot := sl, view := vw, batch := b } 0
noncomputable def bdRD3E (l : List UInt8) (s0 s1 s2 s3 : RS) (ld vw : Int) (d : Int) : Bd := bdRD3 l s0 s1 s2 s3 ld vw d (rec0 0) d
noncomputable def bdRD3O (l : List UInt8) (s0 s1 s2 s3 : RS) (ld vw : Int) (d : Int) : Bd := bdRD3 l s0 s1 s2 s3 ld vw d { rec0 3 with leader := ld, view := vw } 0
noncomputable def bdRD5E (l : List UInt8) (s0 : RS) (k : Int) (s1 s2 : RS) (x : ByteArray) (d : Int) : Bd := bdRD5 l s0 k s1 s2 x d {} 0 {} (rec0 0) d
noncomputable def bdRD5X (l : List UInt8) (s0 : RS) (k : Int) (s1 s2 : RS) (x : ByteArray) (d : Int) (m : SMsg) (e2 : Int) (t : SMsg) : Bd := bdRD5 l s0 k s1 s2 x d m e2 t (rec0 0) 240
noncomputable def bdRD5O (l : List UInt8) (s0 : RS) (k : Int) (s1 s2 : RS) (x : ByteArray) (d : Int) (m : SMsg) (e2 : Int) (t : SMsg) : Bd := bdRD5 l s0 k s1 s2 x d m e2 t { rec0 k with batch := m.batch, cert := m.cert, state := m.state, n := m.n, sig := m.sig } 0
end Go.Proofs.Ythifjamdfpjilaa
