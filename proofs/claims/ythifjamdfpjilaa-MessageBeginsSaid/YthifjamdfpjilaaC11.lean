/-
  Contracts and laws that the claim's theorem leans on, joined out of the texts Te3 Te4 SyShape SyMore Tc0D Tc0 Rs1 Rs3 Rs4 Td0D (own work of this seat): The plain law of messages: what was put is read, what is read was put; What a message that may be has; its bytes, or why not; The shapes of handed values, unfolded; what is known of their cells; Loops that look at each one of many; more glue; Contracts: what is the same, as the document's answer has it; Contracts: what is the same, as the document's answer has it; Contracts of small functions; Contracts: what is looked at; Contracts: what is looked at, continued; Contracts: is a message not more than is looked at.
-/
import Derived.Test.YthifjamdfpjilaaC04
import Derived.Test.YthifjamdfpjilaaC06
import Derived.Test.YthifjamdfpjilaaC10
set_option linter.unusedVariables false
set_option linter.unusedSimpArgs false
namespace Go.Proofs.Ythifjamdfpjilaa
open Go Sy Go.Proofs
/-- Arrays as they are: bytes, so many. -/
structure segMsg (m : SMsg) : Prop where
 batch : segBatch m.batch
 vote : SegOk 32 m.vote.digest
 held : ∀ i, i < m.nheld → segHeld (m.held i)
 news : ∀ i, i < m.nnews → SegOk 16 (m.news i).tag
 digest : SegOk 32 m.digest
 cert : segCert m.cert
 sig : ∀ i, i < m.n → SegOk 16 (m.sig i).tag
theorem sameHeld_iff {a b : SHeld} : sameHeldS a b = true ↔ sameBatchS a.batch b.batch = true ∧ sameCertS a.cert b.cert = true := by simp [sameHeldS]
structure SameM (a b : SMsg) : Prop where
 kind : a.kind = b.kind
 epoch : a.epoch = b.epoch
 leader : a.leader = b.leader
 view : a.view = b.view
 slot : a.slot = b.slot
 batch : sameBatchS a.batch b.batch = true
 vote : a.vote = b.vote
 cepoch : a.cepoch = b.cepoch
 cleader : a.cleader = b.cleader
 cview : a.cview = b.cview
 held : a.nheld = b.nheld ∧ ∀ i, i < a.nheld → sameHeldS (a.held i) (b.held i) = true
 news : a.nnews = b.nnews ∧ ∀ i, i < a.nnews → a.news i = b.news i
 digest : a.digest = b.digest
 cert : sameCertS a.cert b.cert = true
 state : a.state = b.state
 sig : a.n = b.n ∧ ∀ i, i < a.n → a.sig i = b.sig i
theorem sameMsg_iff {a b : SMsg} : sameMsgS a b = true ↔ SameM a b := by
 simp only [sameMsgS, sameChangeS, Bool.and_eq_true, decide_eq_true_eq, sameL_iff, signEq_iff, voteEq_iff, envEq_iff]
 constructor
 ·rintro ⟨h1, h2, h3, h4, h5, h6, h7, ⟨h8, h9, h10, h11⟩, h12, h13, h14, h15, h16⟩
  exact ⟨h1, h2, h3, h4, h5, h6, h7, h8, h9, h10, h11, h12, h13, h14, h15, h16⟩
 ·rintro ⟨h1, h2, h3, h4, h5, h6, h7, h8, h9, h10, h11, h12, h13, h14, h15, h16⟩
  exact ⟨h1, h2, h3, h4, h5, h6, h7, ⟨h8, h9, h10, h11⟩, h12, h13, h14, h15, h16⟩
theorem sameBatch_refl (b : SBatch) : sameBatchS b b = true := sameBatch_iff.2 ⟨rfl, rfl, fun _ _ => rfl⟩
theorem sameCert_refl (b : SCert) : sameCertS b b = true := sameCert_iff.2 ⟨rfl, rfl, fun _ _ => rfl⟩
theorem sameHeld_refl (b : SHeld) : sameHeldS b b = true := sameHeld_iff.2 ⟨sameBatch_refl _, sameCert_refl _⟩
theorem sameBatch_symm {a b : SBatch} (h : sameBatchS a b = true) : sameBatchS b a = true := by
 obtain ⟨h1, h2, h3⟩ := sameBatch_iff.1 h
 exact sameBatch_iff.2 ⟨h1.symm, h2.symm, fun i hi => (h3 i (by omega)).symm⟩
theorem sameCert_symm {a b : SCert} (h : sameCertS a b = true) : sameCertS b a = true := by
 obtain ⟨h1, h2, h3⟩ := sameCert_iff.1 h
 exact sameCert_iff.2 ⟨h1.symm, h2.symm, fun i hi => (h3 i (by omega)).symm⟩
theorem sameHeld_symm {a b : SHeld} (h : sameHeldS a b = true) : sameHeldS b a = true :=
 sameHeld_iff.2 ⟨sameBatch_symm (sameHeld_iff.1 h).1, sameCert_symm (sameHeld_iff.1 h).2⟩
theorem sameM_symm {a b : SMsg} (h : SameM a b) : SameM b a :=
 ⟨h.kind.symm, h.epoch.symm, h.leader.symm, h.view.symm, h.slot.symm, sameBatch_symm h.batch, h.vote.symm, h.cepoch.symm, h.cleader.symm, h.cview.symm, ⟨h.held.1.symm, fun i hi => sameHeld_symm (h.held.2 i (by have := h.held.1; omega))⟩, ⟨h.news.1.symm, fun i hi => (h.news.2 i (by have := h.news.1; omega)).symm⟩, h.digest.symm, sameCert_symm h.cert, h.state.symm, ⟨h.sig.1.symm, fun i hi => (h.sig.2 i (by have := h.sig.1; omega)).symm⟩⟩
theorem sameM_refl (m : SMsg) : SameM m m := ⟨rfl, rfl, rfl, rfl, rfl, sameBatch_refl _, rfl, rfl, rfl, rfl, ⟨rfl, fun _ _ => sameHeld_refl _⟩, ⟨rfl, fun _ _ => rfl⟩, rfl, sameCert_refl _, rfl, ⟨rfl, fun _ _ => rfl⟩⟩
/-- What a message that may be has. -/
structure Good (m : SMsg) : Prop where
 kind : 1 ≤ m.kind ∧ m.kind ≤ 8
 only : SameM m (onlyS m)
 vote : m.kind = 2 → mayVoteS m.vote = true
 cert : m.kind = 7 → mayCertS m.cert = true
 epoch : 0 ≤ m.epoch ∧ m.epoch ≤ 1048576
 slot : 0 ≤ m.slot ∧ m.slot ≤ 1099511627776
 view : 0 ≤ m.view ∧ m.view ≤ 1099511627776
 leader : 0 ≤ m.leader ∧ m.leader ≤ 64
 batch : mayBatchS m.batch = true
 cepoch : 0 ≤ m.cepoch ∧ m.cepoch ≤ 1048576
 cleader : 0 ≤ m.cleader ∧ m.cleader ≤ 64
 cview : 0 ≤ m.cview ∧ m.cview ≤ 1099511627776
 held : m.nheld ≤ 4 ∧ ∀ i, i < m.nheld → mayHeldS (m.held i) = true
 news : m.nnews ≤ 64 ∧ ∀ i, i < m.nnews → mayEnvS (m.news i) = true
 sig : m.n ≤ 64 ∧ ∀ i, i < m.n → maySignS (m.sig i) = true
 state : m.state.size ≤ 4194304
theorem good_iff {m : SMsg} : goodS m = true ↔ Good m := by
 simp only [goodS, mayChangeS, Bool.and_eq_true, decide_eq_true_eq, upto_iff, allS_iff, Bool.or_eq_true, Bool.not_eq_true', decide_eq_false_iff_not, sameMsg_iff]
 constructor
 ·rintro ⟨h1, h2, h3, h4, h5, h6, h7, h8, h9, h10, ⟨h11, h12, h13, h14⟩, h15, h16, h17⟩
  exact ⟨⟨h1, h2⟩, h3, fun h => h4.resolve_left (fun g => g h), fun h => h5.resolve_left (fun g => g h), h6, h7, h8, h9, h10, h11, h12, h13, h14, h15, h16, by omega⟩
 ·rintro ⟨⟨h1, h2⟩, h3, h4, h5, h6, h7, h8, h9, h10, h11, h12, h13, h14, h15, h16, h17⟩
  exact ⟨h1, h2, h3, (Classical.em (m.kind = 2)).elim (fun g => .inr (h4 g)) .inl, (Classical.em (m.kind = 7)).elim (fun g => .inr (h5 g)) .inl, h6, h7, h8, h9, h10, ⟨h11, h12, h13, h14⟩, h15, h16, by omega⟩
theorem fld1_rd {m : SMsg} (g : Good m) (ht : segMsg m) (hk : m.kind = 1) {s : RS} {t : List UInt8} (he : s.e = 0) (hb : s.l = bodyB m ++ t) : SameM (fld1 (msg0 m.kind) s).1 m ∧ (fld1 (msg0 m.kind) s).2 = { s with l := t } := by
 rw [bodyB] at hb
 rw [if_pos hk] at hb
 try simp only [numsB, List.append_nil, List.append_assoc] at hb
 have ho : SameM m (o1 m) := by have := g.only; rw [onlyS] at this; simpa [hk] using this
 obtain ⟨a1, b1⟩ := num_rd (n := m.epoch) (most := 1048576) g.epoch.1 g.epoch.2 (by decide) s _ he hb
 have e1 : f1S1 s = { s with l := putZ m.slot ++ (batchB m.batch ++ t) } := by show (numR 1048576 s).2 = _; rw [b1]
 obtain ⟨a2, b2⟩ := num_rd (n := m.slot) (most := 1099511627776) g.slot.1 g.slot.2 (by decide) (f1S1 s) _ (by rw [e1]; exact he) (by rw [e1])
 have e2 : f1S2 s = { s with l := batchB m.batch ++ t } := by show (numR 1099511627776 (f1S1 s)).2 = _; rw [b2, e1]
 obtain ⟨a3, b3⟩ := batch_rd g.batch ht.batch (f1S2 s) _ (by rw [e2]; exact he) (by rw [e2])
 have e3 : f1S3 s = { s with l := t } := by show (batchR (f1S2 s)).2 = _; rw [b3, e2]
 refine ⟨?_, e3⟩
 have hs := sameM_symm ho
 exact ⟨rfl, a1, hs.leader, hs.view, a2, a3, hs.vote, hs.cepoch, hs.cleader, hs.cview, hs.held, hs.news, hs.digest, hs.cert, hs.state, hs.sig⟩
theorem seg32 : SegOk 32 z32 := ⟨rfl, by decide⟩
theorem mayBatch0 : mayBatchS {} = true := by decide
theorem fld1_wr {s : RS} (he : (fld1 (msg0 1) s).2.e = 0) (hl : (fld1 (msg0 1) s).2.l = []) : s.e = 0 ∧ s.l = bodyB (fld1 (msg0 1) s).1 ∧ Good (fld1 (msg0 1) s).1 ∧ segMsg (fld1 (msg0 1) s).1 := by
 obtain ⟨g3, l3, o3, b3⟩ := batch_wr (f1S2 s) he
 obtain ⟨g2, l2, o2, b2⟩ := num_wr 1099511627776 (f1S1 s) g3
 obtain ⟨g1, l1, o1, b1⟩ := num_wr 1048576 s g2
 refine ⟨g1, ?_, ?_, ?_⟩
 ·have hk : (fld1 (msg0 1) s).1.kind = 1 := rfl
  rw [bodyB, hk]
  rw [if_pos (show (1 : Int) = 1 from rfl)]
  show s.l = numsB [(numR 1048576 s).1, (numR 1099511627776 (f1S1 s)).1] ++ (batchB (batchR (f1S2 s)).1)
  have z : s.l = (numsB [(numR 1048576 s).1, (numR 1099511627776 (f1S1 s)).1] ++ (batchB (batchR (f1S2 s)).1)) ++ (fld1 (msg0 1) s).2.l := by
   try simp only [numsB, List.append_nil, List.append_assoc]
   have l3' : (f1S2 s).l = batchB (batchR (f1S2 s)).1 ++ (fld1 (msg0 1) s).2.l := l3
   rw [← l3']
   have l2' : (f1S1 s).l = putZ (numR 1099511627776 (f1S1 s)).1 ++ (f1S2 s).l := l2
   rw [← l2']
   have l1' : s.l = putZ (numR 1048576 s).1 ++ (f1S1 s).l := l1
   exact l1'
  rw [hl, List.append_nil] at z
  exact z
 ·exact ⟨⟨show (1 : Int) ≤ 1 by decide, show (1 : Int) ≤ 8 by decide⟩, sameM_refl _, fun h => absurd h (show ¬ (1 : Int) = 2 by decide), fun h => absurd h (show ¬ (1 : Int) = 7 by decide), ⟨o1.1, o1.2.1⟩, ⟨o2.1, o2.2.1⟩, ⟨Int.le_refl _, (by decide : (0 : Int) ≤ 1099511627776)⟩, ⟨Int.le_refl _, (by decide : (0 : Int) ≤ 64)⟩, o3.1, ⟨Int.le_refl _, (by decide : (0 : Int) ≤ 1048576)⟩, ⟨Int.le_refl _, (by decide : (0 : Int) ≤ 64)⟩, ⟨Int.le_refl _, (by decide : (0 : Int) ≤ 1099511627776)⟩, ⟨Nat.zero_le _, fun i hi => absurd hi (Nat.not_lt_zero i)⟩, ⟨Nat.zero_le _, fun i hi => absurd hi (Nat.not_lt_zero i)⟩, ⟨Nat.zero_le _, fun i hi => absurd hi (Nat.not_lt_zero i)⟩, Nat.zero_le _⟩
 ·exact ⟨o3.2, seg32, fun i hi => absurd hi (Nat.not_lt_zero i), fun i hi => absurd hi (Nat.not_lt_zero i), seg32, ⟨seg32, fun i hi => absurd hi (Nat.not_lt_zero i)⟩, fun i hi => absurd hi (Nat.not_lt_zero i)⟩
theorem fld2_rd {m : SMsg} (g : Good m) (ht : segMsg m) (hk : m.kind = 2) {s : RS} {t : List UInt8} (he : s.e = 0) (hb : s.l = bodyB m ++ t) : SameM (fld2 (msg0 m.kind) s).1 m ∧ (fld2 (msg0 m.kind) s).2 = { s with l := t } := by
 rw [bodyB] at hb
 rw [if_neg (by omega)] at hb
 rw [if_pos hk] at hb
 try simp only [numsB, List.append_nil, List.append_assoc] at hb
 have ho : SameM m (o2 m) := by have := g.only; rw [onlyS] at this; simpa [hk] using this
 obtain ⟨a1, b1⟩ := vote_rd (g.vote hk) ht.vote s _ he hb
 have e1 : f2S1 s = { s with l := t } := by show (voteR s).2 = _; rw [b1]
 refine ⟨?_, e1⟩
 have hs := sameM_symm ho
 exact ⟨rfl, hs.epoch, hs.leader, hs.view, hs.slot, hs.batch, a1, hs.cepoch, hs.cleader, hs.cview, hs.held, hs.news, hs.digest, hs.cert, hs.state, hs.sig⟩
theorem fld2_wr {s : RS} (he : (fld2 (msg0 2) s).2.e = 0) (hl : (fld2 (msg0 2) s).2.l = []) : s.e = 0 ∧ s.l = bodyB (fld2 (msg0 2) s).1 ∧ Good (fld2 (msg0 2) s).1 ∧ segMsg (fld2 (msg0 2) s).1 := by
 obtain ⟨g1, l1, o1, b1⟩ := vote_wr s he
 refine ⟨g1, ?_, ?_, ?_⟩
 ·have hk : (fld2 (msg0 2) s).1.kind = 2 := rfl
  rw [bodyB, hk]
  rw [if_neg (show ¬ (2 : Int) = 1 by decide)]
  rw [if_pos (show (2 : Int) = 2 from rfl)]
  show s.l = voteB (voteR s).1
  have z : s.l = (voteB (voteR s).1) ++ (fld2 (msg0 2) s).2.l := by
   try simp only [numsB, List.append_nil, List.append_assoc]
   have l1' : s.l = voteB (voteR s).1 ++ (fld2 (msg0 2) s).2.l := l1
   exact l1'
  rw [hl, List.append_nil] at z
  exact z
 ·exact ⟨⟨show (1 : Int) ≤ 2 by decide, show (2 : Int) ≤ 8 by decide⟩, sameM_refl _, fun _ => o1.1, fun h => absurd h (show ¬ (2 : Int) = 7 by decide), ⟨Int.le_refl _, (by decide : (0 : Int) ≤ 1048576)⟩, ⟨Int.le_refl _, (by decide : (0 : Int) ≤ 1099511627776)⟩, ⟨Int.le_refl _, (by decide : (0 : Int) ≤ 1099511627776)⟩, ⟨Int.le_refl _, (by decide : (0 : Int) ≤ 64)⟩, mayBatch0, ⟨Int.le_refl _, (by decide : (0 : Int) ≤ 1048576)⟩, ⟨Int.le_refl _, (by decide : (0 : Int) ≤ 64)⟩, ⟨Int.le_refl _, (by decide : (0 : Int) ≤ 1099511627776)⟩, ⟨Nat.zero_le _, fun i hi => absurd hi (Nat.not_lt_zero i)⟩, ⟨Nat.zero_le _, fun i hi => absurd hi (Nat.not_lt_zero i)⟩, ⟨Nat.zero_le _, fun i hi => absurd hi (Nat.not_lt_zero i)⟩, Nat.zero_le _⟩
 ·exact ⟨fun i hi => absurd hi (Nat.not_lt_zero i), o1.2, fun i hi => absurd hi (Nat.not_lt_zero i), fun i hi => absurd hi (Nat.not_lt_zero i), seg32, ⟨seg32, fun i hi => absurd hi (Nat.not_lt_zero i)⟩, fun i hi => absurd hi (Nat.not_lt_zero i)⟩
theorem fld3_rd {m : SMsg} (g : Good m) (ht : segMsg m) (hk : m.kind = 3) {s : RS} {t : List UInt8} (he : s.e = 0) (hb : s.l = bodyB m ++ t) : SameM (fld3 (msg0 m.kind) s).1 m ∧ (fld3 (msg0 m.kind) s).2 = { s with l := t } := by
 rw [bodyB] at hb
 rw [if_neg (by omega)] at hb
 rw [if_neg (by omega)] at hb
 rw [if_pos hk] at hb
 try simp only [numsB, List.append_nil, List.append_assoc] at hb
 have ho : SameM m (o3 m) := by have := g.only; rw [onlyS] at this; simpa [hk] using this
 obtain ⟨a1, b1⟩ := num_rd (n := m.cepoch) (most := 1048576) g.cepoch.1 g.cepoch.2 (by decide) s _ he hb
 have e1 : f3S1 s = { s with l := putZ m.cleader ++ (putZ m.cview ++ (putZ (m.nheld : Int) ++ (heldsB m.held m.nheld ++ t))) } := by show (numR 1048576 s).2 = _; rw [b1]
 obtain ⟨a2, b2⟩ := num_rd (n := m.cleader) (most := 64) g.cleader.1 g.cleader.2 (by decide) (f3S1 s) _ (by rw [e1]; exact he) (by rw [e1])
 have e2 : f3S2 s = { s with l := putZ m.cview ++ (putZ (m.nheld : Int) ++ (heldsB m.held m.nheld ++ t)) } := by show (numR 64 (f3S1 s)).2 = _; rw [b2, e1]
 obtain ⟨a3, b3⟩ := num_rd (n := m.cview) (most := 1099511627776) g.cview.1 g.cview.2 (by decide) (f3S2 s) _ (by rw [e2]; exact he) (by rw [e2])
 have e3 : f3S3 s = { s with l := putZ (m.nheld : Int) ++ (heldsB m.held m.nheld ++ t) } := by show (numR 1099511627776 (f3S2 s)).2 = _; rw [b3, e2]
 obtain ⟨n4, a4, b4⟩ := get_rd (one := heldR) (enc := heldB) (rel := fun x y => sameHeldS x y = true) (el := m.held) (n := m.nheld) (most := 4) (by have := g.held.1; omega) (by decide) (fun i hi => held_rd (g.held.2 i hi) (ht.held i hi)) (s := (f3S3 s)) (by rw [e3]; exact he) (tail := t) (by rw [e3]; simp only [numsB, List.append_nil, heldsB_encs])
 have e4 : f3S4 s = { s with l := t } := by show getS heldR 4 (f3S3 s) = _; rw [b4, e3]
 refine ⟨?_, e4⟩
 have hs := sameM_symm ho
 exact ⟨rfl, hs.epoch, hs.leader, hs.view, hs.slot, hs.batch, hs.vote, a1, a2, a3, ⟨n4, fun i hi => a4 i (by rw [← n4]; exact hi)⟩, hs.news, hs.digest, hs.cert, hs.state, hs.sig⟩
theorem fld3_wr {s : RS} (he : (fld3 (msg0 3) s).2.e = 0) (hl : (fld3 (msg0 3) s).2.l = []) : s.e = 0 ∧ s.l = bodyB (fld3 (msg0 3) s).1 ∧ Good (fld3 (msg0 3) s).1 ∧ segMsg (fld3 (msg0 3) s).1 := by
 obtain ⟨g4, l4, n4, o4, b4⟩ := get_wr held_wr (most := 4) (s := (f3S3 s)) he
 obtain ⟨g3, l3, o3, b3⟩ := num_wr 1099511627776 (f3S2 s) g4
 obtain ⟨g2, l2, o2, b2⟩ := num_wr 64 (f3S1 s) g3
 obtain ⟨g1, l1, o1, b1⟩ := num_wr 1048576 s g2
 refine ⟨g1, ?_, ?_, ?_⟩
 ·have hk : (fld3 (msg0 3) s).1.kind = 3 := rfl
  rw [bodyB, hk]
  rw [if_neg (show ¬ (3 : Int) = 1 by decide)]
  rw [if_neg (show ¬ (3 : Int) = 2 by decide)]
  rw [if_pos (show (3 : Int) = 3 from rfl)]
  show s.l = numsB [(numR 1048576 s).1, (numR 64 (f3S1 s)).1, (numR 1099511627776 (f3S2 s)).1] ++ ((numsB [((getN heldR 4 (f3S3 s) : Nat) : Int)] ++ heldsB (getEl heldR 4 (f3S3 s)) (getN heldR 4 (f3S3 s))))
  have z : s.l = (numsB [(numR 1048576 s).1, (numR 64 (f3S1 s)).1, (numR 1099511627776 (f3S2 s)).1] ++ ((numsB [((getN heldR 4 (f3S3 s) : Nat) : Int)] ++ heldsB (getEl heldR 4 (f3S3 s)) (getN heldR 4 (f3S3 s))))) ++ (fld3 (msg0 3) s).2.l := by
   try simp only [numsB, List.append_nil, List.append_assoc]
   have l4' : (f3S3 s).l = putZ ((getN heldR 4 (f3S3 s) : Nat) : Int) ++ (heldsB (getEl heldR 4 (f3S3 s)) (getN heldR 4 (f3S3 s)) ++ (fld3 (msg0 3) s).2.l) := by rw [heldsB_encs]; have := l4; simp only [numsB, List.append_nil] at this; exact this
   rw [← l4']
   have l3' : (f3S2 s).l = putZ (numR 1099511627776 (f3S2 s)).1 ++ (f3S3 s).l := l3
   rw [← l3']
   have l2' : (f3S1 s).l = putZ (numR 64 (f3S1 s)).1 ++ (f3S2 s).l := l2
   rw [← l2']
   have l1' : s.l = putZ (numR 1048576 s).1 ++ (f3S1 s).l := l1
   exact l1'
  rw [hl, List.append_nil] at z
  exact z
 ·exact ⟨⟨show (1 : Int) ≤ 3 by decide, show (3 : Int) ≤ 8 by decide⟩, sameM_refl _, fun h => absurd h (show ¬ (3 : Int) = 2 by decide), fun h => absurd h (show ¬ (3 : Int) = 7 by decide), ⟨Int.le_refl _, (by decide : (0 : Int) ≤ 1048576)⟩, ⟨Int.le_refl _, (by decide : (0 : Int) ≤ 1099511627776)⟩, ⟨Int.le_refl _, (by decide : (0 : Int) ≤ 1099511627776)⟩, ⟨Int.le_refl _, (by decide : (0 : Int) ≤ 64)⟩, mayBatch0, ⟨o1.1, o1.2.1⟩, ⟨o2.1, o2.2.1⟩, ⟨o3.1, o3.2.1⟩, ⟨Int.ofNat_le.1 n4, fun i hi => (o4 i hi).1⟩, ⟨Nat.zero_le _, fun i hi => absurd hi (Nat.not_lt_zero i)⟩, ⟨Nat.zero_le _, fun i hi => absurd hi (Nat.not_lt_zero i)⟩, Nat.zero_le _⟩
 ·exact ⟨fun i hi => absurd hi (Nat.not_lt_zero i), seg32, fun i hi => (o4 i hi).2, fun i hi => absurd hi (Nat.not_lt_zero i), seg32, ⟨seg32, fun i hi => absurd hi (Nat.not_lt_zero i)⟩, fun i hi => absurd hi (Nat.not_lt_zero i)⟩
theorem fld4_rd {m : SMsg} (g : Good m) (ht : segMsg m) (hk : m.kind = 4) {s : RS} {t : List UInt8} (he : s.e = 0) (hb : s.l = bodyB m ++ t) : SameM (fld4 (msg0 m.kind) s).1 m ∧ (fld4 (msg0 m.kind) s).2 = { s with l := t } := by
 rw [bodyB] at hb
 rw [if_neg (by omega)] at hb
 rw [if_neg (by omega)] at hb
 rw [if_neg (by omega)] at hb
 rw [if_pos hk] at hb
 try simp only [numsB, List.append_nil, List.append_assoc] at hb
 have ho : SameM m (o4 m) := by have := g.only; rw [onlyS] at this; simpa [hk] using this
 obtain ⟨a1, b1⟩ := num_rd (n := m.epoch) (most := 1048576) g.epoch.1 g.epoch.2 (by decide) s _ he hb
 have e1 : f4S1 s = { s with l := putZ m.leader ++ (putZ m.view ++ (putZ (m.nnews : Int) ++ (envsB m.news m.nnews ++ t))) } := by show (numR 1048576 s).2 = _; rw [b1]
 obtain ⟨a2, b2⟩ := num_rd (n := m.leader) (most := 64) g.leader.1 g.leader.2 (by decide) (f4S1 s) _ (by rw [e1]; exact he) (by rw [e1])
 have e2 : f4S2 s = { s with l := putZ m.view ++ (putZ (m.nnews : Int) ++ (envsB m.news m.nnews ++ t)) } := by show (numR 64 (f4S1 s)).2 = _; rw [b2, e1]
 obtain ⟨a3, b3⟩ := num_rd (n := m.view) (most := 1099511627776) g.view.1 g.view.2 (by decide) (f4S2 s) _ (by rw [e2]; exact he) (by rw [e2])
 have e3 : f4S3 s = { s with l := putZ (m.nnews : Int) ++ (envsB m.news m.nnews ++ t) } := by show (numR 1099511627776 (f4S2 s)).2 = _; rw [b3, e2]
 obtain ⟨n4, a4, b4⟩ := get_rd (one := envR) (enc := envB) (rel := fun x y => x = y) (el := m.news) (n := m.nnews) (most := 64) (by have := g.news.1; omega) (by decide) (fun i hi => env_rd (g.news.2 i hi) (ht.news i hi)) (s := (f4S3 s)) (by rw [e3]; exact he) (tail := t) (by rw [e3]; simp only [numsB, List.append_nil, envsB_encs])
 have e4 : f4S4 s = { s with l := t } := by show getS envR 64 (f4S3 s) = _; rw [b4, e3]
 refine ⟨?_, e4⟩
 have hs := sameM_symm ho
 exact ⟨rfl, a1, a2, a3, hs.slot, hs.batch, hs.vote, hs.cepoch, hs.cleader, hs.cview, hs.held, ⟨n4, fun i hi => a4 i (by rw [← n4]; exact hi)⟩, hs.digest, hs.cert, hs.state, hs.sig⟩
theorem fld4_wr {s : RS} (he : (fld4 (msg0 4) s).2.e = 0) (hl : (fld4 (msg0 4) s).2.l = []) : s.e = 0 ∧ s.l = bodyB (fld4 (msg0 4) s).1 ∧ Good (fld4 (msg0 4) s).1 ∧ segMsg (fld4 (msg0 4) s).1 := by
 obtain ⟨g4, l4, n4, o4, b4⟩ := get_wr env_wr (most := 64) (s := (f4S3 s)) he
 obtain ⟨g3, l3, o3, b3⟩ := num_wr 1099511627776 (f4S2 s) g4
 obtain ⟨g2, l2, o2, b2⟩ := num_wr 64 (f4S1 s) g3
 obtain ⟨g1, l1, o1, b1⟩ := num_wr 1048576 s g2
 refine ⟨g1, ?_, ?_, ?_⟩
 ·have hk : (fld4 (msg0 4) s).1.kind = 4 := rfl
  rw [bodyB, hk]
  rw [if_neg (show ¬ (4 : Int) = 1 by decide)]
  rw [if_neg (show ¬ (4 : Int) = 2 by decide)]
  rw [if_neg (show ¬ (4 : Int) = 3 by decide)]
  rw [if_pos (show (4 : Int) = 4 from rfl)]
  show s.l = numsB [(numR 1048576 s).1, (numR 64 (f4S1 s)).1, (numR 1099511627776 (f4S2 s)).1] ++ ((numsB [((getN envR 64 (f4S3 s) : Nat) : Int)] ++ envsB (getEl envR 64 (f4S3 s)) (getN envR 64 (f4S3 s))))
  have z : s.l = (numsB [(numR 1048576 s).1, (numR 64 (f4S1 s)).1, (numR 1099511627776 (f4S2 s)).1] ++ ((numsB [((getN envR 64 (f4S3 s) : Nat) : Int)] ++ envsB (getEl envR 64 (f4S3 s)) (getN envR 64 (f4S3 s))))) ++ (fld4 (msg0 4) s).2.l := by
   try simp only [numsB, List.append_nil, List.append_assoc]
   have l4' : (f4S3 s).l = putZ ((getN envR 64 (f4S3 s) : Nat) : Int) ++ (envsB (getEl envR 64 (f4S3 s)) (getN envR 64 (f4S3 s)) ++ (fld4 (msg0 4) s).2.l) := by rw [envsB_encs]; have := l4; simp only [numsB, List.append_nil] at this; exact this
   rw [← l4']
   have l3' : (f4S2 s).l = putZ (numR 1099511627776 (f4S2 s)).1 ++ (f4S3 s).l := l3
   rw [← l3']
   have l2' : (f4S1 s).l = putZ (numR 64 (f4S1 s)).1 ++ (f4S2 s).l := l2
   rw [← l2']
   have l1' : s.l = putZ (numR 1048576 s).1 ++ (f4S1 s).l := l1
   exact l1'
  rw [hl, List.append_nil] at z
  exact z
 ·exact ⟨⟨show (1 : Int) ≤ 4 by decide, show (4 : Int) ≤ 8 by decide⟩, sameM_refl _, fun h => absurd h (show ¬ (4 : Int) = 2 by decide), fun h => absurd h (show ¬ (4 : Int) = 7 by decide), ⟨o1.1, o1.2.1⟩, ⟨Int.le_refl _, (by decide : (0 : Int) ≤ 1099511627776)⟩, ⟨o3.1, o3.2.1⟩, ⟨o2.1, o2.2.1⟩, mayBatch0, ⟨Int.le_refl _, (by decide : (0 : Int) ≤ 1048576)⟩, ⟨Int.le_refl _, (by decide : (0 : Int) ≤ 64)⟩, ⟨Int.le_refl _, (by decide : (0 : Int) ≤ 1099511627776)⟩, ⟨Nat.zero_le _, fun i hi => absurd hi (Nat.not_lt_zero i)⟩, ⟨Int.ofNat_le.1 n4, fun i hi => (o4 i hi).1⟩, ⟨Nat.zero_le _, fun i hi => absurd hi (Nat.not_lt_zero i)⟩, Nat.zero_le _⟩
 ·exact ⟨fun i hi => absurd hi (Nat.not_lt_zero i), seg32, fun i hi => absurd hi (Nat.not_lt_zero i), fun i hi => (o4 i hi).2, seg32, ⟨seg32, fun i hi => absurd hi (Nat.not_lt_zero i)⟩, fun i hi => absurd hi (Nat.not_lt_zero i)⟩
theorem fld5_rd {m : SMsg} (g : Good m) (ht : segMsg m) (hk : m.kind = 5) {s : RS} {t : List UInt8} (he : s.e = 0) (hb : s.l = bodyB m ++ t) : SameM (fld5 (msg0 m.kind) s).1 m ∧ (fld5 (msg0 m.kind) s).2 = { s with l := t } := by
 rw [bodyB] at hb
 rw [if_neg (by omega)] at hb
 rw [if_neg (by omega)] at hb
 rw [if_neg (by omega)] at hb
 rw [if_neg (by omega)] at hb
 rw [if_pos hk] at hb
 try simp only [numsB, List.append_nil, List.append_assoc] at hb
 have ho : SameM m (o5 m) := by have := g.only; rw [onlyS] at this; simpa [hk] using this
 obtain ⟨a1, b1⟩ := num_rd (n := m.epoch) (most := 1048576) g.epoch.1 g.epoch.2 (by decide) s _ he hb
 have e1 : f5S1 s = { s with l := segB m.digest ++ t } := by show (numR 1048576 s).2 = _; rw [b1]
 obtain ⟨a2, b2⟩ := dig_rd ht.digest (f5S1 s) _ (by rw [e1]; exact he) (by rw [e1])
 have e2 : f5S2 s = { s with l := t } := by show (digR (f5S1 s)).2 = _; rw [b2, e1]
 refine ⟨?_, e2⟩
 have hs := sameM_symm ho
 exact ⟨rfl, a1, hs.leader, hs.view, hs.slot, hs.batch, hs.vote, hs.cepoch, hs.cleader, hs.cview, hs.held, hs.news, a2, hs.cert, hs.state, hs.sig⟩
theorem fld5_wr {s : RS} (he : (fld5 (msg0 5) s).2.e = 0) (hl : (fld5 (msg0 5) s).2.l = []) : s.e = 0 ∧ s.l = bodyB (fld5 (msg0 5) s).1 ∧ Good (fld5 (msg0 5) s).1 ∧ segMsg (fld5 (msg0 5) s).1 := by
 obtain ⟨g2, l2, o2, b2⟩ := dig_wr (f5S1 s) he
 obtain ⟨g1, l1, o1, b1⟩ := num_wr 1048576 s g2
 refine ⟨g1, ?_, ?_, ?_⟩
 ·have hk : (fld5 (msg0 5) s).1.kind = 5 := rfl
  rw [bodyB, hk]
  rw [if_neg (show ¬ (5 : Int) = 1 by decide)]
  rw [if_neg (show ¬ (5 : Int) = 2 by decide)]
  rw [if_neg (show ¬ (5 : Int) = 3 by decide)]
  rw [if_neg (show ¬ (5 : Int) = 4 by decide)]
  rw [if_pos (show (5 : Int) = 5 from rfl)]
  show s.l = numsB [(numR 1048576 s).1] ++ (segB (digR (f5S1 s)).1)
  have z : s.l = (numsB [(numR 1048576 s).1] ++ (segB (digR (f5S1 s)).1)) ++ (fld5 (msg0 5) s).2.l := by
   try simp only [numsB, List.append_nil, List.append_assoc]
   have l2' : (f5S1 s).l = segB (digR (f5S1 s)).1 ++ (fld5 (msg0 5) s).2.l := l2
   rw [← l2']
   have l1' : s.l = putZ (numR 1048576 s).1 ++ (f5S1 s).l := l1
   exact l1'
  rw [hl, List.append_nil] at z
  exact z
 ·exact ⟨⟨show (1 : Int) ≤ 5 by decide, show (5 : Int) ≤ 8 by decide⟩, sameM_refl _, fun h => absurd h (show ¬ (5 : Int) = 2 by decide), fun h => absurd h (show ¬ (5 : Int) = 7 by decide), ⟨o1.1, o1.2.1⟩, ⟨Int.le_refl _, (by decide : (0 : Int) ≤ 1099511627776)⟩, ⟨Int.le_refl _, (by decide : (0 : Int) ≤ 1099511627776)⟩, ⟨Int.le_refl _, (by decide : (0 : Int) ≤ 64)⟩, mayBatch0, ⟨Int.le_refl _, (by decide : (0 : Int) ≤ 1048576)⟩, ⟨Int.le_refl _, (by decide : (0 : Int) ≤ 64)⟩, ⟨Int.le_refl _, (by decide : (0 : Int) ≤ 1099511627776)⟩, ⟨Nat.zero_le _, fun i hi => absurd hi (Nat.not_lt_zero i)⟩, ⟨Nat.zero_le _, fun i hi => absurd hi (Nat.not_lt_zero i)⟩, ⟨Nat.zero_le _, fun i hi => absurd hi (Nat.not_lt_zero i)⟩, Nat.zero_le _⟩
 ·exact ⟨fun i hi => absurd hi (Nat.not_lt_zero i), seg32, fun i hi => absurd hi (Nat.not_lt_zero i), fun i hi => absurd hi (Nat.not_lt_zero i), o2, ⟨seg32, fun i hi => absurd hi (Nat.not_lt_zero i)⟩, fun i hi => absurd hi (Nat.not_lt_zero i)⟩
theorem fld6_rd {m : SMsg} (g : Good m) (ht : segMsg m) (hk : m.kind = 6) {s : RS} {t : List UInt8} (he : s.e = 0) (hb : s.l = bodyB m ++ t) : SameM (fld6 (msg0 m.kind) s).1 m ∧ (fld6 (msg0 m.kind) s).2 = { s with l := t } := by
 rw [bodyB] at hb
 rw [if_neg (by omega)] at hb
 rw [if_neg (by omega)] at hb
 rw [if_neg (by omega)] at hb
 rw [if_neg (by omega)] at hb
 rw [if_neg (by omega)] at hb
 rw [if_pos hk] at hb
 try simp only [numsB, List.append_nil, List.append_assoc] at hb
 have ho : SameM m (o6 m) := by have := g.only; rw [onlyS] at this; simpa [hk] using this
 obtain ⟨a1, b1⟩ := num_rd (n := m.epoch) (most := 1048576) g.epoch.1 g.epoch.2 (by decide) s _ he hb
 have e1 : f6S1 s = { s with l := putZ m.slot ++ t } := by show (numR 1048576 s).2 = _; rw [b1]
 obtain ⟨a2, b2⟩ := num_rd (n := m.slot) (most := 1099511627776) g.slot.1 g.slot.2 (by decide) (f6S1 s) _ (by rw [e1]; exact he) (by rw [e1])
 have e2 : f6S2 s = { s with l := t } := by show (numR 1099511627776 (f6S1 s)).2 = _; rw [b2, e1]
 refine ⟨?_, e2⟩
 have hs := sameM_symm ho
 exact ⟨rfl, a1, hs.leader, hs.view, a2, hs.batch, hs.vote, hs.cepoch, hs.cleader, hs.cview, hs.held, hs.news, hs.digest, hs.cert, hs.state, hs.sig⟩
theorem fld6_wr {s : RS} (he : (fld6 (msg0 6) s).2.e = 0) (hl : (fld6 (msg0 6) s).2.l = []) : s.e = 0 ∧ s.l = bodyB (fld6 (msg0 6) s).1 ∧ Good (fld6 (msg0 6) s).1 ∧ segMsg (fld6 (msg0 6) s).1 := by
 obtain ⟨g2, l2, o2, b2⟩ := num_wr 1099511627776 (f6S1 s) he
 obtain ⟨g1, l1, o1, b1⟩ := num_wr 1048576 s g2
 refine ⟨g1, ?_, ?_, ?_⟩
 ·have hk : (fld6 (msg0 6) s).1.kind = 6 := rfl
  rw [bodyB, hk]
  rw [if_neg (show ¬ (6 : Int) = 1 by decide)]
  rw [if_neg (show ¬ (6 : Int) = 2 by decide)]
  rw [if_neg (show ¬ (6 : Int) = 3 by decide)]
  rw [if_neg (show ¬ (6 : Int) = 4 by decide)]
  rw [if_neg (show ¬ (6 : Int) = 5 by decide)]
  rw [if_pos (show (6 : Int) = 6 from rfl)]
  show s.l = numsB [(numR 1048576 s).1, (numR 1099511627776 (f6S1 s)).1]
  have z : s.l = (numsB [(numR 1048576 s).1, (numR 1099511627776 (f6S1 s)).1]) ++ (fld6 (msg0 6) s).2.l := by
   try simp only [numsB, List.append_nil, List.append_assoc]
   have l2' : (f6S1 s).l = putZ (numR 1099511627776 (f6S1 s)).1 ++ (fld6 (msg0 6) s).2.l := l2
   rw [← l2']
   have l1' : s.l = putZ (numR 1048576 s).1 ++ (f6S1 s).l := l1
   exact l1'
  rw [hl, List.append_nil] at z
  exact z
 ·exact ⟨⟨show (1 : Int) ≤ 6 by decide, show (6 : Int) ≤ 8 by decide⟩, sameM_refl _, fun h => absurd h (show ¬ (6 : Int) = 2 by decide), fun h => absurd h (show ¬ (6 : Int) = 7 by decide), ⟨o1.1, o1.2.1⟩, ⟨o2.1, o2.2.1⟩, ⟨Int.le_refl _, (by decide : (0 : Int) ≤ 1099511627776)⟩, ⟨Int.le_refl _, (by decide : (0 : Int) ≤ 64)⟩, mayBatch0, ⟨Int.le_refl _, (by decide : (0 : Int) ≤ 1048576)⟩, ⟨Int.le_refl _, (by decide : (0 : Int) ≤ 64)⟩, ⟨Int.le_refl _, (by decide : (0 : Int) ≤ 1099511627776)⟩, ⟨Nat.zero_le _, fun i hi => absurd hi (Nat.not_lt_zero i)⟩, ⟨Nat.zero_le _, fun i hi => absurd hi (Nat.not_lt_zero i)⟩, ⟨Nat.zero_le _, fun i hi => absurd hi (Nat.not_lt_zero i)⟩, Nat.zero_le _⟩
 ·exact ⟨fun i hi => absurd hi (Nat.not_lt_zero i), seg32, fun i hi => absurd hi (Nat.not_lt_zero i), fun i hi => absurd hi (Nat.not_lt_zero i), seg32, ⟨seg32, fun i hi => absurd hi (Nat.not_lt_zero i)⟩, fun i hi => absurd hi (Nat.not_lt_zero i)⟩
theorem fld7_rd {m : SMsg} (g : Good m) (ht : segMsg m) (hk : m.kind = 7) {s : RS} {t : List UInt8} (he : s.e = 0) (hb : s.l = bodyB m ++ t) : SameM (fld7 (msg0 m.kind) s).1 m ∧ (fld7 (msg0 m.kind) s).2 = { s with l := t } := by
 rw [bodyB] at hb
 rw [if_neg (by omega)] at hb
 rw [if_neg (by omega)] at hb
 rw [if_neg (by omega)] at hb
 rw [if_neg (by omega)] at hb
 rw [if_neg (by omega)] at hb
 rw [if_neg (by omega)] at hb
 rw [if_pos hk] at hb
 try simp only [numsB, List.append_nil, List.append_assoc] at hb
 have ho : SameM m (o7 m) := by have := g.only; rw [onlyS] at this; simpa [hk] using this
 obtain ⟨a1, b1⟩ := batch_rd g.batch ht.batch s _ he hb
 have e1 : f7S1 s = { s with l := certB m.cert ++ t } := by show (batchR s).2 = _; rw [b1]
 obtain ⟨a2, b2⟩ := cert_rd (g.cert hk) ht.cert (f7S1 s) _ (by rw [e1]; exact he) (by rw [e1])
 have e2 : f7S2 s = { s with l := t } := by show (certR (f7S1 s)).2 = _; rw [b2, e1]
 refine ⟨?_, e2⟩
 have hs := sameM_symm ho
 exact ⟨rfl, hs.epoch, hs.leader, hs.view, hs.slot, a1, hs.vote, hs.cepoch, hs.cleader, hs.cview, hs.held, hs.news, hs.digest, a2, hs.state, hs.sig⟩
theorem fld7_wr {s : RS} (he : (fld7 (msg0 7) s).2.e = 0) (hl : (fld7 (msg0 7) s).2.l = []) : s.e = 0 ∧ s.l = bodyB (fld7 (msg0 7) s).1 ∧ Good (fld7 (msg0 7) s).1 ∧ segMsg (fld7 (msg0 7) s).1 := by
 obtain ⟨g2, l2, o2, b2⟩ := cert_wr (f7S1 s) he
 obtain ⟨g1, l1, o1, b1⟩ := batch_wr s g2
 refine ⟨g1, ?_, ?_, ?_⟩
 ·have hk : (fld7 (msg0 7) s).1.kind = 7 := rfl
  rw [bodyB, hk]
  rw [if_neg (show ¬ (7 : Int) = 1 by decide)]
  rw [if_neg (show ¬ (7 : Int) = 2 by decide)]
  rw [if_neg (show ¬ (7 : Int) = 3 by decide)]
  rw [if_neg (show ¬ (7 : Int) = 4 by decide)]
  rw [if_neg (show ¬ (7 : Int) = 5 by decide)]
  rw [if_neg (show ¬ (7 : Int) = 6 by decide)]
  rw [if_pos (show (7 : Int) = 7 from rfl)]
  show s.l = batchB (batchR s).1 ++ (certB (certR (f7S1 s)).1)
  have z : s.l = (batchB (batchR s).1 ++ (certB (certR (f7S1 s)).1)) ++ (fld7 (msg0 7) s).2.l := by
   try simp only [numsB, List.append_nil, List.append_assoc]
   have l2' : (f7S1 s).l = certB (certR (f7S1 s)).1 ++ (fld7 (msg0 7) s).2.l := l2
   rw [← l2']
   have l1' : s.l = batchB (batchR s).1 ++ (f7S1 s).l := l1
   exact l1'
  rw [hl, List.append_nil] at z
  exact z
 ·exact ⟨⟨show (1 : Int) ≤ 7 by decide, show (7 : Int) ≤ 8 by decide⟩, sameM_refl _, fun h => absurd h (show ¬ (7 : Int) = 2 by decide), fun _ => o2.1, ⟨Int.le_refl _, (by decide : (0 : Int) ≤ 1048576)⟩, ⟨Int.le_refl _, (by decide : (0 : Int) ≤ 1099511627776)⟩, ⟨Int.le_refl _, (by decide : (0 : Int) ≤ 1099511627776)⟩, ⟨Int.le_refl _, (by decide : (0 : Int) ≤ 64)⟩, o1.1, ⟨Int.le_refl _, (by decide : (0 : Int) ≤ 1048576)⟩, ⟨Int.le_refl _, (by decide : (0 : Int) ≤ 64)⟩, ⟨Int.le_refl _, (by decide : (0 : Int) ≤ 1099511627776)⟩, ⟨Nat.zero_le _, fun i hi => absurd hi (Nat.not_lt_zero i)⟩, ⟨Nat.zero_le _, fun i hi => absurd hi (Nat.not_lt_zero i)⟩, ⟨Nat.zero_le _, fun i hi => absurd hi (Nat.not_lt_zero i)⟩, Nat.zero_le _⟩
 ·exact ⟨o1.2, seg32, fun i hi => absurd hi (Nat.not_lt_zero i), fun i hi => absurd hi (Nat.not_lt_zero i), seg32, o2.2, fun i hi => absurd hi (Nat.not_lt_zero i)⟩
theorem fld8_rd {m : SMsg} (g : Good m) (ht : segMsg m) (hk : m.kind = 8) {s : RS} {t : List UInt8} (he : s.e = 0) (hb : s.l = bodyB m ++ t) : SameM (fld8 (msg0 m.kind) s).1 m ∧ (fld8 (msg0 m.kind) s).2 = { s with l := t } := by
 rw [bodyB] at hb
 rw [if_neg (by omega)] at hb
 rw [if_neg (by omega)] at hb
 rw [if_neg (by omega)] at hb
 rw [if_neg (by omega)] at hb
 rw [if_neg (by omega)] at hb
 rw [if_neg (by omega)] at hb
 rw [if_neg (by omega)] at hb
 rw [if_pos hk] at hb
 try simp only [numsB, List.append_nil, List.append_assoc] at hb
 have ho : SameM m (o8 m) := by have := g.only; rw [onlyS] at this; simpa [hk] using this
 obtain ⟨a1, b1⟩ := text_rd (t := m.state) (most := 4194304) (by have := g.state; omega) (by decide) s _ he hb
 have e1 : f8S1 s = { s with l := putZ (m.n : Int) ++ (signsB m.sig m.n ++ t) } := by show (textR 4194304 s).2 = _; rw [b1]
 obtain ⟨n2, a2, b2⟩ := get_rd (one := signR) (enc := signB) (rel := fun x y => x = y) (el := m.sig) (n := m.n) (most := 64) (by have := g.sig.1; omega) (by decide) (fun i hi => sign_rd (g.sig.2 i hi) (ht.sig i hi)) (s := (f8S1 s)) (by rw [e1]; exact he) (tail := t) (by rw [e1]; simp only [numsB, List.append_nil, signsB_encs])
 have e2 : f8S2 s = { s with l := t } := by show getS signR 64 (f8S1 s) = _; rw [b2, e1]
 refine ⟨?_, e2⟩
 have hs := sameM_symm ho
 exact ⟨rfl, hs.epoch, hs.leader, hs.view, hs.slot, hs.batch, hs.vote, hs.cepoch, hs.cleader, hs.cview, hs.held, hs.news, hs.digest, hs.cert, a1, ⟨n2, fun i hi => a2 i (by rw [← n2]; exact hi)⟩⟩
theorem fld8_wr {s : RS} (he : (fld8 (msg0 8) s).2.e = 0) (hl : (fld8 (msg0 8) s).2.l = []) : s.e = 0 ∧ s.l = bodyB (fld8 (msg0 8) s).1 ∧ Good (fld8 (msg0 8) s).1 ∧ segMsg (fld8 (msg0 8) s).1 := by
 obtain ⟨g2, l2, n2, o2, b2⟩ := get_wr sign_wr (most := 64) (s := (f8S1 s)) he
 obtain ⟨g1, l1, o1, b1⟩ := text_wr 4194304 (by decide) s g2
 refine ⟨g1, ?_, ?_, ?_⟩
 ·have hk : (fld8 (msg0 8) s).1.kind = 8 := rfl
  rw [bodyB, hk]
  rw [if_neg (show ¬ (8 : Int) = 1 by decide)]
  rw [if_neg (show ¬ (8 : Int) = 2 by decide)]
  rw [if_neg (show ¬ (8 : Int) = 3 by decide)]
  rw [if_neg (show ¬ (8 : Int) = 4 by decide)]
  rw [if_neg (show ¬ (8 : Int) = 5 by decide)]
  rw [if_neg (show ¬ (8 : Int) = 6 by decide)]
  rw [if_neg (show ¬ (8 : Int) = 7 by decide)]
  rw [if_pos (show (8 : Int) = 8 from rfl)]
  show s.l = textB (textR 4194304 s).1 ++ ((numsB [((getN signR 64 (f8S1 s) : Nat) : Int)] ++ signsB (getEl signR 64 (f8S1 s)) (getN signR 64 (f8S1 s))))
  have z : s.l = (textB (textR 4194304 s).1 ++ ((numsB [((getN signR 64 (f8S1 s) : Nat) : Int)] ++ signsB (getEl signR 64 (f8S1 s)) (getN signR 64 (f8S1 s))))) ++ (fld8 (msg0 8) s).2.l := by
   try simp only [numsB, List.append_nil, List.append_assoc]
   have l2' : (f8S1 s).l = putZ ((getN signR 64 (f8S1 s) : Nat) : Int) ++ (signsB (getEl signR 64 (f8S1 s)) (getN signR 64 (f8S1 s)) ++ (fld8 (msg0 8) s).2.l) := by rw [signsB_encs]; have := l2; simp only [numsB, List.append_nil] at this; exact this
   rw [← l2']
   have l1' : s.l = textB (textR 4194304 s).1 ++ (f8S1 s).l := l1
   exact l1'
  rw [hl, List.append_nil] at z
  exact z
 ·exact ⟨⟨show (1 : Int) ≤ 8 by decide, show (8 : Int) ≤ 8 by decide⟩, sameM_refl _, fun h => absurd h (show ¬ (8 : Int) = 2 by decide), fun h => absurd h (show ¬ (8 : Int) = 7 by decide), ⟨Int.le_refl _, (by decide : (0 : Int) ≤ 1048576)⟩, ⟨Int.le_refl _, (by decide : (0 : Int) ≤ 1099511627776)⟩, ⟨Int.le_refl _, (by decide : (0 : Int) ≤ 1099511627776)⟩, ⟨Int.le_refl _, (by decide : (0 : Int) ≤ 64)⟩, mayBatch0, ⟨Int.le_refl _, (by decide : (0 : Int) ≤ 1048576)⟩, ⟨Int.le_refl _, (by decide : (0 : Int) ≤ 64)⟩, ⟨Int.le_refl _, (by decide : (0 : Int) ≤ 1099511627776)⟩, ⟨Nat.zero_le _, fun i hi => absurd hi (Nat.not_lt_zero i)⟩, ⟨Nat.zero_le _, fun i hi => absurd hi (Nat.not_lt_zero i)⟩, ⟨Int.ofNat_le.1 n2, fun i hi => (o2 i hi).1⟩, (by have : (((textR 4194304 s).1.size : Nat) : Int) ≤ 4194304 := o1; exact Int.ofNat_le.1 this)⟩
 ·exact ⟨fun i hi => absurd hi (Nat.not_lt_zero i), seg32, fun i hi => absurd hi (Nat.not_lt_zero i), fun i hi => absurd hi (Nat.not_lt_zero i), seg32, ⟨seg32, fun i hi => absurd hi (Nat.not_lt_zero i)⟩, fun i hi => (o2 i hi).2⟩
theorem fields_rd {m : SMsg} (g : Good m) (ht : segMsg m) {s : RS} {t : List UInt8} (he : s.e = 0) (hl : s.l = bodyB m ++ t) : SameM (fieldsR (msg0 m.kind) s).1 m ∧ (fieldsR (msg0 m.kind) s).2 = { s with l := t } := by
 have hk := g.kind
 have hm : (msg0 m.kind).kind = m.kind := rfl
 have : m.kind = 1 ∨ m.kind = 2 ∨ m.kind = 3 ∨ m.kind = 4 ∨ m.kind = 5 ∨ m.kind = 6 ∨ m.kind = 7 ∨ m.kind = 8 := by omega
 rcases this with h | h | h | h | h | h | h | h
 ·have e : fieldsR (msg0 m.kind) s = fld1 (msg0 m.kind) s := by simp only [fieldsR, hm, if_pos h]
  rw [e]; exact fld1_rd g ht h he hl
 ·have e : fieldsR (msg0 m.kind) s = fld2 (msg0 m.kind) s := by simp only [fieldsR, hm, if_neg (show ¬ m.kind = 1 by omega), if_pos h]
  rw [e]; exact fld2_rd g ht h he hl
 ·have e : fieldsR (msg0 m.kind) s = fld3 (msg0 m.kind) s := by simp only [fieldsR, hm, if_neg (show ¬ m.kind = 1 by omega), if_neg (show ¬ m.kind = 2 by omega), if_pos h]
  rw [e]; exact fld3_rd g ht h he hl
 ·have e : fieldsR (msg0 m.kind) s = fld4 (msg0 m.kind) s := by simp only [fieldsR, hm, if_neg (show ¬ m.kind = 1 by omega), if_neg (show ¬ m.kind = 2 by omega), if_neg (show ¬ m.kind = 3 by omega), if_pos h]
  rw [e]; exact fld4_rd g ht h he hl
 ·have e : fieldsR (msg0 m.kind) s = fld5 (msg0 m.kind) s := by simp only [fieldsR, hm, if_neg (show ¬ m.kind = 1 by omega), if_neg (show ¬ m.kind = 2 by omega), if_neg (show ¬ m.kind = 3 by omega), if_neg (show ¬ m.kind = 4 by omega), if_pos h]
  rw [e]; exact fld5_rd g ht h he hl
 ·have e : fieldsR (msg0 m.kind) s = fld6 (msg0 m.kind) s := by simp only [fieldsR, hm, if_neg (show ¬ m.kind = 1 by omega), if_neg (show ¬ m.kind = 2 by omega), if_neg (show ¬ m.kind = 3 by omega), if_neg (show ¬ m.kind = 4 by omega), if_neg (show ¬ m.kind = 5 by omega), if_pos h]
  rw [e]; exact fld6_rd g ht h he hl
 ·have e : fieldsR (msg0 m.kind) s = fld7 (msg0 m.kind) s := by simp only [fieldsR, hm, if_neg (show ¬ m.kind = 1 by omega), if_neg (show ¬ m.kind = 2 by omega), if_neg (show ¬ m.kind = 3 by omega), if_neg (show ¬ m.kind = 4 by omega), if_neg (show ¬ m.kind = 5 by omega), if_neg (show ¬ m.kind = 6 by omega), if_pos h]
  rw [e]; exact fld7_rd g ht h he hl
 ·have e : fieldsR (msg0 m.kind) s = fld8 (msg0 m.kind) s := by simp only [fieldsR, hm, if_neg (show ¬ m.kind = 1 by omega), if_neg (show ¬ m.kind = 2 by omega), if_neg (show ¬ m.kind = 3 by omega), if_neg (show ¬ m.kind = 4 by omega), if_neg (show ¬ m.kind = 5 by omega), if_neg (show ¬ m.kind = 6 by omega), if_neg (show ¬ m.kind = 7 by omega), if_pos h]
  rw [e]; exact fld8_rd g ht h he hl
theorem fields_wr {k : Int} (hk : 1 ≤ k ∧ k ≤ 8) {s : RS} (he : (fieldsR (msg0 k) s).2.e = 0) (hl : (fieldsR (msg0 k) s).2.l = []) : s.e = 0 ∧ s.l = bodyB (fieldsR (msg0 k) s).1 ∧ Good (fieldsR (msg0 k) s).1 ∧ segMsg (fieldsR (msg0 k) s).1 ∧ (fieldsR (msg0 k) s).1.kind = k := by
 have hm : (msg0 k).kind = k := rfl
 have : k = 1 ∨ k = 2 ∨ k = 3 ∨ k = 4 ∨ k = 5 ∨ k = 6 ∨ k = 7 ∨ k = 8 := by omega
 rcases this with rfl | rfl | rfl | rfl | rfl | rfl | rfl | rfl
 ·have e : fieldsR (msg0 1) s = fld1 (msg0 1) s := by simp only [fieldsR, hm, if_true]
  rw [e] at he hl ⊢
  obtain ⟨q1, q2, q3, q4⟩ := fld1_wr he hl
  exact ⟨q1, q2, q3, q4, rfl⟩
 ·have e : fieldsR (msg0 2) s = fld2 (msg0 2) s := by simp only [fieldsR, hm, if_neg (show ¬ (2 : Int) = 1 by decide), if_true]
  rw [e] at he hl ⊢
  obtain ⟨q1, q2, q3, q4⟩ := fld2_wr he hl
  exact ⟨q1, q2, q3, q4, rfl⟩
 ·have e : fieldsR (msg0 3) s = fld3 (msg0 3) s := by simp only [fieldsR, hm, if_neg (show ¬ (3 : Int) = 1 by decide), if_neg (show ¬ (3 : Int) = 2 by decide), if_true]
  rw [e] at he hl ⊢
  obtain ⟨q1, q2, q3, q4⟩ := fld3_wr he hl
  exact ⟨q1, q2, q3, q4, rfl⟩
 ·have e : fieldsR (msg0 4) s = fld4 (msg0 4) s := by simp only [fieldsR, hm, if_neg (show ¬ (4 : Int) = 1 by decide), if_neg (show ¬ (4 : Int) = 2 by decide), if_neg (show ¬ (4 : Int) = 3 by decide), if_true]
  rw [e] at he hl ⊢
  obtain ⟨q1, q2, q3, q4⟩ := fld4_wr he hl
  exact ⟨q1, q2, q3, q4, rfl⟩
 ·have e : fieldsR (msg0 5) s = fld5 (msg0 5) s := by simp only [fieldsR, hm, if_neg (show ¬ (5 : Int) = 1 by decide), if_neg (show ¬ (5 : Int) = 2 by decide), if_neg (show ¬ (5 : Int) = 3 by decide), if_neg (show ¬ (5 : Int) = 4 by decide), if_true]
  rw [e] at he hl ⊢
  obtain ⟨q1, q2, q3, q4⟩ := fld5_wr he hl
  exact ⟨q1, q2, q3, q4, rfl⟩
 ·have e : fieldsR (msg0 6) s = fld6 (msg0 6) s := by simp only [fieldsR, hm, if_neg (show ¬ (6 : Int) = 1 by decide), if_neg (show ¬ (6 : Int) = 2 by decide), if_neg (show ¬ (6 : Int) = 3 by decide), if_neg (show ¬ (6 : Int) = 4 by decide), if_neg (show ¬ (6 : Int) = 5 by decide), if_true]
  rw [e] at he hl ⊢
  obtain ⟨q1, q2, q3, q4⟩ := fld6_wr he hl
  exact ⟨q1, q2, q3, q4, rfl⟩
 ·have e : fieldsR (msg0 7) s = fld7 (msg0 7) s := by simp only [fieldsR, hm, if_neg (show ¬ (7 : Int) = 1 by decide), if_neg (show ¬ (7 : Int) = 2 by decide), if_neg (show ¬ (7 : Int) = 3 by decide), if_neg (show ¬ (7 : Int) = 4 by decide), if_neg (show ¬ (7 : Int) = 5 by decide), if_neg (show ¬ (7 : Int) = 6 by decide), if_true]
  rw [e] at he hl ⊢
  obtain ⟨q1, q2, q3, q4⟩ := fld7_wr he hl
  exact ⟨q1, q2, q3, q4, rfl⟩
 ·have e : fieldsR (msg0 8) s = fld8 (msg0 8) s := by simp only [fieldsR, hm, if_neg (show ¬ (8 : Int) = 1 by decide), if_neg (show ¬ (8 : Int) = 2 by decide), if_neg (show ¬ (8 : Int) = 3 by decide), if_neg (show ¬ (8 : Int) = 4 by decide), if_neg (show ¬ (8 : Int) = 5 by decide), if_neg (show ¬ (8 : Int) = 6 by decide), if_neg (show ¬ (8 : Int) = 7 by decide), if_true]
  rw [e] at he hl ⊢
  obtain ⟨q1, q2, q3, q4⟩ := fld8_wr he hl
  exact ⟨q1, q2, q3, q4, rfl⟩
/-- What was put is read, whatever stands behind. -/
theorem decF_enc {m : SMsg} (h : goodS m = true) (ht : segMsg m) (t : List UInt8) : decK (encB m ++ t) = m.kind ∧ (dec1 (encB m ++ t)).e = 0 ∧ SameM (decF (encB m ++ t)).1 m ∧ (decF (encB m ++ t)).2 = { l := t } := by
 have g := good_iff.1 h
 have hk := g.kind
 obtain ⟨a1, b1⟩ := num_rd (n := m.kind) (most := 8) (by omega) hk.2 (by decide) { l := encB m ++ t } (bodyB m ++ t) rfl (by rw [encB, List.append_assoc])
 have e1 : dec1 (encB m ++ t) = { l := bodyB m ++ t } := b1
 have eK : decK (encB m ++ t) = m.kind := a1
 obtain ⟨q1, q2⟩ := fields_rd g ht (s := { l := bodyB m ++ t }) (t := t) rfl rfl
 have eF : decF (encB m ++ t) = fieldsR (msg0 m.kind) { l := bodyB m ++ t } := by rw [decF, eK, e1]
 exact ⟨eK, by rw [e1], by rw [eF]; exact q1, by rw [eF, q2]⟩
theorem dec_enc {m : SMsg} (h : goodS m = true) (ht : segMsg m) (hlen : (encB m).length ≤ 4194304) : (decR (encB m)).2 = 0 ∧ sameMsgS (decR (encB m)).1 m = true := by
 have hk := (good_iff.1 h).kind
 obtain ⟨eK, e1, q1, q2⟩ := decF_enc h ht []
 rw [List.append_nil] at eK e1 q1 q2
 have : decR (encB m) = ((decF (encB m)).1, 0) := by
  unfold decR
  rw [if_neg (by omega), if_neg (by rw [eK]; omega), if_neg (by rw [q2]; simp), if_neg (by rw [q2]; simp [doneR])]
 rw [this]
 exact ⟨rfl, sameMsg_iff.2 q1⟩
/-- With more behind it there is no message. -/
theorem dec_more {m : SMsg} (h : goodS m = true) (ht : segMsg m) {t : List UInt8} (hne : t ≠ []) : (decR (encB m ++ t)).2 ≠ 0 := by
 have hk := (good_iff.1 h).kind
 obtain ⟨eK, e1, q1, q2⟩ := decF_enc h ht t
 unfold decR
 have hl : 0 < t.length := List.length_pos_iff.2 hne
 split
 ·decide
 ·rw [if_neg (by rw [eK]; omega), if_neg (by rw [q2]; simp)]
  have hd : doneR (decF (encB m ++ t)).2 = 12 := by rw [q2]; simp [doneR, hl]
  rw [hd, if_pos (by decide)]
  decide
/-- What is read was put. -/
theorem enc_dec {l : List UInt8} {x : SMsg} (h : decR l = (x, 0)) : goodS x = true ∧ segMsg x ∧ encB x = l ∧ l.length ≤ 4194304 := by
 unfold decR at h
 split at h
 ·exact absurd (congrArg Prod.snd h) (by simp)
 ·rename_i h0
  split at h
  ·exact absurd (congrArg Prod.snd h) (by simp)
  ·rename_i h1
   split at h
   ·exact absurd (congrArg Prod.snd h) (by simp)
   ·rename_i h2
    split at h
    ·rename_i h3
     exact absurd (congrArg Prod.snd h) h3
    ·rename_i h3
     have h3 : doneR (decF l).2 = 0 := by simpa using h3
     have hx : (decF l).1 = x := congrArg Prod.fst h
     have he : (decF l).2.e = 0 := by
      unfold doneR at h3
      split at h3
      ·rename_i h4; exact absurd h3 h4
      ·rename_i h4; simpa using h4
     have hl : (decF l).2.l = [] := by
      unfold doneR at h3
      rw [if_neg (by simpa using he)] at h3
      split at h3
      ·cases h3
      ·exact List.eq_nil_of_length_eq_zero (by omega)
     have he1 : (dec1 l).e = 0 := by
      refine Classical.byContradiction fun hne => ?_
      exact (fieldsR_aft (msg0 (decK l)) (dec1 l)).2 hne he
     obtain ⟨g1, g2, g3, g4⟩ := num_wr 8 { l := l } he1
     have hk : 1 ≤ decK l ∧ decK l ≤ 8 := by
      have k1 : 0 ≤ decK l := g3.1
      have k2 : decK l ≤ 8 := g3.2.1
      have k3 : decK l ≠ 0 := fun k3 => h1 ⟨k3, he1⟩
      omega
     obtain ⟨q1, q2, q3, q4, q5⟩ := fields_wr hk (s := dec1 l) he hl
     have hx' : (fieldsR (msg0 (decK l)) (dec1 l)).1 = x := hx
     rw [hx'] at q2 q3 q4 q5
     refine ⟨good_iff.2 q3, q4, ?_, by omega⟩
     rw [encB, q5, ← q2]
     exact g2.symm
/-- No beginning is a message. -/
theorem dec_begin {m : SMsg} (h : goodS m = true) (ht : segMsg m) {k : Nat} (hk : k < (encB m).length) : (decR ((encB m).take k)).2 ≠ 0 := by
 intro h0
 have h1 : decR ((encB m).take k) = ((decR ((encB m).take k)).1, 0) := by rw [← h0]
 obtain ⟨g1, g2, g3, g4⟩ := enc_dec h1
 have e : encB m = encB (decR ((encB m).take k)).1 ++ (encB m).drop k := by rw [g3, List.take_append_drop]
 obtain ⟨_, _, _, q2⟩ := decF_enc h ht []
 obtain ⟨_, _, _, r2⟩ := decF_enc g1 g2 ((encB m).drop k)
 rw [← e] at r2
 rw [List.append_nil, r2] at q2
 have := congrArg RS.l q2
 have hl := congrArg List.length this
 rw [List.length_drop] at hl
 simp at hl
 omega
end Go.Proofs.Ythifjamdfpjilaa
namespace Go.Proofs.Ythifjamdfpjilaa
open Go Sy Go.Proofs
def encE (m : SMsg) : Int := if goodS m = true then (if 4194304 < (encB m).length then 3 else 0) else 130
def encT (m : SMsg) : ByteArray := if encE m = 0 then baL (encB m) else ByteArray.mk (Array.mk [])
theorem num63_of {n : Int} {k : Int} (h : 0 ≤ n ∧ n ≤ k) (hk : k < 9223372036854775808) : num63 n := ⟨h.1, by omega⟩
theorem reqOk_of {r : SReq} (h : mayReqS r = true) (ht : SegOk 16 r.tag) : ReqOk r ∧ r.data.size ≤ 10000 := by
 simp only [mayReqS, Bool.and_eq_true, decide_eq_true_eq, upto_iff] at h
 exact ⟨⟨num63_of h.1 (by decide), num63_of h.2.1 (by decide), by omega, ht⟩, by omega⟩
theorem batchOk_of {b : SBatch} (h : mayBatchS b = true) (ht : segBatch b) : BatchOk b := by
 simp only [mayBatchS, Bool.and_eq_true, Bool.not_eq_true', Bool.and_eq_false_iff, decide_eq_false_iff_not, allS_iff] at h
 obtain ⟨h1, h2, h3⟩ := h
 refine ⟨by omega, fun hn => ?_, fun k hk => (reqOk_of (h3 k hk) (ht k hk)).1, fun k hk => (reqOk_of (h3 k hk) (ht k hk)).2⟩
 rcases h1 with h1 | h1
 ·rw [hn] at h1; cases h1
 ·omega
theorem voteOk_of {v : SVote} (h : mayVoteS v = true) (ht : SegOk 32 v.digest) : VoteOk v := by
 simp only [mayVoteS, Bool.and_eq_true, Bool.or_eq_true, decide_eq_true_eq, upto_iff] at h
 obtain ⟨h1, h2, h3, h4⟩ := h
 exact ⟨⟨by omega, by omega⟩, num63_of h2 (by decide), num63_of h3 (by decide), num63_of h4 (by decide), ht⟩
theorem signOk_of {s : SSign} (h : maySignS s = true) (ht : SegOk 16 s.tag) : SignOk s := ⟨num63_of (upto_iff.1 h) (by decide), ht⟩
theorem certOk_of {c : SCert} (h : mayCertS c = true) (ht : segCert c) : CertOk c := by
 simp only [mayCertS, Bool.and_eq_true, allS_iff] at h
 exact ⟨voteOk_of h.1 ht.vote, by have := h.2.1; omega, fun k hk => signOk_of (h.2.2 k hk) (ht.sig k hk)⟩
theorem heldOk_of {x : SHeld} (h : mayHeldS x = true) (ht : segHeld x) : HeldOk x := by
 simp only [mayHeldS, Bool.and_eq_true] at h
 exact ⟨batchOk_of h.1 ht.batch, certOk_of h.2 ht.cert⟩
theorem envOk_of {x : SEnv} (h : mayEnvS x = true) (ht : SegOk 16 x.tag) : EnvOk x := by
 simp only [mayEnvS, Bool.and_eq_true, decide_eq_true_eq, upto_iff] at h
 exact ⟨num63_of h.1 (by decide), by have := h.2; omega, ht⟩
theorem encOk_of {m : SMsg} (h : goodS m = true) (ht : segMsg m) : EncOk m := by
 have g := good_iff.1 h
 exact ⟨g.kind, num63_of g.epoch (by decide), num63_of g.leader (by decide), num63_of g.view (by decide), num63_of g.slot (by decide), num63_of g.cepoch (by decide), num63_of g.cleader (by decide), num63_of g.cview (by decide),
  batchOk_of g.batch ht.batch, fun hk => voteOk_of (g.vote hk) ht.vote, by have := g.held.1; omega, fun k hk => heldOk_of (g.held.2 k hk) (ht.held k hk), by have := g.news.1; omega, fun k hk => envOk_of (g.news.2 k hk) (ht.news k hk),
  ht.digest, fun hk => certOk_of (g.cert hk) ht.cert, by have := g.state; omega, by have := g.sig.1; omega, fun k hk => signOk_of (g.sig.2 k hk) (ht.sig k hk)⟩
theorem fitM_good {m : SMsg} (h : goodS m = true) : FitM m := by
 have g := good_iff.1 h
 have hb : ∀ {b : SBatch}, mayBatchS b = true → b.n ≤ 1000000 := fun h => by
  simp only [mayBatchS, Bool.and_eq_true, allS_iff] at h
  have := h.2.1; omega
 have hc : ∀ {c : SCert}, mayCertS c = true → c.n ≤ 1000000 := fun h => by
  simp only [mayCertS, Bool.and_eq_true, allS_iff] at h
  have := h.2.1; omega
 refine ⟨hb g.batch, by have := g.held.1; omega, fun k hk => ?_, by have := g.news.1; omega, ?_, by have := g.sig.1; omega⟩
 ·have := g.held.2 k hk
  simp only [mayHeldS, Bool.and_eq_true] at this
  exact ⟨hb this.1, hc this.2⟩
 ·by_cases h7 : m.kind = 7
  ·exact hc (g.cert h7)
  ·have ho := g.only.cert
   have : (onlyS m).cert = { vote := vote0 } := by
    unfold onlyS
    repeat' split
    all_goals first | rfl | contradiction
   rw [this] at ho
   have := (sameCert_iff.1 ho).2.1
   rw [this]; exact Nat.zero_le _
theorem T_encG {m : SMsg} (hf : FitM m) (ht : segMsg m) : T Try.prog 21 [.agg m.c] [] (.tup [.str (encT m), .int .i64 (encE m)]) [] := by
 have h := T_enc (m := m) (T_good hf) fun h => encOk_of h ht
 have e : encV m (goodS m) = .tup [.str (encT m), .int .i64 (encE m)] := by
  unfold encV encT encE
  cases goodS m with
  | false => rfl
  | true =>
   simp only [if_true]
   by_cases hl : 4194304 < (encB m).length
   ·simp only [if_pos hl]; rfl
   ·simp only [if_neg hl]; rfl
 rw [e] at h; exact h
theorem encE_zero {m : SMsg} (h : encE m = 0) : goodS m = true ∧ (encB m).length ≤ 4194304 ∧ encT m = baL (encB m) := by
 have h' := h
 unfold encE at h
 split at h
 ·rename_i h1
  split at h
  ·cases h
  ·rename_i h2
   exact ⟨h1, by omega, by rw [encT, if_pos h']⟩
 ·cases h
end Go.Proofs.Ythifjamdfpjilaa
namespace Sy
open Go

variable {P : Program}
theorem sh_struct {d : Nat} {t : TypeId} {vs : List V} {fs : Array Field} (h : ShC P d t vs) (hu : P.underlying t = some (.struct fs)) : ∃ d', ShFs (ShC P d') fs.toList vs := by
 cases d with
 | zero => exact h.elim
 | succ d => rw [ShC, hu] at h; exact ⟨d, h⟩
theorem sh_slice {d : Nat} {t e : TypeId} {vs : List V} (h : ShC P d t vs) (hu : P.underlying t = some (.slice e)) : ∃ d' len f, vs = [.ros (P.cellsOf e) len f false] ∧ len ≤ maxLen ∧ ∀ i, i < len → ShC P d' e (f i) := by
 cases d with
 | zero => exact h.elim
 | succ d => rw [ShC, hu] at h; obtain ⟨len, f, h1, h2, h3⟩ := h; exact ⟨d, len, f, h1, h2, h3⟩
theorem sh_int {d : Nat} {t : TypeId} {vs : List V} {k : IntKind} (h : ShC P d t vs) (hu : P.underlying t = some (.int k)) : ∃ n, vs = [.int k n] ∧ InR k n := by
 cases d with
 | zero => exact h.elim
 | succ d => rw [ShC, hu] at h; exact h
theorem sh_bool {d : Nat} {t : TypeId} {vs : List V} (h : ShC P d t vs) (hu : P.underlying t = some .bool) : ∃ b, vs = [.bool b] := by
 cases d with
 | zero => exact h.elim
 | succ d => rw [ShC, hu] at h; exact h
theorem sh_str {d : Nat} {t : TypeId} {vs : List V} (h : ShC P d t vs) (hu : P.underlying t = some .string) : ∃ s : ByteArray, vs = [.str s] ∧ s.size ≤ maxLen := by
 cases d with
 | zero => exact h.elim
 | succ d => rw [ShC, hu] at h; exact h
theorem sh_arr {d : Nat} {t e : TypeId} {n : Nat} {k : IntKind} {vs : List V} (h : ShC P d t vs) (hu : P.underlying t = some (.array n e)) (he : P.underlying e = some (.int k)) : ∃ xs, vs = [.seg k n xs] ∧ xs.length = n ∧ ∀ x ∈ xs, InR k x := by
 cases d with
 | zero => exact h.elim
 | succ d =>
  rw [ShC, hu] at h
  obtain ⟨k', xs, h1, h2, h3, h4⟩ := h
  rw [he] at h1; cases h1
  exact ⟨xs, h2, h3, h4⟩

/-- What these cells are, those are too. -/
def CsLe (U : Imm) (a b : List V) : Prop := ∀ l, CsRel U Env.none a l → CsRel U Env.none b l
theorem CsLe.refl (U : Imm) (a : List V) : CsLe U a a := fun _ h => h
theorem CsLe.app {U : Imm} {a a' b b' : List V} (h1 : CsLe U a a') (h2 : CsLe U b b') : CsLe U (a ++ b) (a' ++ b') := fun l h => by
 obtain ⟨la, lb, rfl, h3, h4⟩ := CsRel_append.1 h
 exact CsRel_append.2 ⟨la, lb, rfl, h1 _ h3, h2 _ h4⟩
theorem VRel_ros {U : Imm} {ρ : Env} {es n : Nat} {f g : Nat → List V} {c : Bool} (h : ∀ i, i < n → CsLe U (f i) (g i)) {x : Value} (hx : VRel U ρ (.ros es n f c) x) : VRel U ρ (.ros es n g c) x := by
 rw [VRel] at hx ⊢
 obtain ⟨a, cp, h1, h2, h3, h4⟩ := hx
 refine ⟨a, cp, h1, h2, h3, fun i hi => ?_⟩
 obtain ⟨b, base, c0, g1, g2, l, g3, g4⟩ := h4 i hi
 exact ⟨b, base, c0, g1, g2, l, h i hi l g3, g4⟩
theorem CsLe.ros {U : Imm} {es n : Nat} {f g : Nat → List V} {c : Bool} (h : ∀ i, i < n → CsLe U (f i) (g i)) : CsLe U [.ros es n f c] [.ros es n g c] := fun l hl => by
 obtain ⟨x, r, rfl, h1, h2⟩ := (CsRel_one rfl).1 hl
 exact (CsRel_one rfl).2 ⟨x, r, rfl, VRel_ros h h1, h2⟩
/-- An argument that is one cell. -/
def oneT (P : Program) (t : TypeId) : Bool := match P.underlying t with
 | some .bool => true
 | some (.int _) => true
 | some .string => true
 | some (.slice _) => true
 | _ => false
theorem arg_one {W : World} {base : Nat} {t : TypeId} {v : Value} (h : Value.okWide P W .any base t v) (ho : oneT P t = true) : v.cells.toList = [v] := by
 unfold oneT at ho
 cases v <;> first | rfl | skip
 rename_i cs
 exfalso
 split at ho <;> first | (cases ho; done) | skip
 all_goals
  rename_i hu
  simp [Value.okWide, hu, Cell.okWide, Cell.ok] at h
theorem args_one {W : World} {base : Nat} {ps : Array TypeId} {args : Array Value} (hval : ∀ (j : Nat) t v, ps[j]? = some t → args[j]? = some v → Value.okWide P W .any base t v) {j : Nat} {t : TypeId} {v : Value} (h1 : ps[j]? = some t) (h2 : args[j]? = some v) (ho : oneT P t = true) : v.cells.toList = [v] :=
 arg_one (hval j t v h1 h2) ho
/-- An argument that is a struct. -/
theorem arg_struct {W : World} {base : Nat} {t : TypeId} {fs : Array Field} {v : Value} (h : Value.okWide P W .any base t v) (hu : P.underlying t = some (.struct fs)) : ∃ cs, v = .agg cs := by
 unfold Value.okWide at h
 rw [hu] at h
 obtain ⟨cs, h1, _⟩ := h
 exact ⟨cs, h1⟩
theorem args_struct {W : World} {base : Nat} {ps : Array TypeId} {args : Array Value} (hval : ∀ (j : Nat) t v, ps[j]? = some t → args[j]? = some v → Value.okWide P W .any base t v) {j : Nat} {t : TypeId} {fs : Array Field} {v : Value} (h1 : ps[j]? = some t) (h2 : args[j]? = some v) (hu : P.underlying t = some (.struct fs)) : ∃ cs, v = .agg cs :=
 arg_struct (hval j t v h1 h2) hu
theorem VRel_one {U : Imm} {u : V} {v : Value} (hu : u.cell = true) (hv : v.cells.toList = [v]) (h : CsRel U Env.none [u] v.cells.toList) : VRel U Env.none u v := by
 rw [hv] at h
 obtain ⟨x, l, h1, h2, h3⟩ := (CsRel_one hu).1 h
 cases h1
 exact h2
theorem VRel_agg {U : Imm} {vs : List V} {cs : Array Value} (h : CsRel U Env.none vs (Value.agg cs).cells.toList) : VRel U Env.none (.agg vs) (.agg cs) := by
 rw [VRel]; exact ⟨cs, rfl, h⟩
/-- Many at once. -/
theorem choose_fn {α : Type} [Inhabited α] {n : Nat} {p : Nat → α → Prop} (h : ∀ i, i < n → ∃ a, p i a) : ∃ f : Nat → α, ∀ i, i < n → p i (f i) := by
 classical
 refine ⟨fun i => if hi : i < n then Classical.choose (h i hi) else default, fun i hi => ?_⟩
 simp only [dif_pos hi]
 exact Classical.choose_spec (h i hi)
instance : Inhabited SSign := ⟨{}⟩
instance : Inhabited SReq := ⟨{}⟩
instance : Inhabited SRec := ⟨{}⟩
instance : Inhabited SHeld := ⟨{}⟩
instance : Inhabited SEnv := ⟨{}⟩
end Sy
namespace Sy
open Go

theorem first_bad (p : Nat → Prop) : ∀ n, (∀ k, k < n → p k) ∨ ∃ m, m < n ∧ (∀ k, k < m → p k) ∧ ¬ p m
 | 0 => .inl fun k h => absurd h (Nat.not_lt_zero k)
 | n + 1 => by
  rcases first_bad p n with h | ⟨m, h1, h2, h3⟩
  ·by_cases hp : p n
   ·exact .inl fun k hk => by
     rcases Nat.lt_or_ge k n with h1 | h1
     ·exact h k h1
     ·obtain rfl : k = n := by omega
      exact hp
   ·exact .inr ⟨n, Nat.lt_succ_self n, h, hp⟩
  ·exact .inr ⟨m, Nat.lt_succ_of_lt h1, h2, h3⟩
/-- A loop that goes on as long as something holds. -/
theorem loop_all {P : Program} {ro : Option Nat} {p : Nat} {c : Code} {I : Nat → St} {F : Nat → St} {e : Nat → Exit} {x : Exit} {G : St} {n : Nat} {q : Nat → Prop}
  (step : ∀ k, k < n → q k → R P ro p c (I k) .normal (I (k + 1))) (bad : ∀ k, k < n → ¬ q k → R P ro p c (I k) (e k) (F k)) (he : ∀ k, e k ≠ .normal) (out : R P ro p c (I n) x G) (hx : x ≠ .normal) :
  ((∀ k, k < n → q k) ∧ RLoop P ro p c (n + 1) (I 0) x G) ∨ ∃ m, m < n ∧ (∀ k, k < m → q k) ∧ ¬ q m ∧ RLoop P ro p c (m + 1) (I 0) (e m) (F m) := by
 rcases first_bad q n with h | ⟨m, h1, h2, h3⟩
 ·exact .inl ⟨h, RLoop.inv I n (fun k hk => step k hk (h k hk)) out hx⟩
 ·exact .inr ⟨m, h1, h2, h3, RLoop.inv I m (fun k hk => step k (by omega) (h2 k hk)) (bad m h1 h3) (he m)⟩
end Sy
namespace Sy
theorem neg_t {b : Bool} (h : b = true) : (!b) = false := by subst h; rfl
theorem neg_f {b : Bool} (h : ¬ b = true) : (!b) = true := by rw [Bool.eq_false_iff.mpr h]; rfl
theorem neg_f' {b : Bool} (h : b = false) : (!b) = true := by subst h; rfl
end Sy
namespace Sy
theorem not_t {b : Bool} (h : (!b) = true) : b = false := by cases b <;> simp_all
theorem not_f {b : Bool} (h : (!b) = false) : b = true := by cases b <;> simp_all
end Sy
namespace Sy
open Go
/-- What is known of the arguments may be more. -/
theorem T.args {P : Program} {f : FuncId} {args args' : List V} {pre : Heap} {val : V} {post : Heap} {cs : List Prop} (h : T P f args pre val post) (hl : leVs [] args' args = some cs) (hc : All cs) : T P f args' pre val post := by
 intro U ρ w xs hh ha hf
 exact h U ρ w xs hh (leVs_ok (Imm.le_refl U) (fun n b hb => absurd hb List.not_mem_nil) _ _ _ _ hl hc ha) hf
end Sy
namespace Go.Proofs.Ythifjamdfpjilaa
open Go Sy Go.Proofs
def s5I (a b : V) (nt k : Nat) : St := ⟨mkT nt [(0, a), (1, b), (5, .int .i64 k)], [], 0, []⟩
noncomputable def bdS5 (f : Func) (nt : Nat) (db : Nat → List V → Heap → Nat → List Cl) (a b : V) (n m : Nat) : Bd := { f := f, args := [a, b], kb := { db := db, lp := fun _ _ => [(True, .loop (n + 1) (wTo (s5I a b nt 0)) (.exit 0) (s5I a b nt n)), (True, .loop (m + 1) (wTo (s5I a b nt 0)) .ret (smF 4 nt))] } }
noncomputable def pcS5 (f : Func) (nt : Nat) (db : Nat → List V → Heap → Nat → List Cl) (a b : V) (n k : Nat) : Pc := { c := cB (cB (cR (cL (cR (cR (bodyOf f)))))), st := s5I a b nt k, kb := { db := db }, k := fun e _ => match e with
 | .normal => some (wTo (s5I a b nt (k + 1)))
 | .ret => some (wTo (smF 4 nt))
 | _ => some (wTo (s5I a b nt n)) }
noncomputable def bdRs (n n' : Nat) (a b : Nat → SSign) (m : Nat) : Bd := bdS5 Try.f70 26 (fun _ _ _ _ => []) (sg n a) (sg n' b) n m
noncomputable def pcRs (n n' : Nat) (a b : Nat → SSign) (k : Nat) : Pc := pcS5 Try.f70 26 (fun _ _ _ _ => []) (sg n a) (sg n' b) n k
def r7I (a b : SBatch) (k : Nat) : St := ⟨mkT 38 [(2, .ptr (.o 0) 0 0 0 0), (3, .ptr (.o 1) 0 0 0 0), (5, .int .i64 k)], [(.o 0, .flat a.c), (.o 1, .flat b.c)], 256, []⟩
noncomputable def bdRb (a b : SBatch) (m : Nat) : Bd := { f := Try.f67, args := [.agg a.c, .agg b.c], kb := { db := fun _ _ _ _ => [], lp := fun _ _ => [(True, .loop (a.n + 1) (wToS [(.o 1, .o 64)] (r7I a b 0)) (.exit 0) (r7I a b a.n)), (True, .loop (m + 1) (wToS [(.o 1, .o 64)] (r7I a b 0)) .ret (smF 4 38))] } }
noncomputable def pcRb (a b : SBatch) (k : Nat) : Pc := { c := cB (cB (cR (cL (cR (cR (bodyOf Try.f67)))))), st := r7I a b k, kb := kb0, k := fun e _ => match e with
 | .normal => some (wTo (r7I a b (k + 1)))
 | .ret => some (wTo (smF 4 38))
 | _ => some (wTo (r7I a b a.n)) }
noncomputable def bdRc (a b : SCert) : Bd := { f := Try.f69, args := [.agg a.c, .agg b.c], kb := { db := dbV [(70, .bool (sameL a.n b.n (fun i => signEq (a.sig i) (b.sig i))))] } }
end Go.Proofs.Ythifjamdfpjilaa
namespace Go.Proofs.Ythifjamdfpjilaa
open Go Sy Go.Proofs
theorem bdRs_p1 (n : Nat) (n' : Nat) (a : Nat → SSign) (b : Nat → SSign) (m : Nat) :
  along Try.prog (bdRs n n' a b m) [true] = (some (.bool false, [], [(!decide ((↑n : Int) = (↑n' : Int))) = true]) : Option (V × Heap × List Prop)) := by kernel_rfl
theorem bdRs_p01 (n : Nat) (n' : Nat) (a : Nat → SSign) (b : Nat → SSign) (m : Nat) :
  along Try.prog (bdRs n n' a b m) [false, true] = (some (.bool true, [], [(!decide ((↑n : Int) = (↑n' : Int))) = false, RLoop Try.prog none 0 (cB (cB (cR (cL (cR (cR (bodyOf (Bd.f (bdRs n n' a b m))))))))) (n + 1) (St.mk [.ros 17 n (fun i => SSign.c (a i)) false, .ros 17 n' (fun i => SSign.c (b i)) false, .any, .any, .any, .int .i64 0, .any, .any, .any, .any, .any, .any, .any, .any, .any, .any, .any, .any, .any, .any, .any, .any, .any, .any, .any, .any] [] 0 []) (.exit 0) (St.mk [.ros 17 n (fun i => SSign.c (a i)) false, .ros 17 n' (fun i => SSign.c (b i)) false, .any, .any, .any, .int .i64 ↑n, .any, .any, .any, .any, .any, .any, .any, .any, .any, .any, .any, .any, .any, .any, .any, .any, .any, .any, .any, .any] [] 0 []), q n, ∀ (k : Nat), k < n → SSign.c (a k) = SSign.c (a k), false = true → false = true, q (n'), ∀ (k : Nat), k < n' → SSign.c (b k) = SSign.c (b k), false = true → false = true, q1]) : Option (V × Heap × List Prop)) := by kernel_rfl
theorem bdRs_p00 (n : Nat) (n' : Nat) (a : Nat → SSign) (b : Nat → SSign) (m : Nat) :
  along Try.prog (bdRs n n' a b m) [false, false] = (some (.bool false, [], [(!decide ((↑n : Int) = (↑n' : Int))) = false, RLoop Try.prog none 0 (cB (cB (cR (cL (cR (cR (bodyOf (Bd.f (bdRs n n' a b m))))))))) (m + 1) (St.mk [.ros 17 n (fun i => SSign.c (a i)) false, .ros 17 n' (fun i => SSign.c (b i)) false, .any, .any, .any, .int .i64 0, .any, .any, .any, .any, .any, .any, .any, .any, .any, .any, .any, .any, .any, .any, .any, .any, .any, .any, .any, .any] [] 0 []) .ret (St.mk [.any, .any, .any, .any, .bool false, .any, .any, .any, .any, .any, .any, .any, .any, .any, .any, .any, .any, .any, .any, .any, .any, .any, .any, .any, .any, .any] [] 0 []), q n, ∀ (k : Nat), k < n → SSign.c (a k) = SSign.c (a k), false = true → false = true, q (n'), ∀ (k : Nat), k < n' → SSign.c (b k) = SSign.c (b k), false = true → false = true, q1]) : Option (V × Heap × List Prop)) := by kernel_rfl

theorem pcRs_p11 (n : Nat) (n' : Nat) (a : Nat → SSign) (b : Nat → SSign) (k : Nat) :
  alongPc Try.prog (pcRs n n' a b k) [true, true] = (some (.ret, St.mk [.any, .any, .any, .any, .bool false, .any, .any, .any, .any, .any, .any, .any, .any, .any, .any, .any, .any, .any, .any, .any, .any, .any, .any, .any, .any, .any] [] 0 [], [decide ((↑k : Int) < (↑n : Int)) = true, (0 : Int) ≤ (↑k : Int) ∧ (↑k : Int) < (↑n : Int), (0 : Int) ≤ (↑k : Int) ∧ (↑k : Int) < (↑n' : Int), (!(decide (SSign.node (a (Int.toNat (↑k : Int))) = SSign.node (b (Int.toNat (↑k : Int)))) && (decide (SSign.tag (a (Int.toNat (↑k : Int))) = SSign.tag (b (Int.toNat (↑k : Int)))) && true))) = true, q false]) : Option (Exit × St × List Prop)) := by kernel_rfl
theorem pcRs_p10 (n : Nat) (n' : Nat) (a : Nat → SSign) (b : Nat → SSign) (k : Nat) :
  alongPc Try.prog (pcRs n n' a b k) [true, false] = (some (.normal, St.mk [.ros 17 n (fun i => SSign.c (a i)) false, .ros 17 n' (fun i => SSign.c (b i)) false, .any, .any, .any, .int .i64 (↑(k + 1) : Int), .any, .any, .any, .any, .any, .any, .any, .any, .any, .any, .any, .any, .any, .any, .any, .any, .any, .any, .any, .any] [] 0 [], [decide ((↑k : Int) < (↑n : Int)) = true, (0 : Int) ≤ (↑k : Int) ∧ (↑k : Int) < (↑n : Int), (0 : Int) ≤ (↑k : Int) ∧ (↑k : Int) < (↑n' : Int), (!(decide (SSign.node (a (Int.toNat (↑k : Int))) = SSign.node (b (Int.toNat (↑k : Int)))) && (decide (SSign.tag (a (Int.toNat (↑k : Int))) = SSign.tag (b (Int.toNat (↑k : Int)))) && true))) = false, InR IntKind.i64 ((↑k : Int) + (1 : Int)), q n, ∀ (k : Nat), k < n → SSign.c (a k) = SSign.c (a k), false = true → false = true, q (n'), ∀ (k : Nat), k < n' → SSign.c (b k) = SSign.c (b k), false = true → false = true, (↑k : Int) + (1 : Int) = (↑(k + (1 : Nat)) : Int)]) : Option (Exit × St × List Prop)) := by kernel_rfl
theorem pcRs_p0 (n : Nat) (n' : Nat) (a : Nat → SSign) (b : Nat → SSign) (k : Nat) :
  alongPc Try.prog (pcRs n n' a b k) [false] = (some (.exit 0, St.mk [.ros 17 n (fun i => SSign.c (a i)) false, .ros 17 n' (fun i => SSign.c (b i)) false, .any, .any, .any, .int .i64 ↑n, .any, .any, .any, .any, .any, .any, .any, .any, .any, .any, .any, .any, .any, .any, .any, .any, .any, .any, .any, .any] [] 0 [], [decide ((↑k : Int) < (↑n : Int)) = false, q n, ∀ (k : Nat), k < n → SSign.c (a k) = SSign.c (a k), false = true → false = true, q (n'), ∀ (k : Nat), k < n' → SSign.c (b k) = SSign.c (b k), false = true → false = true, (↑k : Int) = (↑n : Int)]) : Option (Exit × St × List Prop)) := by kernel_rfl

theorem bdRb_p11 (a : SBatch) (b : SBatch) (m : Nat) :
  along Try.prog (bdRb a b m) [true, true] = (some (.bool false, [], [(!SBatch.noop a == SBatch.noop b) = true, q2]) : Option (V × Heap × List Prop)) := by kernel_rfl
theorem bdRb_p01 (a : SBatch) (b : SBatch) (m : Nat) :
  along Try.prog (bdRb a b m) [false, true] = (some (.bool false, [], [(!SBatch.noop a == SBatch.noop b) = false, (!decide ((↑(SBatch.n a) : Int) = (↑(SBatch.n b) : Int))) = true]) : Option (V × Heap × List Prop)) := by kernel_rfl
theorem bdRb_p001 (a : SBatch) (b : SBatch) (m : Nat) :
  along Try.prog (bdRb a b m) [false, false, true] = (some (.bool true, [], [(!SBatch.noop a == SBatch.noop b) = false, (!decide ((↑(SBatch.n a) : Int) = (↑(SBatch.n b) : Int))) = false, RLoop Try.prog none 0 (cB (cB (cR (cL (cR (cR (bodyOf (Bd.f (bdRb a b m))))))))) (SBatch.n a + 1) (St.mk [.any, .any, .ptr (.o 0) 0 0 0 0, .ptr (.o 1) 0 0 0 0, .any, .int .i64 0, .any, .any, .any, .any, .any, .any, .any, .any, .any, .any, .any, .any, .any, .any, .any, .any, .any, .any, .any, .any, .any, .any, .any, .any, .any, .any, .any, .any, .any, .any, .any, .any] [(.o 0, .flat (SBatch.c a)), (.o 1, .flat (SBatch.c b))] 256 []) (.exit 0) (St.mk [.any, .any, .ptr (.o 0) 0 0 0 0, .ptr (.o 1) 0 0 0 0, .any, .int .i64 (↑(SBatch.n a) : Int), .any, .any, .any, .any, .any, .any, .any, .any, .any, .any, .any, .any, .any, .any, .any, .any, .any, .any, .any, .any, .any, .any, .any, .any, .any, .any, .any, .any, .any, .any, .any, .any] [(.o 0, .flat (SBatch.c a)), (.o 1, .flat (SBatch.c b))] 256 []), q (SBatch.noop a), q (SBatch.n a), ∀ (k : Nat), k < SBatch.n a → SReq.c (SBatch.req a k) = SReq.c (SBatch.req a k), false = true → false = true, q (SBatch.noop b), q (SBatch.n b), ∀ (k : Nat), k < SBatch.n b → SReq.c (SBatch.req b k) = SReq.c (SBatch.req b k), false = true → false = true, q0, q0, q0, q0, q0, q0, q1]) : Option (V × Heap × List Prop)) := by kernel_rfl
theorem bdRb_p000 (a : SBatch) (b : SBatch) (m : Nat) :
  along Try.prog (bdRb a b m) [false, false, false] = (some (.bool false, [], [(!SBatch.noop a == SBatch.noop b) = false, (!decide ((↑(SBatch.n a) : Int) = (↑(SBatch.n b) : Int))) = false, RLoop Try.prog none 0 (cB (cB (cR (cL (cR (cR (bodyOf (Bd.f (bdRb a b m))))))))) (m + 1) (St.mk [.any, .any, .ptr (.o 0) 0 0 0 0, .ptr (.o 1) 0 0 0 0, .any, .int .i64 0, .any, .any, .any, .any, .any, .any, .any, .any, .any, .any, .any, .any, .any, .any, .any, .any, .any, .any, .any, .any, .any, .any, .any, .any, .any, .any, .any, .any, .any, .any, .any, .any] [(.o 0, .flat (SBatch.c a)), (.o 1, .flat (SBatch.c b))] 256 []) .ret (St.mk [.any, .any, .any, .any, .bool false, .any, .any, .any, .any, .any, .any, .any, .any, .any, .any, .any, .any, .any, .any, .any, .any, .any, .any, .any, .any, .any, .any, .any, .any, .any, .any, .any, .any, .any, .any, .any, .any, .any] [] 0 []), q (SBatch.noop a), q (SBatch.n a), ∀ (k : Nat), k < SBatch.n a → SReq.c (SBatch.req a k) = SReq.c (SBatch.req a k), false = true → false = true, q (SBatch.noop b), q (SBatch.n b), ∀ (k : Nat), k < SBatch.n b → SReq.c (SBatch.req b k) = SReq.c (SBatch.req b k), false = true → false = true, q0, q0, q0, q0, q0, q0, q1]) : Option (V × Heap × List Prop)) := by kernel_rfl

theorem pcRb_p11 (a : SBatch) (b : SBatch) (k : Nat) :
  alongPc Try.prog (pcRb a b k) [true, true] = (some (.ret, St.mk [.any, .any, .any, .any, .bool false, .any, .any, .any, .any, .any, .any, .any, .any, .any, .any, .any, .any, .any, .any, .any, .any, .any, .any, .any, .any, .any, .any, .any, .any, .any, .any, .any, .any, .any, .any, .any, .any, .any] [] 0 [], [decide ((↑k : Int) < (↑(SBatch.n a) : Int)) = true, (0 : Int) ≤ (↑k : Int) ∧ (↑k : Int) < (↑(SBatch.n a) : Int), (0 : Int) ≤ (↑k : Int) ∧ (↑k : Int) < (↑(SBatch.n b) : Int), (!(decide (SReq.client (SBatch.req a (Int.toNat (↑k : Int))) = SReq.client (SBatch.req b (Int.toNat (↑k : Int)))) && (decide (SReq.num (SBatch.req a (Int.toNat (↑k : Int))) = SReq.num (SBatch.req b (Int.toNat (↑k : Int)))) && (decide (SReq.data (SBatch.req a (Int.toNat (↑k : Int))) = SReq.data (SBatch.req b (Int.toNat (↑k : Int)))) && (decide (SReq.tag (SBatch.req a (Int.toNat (↑k : Int))) = SReq.tag (SBatch.req b (Int.toNat (↑k : Int)))) && true))))) = true, q false]) : Option (Exit × St × List Prop)) := by kernel_rfl
theorem pcRb_p10 (a : SBatch) (b : SBatch) (k : Nat) :
  alongPc Try.prog (pcRb a b k) [true, false] = (some (.normal, St.mk [.any, .any, .ptr (.o 0) 0 0 0 0, .ptr (.o 1) 0 0 0 0, .any, .int .i64 (↑(k + 1) : Int), .any, .any, .any, .any, .any, .any, .any, .any, .any, .any, .any, .any, .any, .any, .any, .any, .any, .any, .any, .any, .any, .any, .any, .any, .any, .any, .any, .any, .any, .any, .any, .any] [(.o 0, .flat (SBatch.c a)), (.o 1, .flat (SBatch.c b))] 256 [], [decide ((↑k : Int) < (↑(SBatch.n a) : Int)) = true, (0 : Int) ≤ (↑k : Int) ∧ (↑k : Int) < (↑(SBatch.n a) : Int), (0 : Int) ≤ (↑k : Int) ∧ (↑k : Int) < (↑(SBatch.n b) : Int), (!(decide (SReq.client (SBatch.req a (Int.toNat (↑k : Int))) = SReq.client (SBatch.req b (Int.toNat (↑k : Int)))) && (decide (SReq.num (SBatch.req a (Int.toNat (↑k : Int))) = SReq.num (SBatch.req b (Int.toNat (↑k : Int)))) && (decide (SReq.data (SBatch.req a (Int.toNat (↑k : Int))) = SReq.data (SBatch.req b (Int.toNat (↑k : Int)))) && (decide (SReq.tag (SBatch.req a (Int.toNat (↑k : Int))) = SReq.tag (SBatch.req b (Int.toNat (↑k : Int)))) && true))))) = false, InR IntKind.i64 ((↑k : Int) + (1 : Int)), q (SBatch.noop a), q (SBatch.n a), ∀ (k : Nat), k < SBatch.n a → SReq.c (SBatch.req a k) = SReq.c (SBatch.req a k), false = true → false = true, q (SBatch.noop b), q (SBatch.n b), ∀ (k : Nat), k < SBatch.n b → SReq.c (SBatch.req b k) = SReq.c (SBatch.req b k), false = true → false = true, q0, q0, q0, q0, q0, q0, (↑k : Int) + (1 : Int) = (↑(k + (1 : Nat)) : Int)]) : Option (Exit × St × List Prop)) := by kernel_rfl
theorem pcRb_p0 (a : SBatch) (b : SBatch) (k : Nat) :
  alongPc Try.prog (pcRb a b k) [false] = (some (.exit 0, St.mk [.any, .any, .ptr (.o 0) 0 0 0 0, .ptr (.o 1) 0 0 0 0, .any, .int .i64 (↑(SBatch.n a) : Int), .any, .any, .any, .any, .any, .any, .any, .any, .any, .any, .any, .any, .any, .any, .any, .any, .any, .any, .any, .any, .any, .any, .any, .any, .any, .any, .any, .any, .any, .any, .any, .any] [(.o 0, .flat (SBatch.c a)), (.o 1, .flat (SBatch.c b))] 256 [], [decide ((↑k : Int) < (↑(SBatch.n a) : Int)) = false, q (SBatch.noop a), q (SBatch.n a), ∀ (k : Nat), k < SBatch.n a → SReq.c (SBatch.req a k) = SReq.c (SBatch.req a k), false = true → false = true, q (SBatch.noop b), q (SBatch.n b), ∀ (k : Nat), k < SBatch.n b → SReq.c (SBatch.req b k) = SReq.c (SBatch.req b k), false = true → false = true, q0, q0, q0, q0, q0, q0, (↑k : Int) = (↑(SBatch.n a) : Int)]) : Option (Exit × St × List Prop)) := by kernel_rfl

theorem bdRc_p1 (a : SCert) (b : SCert) :
  along Try.prog (bdRc a b) [true] = (some (.bool (sameL (SCert.n a) (SCert.n b) fun i => signEq (SCert.sig a i) (SCert.sig b i)), [], [(decide (SVote.kind (SCert.vote a) = SVote.kind (SCert.vote b)) && (decide (SVote.epoch (SCert.vote a) = SVote.epoch (SCert.vote b)) && (decide (SVote.view (SCert.vote a) = SVote.view (SCert.vote b)) && (decide (SVote.slot (SCert.vote a) = SVote.slot (SCert.vote b)) && (decide (SVote.digest (SCert.vote a) = SVote.digest (SCert.vote b)) && true))))) = true, T Try.prog 70 [.ros 17 (SCert.n a) (fun i => SSign.c (SCert.sig a i)) false, .ros 17 (SCert.n b) (fun i => SSign.c (SCert.sig b i)) false] [] (.bool (sameL (SCert.n a) (SCert.n b) fun i => signEq (SCert.sig a i) (SCert.sig b i))) []]) : Option (V × Heap × List Prop)) := by kernel_rfl
theorem bdRc_p0 (a : SCert) (b : SCert) :
  along Try.prog (bdRc a b) [false] = (some (.bool false, [], [(decide (SVote.kind (SCert.vote a) = SVote.kind (SCert.vote b)) && (decide (SVote.epoch (SCert.vote a) = SVote.epoch (SCert.vote b)) && (decide (SVote.view (SCert.vote a) = SVote.view (SCert.vote b)) && (decide (SVote.slot (SCert.vote a) = SVote.slot (SCert.vote b)) && (decide (SVote.digest (SCert.vote a) = SVote.digest (SCert.vote b)) && true))))) = false]) : Option (V × Heap × List Prop)) := by kernel_rfl

theorem T_rs {n n' : Nat} (a b : Nat → SSign) (hn : n ≤ 1000000) : T Try.prog 70 [sg n a, sg n' b] [] (.bool (sameL n n' (fun i => signEq (a i) (b i)))) [] := by
 by_cases hnn : n = n'
 ·subst hnn
  rcases loop_all (P := Try.prog) (ro := none) (p := 0) (c := cB (cB (cR (cL (cR (cR (bodyOf Try.f70))))))) (I := s5I (sg n a) (sg n b) 26) (F := fun _ => smF 4 26) (e := fun _ => .ret) (q := fun k => signEq (a k) (b k) = true) (n := n)
   (fun k hk hq => by
    refine R_alongPc NG MO _ (pcRs_p10 n n a b k) ?_ (Nat.zero_le _)
    simp only [All, Int.toNat_natCast]; and_intros
    all_goals first
     | exact neg_t hq
     | (simp [hk, IntKind.min, IntKind.max, IntKind.signed, IntKind.bits] <;> omega))
   (fun k hk hq => by
    refine R_alongPc NG MO _ (pcRs_p11 n n a b k) ?_ (Nat.zero_le _)
    simp only [All, Int.toNat_natCast]; and_intros
    all_goals first
     | exact neg_f hq
     | (simp [hk, IntKind.min, IntKind.max, IntKind.signed, IntKind.bits] <;> omega))
   (by simp) (R_alongPc NG MO _ (pcRs_p0 n n a b n) (by simp [All]) (Nat.zero_le _)) (by simp) with ⟨h, hL⟩ | ⟨m, hm, _, hq, hL⟩
  ·refine T.bool (T_along NG MO _ (bdRs_p01 n n a b n) Try.func70 (by kernel_rfl) ⟨by simp, hL, ?_⟩ (pinH_ok (by kernel_rfl)) (by kernel_rfl)) (by simp [sameL]; exact h)
   simp [All]
  ·refine T.bool (T_along NG MO _ (bdRs_p00 n n a b m) Try.func70 (by kernel_rfl) ⟨by simp, hL, ?_⟩ (pinH_ok (by kernel_rfl)) (by kernel_rfl)) (by
    have : ¬ ∀ i, i < n → signEq (a i) (b i) = true := fun h => hq (h m hm)
    simp only [sameL, this, decide_false, Bool.and_false])
   simp [All]
 ·exact T.bool (T_along NG MO _ (bdRs_p1 n n' a b 0) Try.func70 (by kernel_rfl) ⟨by simp <;> omega, trivial⟩ (pinH_ok (by kernel_rfl)) (by kernel_rfl)) (by simp [sameL, hnn])
theorem T_rb (a b : SBatch) (hn : a.n ≤ 1000000) : T Try.prog 67 [.agg a.c, .agg b.c] [] (.bool (sameBatchS a b)) [] := by
 rcases Bool.eq_false_or_eq_true (!a.noop == b.noop) with h0 | h0
 ·refine T.bool (T_along NG MO _ (bdRb_p11 a b 0) Try.func67 (by kernel_rfl) ?_ (pinH_ok (by kernel_rfl)) (by kernel_rfl)) (by rw [Bool.not_eq_true'] at h0; simp only [sameBatchS, h0, Bool.false_and])
  simp only [All]; and_intros
  all_goals first
   | exact h0
   | rfl
   | trivial
 have h1 : (a.noop == b.noop) = true := by simpa using h0
 by_cases hnn : a.n = b.n
 ·rcases loop_all (P := Try.prog) (ro := none) (p := 0) (c := cB (cB (cR (cL (cR (cR (bodyOf Try.f67))))))) (I := r7I a b) (F := fun _ => smF 4 38) (e := fun _ => .ret) (q := fun k => reqEq (a.req k) (b.req k) = true) (n := a.n)
   (fun k hk hq => by
    refine R_alongPc NG MO _ (pcRb_p10 a b k) ?_ (Nat.zero_le _)
    simp only [All, Int.toNat_natCast]; and_intros
    all_goals first
     | exact neg_t hq
     | (simp [hk, IntKind.min, IntKind.max, IntKind.signed, IntKind.bits] <;> omega))
   (fun k hk hq => by
    refine R_alongPc NG MO _ (pcRb_p11 a b k) ?_ (Nat.zero_le _)
    simp only [All, Int.toNat_natCast]; and_intros
    all_goals first
     | exact neg_f hq
     | (simp [hk, IntKind.min, IntKind.max, IntKind.signed, IntKind.bits] <;> omega))
   (by simp) (R_alongPc NG MO _ (pcRb_p0 a b a.n) (by simp [All]) (Nat.zero_le _)) (by simp) with ⟨h, hL⟩ | ⟨m, hm, _, hq, hL⟩
  ·refine T.bool (T_along NG MO _ (bdRb_p001 a b 0) Try.func67 (by kernel_rfl) ?_ (pinH_ok (by kernel_rfl)) (by kernel_rfl)) (by simp only [sameBatchS, sameL, h1, hnn, Bool.true_and, decide_true]; rw [← hnn]; exact (decide_eq_true h).symm)
   simp only [All]; and_intros
   all_goals first
    | exact h0
    | exact hL
    | (simp [hnn]; done)
  ·refine T.bool (T_along NG MO _ (bdRb_p000 a b m) Try.func67 (by kernel_rfl) ?_ (pinH_ok (by kernel_rfl)) (by kernel_rfl)) (by
    have : ¬ ∀ i, i < a.n → reqEq (a.req i) (b.req i) = true := fun h => hq (h m hm)
    simp only [sameBatchS, sameL, this, decide_false, Bool.and_false])
   simp only [All]; and_intros
   all_goals first
    | exact h0
    | exact hL
    | (simp [hnn]; done)
 ·refine T.bool (T_along NG MO _ (bdRb_p01 a b 0) Try.func67 (by kernel_rfl) ?_ (pinH_ok (by kernel_rfl)) (by kernel_rfl)) (by simp only [sameBatchS, sameL, hnn, decide_false, Bool.false_and, Bool.and_false])
  simp only [All]; and_intros
  all_goals first
   | exact h0
   | rfl
   | (simp <;> omega)
theorem T_rc (a b : SCert) (hn : a.n ≤ 1000000) : T Try.prog 69 [.agg a.c, .agg b.c] [] (.bool (sameCertS a b)) [] := by
 rcases Bool.eq_false_or_eq_true ((decide (SVote.kind (SCert.vote a) = SVote.kind (SCert.vote b)) && (decide (SVote.epoch (SCert.vote a) = SVote.epoch (SCert.vote b)) && (decide (SVote.view (SCert.vote a) = SVote.view (SCert.vote b)) && (decide (SVote.slot (SCert.vote a) = SVote.slot (SCert.vote b)) && (decide (SVote.digest (SCert.vote a) = SVote.digest (SCert.vote b)) && true)))))) with h1 | h1
 ·
  refine T.conv (T_along NG MO _ (bdRc_p1 a b) Try.func69 (by kernel_rfl) ?_ (pinH_ok (by kernel_rfl)) (by kernel_rfl)) rfl rfl ?_ ?_
  ·simp only [All]; and_intros
   all_goals first
    | assumption
    | exact T_rs a.sig b.sig hn
    | trivial
    | rfl
    | (intro _ _; trivial)
    | (intro _ _; rfl)
    | (simp; done)
    | omega
  ·first | replace h1 := not_t h1 | replace h1 := not_f h1 | skip
   first | rfl | (congr 1; simp only [sameCertS, voteEq, h1, Bool.true_and, Bool.false_and, Bool.and_false]; done)
  ·rfl
 ·
  refine T.conv (T_along NG MO _ (bdRc_p0 a b) Try.func69 (by kernel_rfl) ?_ (pinH_ok (by kernel_rfl)) (by kernel_rfl)) rfl rfl ?_ ?_
  ·simp only [All]; and_intros
   all_goals first
    | assumption
    | exact T_rs a.sig b.sig hn
    | trivial
    | rfl
    | (intro _ _; trivial)
    | (intro _ _; rfl)
    | (simp; done)
    | omega
  ·first | replace h1 := not_t h1 | replace h1 := not_f h1 | skip
   first | rfl | (congr 1; simp only [sameCertS, voteEq, h1, Bool.true_and, Bool.false_and, Bool.and_false]; done)
  ·rfl
end Go.Proofs.Ythifjamdfpjilaa
namespace Go.Proofs.Ythifjamdfpjilaa
open Go Sy Go.Proofs
theorem bdAdd_p111 (n : Int) (more : Int) (most : Int) :
  along Try.prog (bdAdd n more most) [true, true, true] = some (V.int IntKind.i64 (most + 1), [], [decide (most < n) = true, true = true, true = true, InR IntKind.i64 (most + 1)]) := by kernel_rfl
theorem bdAdd_p011 (n : Int) (more : Int) (most : Int) :
  along Try.prog (bdAdd n more most) [false, true, true] = some (V.int IntKind.i64 (most + 1), [], [decide (most < n) = false, decide (most < more) = true, true = true, InR IntKind.i64 (most + 1)]) := by kernel_rfl
theorem bdAdd_p001 (n : Int) (more : Int) (most : Int) :
  along Try.prog (bdAdd n more most) [false, false, true] = some (V.int IntKind.i64 (most + 1), [], [decide (most < n) = false, decide (most < more) = false, InR IntKind.i64 (most - more), decide (most - more < n) = true, InR IntKind.i64 (most + 1)]) := by kernel_rfl
theorem bdAdd_p000 (n : Int) (more : Int) (most : Int) :
  along Try.prog (bdAdd n more most) [false, false, false] = some (V.int IntKind.i64 (n + more), [], [decide (most < n) = false, decide (most < more) = false, InR IntKind.i64 (most - more), decide (most - more < n) = false, InR IntKind.i64 (n + more)]) := by kernel_rfl

def addS (n more most : Int) : Int := if most < n ∨ most < more ∨ most - more < n then most + 1 else n + more
theorem T_add {n more : Int} (h1 : 0 ≤ n) (h2 : 0 ≤ more) (h3 : more ≤ 9223372036854775807) : T Try.prog 48 [.int .i64 n, .int .i64 more, .int .i64 4000] [] (.int .i64 (addS n more 4000)) [] := by
 by_cases a : (4000 : Int) < n
 ·exact T.val (T_along NG MO _ (bdAdd_p111 n more 4000) Try.func48 (by kernel_rfl) (by simp [All, InR64, a]) (pinH_ok (by kernel_rfl)) (by kernel_rfl)) (by simp [addS, a])
 by_cases b : (4000 : Int) < more
 ·exact T.val (T_along NG MO _ (bdAdd_p011 n more 4000) Try.func48 (by kernel_rfl) (by simp [All, InR64, a, b] <;> omega) (pinH_ok (by kernel_rfl)) (by kernel_rfl)) (by simp [addS, b])
 by_cases c : (4000 : Int) - more < n
 ·exact T.val (T_along NG MO _ (bdAdd_p001 n more 4000) Try.func48 (by kernel_rfl) (by simp [All, InR64, a, b, c] <;> omega) (pinH_ok (by kernel_rfl)) (by kernel_rfl)) (by simp [addS, c])
 ·exact T.val (T_along NG MO _ (bdAdd_p000 n more 4000) Try.func48 (by kernel_rfl) (by simp [All, InR64, a, b, c] <;> omega) (pinH_ok (by kernel_rfl)) (by kernel_rfl)) (by simp [addS, a, b, c])

/-- The last state's place among the first ones. -/
def fromS (r : Nat → SRec) : Nat → Nat
 | 0 => 0
 | k + 1 => if (r k).kind = 5 then k else fromS r k
def sinceI (n : Nat) (r : Nat → SRec) (k : Nat) : St := ⟨mkT 23 [(0, rc n r), (3, .int .i64 (fromS r k)), (6, .int .i64 n), (7, .int .i64 k)], [], 0, []⟩
def rsinceI (n : Nat) (r : Nat → SRec) (k : Nat) : St := ⟨mkT 21 [(0, rc n r), (3, .int .i64 (fromS r k)), (4, .int .i64 k)], [], 0, []⟩
/-- A new slice as the result: its block's name is 63. -/
def kNew (t : Nat) (val : Nm → V) (b : B) : Exit → St → Option W := fun _ st => match getV st.tmps t with
 | .sl n _ _ _ _ _ _ => some ⟨[(.o 63, n)], [(t, .set (val (.o 63)))], [(.o 63, .set b)], none, st.next⟩
 | _ => none
noncomputable def bdSince (n : Nat) (r : Nat → SRec) : Bd := { f := Try.f30, args := [rc n r], kb := { db := fun _ _ _ _ => [], lp := fun _ _ => [(True, .loop (n + 1) (wTo (sinceI n r 0)) (.exit 0) (sinceI n r n))] }, k := kNew 2 (fun m => .sl m 45 0 0 0 (n - fromS r n) none) (.rows 45 (n - fromS r n) (fun i => (r (fromS r n + i)).c) true), names := fun _ => [.o 63] }
noncomputable def pcSince (n : Nat) (r : Nat → SRec) (k : Nat) : Pc := { c := cB (cB (cR (cL (cR (cR (bodyOf Try.f30)))))), st := sinceI n r k, kb := kb0, k := fun e _ => match e with
 | .normal => some (wTo (sinceI n r (k + 1)))
 | _ => some (wTo (sinceI n r n)) }

noncomputable def bdRSince (n : Nat) (r : Nat → SRec) : Bd := { f := Try.f31, args := [rc n r], kb := { db := fun _ _ _ _ => [], lp := fun _ _ => [(True, .loop (n + 1) (wTo (rsinceI n r 0)) (.exit 0) (rsinceI n r n))] }, k := kRes [(2, rc (n - fromS r n) (fun i => r (fromS r n + i)))] }
noncomputable def pcRSince (n : Nat) (r : Nat → SRec) (k : Nat) : Pc := { c := cB (cB (cR (cL (cR (cR (bodyOf Try.f31)))))), st := rsinceI n r k, kb := kb0, k := fun e _ => match e with
 | .normal => some (wTo (rsinceI n r (k + 1)))
 | _ => some (wTo (rsinceI n r n)) }

def ssI (n : Nat) (s : Nat → SSign) (k : Nat) : St := ⟨mkT 26 [(0, sg n s), (1, sg n s), (5, .int .i64 k)], [], 0, []⟩
noncomputable def bdSS (n : Nat) (s : Nat → SSign) : Bd := { f := Try.f70, args := [sg n s, sg n s], kb := { db := fun _ _ _ _ => [], lp := fun _ _ => [(True, .loop (n + 1) (wTo (ssI n s 0)) (.exit 0) (ssI n s n))] } }
noncomputable def pcSS (n : Nat) (s : Nat → SSign) (k : Nat) : Pc := { c := cB (cB (cR (cL (cR (cR (bodyOf Try.f70)))))), st := ssI n s k, kb := kb0, k := fun e _ => match e with
 | .normal => some (wTo (ssI n s (k + 1)))
 | _ => some (wTo (ssI n s n)) }

def sbI (b : SBatch) (k : Nat) : St := ⟨mkT 38 [(2, .ptr (.o 0) 0 0 0 0), (3, .ptr (.o 1) 0 0 0 0), (5, .int .i64 k)], [(.o 0, .flat b.c), (.o 1, .flat b.c)], 256, []⟩
noncomputable def bdSB (b : SBatch) : Bd := { f := Try.f67, args := [.agg b.c, .agg b.c], kb := { db := fun _ _ _ _ => [], lp := fun _ _ => [(True, .loop (b.n + 1) (wToS [(.o 1, .o 64)] (sbI b 0)) (.exit 0) (sbI b b.n))] } }
noncomputable def pcSB (b : SBatch) (k : Nat) : Pc := { c := cB (cB (cR (cL (cR (cR (bodyOf Try.f67)))))), st := sbI b k, kb := kb0, k := fun e _ => match e with
 | .normal => some (wTo (sbI b (k + 1)))
 | _ => some (wTo (sbI b b.n)) }
noncomputable def bdSC (c : SCert) : Bd := { f := Try.f69, args := [.agg c.c, .agg c.c], kb := { db := fun k _ _ _ => match k with
 | 70 => [{ val := .bool true }]
 | _ => [] } }
noncomputable def bdSR (r : SRec) : Bd := { f := Try.f29, args := [.agg r.c, .agg r.c], kb := { db := fun k _ _ _ => match k with
 | 70 => [{ val := .bool true }]
 | 69 => [{ val := .bool true }]
 | 67 => [{ val := .bool true }]
 | _ => [] } }
end Go.Proofs.Ythifjamdfpjilaa
namespace Go.Proofs.Ythifjamdfpjilaa
open Go Sy Go.Proofs
def bt (n : Nat) (b : Nat → SBatch) : V := .ros 2 n (fun i => (b i).c) false
/-- How much is counted of requests, of batches. -/
def lightR (n0 : Int) (r : Nat → SReq) : Nat → Int
 | 0 => n0
 | k + 1 => addS (addS (lightR n0 r k) 20 4000) (r k).data.size 4000
/-- One batch: as long as it isn't too much. -/
def light1I (b : SBatch) (n0 : Int) (k : Nat) : St := ⟨mkT 47 [(0, .sl (.o 0) 2 0 0 0 1 (some 1)), (3, .int .i64 (lightR n0 b.req k)), (4, .int .i64 0), (5, .int .i64 k)], [(.o 0, .rows 2 1 (getL [b.c]) false)], 1, []⟩
def dbAdd : Nat → List V → Heap → Nat → List Cl
 | 48, [.int _ a, .int _ c, _], _, _ => [{ val := .int .i64 (addS a c 4000) }]
 | _, _, _, _ => []
def lpLight (b : SBatch) (m : Nat) : Nat → St → List (Prop × Hint)
 | 0, _ => [(True, .rounds 2)]
 | _, _ => [(True, .loop (m + 1) (wTo (light1I b 5 0)) (.exit 2) (light1I b 5 m))]
noncomputable def pcLi (b : SBatch) (n0 : Int) (m k : Nat) : Pc := { c := cB (cB (cR (cR (cB (cL (cR (cB (cB (cR (cL (cR (cR (bodyOf Try.f47))))))))))))), st := light1I b n0 k, p := 1, kb := { db := dbAdd }, k := fun e _ => match e with
 | .normal => some (wTo (light1I b n0 (k + 1)))
 | _ => some (wTo (light1I b n0 m)) }
noncomputable def bdLight (b : SBatch) (m : Nat) : Bd := { f := Try.f47, args := [.sl (.o 0) 2 0 0 0 1 (some 1)], pre := [(.o 0, .rows 2 1 (getL [b.c]) false)], base := 1, kb := { db := dbAdd, lp := lpLight b m }, names := fun _ => [.o 0] }
end Go.Proofs.Ythifjamdfpjilaa
namespace Go.Proofs.Ythifjamdfpjilaa
open Go Sy Go.Proofs
theorem bdLight_p1100 (b : SBatch) (m : Nat) :
  along Try.prog (bdLight b m) [true, true, false, false] = some (V.bool (decide (lightR (5 : Int) (SBatch.req b) m ≤ (4000 : Int))), [(Nm.o (0 : Nat), B.rows (2 : Nat) (1 : Nat) (getL [SBatch.c b]) false)], [true = true, true = true, T Try.prog (48 : Nat) [V.int IntKind.i64 (0 : Int), V.int IntKind.i64 (5 : Int), V.int IntKind.i64 (4000 : Int)] [] (V.int IntKind.i64 (5 : Int)) [], RLoop Try.prog none (nat_lit 1) (cB (cB (cR (cR (cB (cL (cR (cB (cB (cR (cL (cR (cR (bodyOf (Bd.f (bdLight b m)))))))))))))))) (m + (1 : Nat)) (St.mk [V.sl (Nm.o (0 : Nat)) (2 : Nat) (0 : Nat) (0 : Nat) (0 : Nat) (1 : Nat) (some (1 : Nat)), V.any, V.any, V.int IntKind.i64 (5 : Int), V.int IntKind.i64 (0 : Int), V.int IntKind.i64 (0 : Int), V.any, V.any, V.any, V.any, V.any, V.any, V.any, V.any, V.any, V.any, V.any, V.any, V.any, V.any, V.any, V.any, V.any, V.any, V.any, V.any, V.any, V.any, V.any, V.any, V.any, V.any, V.any, V.any, V.any, V.any, V.any, V.any, V.any, V.any, V.any, V.any, V.any, V.any, V.any, V.any, V.any] [(Nm.o (0 : Nat), B.rows (2 : Nat) (1 : Nat) (getL [SBatch.c b]) false)] (nat_lit 1) []) (Exit.exit (2 : Nat)) (St.mk [V.sl (Nm.o (0 : Nat)) (2 : Nat) (0 : Nat) (0 : Nat) (0 : Nat) (1 : Nat) (some (1 : Nat)), V.any, V.any, V.int IntKind.i64 (lightR (5 : Int) (SBatch.req b) m), V.int IntKind.i64 (0 : Int), V.int IntKind.i64 (↑m : Int), V.any, V.any, V.any, V.any, V.any, V.any, V.any, V.any, V.any, V.any, V.any, V.any, V.any, V.any, V.any, V.any, V.any, V.any, V.any, V.any, V.any, V.any, V.any, V.any, V.any, V.any, V.any, V.any, V.any, V.any, V.any, V.any, V.any, V.any, V.any, V.any, V.any, V.any, V.any, V.any, V.any] [(Nm.o (0 : Nat), B.rows (2 : Nat) (1 : Nat) (getL [SBatch.c b]) false)] (1 : Nat) []), (1 : Nat) = (1 : Nat), ∀ (k : Nat), k < (1 : Nat) → getL [SBatch.c b] k = getL [SBatch.c b] k, false = false → false = false, (0 : Nat) = (0 : Nat), (0 : Nat) = (0 : Nat), (0 : Nat) = (0 : Nat), (1 : Nat) = (1 : Nat), some (1 : Nat) = none ∨ some (1 : Nat) = some (1 : Nat), (5 : Int) = (5 : Int), (0 : Int) = (0 : Int), (0 : Int) = (0 : Int), InR IntKind.i64 (1 : Int), false = false, false = false]) := by kernel_rfl

theorem pcLi_p11 (b : SBatch) (n0 : Int) (m : Nat) (k : Nat) :
  alongPc Try.prog (pcLi b n0 m k) [true, true] = some (Exit.normal, St.mk [V.sl (Nm.o (0 : Nat)) (2 : Nat) (0 : Nat) (0 : Nat) (0 : Nat) (1 : Nat) (some (1 : Nat)), V.any, V.any, V.int IntKind.i64 (lightR n0 (SBatch.req b) (k + (1 : Nat))), V.int IntKind.i64 (0 : Int), V.int IntKind.i64 (↑(k + (1 : Nat)) : Int), V.any, V.any, V.any, V.any, V.any, V.any, V.any, V.any, V.any, V.any, V.any, V.any, V.any, V.any, V.any, V.any, V.any, V.any, V.any, V.any, V.any, V.any, V.any, V.any, V.any, V.any, V.any, V.any, V.any, V.any, V.any, V.any, V.any, V.any, V.any, V.any, V.any, V.any, V.any, V.any, V.any] [(Nm.o (0 : Nat), B.rows (2 : Nat) (1 : Nat) (getL [SBatch.c b]) false)] (nat_lit 1) [], [(0 : Int) ≤ (0 : Int) ∧ (0 : Int) < (1 : Int), nat_lit 0 < (1 : Nat), decide ((↑k : Int) < (↑(SBatch.n b) : Int)) = true, decide (lightR n0 (SBatch.req b) k ≤ (4000 : Int)) = true, T Try.prog (48 : Nat) [V.int IntKind.i64 (lightR n0 (SBatch.req b) k), V.int IntKind.i64 (20 : Int), V.int IntKind.i64 (4000 : Int)] [] (V.int IntKind.i64 (addS (lightR n0 (SBatch.req b) k) (20 : Int) (4000 : Int))) [], (0 : Int) ≤ (0 : Int) ∧ (0 : Int) < (1 : Int), nat_lit 0 < (1 : Nat), (0 : Int) ≤ (↑k : Int) ∧ (↑k : Int) < (↑(SBatch.n b) : Int), T Try.prog (48 : Nat) [V.int IntKind.i64 (addS (lightR n0 (SBatch.req b) k) (20 : Int) (4000 : Int)), V.int IntKind.i64 (↑(ByteArray.size (SReq.data (SBatch.req b (Int.toNat (↑k : Int))))) : Int), V.int IntKind.i64 (4000 : Int)] [] (V.int IntKind.i64 (addS (addS (lightR n0 (SBatch.req b) k) (20 : Int) (4000 : Int)) (↑(ByteArray.size (SReq.data (SBatch.req b (Int.toNat (↑k : Int))))) : Int) (4000 : Int))) [], InR IntKind.i64 ((↑k : Int) + (1 : Int)), (1 : Nat) = (1 : Nat), ∀ (k : Nat), k < (1 : Nat) → getL [SBatch.c b] k = getL [SBatch.c b] k, false = false → false = false, (0 : Nat) = (0 : Nat), (0 : Nat) = (0 : Nat), (0 : Nat) = (0 : Nat), (1 : Nat) = (1 : Nat), some (1 : Nat) = none ∨ some (1 : Nat) = some (1 : Nat), addS (addS (lightR n0 (SBatch.req b) k) (20 : Int) (4000 : Int)) (↑(ByteArray.size (SReq.data (SBatch.req b (Int.toNat (↑k : Int))))) : Int) (4000 : Int) = lightR n0 (SBatch.req b) (k + (1 : Nat)), (0 : Int) = (0 : Int), (↑k : Int) + (1 : Int) = (↑(k + (1 : Nat)) : Int)]) := by kernel_rfl
theorem pcLi_p10 (b : SBatch) (n0 : Int) (m : Nat) (k : Nat) :
  alongPc Try.prog (pcLi b n0 m k) [true, false] = some (Exit.exit (2 : Nat), St.mk [V.sl (Nm.o (0 : Nat)) (2 : Nat) (0 : Nat) (0 : Nat) (0 : Nat) (1 : Nat) (some (1 : Nat)), V.any, V.any, V.int IntKind.i64 (lightR n0 (SBatch.req b) m), V.int IntKind.i64 (0 : Int), V.int IntKind.i64 (↑m : Int), V.any, V.any, V.any, V.any, V.any, V.any, V.any, V.any, V.any, V.any, V.any, V.any, V.any, V.any, V.any, V.any, V.any, V.any, V.any, V.any, V.any, V.any, V.any, V.any, V.any, V.any, V.any, V.any, V.any, V.any, V.any, V.any, V.any, V.any, V.any, V.any, V.any, V.any, V.any, V.any, V.any] [(Nm.o (0 : Nat), B.rows (2 : Nat) (1 : Nat) (getL [SBatch.c b]) false)] (nat_lit 1) [], [(0 : Int) ≤ (0 : Int) ∧ (0 : Int) < (1 : Int), nat_lit 0 < (1 : Nat), decide ((↑k : Int) < (↑(SBatch.n b) : Int)) = true, decide (lightR n0 (SBatch.req b) k ≤ (4000 : Int)) = false, (1 : Nat) = (1 : Nat), ∀ (k : Nat), k < (1 : Nat) → getL [SBatch.c b] k = getL [SBatch.c b] k, false = false → false = false, (0 : Nat) = (0 : Nat), (0 : Nat) = (0 : Nat), (0 : Nat) = (0 : Nat), (1 : Nat) = (1 : Nat), some (1 : Nat) = none ∨ some (1 : Nat) = some (1 : Nat), lightR n0 (SBatch.req b) k = lightR n0 (SBatch.req b) m, (0 : Int) = (0 : Int), (↑k : Int) = (↑m : Int)]) := by kernel_rfl
theorem pcLi_p00 (b : SBatch) (n0 : Int) (m : Nat) (k : Nat) :
  alongPc Try.prog (pcLi b n0 m k) [false, false] = some (Exit.exit (2 : Nat), St.mk [V.sl (Nm.o (0 : Nat)) (2 : Nat) (0 : Nat) (0 : Nat) (0 : Nat) (1 : Nat) (some (1 : Nat)), V.any, V.any, V.int IntKind.i64 (lightR n0 (SBatch.req b) m), V.int IntKind.i64 (0 : Int), V.int IntKind.i64 (↑m : Int), V.any, V.any, V.any, V.any, V.any, V.any, V.any, V.any, V.any, V.any, V.any, V.any, V.any, V.any, V.any, V.any, V.any, V.any, V.any, V.any, V.any, V.any, V.any, V.any, V.any, V.any, V.any, V.any, V.any, V.any, V.any, V.any, V.any, V.any, V.any, V.any, V.any, V.any, V.any, V.any, V.any] [(Nm.o (0 : Nat), B.rows (2 : Nat) (1 : Nat) (getL [SBatch.c b]) false)] (nat_lit 1) [], [(0 : Int) ≤ (0 : Int) ∧ (0 : Int) < (1 : Int), nat_lit 0 < (1 : Nat), decide ((↑k : Int) < (↑(SBatch.n b) : Int)) = false, false = false, (1 : Nat) = (1 : Nat), ∀ (k : Nat), k < (1 : Nat) → getL [SBatch.c b] k = getL [SBatch.c b] k, false = false → false = false, (0 : Nat) = (0 : Nat), (0 : Nat) = (0 : Nat), (0 : Nat) = (0 : Nat), (1 : Nat) = (1 : Nat), some (1 : Nat) = none ∨ some (1 : Nat) = some (1 : Nat), lightR n0 (SBatch.req b) k = lightR n0 (SBatch.req b) m, (0 : Int) = (0 : Int), (↑k : Int) = (↑m : Int)]) := by kernel_rfl

theorem exists_stop (p : Nat → Prop) : ∀ n, ∃ m, m ≤ n ∧ (∀ k, k < m → p k) ∧ (m = n ∨ ¬ p m)
 | 0 => ⟨0, Nat.le_refl _, fun k h => absurd h (Nat.not_lt_zero k), .inl rfl⟩
 | n + 1 => by
  obtain ⟨m, h1, h2, h3⟩ := exists_stop p n
  rcases h3 with rfl | h3
  ·by_cases h : p m
   ·refine ⟨m + 1, Nat.le_refl _, fun k hk => ?_, .inl rfl⟩
    rcases Nat.lt_or_ge k m with h4 | h4
    ·exact h2 k h4
    ·have : k = m := by omega
     subst this; exact h
   ·exact ⟨m, Nat.le_succ _, h2, .inr h⟩
  ·exact ⟨m, Nat.le_succ_of_le h1, h2, .inr h3⟩

theorem addS_range {n more : Int} (h1 : 0 ≤ n) (h2 : 0 ≤ more) : 0 ≤ addS n more 4000 ∧ addS n more 4000 ≤ 4001 := by
 unfold addS; split <;> omega
theorem addS_le {n more : Int} (h : addS n more 4000 ≤ 4000) : n ≤ 4000 ∧ more ≤ 4000 ∧ addS n more 4000 = n + more := by
 unfold addS at h ⊢; split at h
 ·omega
 ·rename_i h'; simp only [not_or, Int.not_lt] at h'; rw [if_neg (by omega)]; omega
theorem lightR_range {n0 : Int} (h : 0 ≤ n0 ∧ n0 ≤ 4001) (r : Nat → SReq) : ∀ k, 0 ≤ lightR n0 r k ∧ lightR n0 r k ≤ 4001
 | 0 => h
 | k + 1 => by
  rw [lightR]
  exact addS_range (addS_range (lightR_range h r k).1 (by decide)).1 (by omega)
theorem lightR_up {n0 : Int} (r : Nat → SReq) : ∀ k, lightR n0 r k ≤ 4000 → n0 + 20 * k ≤ lightR n0 r k
 | 0, _ => by simp [lightR]
 | k + 1, h => by
  rw [lightR] at h ⊢
  have h1 := addS_le h
  have h2 := addS_le h1.1
  have := lightR_up r k h2.1
  rw [h1.2.2, h2.2.2]; omega
theorem lightR_over {n0 : Int} (r : Nat → SReq) {m : Nat} : ∀ k, m ≤ k → lightR n0 r k ≤ 4000 → lightR n0 r m ≤ 4000
 | 0, h, h1 => by have : m = 0 := by omega
                  subst this; exact h1
 | k + 1, h, h1 => by
  rcases Nat.lt_or_ge m (k + 1) with h2 | h2
  ·rw [lightR] at h1
   exact lightR_over r k (by omega) (addS_le (addS_le h1).1).1
  ·have : m = k + 1 := by omega
   subst this; exact h1
/-- Is a batch not too much? -/
def lightB (b : SBatch) : Bool := decide (lightR 5 b.req b.n ≤ 4000)
theorem lightB_n {b : SBatch} (h : lightB b = true) : b.n ≤ 200 := by
 have := of_decide_eq_true h
 have := lightR_up b.req b.n this
 omega

theorem L_li (b : SBatch) {m : Nat} (hm : m ≤ b.n) (hd : ∀ k, k < b.n → (b.req k).data.size ≤ 9223372036854775807) (h1 : ∀ k, k < m → lightR 5 b.req k ≤ 4000) (h2 : m = b.n ∨ ¬ lightR 5 b.req m ≤ 4000) (hn : b.n ≤ 9223372036854775807) :
  RLoop Try.prog none 1 (cB (cB (cR (cR (cB (cL (cR (cB (cB (cR (cL (cR (cR (bodyOf Try.f47)))))))))))))) (m + 1) (light1I b 5 0) (.exit 2) (light1I b 5 m) :=
 RLoop.inv (light1I b 5) m (fun k hk => by
  have h3 := h1 k hk
  have hkn : k < b.n := by omega
  have h4 := lightR_range (n0 := 5) (by decide) b.req k
  have h5 := addS_range h4.1 (more := 20) (by decide)
  have hdk : (((b.req (Int.toNat (k : Int))).data.size : Nat) : Int) ≤ 9223372036854775807 := by
   have := hd k hkn
   rw [Int.toNat_natCast]; omega
  refine R_alongPc NG MO _ (pcLi_p11 b 5 m k) ?_ (Nat.le_refl _)
  simp only [All]
  and_intros
  all_goals first
   | exact T_add h4.1 (by decide) (by decide)
   | exact T_add h5.1 (by omega) hdk
   | (simp [h3, hkn, lightR, IntKind.min, IntKind.max, IntKind.signed, IntKind.bits] <;> omega))
  (by
   rcases h2 with h2 | h2
   ·refine R_alongPc NG MO _ (pcLi_p00 b 5 m m) ?_ (Nat.le_refl _)
    simp [All, h2]
   ·by_cases h3 : m < b.n
    ·refine R_alongPc NG MO _ (pcLi_p10 b 5 m m) ?_ (Nat.le_refl _)
     simp [All, h2, h3]
    ·refine R_alongPc NG MO _ (pcLi_p00 b 5 m m) ?_ (Nat.le_refl _)
     simp [All, h3]) (by simp)
theorem T_light0 (b : SBatch) (hd : ∀ k, k < b.n → (b.req k).data.size ≤ 9223372036854775807) (hn : b.n ≤ 9223372036854775807) :
  T Try.prog 47 [.sl (.o 0) 2 0 0 0 1 (some 1)] [(.o 0, .rows 2 1 (getL [b.c]) false)] (.bool (lightB b)) [(.o 0, .rows 2 1 (getL [b.c]) false)] := by
 obtain ⟨m, h1, h2, h3⟩ := exists_stop (fun k => lightR 5 b.req k ≤ 4000) b.n
 refine T.bool (T_along NG MO _ (bdLight_p1100 b m) Try.func47 (by kernel_rfl) ?_ (pinH_ok (by kernel_rfl)) (by kernel_rfl)) ?_
 ·simp only [All]
  and_intros
  all_goals first
   | exact T_add (n := 0) (more := 5) (by decide) (by decide) (by decide)
   | exact L_li b h1 hd h2 h3 hn
   | simp [IntKind.min, IntKind.max, IntKind.signed, IntKind.bits]
 ·unfold lightB
  rw [decide_eq_decide]
  rcases h3 with rfl | h3
  ·exact Iff.rfl
  ·exact ⟨fun h => absurd h h3, fun h => lightR_over b.req b.n h1 h⟩
theorem T_light (b : SBatch) (hd : ∀ k, k < b.n → (b.req k).data.size ≤ 9223372036854775807) (hn : b.n ≤ 9223372036854775807) (a : Nat) :
  T Try.prog 47 [.sl (.o a) 2 0 0 0 1 (some 1)] [(.o a, .rows 2 1 (getL [b.c]) false)] (.bool (lightB b)) [(.o a, .rows 2 1 (getL [b.c]) false)] :=
 T.conv (T.swap (.o 0) (.o a) (T_light0 b hd hn)) (by simp [V.rens, V.ren, Nm.swap]) (by simp [Heap.ren, B.ren, Nm.swap]) (by simp [V.ren]) (by simp [Heap.ren, B.ren, Nm.swap])
end Go.Proofs.Ythifjamdfpjilaa
namespace Go.Proofs.Ythifjamdfpjilaa
open Go Sy Go.Proofs
/-- The bodies' bytes, counted. -/
def sumN (e : Nat → SEnv) : Nat → Int
 | 0 => 0
 | k + 1 => addS (sumN e k) (e k).body.size 6000
def okHd (h : SHeld) : Bool := lightB h.batch && decide (h.cert.n ≤ 100)
def lightMS (m : SMsg) : Bool := lightB m.batch && (decide (m.state.size ≤ 6000) && (decide (m.n ≤ 100) && (decide (m.cert.n ≤ 100) && (decide (m.nheld ≤ 20) && (decide (m.nnews ≤ 100) && (decide (∀ i, i < m.nheld → okHd (m.held i) = true) && decide (∀ i, i < m.nnews → sumN m.news (i + 1) ≤ 6000)))))))
def lg1I (m : SMsg) (k : Nat) : St := ⟨mkT 81 [(1, .ptr (.o 0) 0 0 0 0), (3, .int .i64 0), (47, hl m.nheld m.held), (48, .int .i64 m.nheld), (49, .int .i64 k)], [(.o 0, .flat m.c)], 1, []⟩
def lg2I (m : SMsg) (k : Nat) : St := ⟨mkT 81 [(1, .ptr (.o 0) 0 0 0 0), (3, .int .i64 (sumN m.news k)), (67, nw m.nnews m.news), (68, .int .i64 m.nnews), (69, .int .i64 k)], [(.o 0, .flat m.c)], 1, []⟩
def cLight (b : SBatch) : List V → Heap → Nat → List Cl := fun args _ _ => match args with
 | .sl a _ _ _ _ _ _ :: _ => [{ rd := [a], val := .bool (lightB b) }]
 | _ => []
noncomputable def bdLg (m : SMsg) (j : Nat) : Bd := { f := Try.f19, args := [.agg m.c], kb := { db := dbF [(47, cLight m.batch)], lp := fun id _ => match id with
 | 0 => [(True, .loop (m.nheld + 1) (wTo (lg1I m 0)) (.exit 0) (lg1I m m.nheld)), (True, .loop (j + 1) (wTo (lg1I m 0)) .ret (smF 2 81))]
 | _ => [(True, .loop (m.nnews + 1) (wTo (lg2I m 0)) (.exit 2) (lg2I m m.nnews)), (True, .loop (j + 1) (wTo (lg2I m 0)) .ret (smF 2 81))] } }
noncomputable def pcLg1 (m : SMsg) (k : Nat) : Pc := { c := cB (cB (cR (cL (cR (cR (cR (bodyOf Try.f19))))))), st := lg1I m k, kb := { db := dbF [(47, cLight (m.held k).batch)] }, k := fun e _ => match e with
 | .normal => some (wTo (lg1I m (k + 1)))
 | .ret => some (wTo (smF 2 81))
 | _ => some (wTo (lg1I m m.nheld)) }
noncomputable def pcLg2 (m : SMsg) (k : Nat) : Pc := { c := cB (cB (cR (cL (cR (cR (cR (cR (bodyOf Try.f19)))))))), st := lg2I m k, kb := { db := dbF [(48, fun _ _ _ => [{ val := .int .i64 (sumN m.news (k + 1)) }])] }, k := fun e _ => match e with
 | .normal => some (wTo (lg2I m (k + 1)))
 | .ret => some (wTo (smF 2 81))
 | _ => some (wTo (lg2I m m.nnews)) }
end Go.Proofs.Ythifjamdfpjilaa
