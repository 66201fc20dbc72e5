/-
  Contracts and laws that the claim's theorem leans on, joined out of the texts Te3 Te4 Qa0 SyFrz Qa1D Qa1 SySha Ka1D Ka1 Ka2D Ka2 Ka3D Ka3 Ka4D (own work of this seat): The plain law of messages: what was put is read, what is read was put; What a message that may be has; its bytes, or why not; The plain law: an envelope that is put is read again; Blocks that a call takes for good: they are only looked at from then on; Contracts: a number behind bytes that stay; the body that a request's tag is of; an envelope's bytes; Contracts: a number behind bytes that stay; the body that a request's tag is of; an envelope's bytes; The digest's numbers, plainly; Contracts: what the digest's rounds compute; Contracts: what the digest's rounds compute; Contract: one block of the digest; Contract: one block of the digest; Contracts: a stream of the digest; Contracts: a stream of the digest; Contracts: the digest's end, and the digest of parts.
-/
import Derived.Test.YtnmccoincblecaaGreatC03
import Derived.Test.YtnmccoincblecaaGreatC04
import Derived.Test.YtnmccoincblecaaGreatC09
set_option linter.unusedVariables false
set_option linter.unusedSimpArgs false
set_option maxHeartbeats 1000000
namespace Go.Proofs.YtnmccoincblecaaGreat
open Go Sy Go.Proofs
/-- Arrays as they are: bytes, so many. -/
structure segMsg (m : SMsg) : Prop where
 batch : segBatch m.batch
 vote : SegOk 32 m.vote.digest
 held : ∀ i, i < m.nheld → segHeld (m.held i)
 news : ∀ i, i < m.nnews → SegOk 16 (m.news i).tag
 digest : SegOk 32 m.digest
 cert : segCert m.cert
 sig : ∀ i, i < m.n → SegOk 16 (m.sig i).tag
theorem sameHeld_iff {a b : SHeld} : sameHeldS a b = true ↔ sameBatchS a.batch b.batch = true ∧ sameCertS a.cert b.cert = true := by simp [sameHeldS]
structure SameM (a b : SMsg) : Prop where
 kind : a.kind = b.kind
 epoch : a.epoch = b.epoch
 leader : a.leader = b.leader
 view : a.view = b.view
 slot : a.slot = b.slot
 batch : sameBatchS a.batch b.batch = true
 vote : a.vote = b.vote
 cepoch : a.cepoch = b.cepoch
 cleader : a.cleader = b.cleader
 cview : a.cview = b.cview
 held : a.nheld = b.nheld ∧ ∀ i, i < a.nheld → sameHeldS (a.held i) (b.held i) = true
 news : a.nnews = b.nnews ∧ ∀ i, i < a.nnews → a.news i = b.news i
 digest : a.digest = b.digest
 cert : sameCertS a.cert b.cert = true
 state : a.state = b.state
 sig : a.n = b.n ∧ ∀ i, i < a.n → a.sig i = b.sig i
theorem sameMsg_iff {a b : SMsg} : sameMsgS a b = true ↔ SameM a b := by
 simp only [sameMsgS, sameChangeS, Bool.and_eq_true, decide_eq_true_eq, sameL_iff, signEq_iff, voteEq_iff, envEq_iff]
 constructor
 ·rintro ⟨h1, h2, h3, h4, h5, h6, h7, ⟨h8, h9, h10, h11⟩, h12, h13, h14, h15, h16⟩
  exact ⟨h1, h2, h3, h4, h5, h6, h7, h8, h9, h10, h11, h12, h13, h14, h15, h16⟩
 ·rintro ⟨h1, h2, h3, h4, h5, h6, h7, h8, h9, h10, h11, h12, h13, h14, h15, h16⟩
  exact ⟨h1, h2, h3, h4, h5, h6, h7, ⟨h8, h9, h10, h11⟩, h12, h13, h14, h15, h16⟩
theorem sameBatch_refl (b : SBatch) : sameBatchS b b = true := sameBatch_iff.2 ⟨rfl, rfl, fun _ _ => rfl⟩
theorem sameCert_refl (b : SCert) : sameCertS b b = true := sameCert_iff.2 ⟨rfl, rfl, fun _ _ => rfl⟩
theorem sameHeld_refl (b : SHeld) : sameHeldS b b = true := sameHeld_iff.2 ⟨sameBatch_refl _, sameCert_refl _⟩
theorem sameBatch_symm {a b : SBatch} (h : sameBatchS a b = true) : sameBatchS b a = true := by
 obtain ⟨h1, h2, h3⟩ := sameBatch_iff.1 h
 exact sameBatch_iff.2 ⟨h1.symm, h2.symm, fun i hi => (h3 i (by omega)).symm⟩
theorem sameCert_symm {a b : SCert} (h : sameCertS a b = true) : sameCertS b a = true := by
 obtain ⟨h1, h2, h3⟩ := sameCert_iff.1 h
 exact sameCert_iff.2 ⟨h1.symm, h2.symm, fun i hi => (h3 i (by omega)).symm⟩
theorem sameHeld_symm {a b : SHeld} (h : sameHeldS a b = true) : sameHeldS b a = true :=
 sameHeld_iff.2 ⟨sameBatch_symm (sameHeld_iff.1 h).1, sameCert_symm (sameHeld_iff.1 h).2⟩
theorem sameM_symm {a b : SMsg} (h : SameM a b) : SameM b a :=
 ⟨h.kind.symm, h.epoch.symm, h.leader.symm, h.view.symm, h.slot.symm, sameBatch_symm h.batch, h.vote.symm, h.cepoch.symm, h.cleader.symm, h.cview.symm, ⟨h.held.1.symm, fun i hi => sameHeld_symm (h.held.2 i (by have := h.held.1; omega))⟩, ⟨h.news.1.symm, fun i hi => (h.news.2 i (by have := h.news.1; omega)).symm⟩, h.digest.symm, sameCert_symm h.cert, h.state.symm, ⟨h.sig.1.symm, fun i hi => (h.sig.2 i (by have := h.sig.1; omega)).symm⟩⟩
theorem sameM_refl (m : SMsg) : SameM m m := ⟨rfl, rfl, rfl, rfl, rfl, sameBatch_refl _, rfl, rfl, rfl, rfl, ⟨rfl, fun _ _ => sameHeld_refl _⟩, ⟨rfl, fun _ _ => rfl⟩, rfl, sameCert_refl _, rfl, ⟨rfl, fun _ _ => rfl⟩⟩
/-- What a message that may be has. -/
structure Good (m : SMsg) : Prop where
 kind : 1 ≤ m.kind ∧ m.kind ≤ 8
 only : SameM m (onlyS m)
 vote : m.kind = 2 → mayVoteS m.vote = true
 cert : m.kind = 7 → mayCertS m.cert = true
 epoch : 0 ≤ m.epoch ∧ m.epoch ≤ 1048576
 slot : 0 ≤ m.slot ∧ m.slot ≤ 1099511627776
 view : 0 ≤ m.view ∧ m.view ≤ 1099511627776
 leader : 0 ≤ m.leader ∧ m.leader ≤ 64
 batch : mayBatchS m.batch = true
 cepoch : 0 ≤ m.cepoch ∧ m.cepoch ≤ 1048576
 cleader : 0 ≤ m.cleader ∧ m.cleader ≤ 64
 cview : 0 ≤ m.cview ∧ m.cview ≤ 1099511627776
 held : m.nheld ≤ 4 ∧ ∀ i, i < m.nheld → mayHeldS (m.held i) = true
 news : m.nnews ≤ 64 ∧ ∀ i, i < m.nnews → mayEnvS (m.news i) = true
 sig : m.n ≤ 64 ∧ ∀ i, i < m.n → maySignS (m.sig i) = true
 state : m.state.size ≤ 4194304
theorem good_iff {m : SMsg} : goodS m = true ↔ Good m := by
 simp only [goodS, mayChangeS, Bool.and_eq_true, decide_eq_true_eq, upto_iff, allS_iff, Bool.or_eq_true, Bool.not_eq_true', decide_eq_false_iff_not, sameMsg_iff]
 constructor
 ·rintro ⟨h1, h2, h3, h4, h5, h6, h7, h8, h9, h10, ⟨h11, h12, h13, h14⟩, h15, h16, h17⟩
  exact ⟨⟨h1, h2⟩, h3, fun h => h4.resolve_left (fun g => g h), fun h => h5.resolve_left (fun g => g h), h6, h7, h8, h9, h10, h11, h12, h13, h14, h15, h16, by omega⟩
 ·rintro ⟨⟨h1, h2⟩, h3, h4, h5, h6, h7, h8, h9, h10, h11, h12, h13, h14, h15, h16, h17⟩
  exact ⟨h1, h2, h3, (Classical.em (m.kind = 2)).elim (fun g => .inr (h4 g)) .inl, (Classical.em (m.kind = 7)).elim (fun g => .inr (h5 g)) .inl, h6, h7, h8, h9, h10, ⟨h11, h12, h13, h14⟩, h15, h16, by omega⟩
theorem fld1_rd {m : SMsg} (g : Good m) (ht : segMsg m) (hk : m.kind = 1) {s : RS} {t : List UInt8} (he : s.e = 0) (hb : s.l = bodyB m ++ t) : SameM (fld1 (msg0 m.kind) s).1 m ∧ (fld1 (msg0 m.kind) s).2 = { s with l := t } := by
 rw [bodyB] at hb
 rw [if_pos hk] at hb
 try simp only [numsB, List.append_nil, List.append_assoc] at hb
 have ho : SameM m (o1 m) := by have := g.only; rw [onlyS] at this; simpa [hk] using this
 obtain ⟨a1, b1⟩ := num_rd (n := m.epoch) (most := 1048576) g.epoch.1 g.epoch.2 (by decide) s _ he hb
 have e1 : f1S1 s = { s with l := putZ m.slot ++ (batchB m.batch ++ t) } := by show (numR 1048576 s).2 = _; rw [b1]
 obtain ⟨a2, b2⟩ := num_rd (n := m.slot) (most := 1099511627776) g.slot.1 g.slot.2 (by decide) (f1S1 s) _ (by rw [e1]; exact he) (by rw [e1])
 have e2 : f1S2 s = { s with l := batchB m.batch ++ t } := by show (numR 1099511627776 (f1S1 s)).2 = _; rw [b2, e1]
 obtain ⟨a3, b3⟩ := batch_rd g.batch ht.batch (f1S2 s) _ (by rw [e2]; exact he) (by rw [e2])
 have e3 : f1S3 s = { s with l := t } := by show (batchR (f1S2 s)).2 = _; rw [b3, e2]
 refine ⟨?_, e3⟩
 have hs := sameM_symm ho
 exact ⟨rfl, a1, hs.leader, hs.view, a2, a3, hs.vote, hs.cepoch, hs.cleader, hs.cview, hs.held, hs.news, hs.digest, hs.cert, hs.state, hs.sig⟩
theorem seg32 : SegOk 32 z32 := ⟨rfl, by decide⟩
theorem fld2_rd {m : SMsg} (g : Good m) (ht : segMsg m) (hk : m.kind = 2) {s : RS} {t : List UInt8} (he : s.e = 0) (hb : s.l = bodyB m ++ t) : SameM (fld2 (msg0 m.kind) s).1 m ∧ (fld2 (msg0 m.kind) s).2 = { s with l := t } := by
 rw [bodyB] at hb
 rw [if_neg (by omega)] at hb
 rw [if_pos hk] at hb
 try simp only [numsB, List.append_nil, List.append_assoc] at hb
 have ho : SameM m (o2 m) := by have := g.only; rw [onlyS] at this; simpa [hk] using this
 obtain ⟨a1, b1⟩ := vote_rd (g.vote hk) ht.vote s _ he hb
 have e1 : f2S1 s = { s with l := t } := by show (voteR s).2 = _; rw [b1]
 refine ⟨?_, e1⟩
 have hs := sameM_symm ho
 exact ⟨rfl, hs.epoch, hs.leader, hs.view, hs.slot, hs.batch, a1, hs.cepoch, hs.cleader, hs.cview, hs.held, hs.news, hs.digest, hs.cert, hs.state, hs.sig⟩
theorem fld3_rd {m : SMsg} (g : Good m) (ht : segMsg m) (hk : m.kind = 3) {s : RS} {t : List UInt8} (he : s.e = 0) (hb : s.l = bodyB m ++ t) : SameM (fld3 (msg0 m.kind) s).1 m ∧ (fld3 (msg0 m.kind) s).2 = { s with l := t } := by
 rw [bodyB] at hb
 rw [if_neg (by omega)] at hb
 rw [if_neg (by omega)] at hb
 rw [if_pos hk] at hb
 try simp only [numsB, List.append_nil, List.append_assoc] at hb
 have ho : SameM m (o3 m) := by have := g.only; rw [onlyS] at this; simpa [hk] using this
 obtain ⟨a1, b1⟩ := num_rd (n := m.cepoch) (most := 1048576) g.cepoch.1 g.cepoch.2 (by decide) s _ he hb
 have e1 : f3S1 s = { s with l := putZ m.cleader ++ (putZ m.cview ++ (putZ (m.nheld : Int) ++ (heldsB m.held m.nheld ++ t))) } := by show (numR 1048576 s).2 = _; rw [b1]
 obtain ⟨a2, b2⟩ := num_rd (n := m.cleader) (most := 64) g.cleader.1 g.cleader.2 (by decide) (f3S1 s) _ (by rw [e1]; exact he) (by rw [e1])
 have e2 : f3S2 s = { s with l := putZ m.cview ++ (putZ (m.nheld : Int) ++ (heldsB m.held m.nheld ++ t)) } := by show (numR 64 (f3S1 s)).2 = _; rw [b2, e1]
 obtain ⟨a3, b3⟩ := num_rd (n := m.cview) (most := 1099511627776) g.cview.1 g.cview.2 (by decide) (f3S2 s) _ (by rw [e2]; exact he) (by rw [e2])
 have e3 : f3S3 s = { s with l := putZ (m.nheld : Int) ++ (heldsB m.held m.nheld ++ t) } := by show (numR 1099511627776 (f3S2 s)).2 = _; rw [b3, e2]
 obtain ⟨n4, a4, b4⟩ := get_rd (one := heldR) (enc := heldB) (rel := fun x y => sameHeldS x y = true) (el := m.held) (n := m.nheld) (most := 4) (by have := g.held.1; omega) (by decide) (fun i hi => held_rd (g.held.2 i hi) (ht.held i hi)) (s := (f3S3 s)) (by rw [e3]; exact he) (tail := t) (by rw [e3]; simp only [numsB, List.append_nil, heldsB_encs])
 have e4 : f3S4 s = { s with l := t } := by show getS heldR 4 (f3S3 s) = _; rw [b4, e3]
 refine ⟨?_, e4⟩
 have hs := sameM_symm ho
 exact ⟨rfl, hs.epoch, hs.leader, hs.view, hs.slot, hs.batch, hs.vote, a1, a2, a3, ⟨n4, fun i hi => a4 i (by rw [← n4]; exact hi)⟩, hs.news, hs.digest, hs.cert, hs.state, hs.sig⟩
theorem fld4_rd {m : SMsg} (g : Good m) (ht : segMsg m) (hk : m.kind = 4) {s : RS} {t : List UInt8} (he : s.e = 0) (hb : s.l = bodyB m ++ t) : SameM (fld4 (msg0 m.kind) s).1 m ∧ (fld4 (msg0 m.kind) s).2 = { s with l := t } := by
 rw [bodyB] at hb
 rw [if_neg (by omega)] at hb
 rw [if_neg (by omega)] at hb
 rw [if_neg (by omega)] at hb
 rw [if_pos hk] at hb
 try simp only [numsB, List.append_nil, List.append_assoc] at hb
 have ho : SameM m (o4 m) := by have := g.only; rw [onlyS] at this; simpa [hk] using this
 obtain ⟨a1, b1⟩ := num_rd (n := m.epoch) (most := 1048576) g.epoch.1 g.epoch.2 (by decide) s _ he hb
 have e1 : f4S1 s = { s with l := putZ m.leader ++ (putZ m.view ++ (putZ (m.nnews : Int) ++ (envsB m.news m.nnews ++ t))) } := by show (numR 1048576 s).2 = _; rw [b1]
 obtain ⟨a2, b2⟩ := num_rd (n := m.leader) (most := 64) g.leader.1 g.leader.2 (by decide) (f4S1 s) _ (by rw [e1]; exact he) (by rw [e1])
 have e2 : f4S2 s = { s with l := putZ m.view ++ (putZ (m.nnews : Int) ++ (envsB m.news m.nnews ++ t)) } := by show (numR 64 (f4S1 s)).2 = _; rw [b2, e1]
 obtain ⟨a3, b3⟩ := num_rd (n := m.view) (most := 1099511627776) g.view.1 g.view.2 (by decide) (f4S2 s) _ (by rw [e2]; exact he) (by rw [e2])
 have e3 : f4S3 s = { s with l := putZ (m.nnews : Int) ++ (envsB m.news m.nnews ++ t) } := by show (numR 1099511627776 (f4S2 s)).2 = _; rw [b3, e2]
 obtain ⟨n4, a4, b4⟩ := get_rd (one := envR) (enc := envB) (rel := fun x y => x = y) (el := m.news) (n := m.nnews) (most := 64) (by have := g.news.1; omega) (by decide) (fun i hi => env_rd (g.news.2 i hi) (ht.news i hi)) (s := (f4S3 s)) (by rw [e3]; exact he) (tail := t) (by rw [e3]; simp only [numsB, List.append_nil, envsB_encs])
 have e4 : f4S4 s = { s with l := t } := by show getS envR 64 (f4S3 s) = _; rw [b4, e3]
 refine ⟨?_, e4⟩
 have hs := sameM_symm ho
 exact ⟨rfl, a1, a2, a3, hs.slot, hs.batch, hs.vote, hs.cepoch, hs.cleader, hs.cview, hs.held, ⟨n4, fun i hi => a4 i (by rw [← n4]; exact hi)⟩, hs.digest, hs.cert, hs.state, hs.sig⟩
theorem fld5_rd {m : SMsg} (g : Good m) (ht : segMsg m) (hk : m.kind = 5) {s : RS} {t : List UInt8} (he : s.e = 0) (hb : s.l = bodyB m ++ t) : SameM (fld5 (msg0 m.kind) s).1 m ∧ (fld5 (msg0 m.kind) s).2 = { s with l := t } := by
 rw [bodyB] at hb
 rw [if_neg (by omega)] at hb
 rw [if_neg (by omega)] at hb
 rw [if_neg (by omega)] at hb
 rw [if_neg (by omega)] at hb
 rw [if_pos hk] at hb
 try simp only [numsB, List.append_nil, List.append_assoc] at hb
 have ho : SameM m (o5 m) := by have := g.only; rw [onlyS] at this; simpa [hk] using this
 obtain ⟨a1, b1⟩ := num_rd (n := m.epoch) (most := 1048576) g.epoch.1 g.epoch.2 (by decide) s _ he hb
 have e1 : f5S1 s = { s with l := segB m.digest ++ t } := by show (numR 1048576 s).2 = _; rw [b1]
 obtain ⟨a2, b2⟩ := dig_rd ht.digest (f5S1 s) _ (by rw [e1]; exact he) (by rw [e1])
 have e2 : f5S2 s = { s with l := t } := by show (digR (f5S1 s)).2 = _; rw [b2, e1]
 refine ⟨?_, e2⟩
 have hs := sameM_symm ho
 exact ⟨rfl, a1, hs.leader, hs.view, hs.slot, hs.batch, hs.vote, hs.cepoch, hs.cleader, hs.cview, hs.held, hs.news, a2, hs.cert, hs.state, hs.sig⟩
theorem fld6_rd {m : SMsg} (g : Good m) (ht : segMsg m) (hk : m.kind = 6) {s : RS} {t : List UInt8} (he : s.e = 0) (hb : s.l = bodyB m ++ t) : SameM (fld6 (msg0 m.kind) s).1 m ∧ (fld6 (msg0 m.kind) s).2 = { s with l := t } := by
 rw [bodyB] at hb
 rw [if_neg (by omega)] at hb
 rw [if_neg (by omega)] at hb
 rw [if_neg (by omega)] at hb
 rw [if_neg (by omega)] at hb
 rw [if_neg (by omega)] at hb
 rw [if_pos hk] at hb
 try simp only [numsB, List.append_nil, List.append_assoc] at hb
 have ho : SameM m (o6 m) := by have := g.only; rw [onlyS] at this; simpa [hk] using this
 obtain ⟨a1, b1⟩ := num_rd (n := m.epoch) (most := 1048576) g.epoch.1 g.epoch.2 (by decide) s _ he hb
 have e1 : f6S1 s = { s with l := putZ m.slot ++ t } := by show (numR 1048576 s).2 = _; rw [b1]
 obtain ⟨a2, b2⟩ := num_rd (n := m.slot) (most := 1099511627776) g.slot.1 g.slot.2 (by decide) (f6S1 s) _ (by rw [e1]; exact he) (by rw [e1])
 have e2 : f6S2 s = { s with l := t } := by show (numR 1099511627776 (f6S1 s)).2 = _; rw [b2, e1]
 refine ⟨?_, e2⟩
 have hs := sameM_symm ho
 exact ⟨rfl, a1, hs.leader, hs.view, a2, hs.batch, hs.vote, hs.cepoch, hs.cleader, hs.cview, hs.held, hs.news, hs.digest, hs.cert, hs.state, hs.sig⟩
theorem fld7_rd {m : SMsg} (g : Good m) (ht : segMsg m) (hk : m.kind = 7) {s : RS} {t : List UInt8} (he : s.e = 0) (hb : s.l = bodyB m ++ t) : SameM (fld7 (msg0 m.kind) s).1 m ∧ (fld7 (msg0 m.kind) s).2 = { s with l := t } := by
 rw [bodyB] at hb
 rw [if_neg (by omega)] at hb
 rw [if_neg (by omega)] at hb
 rw [if_neg (by omega)] at hb
 rw [if_neg (by omega)] at hb
 rw [if_neg (by omega)] at hb
 rw [if_neg (by omega)] at hb
 rw [if_pos hk] at hb
 try simp only [numsB, List.append_nil, List.append_assoc] at hb
 have ho : SameM m (o7 m) := by have := g.only; rw [onlyS] at this; simpa [hk] using this
 obtain ⟨a1, b1⟩ := batch_rd g.batch ht.batch s _ he hb
 have e1 : f7S1 s = { s with l := certB m.cert ++ t } := by show (batchR s).2 = _; rw [b1]
 obtain ⟨a2, b2⟩ := cert_rd (g.cert hk) ht.cert (f7S1 s) _ (by rw [e1]; exact he) (by rw [e1])
 have e2 : f7S2 s = { s with l := t } := by show (certR (f7S1 s)).2 = _; rw [b2, e1]
 refine ⟨?_, e2⟩
 have hs := sameM_symm ho
 exact ⟨rfl, hs.epoch, hs.leader, hs.view, hs.slot, a1, hs.vote, hs.cepoch, hs.cleader, hs.cview, hs.held, hs.news, hs.digest, a2, hs.state, hs.sig⟩
theorem fld8_rd {m : SMsg} (g : Good m) (ht : segMsg m) (hk : m.kind = 8) {s : RS} {t : List UInt8} (he : s.e = 0) (hb : s.l = bodyB m ++ t) : SameM (fld8 (msg0 m.kind) s).1 m ∧ (fld8 (msg0 m.kind) s).2 = { s with l := t } := by
 rw [bodyB] at hb
 rw [if_neg (by omega)] at hb
 rw [if_neg (by omega)] at hb
 rw [if_neg (by omega)] at hb
 rw [if_neg (by omega)] at hb
 rw [if_neg (by omega)] at hb
 rw [if_neg (by omega)] at hb
 rw [if_neg (by omega)] at hb
 rw [if_pos hk] at hb
 try simp only [numsB, List.append_nil, List.append_assoc] at hb
 have ho : SameM m (o8 m) := by have := g.only; rw [onlyS] at this; simpa [hk] using this
 obtain ⟨a1, b1⟩ := text_rd (t := m.state) (most := 4194304) (by have := g.state; omega) (by decide) s _ he hb
 have e1 : f8S1 s = { s with l := putZ (m.n : Int) ++ (signsB m.sig m.n ++ t) } := by show (textR 4194304 s).2 = _; rw [b1]
 obtain ⟨n2, a2, b2⟩ := get_rd (one := signR) (enc := signB) (rel := fun x y => x = y) (el := m.sig) (n := m.n) (most := 64) (by have := g.sig.1; omega) (by decide) (fun i hi => sign_rd (g.sig.2 i hi) (ht.sig i hi)) (s := (f8S1 s)) (by rw [e1]; exact he) (tail := t) (by rw [e1]; simp only [numsB, List.append_nil, signsB_encs])
 have e2 : f8S2 s = { s with l := t } := by show getS signR 64 (f8S1 s) = _; rw [b2, e1]
 refine ⟨?_, e2⟩
 have hs := sameM_symm ho
 exact ⟨rfl, hs.epoch, hs.leader, hs.view, hs.slot, hs.batch, hs.vote, hs.cepoch, hs.cleader, hs.cview, hs.held, hs.news, hs.digest, hs.cert, a1, ⟨n2, fun i hi => a2 i (by rw [← n2]; exact hi)⟩⟩
theorem fields_rd {m : SMsg} (g : Good m) (ht : segMsg m) {s : RS} {t : List UInt8} (he : s.e = 0) (hl : s.l = bodyB m ++ t) : SameM (fieldsR (msg0 m.kind) s).1 m ∧ (fieldsR (msg0 m.kind) s).2 = { s with l := t } := by
 have hk := g.kind
 have hm : (msg0 m.kind).kind = m.kind := rfl
 have : m.kind = 1 ∨ m.kind = 2 ∨ m.kind = 3 ∨ m.kind = 4 ∨ m.kind = 5 ∨ m.kind = 6 ∨ m.kind = 7 ∨ m.kind = 8 := by omega
 rcases this with h | h | h | h | h | h | h | h
 ·have e : fieldsR (msg0 m.kind) s = fld1 (msg0 m.kind) s := by simp only [fieldsR, hm, if_pos h]
  rw [e]; exact fld1_rd g ht h he hl
 ·have e : fieldsR (msg0 m.kind) s = fld2 (msg0 m.kind) s := by simp only [fieldsR, hm, if_neg (show ¬ m.kind = 1 by omega), if_pos h]
  rw [e]; exact fld2_rd g ht h he hl
 ·have e : fieldsR (msg0 m.kind) s = fld3 (msg0 m.kind) s := by simp only [fieldsR, hm, if_neg (show ¬ m.kind = 1 by omega), if_neg (show ¬ m.kind = 2 by omega), if_pos h]
  rw [e]; exact fld3_rd g ht h he hl
 ·have e : fieldsR (msg0 m.kind) s = fld4 (msg0 m.kind) s := by simp only [fieldsR, hm, if_neg (show ¬ m.kind = 1 by omega), if_neg (show ¬ m.kind = 2 by omega), if_neg (show ¬ m.kind = 3 by omega), if_pos h]
  rw [e]; exact fld4_rd g ht h he hl
 ·have e : fieldsR (msg0 m.kind) s = fld5 (msg0 m.kind) s := by simp only [fieldsR, hm, if_neg (show ¬ m.kind = 1 by omega), if_neg (show ¬ m.kind = 2 by omega), if_neg (show ¬ m.kind = 3 by omega), if_neg (show ¬ m.kind = 4 by omega), if_pos h]
  rw [e]; exact fld5_rd g ht h he hl
 ·have e : fieldsR (msg0 m.kind) s = fld6 (msg0 m.kind) s := by simp only [fieldsR, hm, if_neg (show ¬ m.kind = 1 by omega), if_neg (show ¬ m.kind = 2 by omega), if_neg (show ¬ m.kind = 3 by omega), if_neg (show ¬ m.kind = 4 by omega), if_neg (show ¬ m.kind = 5 by omega), if_pos h]
  rw [e]; exact fld6_rd g ht h he hl
 ·have e : fieldsR (msg0 m.kind) s = fld7 (msg0 m.kind) s := by simp only [fieldsR, hm, if_neg (show ¬ m.kind = 1 by omega), if_neg (show ¬ m.kind = 2 by omega), if_neg (show ¬ m.kind = 3 by omega), if_neg (show ¬ m.kind = 4 by omega), if_neg (show ¬ m.kind = 5 by omega), if_neg (show ¬ m.kind = 6 by omega), if_pos h]
  rw [e]; exact fld7_rd g ht h he hl
 ·have e : fieldsR (msg0 m.kind) s = fld8 (msg0 m.kind) s := by simp only [fieldsR, hm, if_neg (show ¬ m.kind = 1 by omega), if_neg (show ¬ m.kind = 2 by omega), if_neg (show ¬ m.kind = 3 by omega), if_neg (show ¬ m.kind = 4 by omega), if_neg (show ¬ m.kind = 5 by omega), if_neg (show ¬ m.kind = 6 by omega), if_neg (show ¬ m.kind = 7 by omega), if_pos h]
  rw [e]; exact fld8_rd g ht h he hl
/-- What was put is read, whatever stands behind. -/
theorem decF_enc {m : SMsg} (h : goodS m = true) (ht : segMsg m) (t : List UInt8) : decK (encB m ++ t) = m.kind ∧ (dec1 (encB m ++ t)).e = 0 ∧ SameM (decF (encB m ++ t)).1 m ∧ (decF (encB m ++ t)).2 = { l := t } := by
 have g := good_iff.1 h
 have hk := g.kind
 obtain ⟨a1, b1⟩ := num_rd (n := m.kind) (most := 8) (by omega) hk.2 (by decide) { l := encB m ++ t } (bodyB m ++ t) rfl (by rw [encB, List.append_assoc])
 have e1 : dec1 (encB m ++ t) = { l := bodyB m ++ t } := b1
 have eK : decK (encB m ++ t) = m.kind := a1
 obtain ⟨q1, q2⟩ := fields_rd g ht (s := { l := bodyB m ++ t }) (t := t) rfl rfl
 have eF : decF (encB m ++ t) = fieldsR (msg0 m.kind) { l := bodyB m ++ t } := by rw [decF, eK, e1]
 exact ⟨eK, by rw [e1], by rw [eF]; exact q1, by rw [eF, q2]⟩
theorem dec_enc {m : SMsg} (h : goodS m = true) (ht : segMsg m) (hlen : (encB m).length ≤ 4194304) : (decR (encB m)).2 = 0 ∧ sameMsgS (decR (encB m)).1 m = true := by
 have hk := (good_iff.1 h).kind
 obtain ⟨eK, e1, q1, q2⟩ := decF_enc h ht []
 rw [List.append_nil] at eK e1 q1 q2
 have : decR (encB m) = ((decF (encB m)).1, 0) := by
  unfold decR
  rw [if_neg (by omega), if_neg (by rw [eK]; omega), if_neg (by rw [q2]; simp), if_neg (by rw [q2]; simp [doneR])]
 rw [this]
 exact ⟨rfl, sameMsg_iff.2 q1⟩
end Go.Proofs.YtnmccoincblecaaGreat
namespace Go.Proofs.YtnmccoincblecaaGreat
open Go Sy Go.Proofs
def encE (m : SMsg) : Int := if goodS m = true then (if 4194304 < (encB m).length then 3 else 0) else 130
def encT (m : SMsg) : ByteArray := if encE m = 0 then baL (encB m) else ByteArray.mk (Array.mk [])
theorem num63_of {n : Int} {k : Int} (h : 0 ≤ n ∧ n ≤ k) (hk : k < 9223372036854775808) : num63 n := ⟨h.1, by omega⟩
theorem reqOk_of {r : SReq} (h : mayReqS r = true) (ht : SegOk 16 r.tag) : ReqOk r ∧ r.data.size ≤ 10000 := by
 simp only [mayReqS, Bool.and_eq_true, decide_eq_true_eq, upto_iff] at h
 exact ⟨⟨num63_of h.1 (by decide), num63_of h.2.1 (by decide), by omega, ht⟩, by omega⟩
theorem batchOk_of {b : SBatch} (h : mayBatchS b = true) (ht : segBatch b) : BatchOk b := by
 simp only [mayBatchS, Bool.and_eq_true, Bool.not_eq_true', Bool.and_eq_false_iff, decide_eq_false_iff_not, allS_iff] at h
 obtain ⟨h1, h2, h3⟩ := h
 refine ⟨by omega, fun hn => ?_, fun k hk => (reqOk_of (h3 k hk) (ht k hk)).1, fun k hk => (reqOk_of (h3 k hk) (ht k hk)).2⟩
 rcases h1 with h1 | h1
 ·rw [hn] at h1; cases h1
 ·omega
theorem voteOk_of {v : SVote} (h : mayVoteS v = true) (ht : SegOk 32 v.digest) : VoteOk v := by
 simp only [mayVoteS, Bool.and_eq_true, Bool.or_eq_true, decide_eq_true_eq, upto_iff] at h
 obtain ⟨h1, h2, h3, h4⟩ := h
 exact ⟨⟨by omega, by omega⟩, num63_of h2 (by decide), num63_of h3 (by decide), num63_of h4 (by decide), ht⟩
theorem signOk_of {s : SSign} (h : maySignS s = true) (ht : SegOk 16 s.tag) : SignOk s := ⟨num63_of (upto_iff.1 h) (by decide), ht⟩
theorem certOk_of {c : SCert} (h : mayCertS c = true) (ht : segCert c) : CertOk c := by
 simp only [mayCertS, Bool.and_eq_true, allS_iff] at h
 exact ⟨voteOk_of h.1 ht.vote, by have := h.2.1; omega, fun k hk => signOk_of (h.2.2 k hk) (ht.sig k hk)⟩
theorem heldOk_of {x : SHeld} (h : mayHeldS x = true) (ht : segHeld x) : HeldOk x := by
 simp only [mayHeldS, Bool.and_eq_true] at h
 exact ⟨batchOk_of h.1 ht.batch, certOk_of h.2 ht.cert⟩
theorem envOk_of {x : SEnv} (h : mayEnvS x = true) (ht : SegOk 16 x.tag) : EnvOk x := by
 simp only [mayEnvS, Bool.and_eq_true, decide_eq_true_eq, upto_iff] at h
 exact ⟨num63_of h.1 (by decide), by have := h.2; omega, ht⟩
theorem encOk_of {m : SMsg} (h : goodS m = true) (ht : segMsg m) : EncOk m := by
 have g := good_iff.1 h
 exact ⟨g.kind, num63_of g.epoch (by decide), num63_of g.leader (by decide), num63_of g.view (by decide), num63_of g.slot (by decide), num63_of g.cepoch (by decide), num63_of g.cleader (by decide), num63_of g.cview (by decide),
  batchOk_of g.batch ht.batch, fun hk => voteOk_of (g.vote hk) ht.vote, by have := g.held.1; omega, fun k hk => heldOk_of (g.held.2 k hk) (ht.held k hk), by have := g.news.1; omega, fun k hk => envOk_of (g.news.2 k hk) (ht.news k hk),
  ht.digest, fun hk => certOk_of (g.cert hk) ht.cert, by have := g.state; omega, by have := g.sig.1; omega, fun k hk => signOk_of (g.sig.2 k hk) (ht.sig k hk)⟩
theorem fitM_good {m : SMsg} (h : goodS m = true) : FitM m := by
 have g := good_iff.1 h
 have hb : ∀ {b : SBatch}, mayBatchS b = true → b.n ≤ 1000000 := fun h => by
  simp only [mayBatchS, Bool.and_eq_true, allS_iff] at h
  have := h.2.1; omega
 have hc : ∀ {c : SCert}, mayCertS c = true → c.n ≤ 1000000 := fun h => by
  simp only [mayCertS, Bool.and_eq_true, allS_iff] at h
  have := h.2.1; omega
 refine ⟨hb g.batch, by have := g.held.1; omega, fun k hk => ?_, by have := g.news.1; omega, ?_, by have := g.sig.1; omega⟩
 ·have := g.held.2 k hk
  simp only [mayHeldS, Bool.and_eq_true] at this
  exact ⟨hb this.1, hc this.2⟩
 ·by_cases h7 : m.kind = 7
  ·exact hc (g.cert h7)
  ·have ho := g.only.cert
   have : (onlyS m).cert = { vote := vote0 } := by
    unfold onlyS
    repeat' split
    all_goals first | rfl | contradiction
   rw [this] at ho
   have := (sameCert_iff.1 ho).2.1
   rw [this]; exact Nat.zero_le _
theorem T_encG {m : SMsg} (hf : FitM m) (ht : segMsg m) : T Tryz.prog 19 [.agg m.c] [] (.tup [.str (encT m), .int .i64 (encE m)]) [] := by
 have h := T_enc (m := m) (T_good hf) fun h => encOk_of h ht
 have e : encV m (goodS m) = .tup [.str (encT m), .int .i64 (encE m)] := by
  unfold encV encT encE
  cases goodS m with
  | false => rfl
  | true =>
   simp only [if_true]
   by_cases hl : 4194304 < (encB m).length
   ·simp only [if_pos hl]; rfl
   ·simp only [if_neg hl]; rfl
 rw [e] at h; exact h
end Go.Proofs.YtnmccoincblecaaGreat
namespace Go.Proofs.YtnmccoincblecaaGreat
open Go Sy Go.Proofs
def envZ : SEnv := { src := 0, body := baL [], tag := z16 }
def getR (l : List UInt8) : SEnv × Int := if doneR (envR { l := l }).2 = 0 then ((envR { l := l }).1, 0) else (envZ, doneR (envR { l := l }).2)
theorem get_put {e : SEnv} (h : mayEnvS e = true) (ht : SegOk 16 e.tag) : getR (envB e) = (e, 0) := by
 obtain ⟨h1, h2⟩ := env_rd h ht { l := envB e } [] rfl (by simp)
 have h3 : doneR (envR { l := envB e }).2 = 0 := by rw [h2]; rfl
 have h1 : (envR { l := envB e }).1 = e := h1
 rw [getR, if_pos h3, h1]
theorem get_more {e : SEnv} (h : mayEnvS e = true) (ht : SegOk 16 e.tag) {t : List UInt8} (hne : t ≠ []) : (getR (envB e ++ t)).2 = 12 := by
 obtain ⟨h1, h2⟩ := env_rd h ht { l := envB e ++ t } t rfl rfl
 have h3 : doneR (envR { l := envB e ++ t }).2 = 12 := by
  rw [h2, doneR, if_neg (by simp), if_pos]
  exact List.length_pos_iff.2 hne
 rw [getR, if_neg (by rw [h3]; decide), h3]
end Go.Proofs.YtnmccoincblecaaGreat
namespace Sy
open Go
variable {P : Program} {U : Imm} {ρ : Env}
theorem frz_ok {pre : Heap} {w : World} (hh : HRel U ρ pre w) : U.le (freeze U ρ pre w) ∧ Frozen U (freeze U ρ pre w) ρ pre ∧ HRel (freeze U ρ pre w) ρ [] w := by
 have hfU : ∀ n b l, (n, b) ∈ pre → ρ n = some l → l.real = true → U l.blk = none := fun n b l hm e hr => by
  obtain ⟨_, _, _, h⟩ := hh.real hm e hr; exact h
 refine ⟨fun k c e => ?_, fun n b hm l e hr => ?_, ?_⟩
 ·unfold freeze
  split
  ·rename_i hx
   obtain ⟨n, b, l, h1, h2, h3, rfl⟩ := hx
   rw [hfU n b l h1 h2 h3] at e; cases e
  ·exact e
 ·have hex : ∃ n b l', (n, b) ∈ pre ∧ ρ n = some l' ∧ l'.real = true ∧ l'.blk = l.blk := ⟨n, b, l, hm, e, hr, rfl⟩
  obtain ⟨o, h1, h2, h3⟩ := hh.real hm e hr
  constructor
  ·rintro cs rfl
   obtain ⟨c, el, lo, hi, rfl, _, _, h4⟩ := h2
   exact ⟨c, by unfold freeze; rw [if_pos hex, h1], h4⟩
  ·rintro es m f g rfl
   obtain ⟨c, el, lo, hi, rfl, _, _, _, _, h4⟩ := h2
   exact ⟨c, by unfold freeze; rw [if_pos hex, h1], h4⟩
 ·refine ⟨fun n b hm => absurd hm List.not_mem_nil, fun n b n' b' l l' hm => absurd hm List.not_mem_nil, List.nodup_nil, fun k c hk => ?_⟩
  unfold freeze at hk
  split at hk
  ·split at hk
   ·rename_i c' el fr hx
    simp only [Option.some.injEq] at hk; subst hk
    exact ⟨el, fr, hx⟩
   ·cases hk
  ·exact hh.imm k c hk
theorem Leaves.frz {pre post : Heap} {w w' : World} {val : V} {x : Value} {U' : Imm} {ρ' : Env} (H : HRel U ρ pre w) (L : Leaves (freeze U ρ pre w) ρ [] w val post x U' ρ' w') : Leaves U ρ pre w val post x U' ρ' w' := by
 refine ⟨L.val, L.heap, L.keep, L.only, ⟨L.ext.size, Imm.le_trans (frz_ok H).1 L.ext.imm, fun b hb _ => L.ext.frame b hb fun n l ⟨b, hb⟩ => absurd hb List.not_mem_nil, fun n l hd e hr => ?_, fun b c e => ?_, L.ext.out⟩⟩
 ·rcases L.ext.new n l hd e hr with h | ⟨_, _, ⟨b, hb⟩, _⟩
  ·exact .inl h
  ·exact absurd hb List.not_mem_nil
 ·rcases L.ext.newImm b c e with h | h | ⟨_, _, ⟨b, hb⟩, _⟩
  ·unfold freeze at h
   split at h
   ·rename_i hx
    obtain ⟨n, b', l, h1, h2, h3, h4⟩ := hx
    exact .inr (.inr ⟨n, l, ⟨b', h1⟩, h2, h3, h4⟩)
   ·exact .inl h
  ·exact .inr (.inl h)
  ·exact absurd hb List.not_mem_nil
/-- What holds of values that can't be turned holds of such as nobody turns any more. -/
theorem T.frz {f : FuncId} {args args' : List V} {pre post : Heap} {val : V} (h : T P f args [] val post)
  (hw : ∀ U ρ w xs, HRel U ρ pre w → VsRel U ρ args' xs → VsRel (freeze U ρ pre w) ρ args xs) (hd : ∀ n, Heap.dom post n → ¬ Heap.dom pre n) : T P f args' pre val post := by
 intro U ρ w xs hh ha hf
 refine Calls.mono (h _ ρ w xs (frz_ok hh).2.2 (hw U ρ w _ hh ha) fun n hn => .inr ((hf n hn).resolve_left (hd n hn))) ?_
 rintro e w' ⟨x, U', ρ', he, L⟩
 exact ⟨x, U', ρ', he, Leaves.frz hh L⟩
theorem TO.frz {pr : Prim} {args args' : List V} {pre post : Heap} {val : V} (h : TO P pr args [] val post)
  (hw : ∀ U ρ w xs, HRel U ρ pre w → VsRel U ρ args' xs → VsRel (freeze U ρ pre w) ρ args xs) (hd : ∀ n, Heap.dom post n → ¬ Heap.dom pre n) : TO P pr args' pre val post := by
 intro ty U ρ w xs hh ha hf
 obtain ⟨x, w', U', ρ', he, L⟩ := h ty _ ρ w xs (frz_ok hh).2.2 (hw U ρ w _ hh ha) fun n hn => .inr ((hf n hn).resolve_left (hd n hn))
 exact ⟨x, w', U', ρ', he, Leaves.frz hh L⟩
theorem frzH_ok {pre0 pre1 : Heap} {w : World} (hh : HRel U ρ (pre0 ++ pre1) w) : HRel (freeze U ρ pre1 w) ρ pre0 w := by
 have hl := hh.left
 obtain ⟨hU, hF, h00⟩ := frz_ok hh.right
 refine ⟨fun n b hm => ?_, hl.inj, hl.nd, h00.imm⟩
 obtain ⟨l, g1, g2⟩ := hl.blk n b hm
 refine ⟨l, g1, ?_⟩
 rcases g2 with ⟨hre, o, g3, g4, g5⟩ | g2
 ·refine .inl ⟨hre, o, g3, BRel.mono hU (fun _ _ h => h) g4, ?_⟩
  unfold freeze
  rw [if_neg]
  ·exact g5
  ·rintro ⟨n1, b1, l1, k1, k2, k3, k4⟩
   have := hh.inj n b n1 b1 l l1 (List.mem_append_left _ hm) (List.mem_append_right _ k1) g1 k2 hre k3 k4.symm
   subst this
   have hnd := hh.nd
   rw [List.map_append, List.nodup_append] at hnd
   exact hnd.2.2 n (dom_map.1 ⟨b, hm⟩) n (dom_map.1 ⟨b1, k1⟩) rfl
 ·exact .inr g2
theorem Leaves.frzH {pre0 pre1 post : Heap} {w w' : World} {val : V} {x : Value} {U' : Imm} {ρ' : Env} (H : HRel U ρ (pre0 ++ pre1) w) (L : Leaves (freeze U ρ pre1 w) ρ pre0 w val post x U' ρ' w') : Leaves U ρ (pre0 ++ pre1) w val post x U' ρ' w' := by
 refine ⟨L.val, L.heap, L.keep, L.only, ⟨L.ext.size, Imm.le_trans (frz_ok H.right).1 L.ext.imm, fun b hb hn => L.ext.frame b hb fun n l hd0 => hn n l (dom_append.2 (.inl hd0)), fun n l hd0 e hr0 => ?_, fun b c e => ?_, L.ext.out⟩⟩
 ·rcases L.ext.new n l hd0 e hr0 with h | ⟨n0, l0, h1, h2, h3, h4⟩
  ·exact .inl h
  ·exact .inr ⟨n0, l0, dom_append.2 (.inl h1), h2, h3, h4⟩
 ·rcases L.ext.newImm b c e with h | h | ⟨n0, l0, h1, h2, h3, h4⟩
  ·unfold freeze at h
   split at h
   ·rename_i hx
    obtain ⟨n, b', l, h1, h2, h3, h4⟩ := hx
    exact .inr (.inr ⟨n, l, dom_append.2 (.inr ⟨b', h1⟩), h2, h3, h4⟩)
   ·exact .inl h
  ·exact .inr (.inl h)
  ·exact .inr (.inr ⟨n0, l0, dom_append.2 (.inl h1), h2, h3, h4⟩)
/-- The same, of a call that turns other blocks. -/
theorem T.frzH {f : FuncId} {args args' : List V} {pre0 pre1 post : Heap} {val : V} (h : T P f args pre0 val post)
  (hw : ∀ U ρ w xs, HRel U ρ pre1 w → VsRel U ρ args' xs → VsRel (freeze U ρ pre1 w) ρ args xs) (hd : ∀ n, Heap.dom post n → ¬ Heap.dom pre1 n) : T P f args' (pre0 ++ pre1) val post := by
 intro U ρ w xs hh ha hf
 refine Calls.mono (h _ ρ w xs (frzH_ok hh) (hw U ρ w _ hh.right ha) fun n hn => ?_) ?_
 ·rcases hf n hn with h1 | h1
  ·exact .inl ((dom_append.1 h1).resolve_right (hd n hn))
  ·exact .inr h1
 rintro e w' ⟨x, U', ρ', he, L⟩
 exact ⟨x, U', ρ', he, Leaves.frzH hh L⟩
theorem TO.frzH {pr : Prim} {args args' : List V} {pre0 pre1 post : Heap} {val : V} (h : TO P pr args pre0 val post)
  (hw : ∀ U ρ w xs, HRel U ρ pre1 w → VsRel U ρ args' xs → VsRel (freeze U ρ pre1 w) ρ args xs) (hd : ∀ n, Heap.dom post n → ¬ Heap.dom pre1 n) : TO P pr args' (pre0 ++ pre1) val post := by
 intro ty U ρ w xs hh ha hf
 obtain ⟨x, w', U', ρ', he, L⟩ := h ty _ ρ w xs (frzH_ok hh) (hw U ρ w _ hh.right ha) fun n hn => by
  rcases hf n hn with h1 | h1
  ·exact .inl ((dom_append.1 h1).resolve_right (hd n hn))
  ·exact .inr h1
 exact ⟨x, w', U', ρ', he, Leaves.frzH hh L⟩
/-- Arguments that are taken for weaker ones, as blocks are only looked at from then on. -/
theorem hw_of {pre : Heap} {args args' : List V} {cs : List Prop} (hl : leVs pre args' args = some cs) (hc : All cs) : ∀ U ρ w xs, HRel U ρ pre w → VsRel U ρ args' xs → VsRel (freeze U ρ pre w) ρ args xs :=
 fun _ _ _ xs H hv => leVs_ok (frz_ok H).1 (frz_ok H).2.1 _ _ _ xs hl hc hv
theorem T_two {u v : V} {xs : List Value} (h : VsRel U ρ [u, v] xs) : ∃ x y, xs = [x, y] ∧ VRel U ρ u x ∧ VRel U ρ v y := by
 rw [VsRel] at h
 obtain ⟨x, r, rfl, h1, h2⟩ := h
 rw [VsRel] at h2
 obtain ⟨y, r', rfl, h3, h4⟩ := h2
 rw [VsRel] at h4
 subst h4
 exact ⟨x, y, rfl, h1, h3⟩
theorem CsRel.at {cs : List V} {l : List Value} (h : CsRel U ρ cs l) (hc : ∀ v ∈ cs, V.cell v = true) : ∀ (i : Nat) (v : V), cs[i]? = some v → ∃ z : Value, l[i]? = some z ∧ VRel U ρ v z := by
 induction cs generalizing l with
 | nil => intro i v e; simp at e
 | cons a t ih =>
  rw [CsRel] at h
  obtain ⟨l1, l2, rfl, h1, h2⟩ := h
  have ha := hc a (List.mem_cons_self ..)
  rcases h1 with ⟨k, m, xs, rfl, _⟩ | ⟨_, x, rfl, hx⟩
  ·cases ha
  ·intro i v e
   cases i with
   | zero => simp only [List.getElem?_cons_zero, Option.some.injEq] at e; subst e; exact ⟨x, rfl, hx⟩
   | succ i => exact ih h2 (fun v hv => hc v (List.mem_cons_of_mem _ hv)) i v (by simpa using e)
/-- A slice of a block of values, taken for good. -/
theorem ros_of_flat {pre : Heap} {w : World} (H : HRel U ρ pre w) {x : Nm} {cs : List V} (hm : (x, B.flat cs) ∈ pre) {len : Nat} {cap : Option Nat} {y : Value} (hv : VRel U ρ (.sl x 0 0 0 0 len cap) y) {f : Nat → V} {clip : Bool} (hcl : clip = true → cap = some len)
  (hone : ∀ v ∈ cs, V.cell v = true) (h : ∀ i, i < len → V.cell (f i) = true ∧ ∃ v, cs[i]? = some v ∧ ∀ z, VRel U ρ v z → VRel (freeze U ρ pre w) Env.none (f i) z) : VRel (freeze U ρ pre w) ρ (.ros 1 len (fun i => [f i]) clip) y := by
 obtain ⟨l, hl, g⟩ := H.blk x _ hm
 rcases g with ⟨hr, o, g1, g2, g3⟩ | ⟨_, es, f', g⟩
 ·obtain ⟨c, hc, h4⟩ := ((frz_ok H).2.1 x _ hm l hl hr).1 cs rfl
  rw [VRel] at hv
  obtain ⟨l', cp, e1, e2, e3, e4⟩ := hv
  rw [hl] at e1; cases e1
  rcases e4 with ⟨_, rfl, _⟩ | ⟨hr', _⟩
  ·rw [VRel]
   refine ⟨_, cp, rfl, e2, fun hc => e3 len (hcl hc), fun i hi => ⟨l.blk, 0, c, by simp, hc, ?_⟩⟩
   obtain ⟨k1, v, k2, k3⟩ := h i hi
   obtain ⟨z, k4, k5⟩ := CsRel.at h4 hone i v k2
   refine ⟨[z], ?_, rfl, fun k hk => ?_⟩
   ·rw [CsRel]; exact ⟨[z], [], rfl, .inr ⟨k1, z, rfl, k3 z k5⟩, by rw [CsRel]⟩
   ·have : k = 0 := by simpa using hk
    subst this
    simpa using k4
  ·rw [hr] at hr'; cases hr'
 ·cases g
/-- A slice of a block's bytes, taken for good. -/
theorem ros_of_seg {pre : Heap} {w : World} (H : HRel U ρ pre w) {b : Nm} {k : IntKind} {m : Nat} {xs : List Int} (hm : (b, B.flat [.seg k m xs]) ∈ pre) {len : Nat} {cap : Option Nat} {z : Value} (hv : VRel U ρ (.sl b 0 0 0 0 len cap) z)
  (hlen : len ≤ m) {f : Nat → List V} (hf : ∀ i, i < len → f i = [.int k (xs.getD i 0)]) {ρ' : Env} : VRel (freeze U ρ pre w) ρ' (.ros 1 len f false) z := by
 obtain ⟨l, hl, g⟩ := H.blk b _ hm
 rcases g with ⟨hr, o, g1, g2, g3⟩ | ⟨_, es, f', g⟩
 ·obtain ⟨c, hc, h4⟩ := ((frz_ok H).2.1 b _ hm l hl hr).1 _ rfl
  rw [VRel] at hv
  obtain ⟨l', cp, e1, e2, e3, e4⟩ := hv
  rw [hl] at e1; cases e1
  rcases e4 with ⟨_, rfl, _⟩ | ⟨hr', _⟩
  ·rw [CsRel] at h4
   obtain ⟨l1, l2, h5, h6, h7⟩ := h4
   rw [CsRel] at h7
   subst h7
   rcases h6 with ⟨k', m', xs', hk, hlx, rfl⟩ | ⟨hx, _⟩
   ·cases hk
    rw [VRel]
    refine ⟨_, cp, rfl, e2, fun hh => absurd hh (by simp), fun i hi => ⟨l.blk, 0, c, by simp, hc, ?_⟩⟩
    rw [hf i hi]
    refine ⟨[.int k (xs.getD i 0)], ?_, rfl, fun j hj => ?_⟩
    ·rw [CsRel]; exact ⟨[.int k (xs.getD i 0)], [], rfl, .inr ⟨rfl, _, rfl, by rw [VRel]⟩, by rw [CsRel]⟩
    ·have : j = 0 := by simpa using hj
     subst this
     have hi' : i < xs.length := by omega
     have e : c[i]? = c.toList[i]? := by simp
     simp only [Nat.zero_add, Nat.mul_one, Nat.add_zero, List.getElem?_cons_zero]
     rw [e, h5, List.append_nil, List.getElem?_map, List.getElem?_eq_getElem hi', List.getD_eq_getElem?_getD, List.getElem?_eq_getElem hi']
     rfl
   ·cases hx
  ·rw [hr] at hr'; cases hr'
 ·cases g
theorem TO_app {base : Nat} {t tx : TypeId} {d s val : V} {post : Heap} {cs : List Prop} (h : appendH P base t tx d s [] [] = some (val, post, cs)) (hc : All cs) (hn : ∀ ρ : Env, (∀ n, Heap.dom post n → ρ n = none) → ρ (.o base) = none) :
  TO P (.append t tx) [d, s] [] val post := by
 intro ty U ρ w xs H hv hf
 obtain ⟨x, y, rfl, h1, h2⟩ := T_two hv
 obtain ⟨z, w', U', ρ', e, L⟩ := appendH_ok (ty := ty) h hc h1 h2 H (hn ρ fun n hn => (hf n hn).resolve_left fun ⟨b, hb⟩ => absurd hb List.not_mem_nil)
 exact ⟨z, w', U', ρ', .inl (by simp only [Prim.exec, Sem.run_bind, e, Result.andThen_ok, Sem.run_pure]), L⟩
theorem TO_cpy {t tx : TypeId} {d s val : V} {pre post : Heap} {cs : List Prop} (h : copyH P t d s pre = some (val, post, cs)) (hc : All cs) : TO P (.copy t tx) [d, s] pre val post := by
 intro ty U ρ w xs H hv hf
 obtain ⟨x, y, rfl, h1, h2⟩ := T_two hv
 obtain ⟨z, w', U', ρ', e, L⟩ := copyH_ok (tx := tx) (ty := ty) h hc h1 h2 H
 exact ⟨z, w', U', ρ', .inl (by simp only [Prim.exec, Sem.run_bind, e, Result.andThen_ok, Sem.run_pure]), L⟩
theorem VRel.ros {U U' : Imm} {ρ ρ' : Env} (hU : U.le U') {es len : Nat} {f : Nat → List V} {clip : Bool} {z : Value} (h : VRel U ρ (.ros es len f clip) z) : VRel U' ρ' (.ros es len f clip) z := by
 have := VRel.mono (ρ' := ρ) hU (fun _ _ h => h) h
 rw [VRel] at this ⊢; exact this
end Sy
namespace Go.Proofs.YtnmccoincblecaaGreat
open Go Sy Go.Proofs
noncomputable def bdPutR (n : Nat) (l : List UInt8) (c : Bool) : Bd := { f := Tryz.f35, args := [.ros 1 l.length (bl l) c, .int .i64 n], base := 1, kb := { db := dbSize (digs 8 n).length, lp := lpPutJ n l }, k := kPutJ n l, names := fun _ => [.o 1] }
def bodyL (r : SReq) : List UInt8 := [82] ++ putZ r.client ++ putZ r.num ++ textB r.data
noncomputable def bdRb (r : SReq) : Bd := { f := Tryz.f68, args := [.agg r.c], kb := { db := dbSeqF 0 [(35, 5, fun a _ lo => cNew ([82] ++ putZ r.client) a lo), (35, 8, fun a _ lo => cNew ([82] ++ putZ r.client ++ putZ r.num) a lo), (34, 13, fun a _ lo => cNew (bodyL r) a lo)] } }
noncomputable def bdEp (e : SEnv) : Bd := { f := Tryz.f10, args := [.snil, .agg e.c], base := 1, kb := { db := dbF [(35, fun a _ lo => cNew (putZ e.src) a lo), (34, fun a _ lo => cNew (putZ e.src ++ textB e.body) a lo)] }, k := kSb 4 63 (envB e), names := fun _ => [.o 63] }
noncomputable def bdGt (s : ByteArray) (s0 s1 s2 s3 : RS) (x : SEnv) (xs : List UInt8) (d : Int) : Bd := { f := Tryz.f8, args := [.str s], kb := { db := dbF [(24, fun _ _ lo => [{ val := .ptr (.o lo) 0 0 0 0, post := [(.o lo, rdB s0)] }]), (25, cRd (.int .i64 x.src) s1), (26, cRd (.str x.body) s2), (27, cRdS (rawCl 16 xs s3)), (28, cRd (.int .i64 d) s3)] } }
end Go.Proofs.YtnmccoincblecaaGreat
namespace Go.Proofs.YtnmccoincblecaaGreat
open Go Sy Go.Proofs
theorem bdPutR_p0 (n : Nat) (l : List UInt8) (c : Bool) :
  along Tryz.prog (bdPutR n l c) [false] = (some (.sl (.o 1) 1 0 0 0 (List.length (l ++ putN n)) none, [(.o 1, bs (l ++ putN n))], [(0 : Int) ≤ (↑(List.length l) : Int) ∧ (↑(List.length l) : Int) ≤ (↑(List.length l) : Int), (0 : Int) ≤ (↑(List.length l) : Int) ∧ (↑(List.length l) : Int) ≤ (↑(natO (some (↑(List.length l) : Int)) (List.length l)) : Int), q (↑(List.length l) : Int), q false, T Tryz.prog 80 [.int .i64 ↑n] [] (.int .i64 (↑(List.length (digs 8 n) + 1) : Int)) [], InR IntKind.i64 ((↑(List.length (digs (8 : Nat) n) + (1 : Nat)) : Int) - (1 : Int)), nat_lit 1 ≤ (1 : Nat), ∀ (k : Nat), k < (1 : Nat) → solid (getL [[V.int IntKind.u8 (IntKind.wrap IntKind.u8 ((↑(List.length (digs (8 : Nat) n) + (1 : Nat)) : Int) - (1 : Int)))]] ((0 : Nat) + k)) = true, (0 : Nat) < (1 : Nat), (natO (some (↑(List.length l) : Int)) (List.length l) - nat_lit 0 + (1 : Nat)) * (1 : Nat) ≤ (140737488355328 : Nat), RLoop Tryz.prog none 1 (cB (cB (cR (cL (cR (cR (cR (cR (cR (bodyOf (Bd.f (bdPutR n l c)))))))))))) (List.length (digs 8 n) + 1) (St.mk [.sl (.o 1) 1 0 0 0 (List.length (l ++ List.take 1 (putN n))) none, .int .i64 ↑n, .any, .any, .any, .int .i64 (↑(List.length (digs 8 n)) : Int), .any, .any, .any, .any, .any, .any, .any, .any, .any, .any, .any, .any, .any, .any, .any, .any, .any, .any, .int .i64 (↑(List.length (digs 8 n)) : Int), .int .i64 0, .any, .any, .any, .any, .any, .any, .any, .any, .any, .any, .any, .any, .any, .any, .any] [(.o 1, bs (l ++ List.take 1 (putN n)))] 2 []) (.exit 0) (St.mk [.sl (.o 1) 1 0 0 0 (List.length (l ++ List.take (List.length (digs 8 n) + 1) (putN n))) none, .int .i64 ↑n, .any, .any, .any, .int .i64 (↑(List.length (digs 8 n)) : Int), .any, .any, .any, .any, .any, .any, .any, .any, .any, .any, .any, .any, .any, .any, .any, .any, .any, .any, .int .i64 (↑(List.length (digs 8 n)) : Int), .int .i64 (↑(List.length (digs 8 n)) : Int), .any, .any, .any, .any, .any, .any, .any, .any, .any, .any, .any, .any, .any, .any, .any] [(.o 1, bs (l ++ List.take (List.length (digs 8 n) + 1) (putN n)))] 2 []), natO (some (↑(List.length l) : Int)) (List.length l) - nat_lit 0 + (1 : Nat) = List.length (l ++ List.take (nat_lit 1) (putN n)), ∀ (k : Nat), k < natO (some (↑(List.length l) : Int)) (List.length l) - nat_lit 0 + (1 : Nat) → catF (natO (some (↑(List.length l) : Int)) (List.length l) - nat_lit 0) (shiftF (bl l) none) (fun k => getL [[V.int IntKind.u8 (IntKind.wrap IntKind.u8 ((↑(List.length (digs (8 : Nat) n) + (1 : Nat)) : Int) - (1 : Int)))]] ((0 : Nat) + k)) k = bl (l ++ List.take (nat_lit 1) (putN n)) k, true = false → true = false, q0, q0, q0, natO (some (↑(List.length l) : Int)) (List.length l) - nat_lit 0 + (1 : Nat) = List.length (l ++ List.take (nat_lit 1) (putN n)), (none : Option Nat) = none ∨ (none : Option Nat) = none, q (↑n : Int), (↑(List.length (digs (8 : Nat) n) + (1 : Nat)) : Int) - (1 : Int) = (↑(List.length (digs (8 : Nat) n)) : Int), (↑(List.length (digs (8 : Nat) n) + (1 : Nat)) : Int) - (1 : Int) = (↑(List.length (digs (8 : Nat) n)) : Int), q1, List.length (l ++ List.take (List.length (digs (8 : Nat) n) + (1 : Nat)) (putN n)) = List.length (l ++ putN n), ∀ (k : Nat), k < List.length (l ++ List.take (List.length (digs (8 : Nat) n) + (1 : Nat)) (putN n)) → bl (l ++ List.take (List.length (digs (8 : Nat) n) + (1 : Nat)) (putN n)) k = bl (l ++ putN n) k, true = false → true = false, q0, q0, q0, List.length (l ++ List.take (List.length (digs (8 : Nat) n) + (1 : Nat)) (putN n)) = List.length (l ++ putN n), (none : Option Nat) = none ∨ (none : Option Nat) = none]) : Option (V × Heap × List Prop)) := by kernel_rfl

theorem bdRb_p (r : SReq) :
  along Tryz.prog (bdRb r) [] = (some (.str (bytesF (List.length (bodyL r)) fun k => bl (bodyL r) (0 + k)), [], [T Tryz.prog 35 [.sl (.o 128) 1 0 0 0 1 (some 1), .int .i64 (SReq.client r)] [(.o 128, .rows 1 1 (getL [[.int .u8 82]]) false)] (sb (.o 320) ([(82 : UInt8)] ++ putZ (SReq.client r))) [(.o 320, bs ([(82 : UInt8)] ++ putZ (SReq.client r)))], T Tryz.prog 35 [.sl (.o 320) 1 0 0 0 (List.length ([(82 : UInt8)] ++ putZ (SReq.client r))) none, .int .i64 (SReq.num r)] [(.o 320, bs ([(82 : UInt8)] ++ putZ (SReq.client r)))] (sb (.o 512) ([(82 : UInt8)] ++ putZ (SReq.client r) ++ putZ (SReq.num r))) [(.o 512, bs ([(82 : UInt8)] ++ putZ (SReq.client r) ++ putZ (SReq.num r)))], T Tryz.prog 34 [.sl (.o 512) 1 0 0 0 (List.length ([(82 : UInt8)] ++ putZ (SReq.client r) ++ putZ (SReq.num r))) none, .str (SReq.data r)] [(.o 512, bs ([(82 : UInt8)] ++ putZ (SReq.client r) ++ putZ (SReq.num r)))] (sb (.o 832) (bodyL r)) [(.o 832, bs (bodyL r))], ∀ (k : Nat), k < List.length (bodyL r) → true = true, (0 : Nat) + List.length (bodyL r) ≤ List.length (bodyL r), ∀ (k : Nat), k < List.length (bodyL r) → true = true]) : Option (V × Heap × List Prop)) := by kernel_rfl

theorem bdEp_p (e : SEnv) :
  along Tryz.prog (bdEp e) [] = (some (.sl (.o 63) 1 0 0 0 (List.length (envB e)) none, [(.o 63, bs (envB e))], [T Tryz.prog 35 [.snil, .int .i64 (SEnv.src e)] [] (sb (.o 321) (putZ (SEnv.src e))) [(.o 321, bs (putZ (SEnv.src e)))], T Tryz.prog 34 [.sl (.o 321) 1 0 0 0 (List.length (putZ (SEnv.src e))) none, .str (SEnv.body e)] [(.o 321, bs (putZ (SEnv.src e)))] (sb (.o 513) (putZ (SEnv.src e) ++ textB (SEnv.body e))) [(.o 513, bs (putZ (SEnv.src e) ++ textB (SEnv.body e)))], q (List.length (putZ (SEnv.src e) ++ textB (SEnv.body e))), nat_lit 16 ≤ (16 : Nat), (List.length (putZ (SEnv.src e) ++ textB (SEnv.body e)) + nat_lit 16) * (1 : Nat) ≤ (140737488355328 : Nat), List.length (putZ (SEnv.src e) ++ textB (SEnv.body e)) + nat_lit 16 = List.length (envB e), ∀ (k : Nat), k < List.length (putZ (SEnv.src e) ++ textB (SEnv.body e)) + nat_lit 16 → catF (List.length (putZ (SEnv.src e) ++ textB (SEnv.body e))) (bl (putZ (SEnv.src e) ++ textB (SEnv.body e))) (fun q => [V.int IntKind.u8 (List.getD (SEnv.tag e) (nat_lit 0 + q) (0 : Int))]) k = bl (envB e) k, true = false → true = false, q0, q0, q0, List.length (putZ (SEnv.src e) ++ textB (SEnv.body e)) + nat_lit 16 = List.length (envB e), (none : Option Nat) = none ∨ (none : Option Nat) = none]) : Option (V × Heap × List Prop)) := by kernel_rfl

noncomputable def bdGt_c (s : ByteArray) (s0 : RS) (s1 : RS) (s2 : RS) (s3 : RS) (x : SEnv) (xs : List UInt8) (d : Int) : Nat → List Prop
 | 0 => [T Tryz.prog 24 [.ros 1 (ByteArray.size s) (fun q => [.int .u8 (byteAt s q)]) false] [] (.ptr (.o 256) 0 0 0 0) [(.o 256, .flat [.ros 1 (List.length (RS.l s0)) (bl (RS.l s0)) false, .int .i64 (RS.e s0), .bool true])], T Tryz.prog 25 [.ptr (.o 256) 0 0 0 0, .int .i64 64] [(.o 256, .flat [.ros 1 (List.length (RS.l s0)) (bl (RS.l s0)) false, .int .i64 (RS.e s0), .bool true])] (.int .i64 (SEnv.src x)) [(.o 256, .flat [.ros 1 (List.length (RS.l s1)) (bl (RS.l s1)) false, .int .i64 (RS.e s1), .bool true])], T Tryz.prog 26 [.ptr (.o 256) 0 0 0 0, .int .i64 4194304] [(.o 256, .flat [.ros 1 (List.length (RS.l s1)) (bl (RS.l s1)) false, .int .i64 (RS.e s1), .bool true])] (.str (SEnv.body x)) [(.o 256, .flat [.ros 1 (List.length (RS.l s2)) (bl (RS.l s2)) false, .int .i64 (RS.e s2), .bool true])]]
 | 1 => [T Tryz.prog 27 [.ptr (.o 256) 0 0 0 0, .int .i64 16] [(.o 256, .flat [.ros 1 (List.length (RS.l s2)) (bl (RS.l s2)) false, .int .i64 (RS.e s2), .bool true])] (.ros 1 16 (bl xs) false) [(.o 256, .flat [.ros 1 (List.length (RS.l s3)) (bl (RS.l s3)) false, .int .i64 (RS.e s3), .bool true])], nat_lit 16 ≤ (16 : Nat), ∀ (q : Nat), q < (16 : Nat) → true = true, T Tryz.prog 28 [.ptr (.o 256) 0 0 0 0] [(.o 256, .flat [.ros 1 (List.length (RS.l s3)) (bl (RS.l s3)) false, .int .i64 (RS.e s3), .bool true])] (.int .i64 d) [(.o 256, .flat [.ros 1 (List.length (RS.l s3)) (bl (RS.l s3)) false, .int .i64 (RS.e s3), .bool true])]]
 | _ => []
theorem bdGt_p11 (s : ByteArray) (s0 : RS) (s1 : RS) (s2 : RS) (s3 : RS) (x : SEnv) (xs : List UInt8) (d : Int) :
 along Tryz.prog (bdGt s s0 s1 s2 s3 x xs d) [true, true] = (some (.tup [.agg [.int .i64 0, .str ByteArray.empty, .seg .u8 16 z16], .int .i64 d], [], bdGt_c s s0 s1 s2 s3 x xs d 0 ++ (bdGt_c s s0 s1 s2 s3 x xs d 1 ++ [(!decide (d = (0 : Int))) = true])) : Option (V × Heap × List Prop)) := by kernel_rfl

theorem bdGt_p10 (s : ByteArray) (s0 : RS) (s1 : RS) (s2 : RS) (s3 : RS) (x : SEnv) (xs : List UInt8) (d : Int) :
 along Tryz.prog (bdGt s s0 s1 s2 s3 x xs d) [true, false] = (some (.tup [.agg [.int .i64 (SEnv.src x), .str (SEnv.body x), .seg .u8 16 (segSet 16 z16 0 16 (bl xs))], .int .i64 0], [], bdGt_c s s0 s1 s2 s3 x xs d 0 ++ (bdGt_c s s0 s1 s2 s3 x xs d 1 ++ [(!decide (d = (0 : Int))) = false])) : Option (V × Heap × List Prop)) := by kernel_rfl

theorem bdGt_p01 (s : ByteArray) (s0 : RS) (s1 : RS) (s2 : RS) (s3 : RS) (x : SEnv) (xs : List UInt8) (d : Int) :
 along Tryz.prog (bdGt s s0 s1 s2 s3 x xs d) [false, true] = (some (.tup [.agg [.int .i64 0, .str ByteArray.empty, .seg .u8 16 z16], .int .i64 d], [], bdGt_c s s0 s1 s2 s3 x xs d 0 ++ [T Tryz.prog 27 [.ptr (.o 256) 0 0 0 0, .int .i64 16] [(.o 256, rdB s2)] (.ros 1 0 (bl []) false) [(.o 256, rdB s3)], nat_lit 16 ≤ (16 : Nat), ∀ (q : Nat), q < (0 : Nat) → true = true, T Tryz.prog 28 [.ptr (.o 256) 0 0 0 0] [(.o 256, rdB s3)] (.int .i64 d) [(.o 256, rdB s3)], (!decide (d = (0 : Int))) = true]) : Option (V × Heap × List Prop)) := by kernel_rfl

theorem T_putR1 {n : Nat} (h : n < 9223372036854775808) {l : List UInt8} (hl : l.length ≤ 70368744177664) (c : Bool) : T Tryz.prog 35 [.ros 1 l.length (bl l) c, .int .i64 n] [] (sb (.o 1) (l ++ putN n)) [(.o 1, bs (l ++ putN n))] := by
 have h1 := digs_len 8 n (digs8 h)
 have hv : IntKind.wrap IntKind.u8 ((((digs 8 n).length + 1 : Nat) : Int) - 1) = ((UInt8.ofNat (digs 8 n).length).toNat : Int) := by
  rw [show (((digs 8 n).length + 1 : Nat) : Int) - 1 = (((digs 8 n).length : Nat) : Int) by omega, wrap8]
 have hc := catF_bl1 l _ _ hv
 refine T_al (bdPutR_p0 n l c) Tryz.func35 ?_
 simp only [All, All_append, bdGt_c]
 and_intros
 all_goals first
  | exact T_size h
  | exact T_putAny h hl
  | (simp only [natO, Int.toNat_natCast, Nat.sub_zero]; exact hc)
  | (simp [putN, natO, IntKind.min, IntKind.max, IntKind.signed, IntKind.bits] <;> omega)
  | (intro k hk; rw [show k = 0 by omega]; rfl)
  | (simp [natO]; done)
  | omega
theorem T_putR {z : Int} (h : num63 z) {l : List UInt8} (hl : l.length ≤ 70368744177664) (c : Bool) (m : Nat) : T Tryz.prog 35 [.ros 1 l.length (bl l) c, .int .i64 z] [] (sb (.o m) (l ++ putZ z)) [(.o m, bs (l ++ putZ z))] := by
 have e : ((z.toNat : Nat) : Int) = z := Int.toNat_of_nonneg h.1
 have h0 := T_putR1 (n := z.toNat) (by have := h.2; omega) hl c
 rw [e] at h0
 obtain ⟨σ, hσ, h1⟩ := T.at h0 [.o 1] [.o m] (by simp) (by simp) rfl
 simp only [List.map_cons, List.map_nil, List.cons.injEq, and_true] at hσ
 simpa [V.rens, V.ren, sb, bs, Heap.ren, B.ren, hσ, putZ] using h1
theorem T_rbd {r : SReq} (hc : num63 r.client) (hn : num63 r.num) (hd : r.data.size ≤ 1000000000) : T Tryz.prog 68 [.agg r.c] [] (.str (baL (bodyL r))) [] := by
 have h1 := putZ_len hc
 have h2 := putZ_len hn
 have h0 : T Tryz.prog 35 [.sl (.o 128) 1 0 0 0 1 (some 1), .int .i64 r.client] [(.o 128, .rows 1 1 (getL [[.int .u8 82]]) false)] (sb (.o 320) ([82] ++ putZ r.client)) [(.o 320, bs ([82] ++ putZ r.client))] := by
  refine T.frz (T_putR hc (l := [82]) (by decide) false 320) (hw_of rfl ?_) ?_
  ·and_intros
   all_goals first
    | exact True.intro
    | (intro k hk; obtain rfl : k = 0 := (by omega); rfl)
    | (with_reducible assumption)
    | (rw [decide_eq_true_eq]; omega)
    | (rw [decide_eq_false_iff_not]; omega)
    | with_reducible rfl
    | (intro _ _; exact True.intro)
    | (intro _ _; with_reducible rfl)
    | (intro _ _; rfl)
    | (simp only [IntKind.min, IntKind.max, IntKind.signed, IntKind.bits, if_true]; omega)
    | omega
    | (intro h; exact h)
    | (intro h; cases h; done)
    | exact .inl rfl
    | exact .inl True.intro
    | exact .inr rfl
    | (simp; done)
  ·rintro n ⟨b, hb⟩ ⟨b', hb'⟩
   simp only [List.mem_cons, List.mem_nil_iff, or_false, Prod.mk.injEq] at hb hb'
   rw [hb.1] at hb'
   cases hb'.1
 have e1 : ([82] ++ putZ r.client : List UInt8).length ≤ 10 := by simp; omega
 have e2 : ([82] ++ putZ r.client ++ putZ r.num : List UInt8).length ≤ 19 := by simp; omega
 refine T.val (T_al (bdRb_p r) Tryz.func68 ?_) (by rw [bytesF_bl])
 simp only [All, All_append, bdGt_c]; and_intros
 all_goals first
  | exact True.intro
  | exact h0
  | exact T_put hn (by omega) (by decide)
  | exact T_text (by omega) (by omega) (by decide)
  | (rw [Nat.zero_add]; exact Nat.le_refl _)
  | (with_reducible assumption)
  | (rw [decide_eq_true_eq]; omega)
  | (rw [decide_eq_false_iff_not]; omega)
  | with_reducible rfl
  | (intro _ _; exact True.intro)
  | (intro _ _; with_reducible rfl)
  | (intro _ _; rfl)
  | (simp only [IntKind.min, IntKind.max, IntKind.signed, IntKind.bits, if_true]; omega)
  | omega
  | (intro h; exact h)
  | (intro h; cases h; done)
  | exact .inl rfl
  | exact .inl True.intro
  | exact .inr rfl
  | (simp; done)
theorem T_ep1 {e : SEnv} (h : EnvOk e) : T Tryz.prog 10 [.snil, .agg e.c] [] (sb (.o 63) (envB e)) [(.o 63, bs (envB e))] := by
 have h1 := putZ_len h.src
 have h3 := textB_len (s := e.body) (by have := h.body; omega)
 have h4 := h.tag.len
 have h5 := h.body
 have e0 : envB e = (putZ e.src ++ textB e.body) ++ segB e.tag := by simp [envB, numsB]
 have l3 : (putZ e.src ++ textB e.body).length ≤ 18 + e.body.size := by rw [List.length_append]; omega
 have l4 : (putZ e.src ++ textB e.body).length + 16 = (envB e).length := by rw [e0, List.length_append (bs := segB e.tag), segB_len, h4]
 refine T_al (bdEp_p e) Tryz.func10 ?_
 simp only [All, All_append, bdGt_c]
 and_intros
 all_goals first
  | exact T_putNil h.src
  | exact T_text (by omega) (by omega) (by decide)
  | exact l4
  | omega
  | (rw [e0, bl_append (putZ e.src ++ textB e.body) (segB e.tag), segB_fn h.tag]; intro k _; rfl)
  | simp
theorem T_ep {e : SEnv} (h : EnvOk e) (m : Nat) : T Tryz.prog 10 [.snil, .agg e.c] [] (sb (.o m) (envB e)) [(.o m, bs (envB e))] := by
 obtain ⟨σ, hσ, h1⟩ := T.at (T_ep1 h) [.o 63] [.o m] (by simp) (by simp) rfl
 simp only [List.map_cons, List.map_nil, List.cons.injEq, and_true] at hσ
 simpa [V.rens, V.ren, SEnv.c, sb, bs, Heap.ren, B.ren, hσ] using h1
theorem seg16 {xs : List UInt8} (h : xs.length = 16) : segSet 16 z16 0 16 (bl xs) = intsB xs := int16 h
theorem T_get (s : ByteArray) (hs : s.size ≤ 1000000000) : T Tryz.prog 8 [.str s] [] (.tup [.agg (getR (strB s)).1.c, .int .i64 (getR (strB s)).2]) [] := by
 have hl : (strB s).length ≤ 1000000000 := by rw [strB_len]; exact hs
 have hR : ∀ a, T Tryz.prog 24 [.ros 1 s.size (fun q => [.int .u8 (byteAt s q)]) false] [] (.ptr (.o a) 0 0 0 0) [(.o a, rdB { l := strB s })] := fun a => by
  have := T_read a (strB s) hl
  rw [roB, strB_len] at this; exact this
 have a1 : After { l := strB s } (envR1 { l := strB s }) := numR_after 64 _
 have a2 : After { l := strB s } (envR2 { l := strB s }) := a1.trans (textR_after _ _)
 have hN := T_num 256 64 { l := strB s }
 have hT := T_textR 256 4194304 (envR1 { l := strB s }) (Nat.le_trans a1.1 hl)
 have hW := T_rawR 256 16 (envR2 { l := strB s }) (Nat.le_trans a2.1 hl)
 have hD := T_done 256 (rawR 16 (envR2 { l := strB s })).2
 have eT : (envR { l := strB s }).2 = (rawR 16 (envR2 { l := strB s })).2 := rfl
 by_cases h : (rawR 16 (envR2 { l := strB s })).2.e = 0
 ·have hn : (rawR 16 (envR2 { l := strB s })).1.length = 16 := rawR_ok (n := 16) h
  have e3 : (envR { l := strB s }).1.tag = intsB (rawR 16 (envR2 { l := strB s })).1 := by show (tagR (envR2 { l := strB s })).1 = _; simp [tagR, arrR, h]
  rw [roB, hn] at hW
  by_cases hd : doneR (rawR 16 (envR2 { l := strB s })).2 = 0
  ·have eg : getR (strB s) = ((envR { l := strB s }).1, 0) := by rw [getR, eT, if_pos hd]
   refine T.val (T_al (bdGt_p10 s { l := strB s } (envR1 { l := strB s }) (envR2 { l := strB s }) (rawR 16 (envR2 { l := strB s })).2 (envR { l := strB s }).1 (rawR 16 (envR2 { l := strB s })).1 (doneR (rawR 16 (envR2 { l := strB s })).2)) Tryz.func8 ?_) ?_
   ·simp only [All, All_append, bdGt_c]; and_intros
    all_goals first
     | exact True.intro
     | exact hR _
     | exact hN
     | exact hT
     | exact hW
     | exact hD
     | (simp [hd]; done)
     | (with_reducible assumption)
     | (rw [decide_eq_true_eq]; omega)
     | (rw [decide_eq_false_iff_not]; omega)
     | with_reducible rfl
     | (intro _ _; exact True.intro)
     | (intro _ _; with_reducible rfl)
     | (intro _ _; rfl)
     | (simp only [IntKind.min, IntKind.max, IntKind.signed, IntKind.bits, if_true]; omega)
     | omega
     | (intro h; exact h)
     | (intro h; cases h; done)
     | exact .inl rfl
     | exact .inl True.intro
     | exact .inr rfl
     | (simp; done)
   ·rw [eg]
    show V.tup [V.agg [_, _, V.seg .u8 16 _], _] = V.tup [V.agg [_, _, V.seg .u8 16 (envR { l := strB s }).1.tag], _]
    rw [e3, seg16 hn]
  ·have eg : getR (strB s) = (envZ, doneR (rawR 16 (envR2 { l := strB s })).2) := by rw [getR, eT, if_neg hd]
   refine T.val (T_al (bdGt_p11 s { l := strB s } (envR1 { l := strB s }) (envR2 { l := strB s }) (rawR 16 (envR2 { l := strB s })).2 (envR { l := strB s }).1 (rawR 16 (envR2 { l := strB s })).1 (doneR (rawR 16 (envR2 { l := strB s })).2)) Tryz.func8 ?_) ?_
   ·simp only [All, All_append, bdGt_c]; and_intros
    all_goals first
     | exact True.intro
     | exact hR _
     | exact hN
     | exact hT
     | exact hW
     | exact hD
     | (simp [hd]; done)
     | (with_reducible assumption)
     | (rw [decide_eq_true_eq]; omega)
     | (rw [decide_eq_false_iff_not]; omega)
     | with_reducible rfl
     | (intro _ _; exact True.intro)
     | (intro _ _; with_reducible rfl)
     | (intro _ _; rfl)
     | (simp only [IntKind.min, IntKind.max, IntKind.signed, IntKind.bits, if_true]; omega)
     | omega
     | (intro h; exact h)
     | (intro h; cases h; done)
     | exact .inl rfl
     | exact .inl True.intro
     | exact .inr rfl
     | (simp; done)
   ·rw [eg]; rfl
 ·have hn : (rawR 16 (envR2 { l := strB s })).1 = [] := rawR_bad (n := 16) h
  rw [hn] at hW
  have hd : doneR (rawR 16 (envR2 { l := strB s })).2 ≠ 0 := by rw [doneR, if_pos h]; exact h
  have eg : getR (strB s) = (envZ, doneR (rawR 16 (envR2 { l := strB s })).2) := by rw [getR, eT, if_neg hd]
  refine T.val (T_al (bdGt_p01 s { l := strB s } (envR1 { l := strB s }) (envR2 { l := strB s }) (rawR 16 (envR2 { l := strB s })).2 (envR { l := strB s }).1 (rawR 16 (envR2 { l := strB s })).1 (doneR (rawR 16 (envR2 { l := strB s })).2)) Tryz.func8 ?_) ?_
  ·simp only [All, All_append, bdGt_c]; and_intros
   all_goals first
    | exact True.intro
    | exact hR _
    | exact hN
    | exact hT
    | exact hW
    | exact hD
    | (simp [hd]; done)
    | (with_reducible assumption)
    | (rw [decide_eq_true_eq]; omega)
    | (rw [decide_eq_false_iff_not]; omega)
    | with_reducible rfl
    | (intro _ _; exact True.intro)
    | (intro _ _; with_reducible rfl)
    | (intro _ _; rfl)
    | (simp only [IntKind.min, IntKind.max, IntKind.signed, IntKind.bits, if_true]; omega)
    | omega
    | (intro h; exact h)
    | (intro h; cases h; done)
    | exact .inl rfl
    | exact .inl True.intro
    | exact .inr rfl
    | (simp; done)
  ·rw [eg]; rfl
end Go.Proofs.YtnmccoincblecaaGreat
namespace Sy
open Go
def o32 (x y : Int) : Int := ibits (fun _ x y => x ||| y) .u32 x y
def x32 (x y : Int) : Int := ibits (fun _ x y => x ^^^ y) .u32 x y
def a32 (x y : Int) : Int := ibits (fun _ x y => x &&& y) .u32 x y
def w32 (x : Int) : Int := IntKind.wrap .u32 x
def n32 (x : Int) : Int := x32 4294967295 x
/-- Turned to the right. -/
def rr32 (x n : Int) : Int := o32 (x / 2 ^ n.toNat) (w32 (x * 2 ^ (32 - n).toNat))
def lo5 (n : Int) : Int := ibits (fun _ x y => x &&& y) .u64 (IntKind.wrap .u64 n) 31
/-- Turned to the left. -/
def rl32 (x n : Int) : Int := o32 (w32 (x * 2 ^ (lo5 n).toNat)) (x / 2 ^ (IntKind.wrap .u64 (32 - lo5 n)).toNat)
theorem o32_comm (x y : Int) : o32 x y = o32 y x := by
 simp only [o32, ibits]
 rw [BitVec.or_comm]
theorem lo5_neg : ∀ n : Nat, n < 32 → 0 < n → lo5 (-(n : Int)) = 32 - n ∧ IntKind.wrap .u64 (32 - lo5 (-(n : Int))) = n := by decide
theorem rl_rr (x : Int) {n : Nat} (h0 : 0 < n) (h : n < 32) : rl32 x (-(n : Int)) = rr32 x n := by
 obtain ⟨h1, h2⟩ := lo5_neg n h h0
 rw [rl32, h2, h1, o32_comm, rr32]
/-- The number of a round. -/
def kT : List Int := [0x428a2f98, 0x71374491, 0xb5c0fbcf, 0xe9b5dba5, 0x3956c25b, 0x59f111f1, 0x923f82a4, 0xab1c5ed5,
 0xd807aa98, 0x12835b01, 0x243185be, 0x550c7dc3, 0x72be5d74, 0x80deb1fe, 0x9bdc06a7, 0xc19bf174,
 0xe49b69c1, 0xefbe4786, 0x0fc19dc6, 0x240ca1cc, 0x2de92c6f, 0x4a7484aa, 0x5cb0a9dc, 0x76f988da,
 0x983e5152, 0xa831c66d, 0xb00327c8, 0xbf597fc7, 0xc6e00bf3, 0xd5a79147, 0x06ca6351, 0x14292967,
 0x27b70a85, 0x2e1b2138, 0x4d2c6dfc, 0x53380d13, 0x650a7354, 0x766a0abb, 0x81c2c92e, 0x92722c85,
 0xa2bfe8a1, 0xa81a664b, 0xc24b8b70, 0xc76c51a3, 0xd192e819, 0xd6990624, 0xf40e3585, 0x106aa070,
 0x19a4c116, 0x1e376c08, 0x2748774c, 0x34b0bcb5, 0x391c0cb3, 0x4ed8aa4a, 0x5b9cca4f, 0x682e6ff3,
 0x748f82ee, 0x78a5636f, 0x84c87814, 0x8cc70208, 0x90befffa, 0xa4506ceb, 0xbef9a3f7, 0xc67178f2]
def kN (t : Nat) : Int := kT.getD t 0
def s32 (x a b c : Int) : Int := x32 (x32 (rr32 x a) (rr32 x b)) (rr32 x c)
def m32 (x a b c : Int) : Int := x32 (x32 (rr32 x a) (rr32 x b)) (x / 2 ^ c.toNat)
/-- A word of a block's bytes. -/
def ldW (b : List Int) (i : Nat) : Int := o32 (o32 (o32 (w32 (w32 (b.getD (4 * i) 0) * 16777216)) (w32 (w32 (b.getD (4 * i + 1) 0) * 65536))) (w32 (w32 (b.getD (4 * i + 2) 0) * 256))) (w32 (b.getD (4 * i + 3) 0))
def wA (b : List Int) : Nat → List Int
 | 0 => List.replicate 64 0
 | i + 1 => (wA b i).set i (ldW b i)
def mxW (w : List Int) (k : Nat) : Int := w32 (w32 (w32 (w.getD k 0 + m32 (w.getD (k + 1) 0) 7 18 3) + w.getD (k + 9) 0) + m32 (w.getD (k + 14) 0) 17 19 10)
def wB (b : List Int) : Nat → List Int
 | 0 => wA b 16
 | k + 1 => (wB b k).set (16 + k) (mxW (wB b k) k)
/-- A round's eight numbers. -/
structure S8 where
 a : Int
 b : Int
 c : Int
 d : Int
 e : Int
 f : Int
 g : Int
 h : Int
def S8.l (s : S8) : List Int := [s.a, s.b, s.c, s.d, s.e, s.f, s.g, s.h]
def S8.of (h : List Int) : S8 := ⟨h.getD 0 0, h.getD 1 0, h.getD 2 0, h.getD 3 0, h.getD 4 0, h.getD 5 0, h.getD 6 0, h.getD 7 0⟩
def rx (w : List Int) (t : Nat) (s : S8) : Int := w32 (w32 (w32 (w32 (s.h + s32 s.e 6 11 25) + x32 (a32 s.e s.f) (a32 (n32 s.e) s.g)) + kN t) + w.getD t 0)
def ry (s : S8) : Int := w32 (s32 s.a 2 13 22 + x32 (x32 (a32 s.a s.b) (a32 s.a s.c)) (a32 s.b s.c))
def rnd (w : List Int) (s : S8) : Nat → S8
 | 0 => s
 | t + 1 => ⟨w32 (rx w t (rnd w s t) + ry (rnd w s t)), (rnd w s t).a, (rnd w s t).b, (rnd w s t).c, w32 ((rnd w s t).d + rx w t (rnd w s t)), (rnd w s t).e, (rnd w s t).f, (rnd w s t).g⟩
def hF (h l : List Int) : Nat → List Int
 | 0 => h
 | i + 1 => (hF h l i).set i (w32 ((hF h l i).getD i 0 + l.getD i 0))
/-- The words behind one more block. -/
def blk (h b : List Int) : List Int := hF h (rnd (wB b 48) (S8.of h) 64).l 8
def iv : List Int := [1779033703, 3144134277, 1013904242, 2773480762, 1359893119, 2600822924, 528734635, 1541459225]
def cutB (B : List Int) (k : Nat) : List Int := (List.range 64).map fun i => B.getD (64 * k + i) 0
/-- The words behind so many blocks. -/
def hK (B : List Int) : Nat → List Int
 | 0 => iv
 | k + 1 => blk (hK B k) (cutB B k)
def w8 (x : Int) : Int := IntKind.wrap .u8 x
def lenE (n : Int) (i : Nat) : Int := w8 (n / 2 ^ (56 - 8 * i))
def lenP (n : Int) (j : Nat) : List Int := (List.range j).map (lenE n)
def lenB (n : Int) : List Int := lenP n 8
theorem lenB_len (n : Int) : (lenB n).length = 8 := by simp [lenB, lenP]
theorem lenB_get {n : Int} {i : Nat} (h : i < 8) : (lenB n).getD i 0 = lenE n i := by
 rw [lenB, lenP, List.getD_eq_getElem?_getD, List.getElem?_map, List.getElem?_range h]; rfl
/-- So many zeros stand behind so many bytes. -/
def padZ (n : Nat) : Nat := (120 - n % 64) % 64
def padL (B : List Int) : List Int := B ++ [128] ++ List.replicate (padZ (B.length + 1)) 0 ++ lenB (8 * (B.length : Int))
def dA (H : List Int) : Nat → List Int
 | 0 => List.replicate 32 0
 | i + 1 => (dA H i).set i (w8 (H.getD (i / 4) 0 / 2 ^ (24 - 8 * (i % 4))))
def shaV (B : List Int) : List Int := dA (hK (padL B) ((padL B).length / 64)) 32
/-- Bytes as they come. -/
def ib (l : List Int) : Nat → List V := fun i => [.int .u8 (l.getD i 0)]

theorem hK_app (B C : List Int) : ∀ k, 64 * k ≤ B.length → hK (B ++ C) k = hK B k
 | 0, _ => rfl
 | k + 1, h => by
  have ih := hK_app B C k (by omega)
  have : cutB (B ++ C) k = cutB B k := by
   unfold cutB
   apply List.map_congr_left
   intro i hi
   have := List.mem_range.1 hi
   rw [List.getD_eq_getElem?_getD, List.getD_eq_getElem?_getD, List.getElem?_append_left (by omega)]
  rw [hK, hK, ih, this]
/-- What a stream has, of bytes so far. -/
structure Inv (B H W : List Int) : Prop where
 h : H = hK B (B.length / 64)
 len : W.length = 64
 w : ∀ i, i < B.length % 64 → W.getD i 0 = B.getD (64 * (B.length / 64) + i) 0
theorem segSet_len (m : Nat) (xs : List Int) (j cnt : Nat) (g : Nat → List V) : (segSet m xs j cnt g).length = m := by simp [segSet]
theorem segSet_get {m : Nat} {xs : List Int} {j cnt q : Nat} {g : Nat → List V} (h : q < m) : (segSet m xs j cnt g).getD q 0 = if j ≤ q ∧ q < j + cnt then intOf (g (q - j)) else xs.getD q 0 := by
 rw [segSet, List.getD_eq_getElem?_getD, List.getElem?_map, List.getElem?_range h]
 simp only [Option.map_some, Option.getD_some]
 by_cases h1 : j ≤ q ∧ q < j + cnt
 ·rw [if_pos h1, Nat.ble_eq_true_of_le h1.1, (show Nat.blt q (j + cnt) = true by rw [Nat.blt_eq]; exact h1.2)]; rfl
 ·rw [if_neg h1]
  cases h2 : Nat.ble j q with
  | false => rfl
  | true =>
   cases h3 : Nat.blt q (j + cnt) with
   | false => rfl
   | true => exact absurd ⟨Nat.le_of_ble_eq_true h2, by rwa [Nat.blt_eq] at h3⟩ h1
theorem inv_step {B H W l : List Int} (hI : Inv B H W) {c : Nat} (hc : c ≤ l.length) (hc2 : c ≤ 64 - B.length % 64) :
  let W2 := segSet 64 W (B.length % 64) c (ib l)
  ((B.length + c) % 64 = 0 → 0 < c → Inv (B ++ l.take c) (blk H W2) W2) ∧ ((B.length + c) % 64 ≠ 0 → Inv (B ++ l.take c) H W2) := by
 intro W2
 have hl : (B ++ l.take c).length = B.length + c := by rw [List.length_append, List.length_take, Nat.min_eq_left hc]
 have hw : ∀ i, i < B.length % 64 + c → W2.getD i 0 = (B ++ l.take c).getD (64 * (B.length / 64) + i) 0 := by
  intro i hi
  have hi64 : i < 64 := by omega
  show (segSet 64 W (B.length % 64) c (ib l)).getD i 0 = _
  rw [segSet_get hi64]
  by_cases h1 : B.length % 64 ≤ i
  ·rw [if_pos ⟨h1, hi⟩, List.getD_eq_getElem?_getD, List.getElem?_append_right (by omega), List.getElem?_take_of_lt (by omega)]
   show l.getD (i - B.length % 64) 0 = _
   rw [List.getD_eq_getElem?_getD]
   congr 2; omega
  ·rw [if_neg (fun h => h1 h.1), hI.w i (by omega), List.getD_eq_getElem?_getD, List.getD_eq_getElem?_getD, List.getElem?_append_left (by omega)]
 constructor
 ·intro h0 hpos
  have hd : (B.length + c) / 64 = B.length / 64 + 1 := by omega
  have hfull : B.length % 64 + c = 64 := by omega
  refine ⟨?_, segSet_len _ _ _ _ _, fun i hi => absurd hi (by rw [hl]; omega)⟩
  rw [hl, hd, hK, hK_app _ _ _ (by omega), ← hI.h]
  congr 1
  apply List.ext_getElem?
  intro i
  by_cases hi : i < 64
  ·have h1 := hw i (by omega)
   have e1 : i < W2.length := by rw [show W2.length = 64 from segSet_len _ _ _ _ _]; exact hi
   have e2 : i < (cutB (B ++ l.take c) (B.length / 64)).length := by simp [cutB]; exact hi
   rw [List.getElem?_eq_getElem e1, List.getElem?_eq_getElem e2]
   congr 1
   have h2 : W2.getD i 0 = W2[i] := by rw [List.getD_eq_getElem?_getD, List.getElem?_eq_getElem e1]; rfl
   refine h2.symm.trans (h1.trans ?_)
   simp [cutB]
  ·rw [List.getElem?_eq_none (by rw [show W2.length = 64 from segSet_len _ _ _ _ _]; omega), List.getElem?_eq_none (by simp [cutB]; omega)]
 ·intro h0
  have hd : (B.length + c) / 64 = B.length / 64 := by omega
  have hm : (B.length + c) % 64 = B.length % 64 + c := by omega
  refine ⟨?_, segSet_len _ _ _ _ _, fun i hi => ?_⟩
  ·rw [hl, hd, hK_app _ _ _ (by omega)]; exact hI.h
  ·rw [hl, hm] at hi
   rw [hl, hd]; exact hw i hi
theorem inv_nil {W : List Int} (h : W.length = 64) : Inv [] iv W := ⟨rfl, h, fun i hi => absurd hi (Nat.not_lt_zero _)⟩
theorem padZ_lt {n j : Nat} (h : j < padZ n) : (n + j) % 64 ≠ 56 := by unfold padZ at h; omega
theorem padZ_at (n : Nat) : (n + padZ n) % 64 = 56 := by unfold padZ; omega
end Sy
namespace Go.Proofs.YtnmccoincblecaaGreat
open Go Sy Go.Proofs
noncomputable def bdRl (x n : Int) : Bd := { f := Tryz.f152, args := [.int .u32 x, .int .i64 n], kb := kb0 }
def rlDb : List V → Heap → Nat → List Cl := fun l _ _ => match l with
 | [.int _ x, .int _ n] => [{ val := .int .u32 (rl32 x n) }]
 | _ => []
noncomputable def bdTu (x a b c : Int) : Bd := { f := Tryz.f149, args := [.int .u32 x, .int .i64 a, .int .i64 b, .int .i64 c], kb := { db := dbQ [(152, rlDb)] } }
noncomputable def bdMi (x a b c : Int) : Bd := { f := Tryz.f151, args := [.int .u32 x, .int .i64 a, .int .i64 b, .int .i64 c], kb := { db := dbQ [(152, rlDb)] } }
noncomputable def bdKr (t : Int) : Bd := { f := Tryz.f150, args := [.int .i64 t], kb := kb0 }
def wtI (b w : List Int) (i : Nat) : St := ⟨mkT 71 [(1, .ptr (.o 0) 0 0 0 0), (2, .ptr (.o 1) 0 0 0 0), (6, .int .i64 (i : Nat))], [(.o 0, .flat [.seg .u8 64 b]), (.o 1, .flat [.seg .u32 64 w])], 2, []⟩
def wtJ (b w : List Int) (k : Nat) : St := ⟨mkT 71 [(1, .ptr (.o 0) 0 0 0 0), (2, .ptr (.o 1) 0 0 0 0), (4, .fn (.func 151) [] []), (5, .int .i64 ((16 + k : Nat) : Int))], [(.o 0, .flat [.seg .u8 64 b]), (.o 1, .flat [.seg .u32 64 w])], 2, []⟩
def mxDb : List V → Heap → Nat → List Cl := fun l _ _ => match l with
 | [.int _ x, .int _ a, .int _ b, .int _ c] => [{ val := .int .u32 (m32 x a b c) }]
 | _ => []
noncomputable def bdWtK (b w w2 : List Int) : Bd := { f := Tryz.f148, args := [.agg [.seg .u8 64 b]], kb := { db := fun _ _ _ _ => [], lp := fun id t => bif Nat.beq id 0 then [(True, .loop (16 + 1) (wToS [(.o 0, nmV (getV t.tmps 1)), (.o 1, nmV (getV t.tmps 2))] (wtI b (List.replicate 64 0) 0)) (.exit 0) (wtI b w 16))] else [(True, .loop (48 + 1) (wTo (wtJ b w 0)) (.exit 2) (wtJ b w2 48))] } }
noncomputable def pcWi (b w : List Int) (i : Nat) (w2 : List Int) : Pc := { c := cB (cB (cR (cL (cR (bodyOf Tryz.f148))))), st := wtI b w i, kb := kb0, k := fun x_ _ => match x_ with
 | .normal => some (wTo (wtI b w2 (i + 1)))
 | _ => some (wTo (wtI b w 16)) }
noncomputable def pcWj (b w : List Int) (k : Nat) (w2 : List Int) : Pc := { c := cB (cB (cR (cL (cR (cR (cR (bodyOf Tryz.f148))))))), st := wtJ b w k, kb := { db := dbQ [(151, mxDb)] }, k := fun x_ _ => match x_ with
 | .normal => some (wTo (wtJ b w2 (k + 1)))
 | _ => some (wTo (wtJ b w 48)) }
end Go.Proofs.YtnmccoincblecaaGreat
namespace Go.Proofs.YtnmccoincblecaaGreat
open Go Sy Go.Proofs
theorem bdRl_p (x : Int) (n : Int) :
  along Tryz.prog (bdRl x n) [] = (some (.int .u32 (ibits (fun x x_1 y => x_1 ||| y) .u32 (IntKind.wrap .u32 (x * (2 : Int) ^ Int.toNat (ibits (fun x x_1 y => x_1 &&& y) .u64 (IntKind.wrap .u64 n) (31 : Int)))) (x / (2 : Int) ^ Int.toNat (IntKind.wrap .u64 ((32 : Int) - ibits (fun x x_1 y => x_1 &&& y) .u64 (IntKind.wrap .u64 n) (31 : Int))))), [], [(0 : Int) ≤ ibits (fun x x_1 y => x_1 &&& y) IntKind.u64 (IntKind.wrap IntKind.u64 n) (31 : Int) ∧ ibits (fun x x_1 y => x_1 &&& y) IntKind.u64 (IntKind.wrap IntKind.u64 n) (31 : Int) ≤ (32 : Int), (0 : Int) ≤ IntKind.wrap IntKind.u64 ((32 : Int) - ibits (fun x x_1 y => x_1 &&& y) IntKind.u64 (IntKind.wrap IntKind.u64 n) (31 : Int)) ∧ IntKind.wrap IntKind.u64 ((32 : Int) - ibits (fun x x_1 y => x_1 &&& y) IntKind.u64 (IntKind.wrap IntKind.u64 n) (31 : Int)) ≤ (32 : Int)]) : Option (V × Heap × List Prop)) := by kernel_rfl

theorem bdTu_p (x : Int) (a : Int) (b : Int) (c : Int) :
  along Tryz.prog (bdTu x a b c) [] = (some (.int .u32 (ibits (fun x x_1 y => x_1 ^^^ y) .u32 (ibits (fun x x_1 y => x_1 ^^^ y) .u32 (rl32 x ((0 : Int) - a)) (rl32 x ((0 : Int) - b))) (rl32 x ((0 : Int) - c))), [], [InR IntKind.i64 ((0 : Int) - a), T Tryz.prog 152 [.int .u32 x, .int .i64 ((0 : Int) - a)] [] (.int .u32 (rl32 x ((0 : Int) - a))) [], InR IntKind.i64 ((0 : Int) - b), T Tryz.prog 152 [.int .u32 x, .int .i64 ((0 : Int) - b)] [] (.int .u32 (rl32 x ((0 : Int) - b))) [], InR IntKind.i64 ((0 : Int) - c), T Tryz.prog 152 [.int .u32 x, .int .i64 ((0 : Int) - c)] [] (.int .u32 (rl32 x ((0 : Int) - c))) []]) : Option (V × Heap × List Prop)) := by kernel_rfl

theorem bdMi_p (x : Int) (a : Int) (b : Int) (c : Int) :
  along Tryz.prog (bdMi x a b c) [] = (some (.int .u32 (ibits (fun x x_1 y => x_1 ^^^ y) .u32 (ibits (fun x x_1 y => x_1 ^^^ y) .u32 (rl32 x ((0 : Int) - a)) (rl32 x ((0 : Int) - b))) (x / (2 : Int) ^ Int.toNat c)), [], [InR IntKind.i64 ((0 : Int) - a), T Tryz.prog 152 [.int .u32 x, .int .i64 ((0 : Int) - a)] [] (.int .u32 (rl32 x ((0 : Int) - a))) [], InR IntKind.i64 ((0 : Int) - b), T Tryz.prog 152 [.int .u32 x, .int .i64 ((0 : Int) - b)] [] (.int .u32 (rl32 x ((0 : Int) - b))) [], (0 : Int) ≤ c ∧ c ≤ (32 : Int)]) : Option (V × Heap × List Prop)) := by kernel_rfl

theorem bdKr_p (t : Int) :
  along Tryz.prog (bdKr t) [] = (some (.int .u32 (List.getD [(1116352408 : Int), (1899447441 : Int), (3049323471 : Int), (3921009573 : Int), (961987163 : Int), (1508970993 : Int), (2453635748 : Int), (2870763221 : Int), (3624381080 : Int), (310598401 : Int), (607225278 : Int), (1426881987 : Int), (1925078388 : Int), (2162078206 : Int), (2614888103 : Int), (3248222580 : Int), (3835390401 : Int), (4022224774 : Int), (264347078 : Int), (604807628 : Int), (770255983 : Int), (1249150122 : Int), (1555081692 : Int), (1996064986 : Int), (2554220882 : Int), (2821834349 : Int), (2952996808 : Int), (3210313671 : Int), (3336571891 : Int), (3584528711 : Int), (113926993 : Int), (338241895 : Int), (666307205 : Int), (773529912 : Int), (1294757372 : Int), (1396182291 : Int), (1695183700 : Int), (1986661051 : Int), (2177026350 : Int), (2456956037 : Int), (2730485921 : Int), (2820302411 : Int), (3259730800 : Int), (3345764771 : Int), (3516065817 : Int), (3600352804 : Int), (4094571909 : Int), (275423344 : Int), (430227734 : Int), (506948616 : Int), (659060556 : Int), (883997877 : Int), (958139571 : Int), (1322822218 : Int), (1537002063 : Int), (1747873779 : Int), (1955562222 : Int), (2024104815 : Int), (2227730452 : Int), (2361852424 : Int), (2428436474 : Int), (2756734187 : Int), (3204031479 : Int), (3329325298 : Int)] (0 + Int.toNat t) (0 : Int)), [], [(0 : Int) ≤ t ∧ t < (64 : Int), (0 : Nat) + Int.toNat t < (64 : Nat)]) : Option (V × Heap × List Prop)) := by kernel_rfl

theorem bdWtK_p (b : List Int) (w : List Int) (w2 : List Int) :
  along Tryz.prog (bdWtK b w w2) [] = (some (.agg [.seg .u32 64 w2], [], [RLoop Tryz.prog none 0 (cB (cB (cR (cL (cR (bodyOf (Bd.f (bdWtK b w w2)))))))) 17 (St.mk [.any, .ptr (.o 0) 0 0 0 0, .ptr (.o 1) 0 0 0 0, .any, .any, .any, .int .i64 0, .any, .any, .any, .any, .any, .any, .any, .any, .any, .any, .any, .any, .any, .any, .any, .any, .any, .any, .any, .any, .any, .any, .any, .any, .any, .any, .any, .any, .any, .any, .any, .any, .any, .any, .any, .any, .any, .any, .any, .any, .any, .any, .any, .any, .any, .any, .any, .any, .any, .any, .any, .any, .any, .any, .any, .any, .any, .any, .any, .any, .any, .any, .any, .any] [(.o 0, .flat [.seg .u8 64 b]), (.o 1, .flat [.seg .u32 64 [(0 : Int), (0 : Int), (0 : Int), (0 : Int), (0 : Int), (0 : Int), (0 : Int), (0 : Int), (0 : Int), (0 : Int), (0 : Int), (0 : Int), (0 : Int), (0 : Int), (0 : Int), (0 : Int), (0 : Int), (0 : Int), (0 : Int), (0 : Int), (0 : Int), (0 : Int), (0 : Int), (0 : Int), (0 : Int), (0 : Int), (0 : Int), (0 : Int), (0 : Int), (0 : Int), (0 : Int), (0 : Int), (0 : Int), (0 : Int), (0 : Int), (0 : Int), (0 : Int), (0 : Int), (0 : Int), (0 : Int), (0 : Int), (0 : Int), (0 : Int), (0 : Int), (0 : Int), (0 : Int), (0 : Int), (0 : Int), (0 : Int), (0 : Int), (0 : Int), (0 : Int), (0 : Int), (0 : Int), (0 : Int), (0 : Int), (0 : Int), (0 : Int), (0 : Int), (0 : Int), (0 : Int), (0 : Int), (0 : Int), (0 : Int)]])] 2 []) (.exit 0) (St.mk [.any, .ptr (.o 0) 0 0 0 0, .ptr (.o 1) 0 0 0 0, .any, .any, .any, .int .i64 16, .any, .any, .any, .any, .any, .any, .any, .any, .any, .any, .any, .any, .any, .any, .any, .any, .any, .any, .any, .any, .any, .any, .any, .any, .any, .any, .any, .any, .any, .any, .any, .any, .any, .any, .any, .any, .any, .any, .any, .any, .any, .any, .any, .any, .any, .any, .any, .any, .any, .any, .any, .any, .any, .any, .any, .any, .any, .any, .any, .any, .any, .any, .any, .any] [(.o 0, .flat [.seg .u8 64 b]), (.o 1, .flat [.seg .u32 64 w])] 2 []), q (64 : Nat), q b, q (64 : Nat), q ([(0 : Int), (0 : Int), (0 : Int), (0 : Int), (0 : Int), (0 : Int), (0 : Int), (0 : Int), (0 : Int), (0 : Int), (0 : Int), (0 : Int), (0 : Int), (0 : Int), (0 : Int), (0 : Int), (0 : Int), (0 : Int), (0 : Int), (0 : Int), (0 : Int), (0 : Int), (0 : Int), (0 : Int), (0 : Int), (0 : Int), (0 : Int), (0 : Int), (0 : Int), (0 : Int), (0 : Int), (0 : Int), (0 : Int), (0 : Int), (0 : Int), (0 : Int), (0 : Int), (0 : Int), (0 : Int), (0 : Int), (0 : Int), (0 : Int), (0 : Int), (0 : Int), (0 : Int), (0 : Int), (0 : Int), (0 : Int), (0 : Int), (0 : Int), (0 : Int), (0 : Int), (0 : Int), (0 : Int), (0 : Int), (0 : Int), (0 : Int), (0 : Int), (0 : Int), (0 : Int), (0 : Int), (0 : Int), (0 : Int), (0 : Int)]), q0, q0, q0, q0, q0, q0, q1, RLoop Tryz.prog none 0 (cB (cB (cR (cL (cR (cR (cR (bodyOf (Bd.f (bdWtK b w w2)))))))))) 49 (St.mk [.any, .ptr (.o 0) 0 0 0 0, .ptr (.o 1) 0 0 0 0, .any, .fn (.func (151 : FuncId)) [] [], .int .i64 16, .any, .any, .any, .any, .any, .any, .any, .any, .any, .any, .any, .any, .any, .any, .any, .any, .any, .any, .any, .any, .any, .any, .any, .any, .any, .any, .any, .any, .any, .any, .any, .any, .any, .any, .any, .any, .any, .any, .any, .any, .any, .any, .any, .any, .any, .any, .any, .any, .any, .any, .any, .any, .any, .any, .any, .any, .any, .any, .any, .any, .any, .any, .any, .any, .any] [(.o 0, .flat [.seg .u8 64 b]), (.o 1, .flat [.seg .u32 64 w])] 2 []) (.exit 2) (St.mk [.any, .ptr (.o 0) 0 0 0 0, .ptr (.o 1) 0 0 0 0, .any, .fn (.func (151 : FuncId)) [] [], .int .i64 64, .any, .any, .any, .any, .any, .any, .any, .any, .any, .any, .any, .any, .any, .any, .any, .any, .any, .any, .any, .any, .any, .any, .any, .any, .any, .any, .any, .any, .any, .any, .any, .any, .any, .any, .any, .any, .any, .any, .any, .any, .any, .any, .any, .any, .any, .any, .any, .any, .any, .any, .any, .any, .any, .any, .any, .any, .any, .any, .any, .any, .any, .any, .any, .any, .any] [(.o 0, .flat [.seg .u8 64 b]), (.o 1, .flat [.seg .u32 64 w2])] 2 []), q (64 : Nat), q b, q (64 : Nat), q w, q0, q0, q0, q0, q0, q0, q (16 : Int)]) : Option (V × Heap × List Prop)) := by kernel_rfl

theorem pcWi_p1 (b : List Int) (w : List Int) (i : Nat) (w2 : List Int) :
  alongPc Tryz.prog (pcWi b w i w2) [true] = (some (.normal, St.mk [.any, .ptr (.o 0) 0 0 0 0, .ptr (.o 1) 0 0 0 0, .any, .any, .any, .int .i64 (↑(i + 1) : Int), .any, .any, .any, .any, .any, .any, .any, .any, .any, .any, .any, .any, .any, .any, .any, .any, .any, .any, .any, .any, .any, .any, .any, .any, .any, .any, .any, .any, .any, .any, .any, .any, .any, .any, .any, .any, .any, .any, .any, .any, .any, .any, .any, .any, .any, .any, .any, .any, .any, .any, .any, .any, .any, .any, .any, .any, .any, .any, .any, .any, .any, .any, .any, .any] [(.o 0, .flat [.seg .u8 64 b]), (.o 1, .flat [.seg .u32 64 w2])] 2 [], [decide ((↑i : Int) < (16 : Int)) = true, InR IntKind.i64 ((4 : Int) * (↑i : Int)), (0 : Int) ≤ (4 : Int) * (↑i : Int) ∧ (4 : Int) * (↑i : Int) < (64 : Int), (0 : Nat) + Int.toNat ((4 : Int) * (↑i : Int)) < (64 : Nat), (0 : Int) ≤ (24 : Int) ∧ (24 : Int) ≤ (32 : Int), InR IntKind.i64 ((4 : Int) * (↑i : Int)), InR IntKind.i64 ((4 : Int) * (↑i : Int) + (1 : Int)), (0 : Int) ≤ (4 : Int) * (↑i : Int) + (1 : Int) ∧ (4 : Int) * (↑i : Int) + (1 : Int) < (64 : Int), (0 : Nat) + Int.toNat ((4 : Int) * (↑i : Int) + (1 : Int)) < (64 : Nat), (0 : Int) ≤ (16 : Int) ∧ (16 : Int) ≤ (32 : Int), InR IntKind.i64 ((4 : Int) * (↑i : Int)), InR IntKind.i64 ((4 : Int) * (↑i : Int) + (2 : Int)), (0 : Int) ≤ (4 : Int) * (↑i : Int) + (2 : Int) ∧ (4 : Int) * (↑i : Int) + (2 : Int) < (64 : Int), (0 : Nat) + Int.toNat ((4 : Int) * (↑i : Int) + (2 : Int)) < (64 : Nat), (0 : Int) ≤ (8 : Int) ∧ (8 : Int) ≤ (32 : Int), InR IntKind.i64 ((4 : Int) * (↑i : Int)), InR IntKind.i64 ((4 : Int) * (↑i : Int) + (3 : Int)), (0 : Int) ≤ (4 : Int) * (↑i : Int) + (3 : Int) ∧ (4 : Int) * (↑i : Int) + (3 : Int) < (64 : Int), (0 : Nat) + Int.toNat ((4 : Int) * (↑i : Int) + (3 : Int)) < (64 : Nat), (0 : Int) ≤ (↑i : Int) ∧ (↑i : Int) < (64 : Int), (0 : Nat) + Int.toNat (↑i : Int) < (64 : Nat), InR IntKind.i64 ((↑i : Int) + (1 : Int)), q (64 : Nat), q b, q (64 : Nat), List.set w ((0 : Nat) + Int.toNat (↑i : Int)) (ibits (fun x x_1 y => x_1 ||| y) IntKind.u32 (ibits (fun x x_1 y => x_1 ||| y) IntKind.u32 (ibits (fun x x_1 y => x_1 ||| y) IntKind.u32 (IntKind.wrap IntKind.u32 (IntKind.wrap IntKind.u32 (List.getD b ((0 : Nat) + Int.toNat ((4 : Int) * (↑i : Int))) (0 : Int)) * (16777216 : Int))) (IntKind.wrap IntKind.u32 (IntKind.wrap IntKind.u32 (List.getD b ((0 : Nat) + Int.toNat ((4 : Int) * (↑i : Int) + (1 : Int))) (0 : Int)) * (65536 : Int)))) (IntKind.wrap IntKind.u32 (IntKind.wrap IntKind.u32 (List.getD b ((0 : Nat) + Int.toNat ((4 : Int) * (↑i : Int) + (2 : Int))) (0 : Int)) * (256 : Int)))) (IntKind.wrap IntKind.u32 (List.getD b ((0 : Nat) + Int.toNat ((4 : Int) * (↑i : Int) + (3 : Int))) (0 : Int)))) = w2, q0, q0, q0, q0, q0, q0, (↑i : Int) + (1 : Int) = (↑(i + (1 : Nat)) : Int)]) : Option (Exit × St × List Prop)) := by kernel_rfl
theorem pcWi_p0 (b : List Int) (w : List Int) (i : Nat) (w2 : List Int) :
  alongPc Tryz.prog (pcWi b w i w2) [false] = (some (.exit 0, St.mk [.any, .ptr (.o 0) 0 0 0 0, .ptr (.o 1) 0 0 0 0, .any, .any, .any, .int .i64 16, .any, .any, .any, .any, .any, .any, .any, .any, .any, .any, .any, .any, .any, .any, .any, .any, .any, .any, .any, .any, .any, .any, .any, .any, .any, .any, .any, .any, .any, .any, .any, .any, .any, .any, .any, .any, .any, .any, .any, .any, .any, .any, .any, .any, .any, .any, .any, .any, .any, .any, .any, .any, .any, .any, .any, .any, .any, .any, .any, .any, .any, .any, .any, .any] [(.o 0, .flat [.seg .u8 64 b]), (.o 1, .flat [.seg .u32 64 w])] 2 [], [decide ((↑i : Int) < (16 : Int)) = false, q (64 : Nat), q b, q (64 : Nat), q w, q0, q0, q0, q0, q0, q0, (↑i : Int) = (16 : Int)]) : Option (Exit × St × List Prop)) := by kernel_rfl

theorem pcWj_p1 (b : List Int) (w : List Int) (k : Nat) (w2 : List Int) :
  alongPc Tryz.prog (pcWj b w k w2) [true] = (some (.normal, St.mk [.any, .ptr (.o 0) 0 0 0 0, .ptr (.o 1) 0 0 0 0, .any, .fn (.func (151 : FuncId)) [] [], .int .i64 (↑(16 + (k + 1)) : Int), .any, .any, .any, .any, .any, .any, .any, .any, .any, .any, .any, .any, .any, .any, .any, .any, .any, .any, .any, .any, .any, .any, .any, .any, .any, .any, .any, .any, .any, .any, .any, .any, .any, .any, .any, .any, .any, .any, .any, .any, .any, .any, .any, .any, .any, .any, .any, .any, .any, .any, .any, .any, .any, .any, .any, .any, .any, .any, .any, .any, .any, .any, .any, .any, .any] [(.o 0, .flat [.seg .u8 64 b]), (.o 1, .flat [.seg .u32 64 w2])] 2 [], [decide ((↑((16 : Nat) + k) : Int) < (64 : Int)) = true, InR IntKind.i64 ((↑((16 : Nat) + k) : Int) - (16 : Int)), (0 : Int) ≤ (↑((16 : Nat) + k) : Int) - (16 : Int) ∧ (↑((16 : Nat) + k) : Int) - (16 : Int) < (64 : Int), (0 : Nat) + Int.toNat ((↑((16 : Nat) + k) : Int) - (16 : Int)) < (64 : Nat), InR IntKind.i64 ((↑((16 : Nat) + k) : Int) - (15 : Int)), (0 : Int) ≤ (↑((16 : Nat) + k) : Int) - (15 : Int) ∧ (↑((16 : Nat) + k) : Int) - (15 : Int) < (64 : Int), (0 : Nat) + Int.toNat ((↑((16 : Nat) + k) : Int) - (15 : Int)) < (64 : Nat), T Tryz.prog (151 : FuncId) [.int .u32 (List.getD w (0 + Int.toNat ((↑(16 + k) : Int) - (15 : Int))) (0 : Int)), .int .i64 7, .int .i64 18, .int .i64 3] [] (.int .u32 (m32 (List.getD w (0 + Int.toNat ((↑(16 + k) : Int) - (15 : Int))) (0 : Int)) (7 : Int) (18 : Int) (3 : Int))) [], InR IntKind.i64 ((↑((16 : Nat) + k) : Int) - (7 : Int)), (0 : Int) ≤ (↑((16 : Nat) + k) : Int) - (7 : Int) ∧ (↑((16 : Nat) + k) : Int) - (7 : Int) < (64 : Int), (0 : Nat) + Int.toNat ((↑((16 : Nat) + k) : Int) - (7 : Int)) < (64 : Nat), InR IntKind.i64 ((↑((16 : Nat) + k) : Int) - (2 : Int)), (0 : Int) ≤ (↑((16 : Nat) + k) : Int) - (2 : Int) ∧ (↑((16 : Nat) + k) : Int) - (2 : Int) < (64 : Int), (0 : Nat) + Int.toNat ((↑((16 : Nat) + k) : Int) - (2 : Int)) < (64 : Nat), T Tryz.prog (151 : FuncId) [.int .u32 (List.getD w (0 + Int.toNat ((↑(16 + k) : Int) - (2 : Int))) (0 : Int)), .int .i64 17, .int .i64 19, .int .i64 10] [] (.int .u32 (m32 (List.getD w (0 + Int.toNat ((↑(16 + k) : Int) - (2 : Int))) (0 : Int)) (17 : Int) (19 : Int) (10 : Int))) [], (0 : Int) ≤ (↑((16 : Nat) + k) : Int) ∧ (↑((16 : Nat) + k) : Int) < (64 : Int), (0 : Nat) + Int.toNat (↑((16 : Nat) + k) : Int) < (64 : Nat), InR IntKind.i64 ((↑((16 : Nat) + k) : Int) + (1 : Int)), q (64 : Nat), q b, q (64 : Nat), List.set w ((0 : Nat) + Int.toNat (↑((16 : Nat) + k) : Int)) (IntKind.wrap IntKind.u32 (IntKind.wrap IntKind.u32 (IntKind.wrap IntKind.u32 (List.getD w ((0 : Nat) + Int.toNat ((↑((16 : Nat) + k) : Int) - (16 : Int))) (0 : Int) + m32 (List.getD w ((0 : Nat) + Int.toNat ((↑((16 : Nat) + k) : Int) - (15 : Int))) (0 : Int)) (7 : Int) (18 : Int) (3 : Int)) + List.getD w ((0 : Nat) + Int.toNat ((↑((16 : Nat) + k) : Int) - (7 : Int))) (0 : Int)) + m32 (List.getD w ((0 : Nat) + Int.toNat ((↑((16 : Nat) + k) : Int) - (2 : Int))) (0 : Int)) (17 : Int) (19 : Int) (10 : Int))) = w2, q0, q0, q0, q0, q0, q0, (↑((16 : Nat) + k) : Int) + (1 : Int) = (↑((16 : Nat) + (k + (1 : Nat))) : Int)]) : Option (Exit × St × List Prop)) := by kernel_rfl
theorem pcWj_p0 (b : List Int) (w : List Int) (k : Nat) (w2 : List Int) :
  alongPc Tryz.prog (pcWj b w k w2) [false] = (some (.exit 2, St.mk [.any, .ptr (.o 0) 0 0 0 0, .ptr (.o 1) 0 0 0 0, .any, .fn (.func (151 : FuncId)) [] [], .int .i64 64, .any, .any, .any, .any, .any, .any, .any, .any, .any, .any, .any, .any, .any, .any, .any, .any, .any, .any, .any, .any, .any, .any, .any, .any, .any, .any, .any, .any, .any, .any, .any, .any, .any, .any, .any, .any, .any, .any, .any, .any, .any, .any, .any, .any, .any, .any, .any, .any, .any, .any, .any, .any, .any, .any, .any, .any, .any, .any, .any, .any, .any, .any, .any, .any, .any] [(.o 0, .flat [.seg .u8 64 b]), (.o 1, .flat [.seg .u32 64 w])] 2 [], [decide ((↑((16 : Nat) + k) : Int) < (64 : Int)) = false, q (64 : Nat), q b, q (64 : Nat), q w, q0, q0, q0, q0, q0, q0, (↑((16 : Nat) + k) : Int) = (64 : Int)]) : Option (Exit × St × List Prop)) := by kernel_rfl

theorem T_rl (x : Int) {m : Nat} (h0 : 0 < m) (h : m < 32) : T Tryz.prog 152 [.int .u32 x, .int .i64 (0 - (m : Nat))] [] (.int .u32 (rl32 x (0 - (m : Nat)))) [] := by
 obtain ⟨h1, h2⟩ := lo5_neg m h h0
 rw [← Int.zero_sub] at h1 h2
 have g1 : 0 ≤ lo5 (0 - (m : Int)) ∧ lo5 (0 - (m : Int)) ≤ 32 := by omega
 have g2 : 0 ≤ IntKind.wrap .u64 (32 - lo5 (0 - (m : Int))) ∧ IntKind.wrap .u64 (32 - lo5 (0 - (m : Int))) ≤ 32 := by omega
 exact T_al (bdRl_p x (0 - (m : Nat))) Tryz.func152 ⟨g1, g2, True.intro⟩
theorem rl_rr0 (x : Int) {n : Nat} (h0 : 0 < n) (h : n < 32) : rl32 x (0 - (n : Int)) = rr32 x n := by rw [Int.zero_sub]; exact rl_rr x h0 h
theorem T_tu (x : Int) {a b c : Nat} (ha : 0 < a ∧ a < 32) (hb : 0 < b ∧ b < 32) (hc : 0 < c ∧ c < 32) : T Tryz.prog 149 [.int .u32 x, .int .i64 (a : Nat), .int .i64 (b : Nat), .int .i64 (c : Nat)] [] (.int .u32 (s32 x a b c)) [] := by
 have h1 := T_rl x ha.1 ha.2
 have h2 := T_rl x hb.1 hb.2
 have h3 := T_rl x hc.1 hc.2
 obtain ⟨ha1, ha2⟩ := ha
 obtain ⟨hb1, hb2⟩ := hb
 obtain ⟨hc1, hc2⟩ := hc
 have h := T_along NG MO _ (bdTu_p x a b c) Tryz.func149 (by kernel_rfl) (by
  simp only [All]; and_intros
  all_goals first
   | exact True.intro
   | exact h1
   | exact h2
   | exact h3
   | (with_reducible assumption)
   | (rw [decide_eq_true_eq]; omega)
   | (rw [decide_eq_false_iff_not]; omega)
   | with_reducible rfl
   | (intro _ _; exact True.intro)
   | (intro _ _; with_reducible rfl)
   | (intro _ _; rfl)
   | (simp only [IntKind.min, IntKind.max, IntKind.signed, IntKind.bits, if_true]; omega)
   | omega
   | (intro h; exact h)
   | (intro h; cases h; done)
   | exact .inl rfl
   | exact .inl True.intro
   | exact .inr rfl
   | (simp; done)
  ) (pinH_ok (by kernel_rfl)) (by kernel_rfl)
 rw [rl_rr0 x ha1 ha2, rl_rr0 x hb1 hb2, rl_rr0 x hc1 hc2] at h
 exact h
theorem T_mi (x : Int) {a b c : Nat} (ha : 0 < a ∧ a < 32) (hb : 0 < b ∧ b < 32) (hc : c < 32) : T Tryz.prog 151 [.int .u32 x, .int .i64 (a : Nat), .int .i64 (b : Nat), .int .i64 (c : Nat)] [] (.int .u32 (m32 x a b c)) [] := by
 have h1 := T_rl x ha.1 ha.2
 have h2 := T_rl x hb.1 hb.2
 obtain ⟨ha1, ha2⟩ := ha
 obtain ⟨hb1, hb2⟩ := hb
 have h := T_along NG MO _ (bdMi_p x a b c) Tryz.func151 (by kernel_rfl) (by
  simp only [All]; and_intros
  all_goals first
   | exact True.intro
   | exact h1
   | exact h2
   | (with_reducible assumption)
   | (rw [decide_eq_true_eq]; omega)
   | (rw [decide_eq_false_iff_not]; omega)
   | with_reducible rfl
   | (intro _ _; exact True.intro)
   | (intro _ _; with_reducible rfl)
   | (intro _ _; rfl)
   | (simp only [IntKind.min, IntKind.max, IntKind.signed, IntKind.bits, if_true]; omega)
   | omega
   | (intro h; exact h)
   | (intro h; cases h; done)
   | exact .inl rfl
   | exact .inl True.intro
   | exact .inr rfl
   | (simp; done)
  ) (pinH_ok (by kernel_rfl)) (by kernel_rfl)
 rw [rl_rr0 x ha1 ha2, rl_rr0 x hb1 hb2] at h
 exact h
theorem T_kr {t : Nat} (h : t < 64) : T Tryz.prog 150 [.int .i64 (t : Nat)] [] (.int .u32 (kN t)) [] := by
 have h0 := T_along NG MO _ (bdKr_p t) Tryz.func150 (by kernel_rfl) (by
  simp only [All]; and_intros
  all_goals first
   | exact True.intro
   | (with_reducible assumption)
   | (rw [decide_eq_true_eq]; omega)
   | (rw [decide_eq_false_iff_not]; omega)
   | with_reducible rfl
   | (intro _ _; exact True.intro)
   | (intro _ _; with_reducible rfl)
   | (intro _ _; rfl)
   | (simp only [IntKind.min, IntKind.max, IntKind.signed, IntKind.bits, if_true]; omega)
   | omega
   | (intro h; exact h)
   | (intro h; cases h; done)
   | exact .inl rfl
   | exact .inl True.intro
   | exact .inr rfl
   | (simp; done)
  ) (pinH_ok (by kernel_rfl)) (by kernel_rfl)
 rw [Nat.zero_add, Int.toNat_natCast] at h0
 exact h0
theorem tn4 (i : Nat) : Int.toNat (4 * (i : Int)) = 4 * i ∧ Int.toNat (4 * (i : Int) + 1) = 4 * i + 1 ∧ Int.toNat (4 * (i : Int) + 2) = 4 * i + 2 ∧ Int.toNat (4 * (i : Int) + 3) = 4 * i + 3 := by omega
theorem tn16 (k : Nat) : Int.toNat (((16 + k : Nat) : Int) - 16) = k ∧ Int.toNat (((16 + k : Nat) : Int) - 15) = k + 1 ∧ Int.toNat (((16 + k : Nat) : Int) - 7) = k + 9 ∧ Int.toNat (((16 + k : Nat) : Int) - 2) = k + 14 := by omega
theorem T_wtK (b : List Int) : T Tryz.prog 148 [.agg [.seg .u8 64 b]] [] (.agg [.seg .u32 64 (wB b 48)]) [] := by
 have hA : RLoop Tryz.prog none 0 (cB (cB (cR (cL (cR (bodyOf Tryz.f148)))))) (16 + 1) (wtI b (wA b 0) 0) (.exit 0) (wtI b (wA b 16) 16) := by
  have hstep : ∀ i, i < 16 → R Tryz.prog none 0 (cB (cB (cR (cL (cR (bodyOf Tryz.f148)))))) (wtI b (wA b i) i) .normal (wtI b (wA b (i + 1)) (i + 1)) := by
   intro i hi
   obtain ⟨e0, e1, e2, e3⟩ := tn4 i
   refine R_alongPc NG MO _ (pcWi_p1 b (wA b i) i (wA b (i + 1))) ?_ (Nat.zero_le _)
   simp only [All, e0, e1, e2, e3, Nat.zero_add, Int.toNat_natCast]; and_intros
   all_goals first
    | exact True.intro
    | rfl
    | (with_reducible assumption)
    | (rw [decide_eq_true_eq]; omega)
    | (rw [decide_eq_false_iff_not]; omega)
    | with_reducible rfl
    | (intro _ _; exact True.intro)
    | (intro _ _; with_reducible rfl)
    | (intro _ _; rfl)
    | (simp only [IntKind.min, IntKind.max, IntKind.signed, IntKind.bits, if_true]; omega)
    | omega
    | (intro h; exact h)
    | (intro h; cases h; done)
    | exact .inl rfl
    | exact .inl True.intro
    | exact .inr rfl
    | (simp; done)
  have hend : R Tryz.prog none 0 (cB (cB (cR (cL (cR (bodyOf Tryz.f148)))))) (wtI b (wA b 16) 16) (.exit 0) (wtI b (wA b 16) 16) := by
   refine R_alongPc NG MO _ (pcWi_p0 b (wA b 16) 16 []) ?_ (Nat.zero_le _)
   simp only [All]; and_intros
   all_goals first
    | exact True.intro
    | (with_reducible assumption)
    | (rw [decide_eq_true_eq]; omega)
    | (rw [decide_eq_false_iff_not]; omega)
    | with_reducible rfl
    | (intro _ _; exact True.intro)
    | (intro _ _; with_reducible rfl)
    | (intro _ _; rfl)
    | (simp only [IntKind.min, IntKind.max, IntKind.signed, IntKind.bits, if_true]; omega)
    | omega
    | (intro h; exact h)
    | (intro h; cases h; done)
    | exact .inl rfl
    | exact .inl True.intro
    | exact .inr rfl
    | (simp; done)
  exact RLoop.inv (fun i => wtI b (wA b i) i) 16 hstep hend (by simp)
 have hB : RLoop Tryz.prog none 0 (cB (cB (cR (cL (cR (cR (cR (bodyOf Tryz.f148)))))))) (48 + 1) (wtJ b (wB b 0) 0) (.exit 2) (wtJ b (wB b 48) 48) := by
  have hstep : ∀ k, k < 48 → R Tryz.prog none 0 (cB (cB (cR (cL (cR (cR (cR (bodyOf Tryz.f148)))))))) (wtJ b (wB b k) k) .normal (wtJ b (wB b (k + 1)) (k + 1)) := by
   intro k hk
   obtain ⟨e0, e1, e2, e3⟩ := tn16 k
   have h1 := T_mi ((wB b k).getD (k + 1) 0) (a := 7) (b := 18) (c := 3) (by decide) (by decide) (by decide)
   have h2 := T_mi ((wB b k).getD (k + 14) 0) (a := 17) (b := 19) (c := 10) (by decide) (by decide) (by decide)
   refine R_alongPc NG MO _ (pcWj_p1 b (wB b k) k (wB b (k + 1))) ?_ (Nat.zero_le _)
   simp only [All, e0, e1, e2, e3, Nat.zero_add, Int.toNat_natCast]; and_intros
   all_goals first
    | exact True.intro
    | exact h1
    | exact h2
    | rfl
    | (with_reducible assumption)
    | (rw [decide_eq_true_eq]; omega)
    | (rw [decide_eq_false_iff_not]; omega)
    | with_reducible rfl
    | (intro _ _; exact True.intro)
    | (intro _ _; with_reducible rfl)
    | (intro _ _; rfl)
    | (simp only [IntKind.min, IntKind.max, IntKind.signed, IntKind.bits, if_true]; omega)
    | omega
    | (intro h; exact h)
    | (intro h; cases h; done)
    | exact .inl rfl
    | exact .inl True.intro
    | exact .inr rfl
    | (simp; done)
  have hend : R Tryz.prog none 0 (cB (cB (cR (cL (cR (cR (cR (bodyOf Tryz.f148)))))))) (wtJ b (wB b 48) 48) (.exit 2) (wtJ b (wB b 48) 48) := by
   refine R_alongPc NG MO _ (pcWj_p0 b (wB b 48) 48 []) ?_ (Nat.zero_le _)
   simp only [All]; and_intros
   all_goals first
    | exact True.intro
    | (with_reducible assumption)
    | (rw [decide_eq_true_eq]; omega)
    | (rw [decide_eq_false_iff_not]; omega)
    | with_reducible rfl
    | (intro _ _; exact True.intro)
    | (intro _ _; with_reducible rfl)
    | (intro _ _; rfl)
    | (simp only [IntKind.min, IntKind.max, IntKind.signed, IntKind.bits, if_true]; omega)
    | omega
    | (intro h; exact h)
    | (intro h; cases h; done)
    | exact .inl rfl
    | exact .inl True.intro
    | exact .inr rfl
    | (simp; done)
  exact RLoop.inv (fun k => wtJ b (wB b k) k) 48 hstep hend (by simp)
 refine T_al (bdWtK_p b (wA b 16) (wB b 48)) Tryz.func148 ?_
 simp only [All]; and_intros
 all_goals first
  | exact True.intro
  | exact hA
  | exact hB
  | (with_reducible assumption)
  | (rw [decide_eq_true_eq]; omega)
  | (rw [decide_eq_false_iff_not]; omega)
  | with_reducible rfl
  | (intro _ _; exact True.intro)
  | (intro _ _; with_reducible rfl)
  | (intro _ _; rfl)
  | (simp only [IntKind.min, IntKind.max, IntKind.signed, IntKind.bits, if_true]; omega)
  | omega
  | (intro h; exact h)
  | (intro h; cases h; done)
  | exact .inl rfl
  | exact .inl True.intro
  | exact .inr rfl
  | (simp; done)
end Go.Proofs.YtnmccoincblecaaGreat
namespace Go.Proofs.YtnmccoincblecaaGreat
open Go Sy Go.Proofs
def stB (H W : List Int) (n : Int) : B := .flat [.seg .u32 8 H, .seg .u8 64 W, .int .i64 n]
def rb (l : List Int) : V := .ros 1 l.length (ib l) false
def z32L : List Int := List.replicate 32 0
def p0K (m : Nat) : V := .ptr (.o m) 0 0 0 0
def tuDb : List V → Heap → Nat → List Cl := fun l _ _ => match l with
 | [.int _ x, .int _ a, .int _ b, .int _ c] => [{ val := .int .u32 (s32 x a b c) }]
 | _ => []
def krDb : List V → Heap → Nat → List Cl := fun l _ _ => match l with
 | [.int _ t] => [{ val := .int .u32 (kN t.toNat) }]
 | _ => []
def bkI (H W : List Int) (n : Int) (w : List Int) (s : S8) (t : Nat) : St := ⟨mkT 136 [(0, p0K 0), (2, p0K 1), (3, .int .u32 s.a), (4, .int .u32 s.b), (5, .int .u32 s.c), (6, .int .u32 s.d), (7, .int .u32 s.e), (8, .int .u32 s.f), (9, .int .u32 s.g), (10, .int .u32 s.h), (61, .int .i64 (t : Nat))], [(.o 0, stB H W n), (.o 1, .flat [.seg .u32 64 w])], 2, []⟩
def bkJ (H W : List Int) (n : Int) (l : List Int) (i : Nat) : St := ⟨mkT 136 [(0, p0K 0), (119, .agg [.seg .u32 8 l]), (120, .int .i64 (i : Nat))], [(.o 0, stB H W n)], 2, []⟩
noncomputable def bdBkK (H W : List Int) (n : Int) (w : List Int) (s : S8) (H2 : List Int) : Bd := { f := Tryz.f138, args := [p0K 0], pre := [(.o 0, stB H W n)], base := 1, kb := { db := dbQ [(148, cVal (.agg [.seg .u32 64 w]))], lp := fun id t => bif Nat.beq id 0 then [(True, .loop (64 + 1) (wToS [(.o 1, nmV (getV t.tmps 2))] (bkI H W n w (S8.of H) 0)) (.exit 0) (bkI H W n w s 64))] else [(True, .loop (8 + 1) (wTo (bkJ H W n s.l 0)) (.exit 2) (bkJ H2 W n s.l 8))] }, names := fun _ => [.o 0] }
noncomputable def pcBi (H W : List Int) (n : Int) (w : List Int) (s : S8) (t : Nat) (s2 : S8) : Pc := { c := cB (cB (cR (cL (cR (cR (bodyOf Tryz.f138)))))), st := bkI H W n w s t, p := 1, kb := { db := dbQ [(149, tuDb), (150, krDb)] }, k := fun x_ _ => match x_ with
 | .normal => some (wTo (bkI H W n w s2 (t + 1)))
 | _ => some (wTo (bkI H W n w s 64)) }
noncomputable def pcBj (H W : List Int) (n : Int) (l : List Int) (i : Nat) (H2 : List Int) : Pc := { c := cB (cB (cR (cR (cR (cR (bodyOf Tryz.f138)))))), st := bkJ H W n l i, p := 1, kb := kb0, k := fun x_ _ => match x_ with
 | .normal => some (wTo (bkJ H2 W n l (i + 1)))
 | _ => some (wTo (bkJ H W n l 8)) }
end Go.Proofs.YtnmccoincblecaaGreat
namespace Go.Proofs.YtnmccoincblecaaGreat
open Go Sy Go.Proofs
theorem bdBkK_p (H : List Int) (W : List Int) (n : Int) (w : List Int) (s : S8) (H2 : List Int) :
  along Tryz.prog (bdBkK H W n w s H2) [] = (some (.tup [], [(.o 0, .flat [.seg .u32 8 H2, .seg .u8 64 W, .int .i64 n])], [T Tryz.prog 148 [.agg [.seg .u8 64 W]] [] (.agg [.seg .u32 64 w]) [], (0 : Int) ≤ (0 : Int) ∧ (0 : Int) < (8 : Int), nat_lit 0 < (8 : Nat), (0 : Int) ≤ (1 : Int) ∧ (1 : Int) < (8 : Int), nat_lit 1 < (8 : Nat), (0 : Int) ≤ (2 : Int) ∧ (2 : Int) < (8 : Int), nat_lit 2 < (8 : Nat), (0 : Int) ≤ (3 : Int) ∧ (3 : Int) < (8 : Int), nat_lit 3 < (8 : Nat), (0 : Int) ≤ (4 : Int) ∧ (4 : Int) < (8 : Int), nat_lit 4 < (8 : Nat), (0 : Int) ≤ (5 : Int) ∧ (5 : Int) < (8 : Int), nat_lit 5 < (8 : Nat), (0 : Int) ≤ (6 : Int) ∧ (6 : Int) < (8 : Int), nat_lit 6 < (8 : Nat), (0 : Int) ≤ (7 : Int) ∧ (7 : Int) < (8 : Int), nat_lit 7 < (8 : Nat), RLoop Tryz.prog none 1 (cB (cB (cR (cL (cR (cR (bodyOf (Bd.f (bdBkK H W n w s H2))))))))) 65 (St.mk [.ptr (.o 0) 0 0 0 0, .any, .ptr (.o 1) 0 0 0 0, .int .u32 (List.getD H 0 (0 : Int)), .int .u32 (List.getD H 1 (0 : Int)), .int .u32 (List.getD H 2 (0 : Int)), .int .u32 (List.getD H 3 (0 : Int)), .int .u32 (List.getD H 4 (0 : Int)), .int .u32 (List.getD H 5 (0 : Int)), .int .u32 (List.getD H 6 (0 : Int)), .int .u32 (List.getD H 7 (0 : Int)), .any, .any, .any, .any, .any, .any, .any, .any, .any, .any, .any, .any, .any, .any, .any, .any, .any, .any, .any, .any, .any, .any, .any, .any, .any, .any, .any, .any, .any, .any, .any, .any, .any, .any, .any, .any, .any, .any, .any, .any, .any, .any, .any, .any, .any, .any, .any, .any, .any, .any, .int .i64 0, .any, .any, .any, .any, .any, .any, .any, .any, .any, .any, .any, .any, .any, .any, .any, .any, .any, .any, .any, .any, .any, .any, .any, .any, .any, .any, .any, .any, .any, .any, .any, .any, .any, .any, .any, .any, .any, .any, .any, .any, .any, .any, .any, .any, .any, .any, .any, .any, .any, .any, .any, .any, .any, .any, .any, .any, .any, .any, .any, .any, .any, .any, .any, .any, .any, .any, .any, .any, .any, .any, .any, .any, .any, .any] [(.o 0, .flat [.seg .u32 8 H, .seg .u8 64 W, .int .i64 n]), (.o 1, .flat [.seg .u32 64 w])] 2 []) (.exit 0) (St.mk [.ptr (.o 0) 0 0 0 0, .any, .ptr (.o 1) 0 0 0 0, .int .u32 (S8.a s), .int .u32 (S8.b s), .int .u32 (S8.c s), .int .u32 (S8.d s), .int .u32 (S8.e s), .int .u32 (S8.f s), .int .u32 (S8.g s), .int .u32 (S8.h s), .any, .any, .any, .any, .any, .any, .any, .any, .any, .any, .any, .any, .any, .any, .any, .any, .any, .any, .any, .any, .any, .any, .any, .any, .any, .any, .any, .any, .any, .any, .any, .any, .any, .any, .any, .any, .any, .any, .any, .any, .any, .any, .any, .any, .any, .any, .any, .any, .any, .any, .int .i64 64, .any, .any, .any, .any, .any, .any, .any, .any, .any, .any, .any, .any, .any, .any, .any, .any, .any, .any, .any, .any, .any, .any, .any, .any, .any, .any, .any, .any, .any, .any, .any, .any, .any, .any, .any, .any, .any, .any, .any, .any, .any, .any, .any, .any, .any, .any, .any, .any, .any, .any, .any, .any, .any, .any, .any, .any, .any, .any, .any, .any, .any, .any, .any, .any, .any, .any, .any, .any, .any, .any, .any, .any, .any, .any] [(.o 0, .flat [.seg .u32 8 H, .seg .u8 64 W, .int .i64 n]), (.o 1, .flat [.seg .u32 64 w])] 2 []), q (8 : Nat), q H, q (64 : Nat), q W, q n, q (64 : Nat), q w, q0, q0, q0, q0, q0, q0, List.getD H (nat_lit 0) (0 : Int) = List.getD H (0 : Nat) (0 : Int), List.getD H (nat_lit 1) (0 : Int) = List.getD H (1 : Nat) (0 : Int), List.getD H (nat_lit 2) (0 : Int) = List.getD H (2 : Nat) (0 : Int), List.getD H (nat_lit 3) (0 : Int) = List.getD H (3 : Nat) (0 : Int), List.getD H (nat_lit 4) (0 : Int) = List.getD H (4 : Nat) (0 : Int), List.getD H (nat_lit 5) (0 : Int) = List.getD H (5 : Nat) (0 : Int), List.getD H (nat_lit 6) (0 : Int) = List.getD H (6 : Nat) (0 : Int), List.getD H (nat_lit 7) (0 : Int) = List.getD H (7 : Nat) (0 : Int), q1, RLoop Tryz.prog none 1 (cB (cB (cR (cR (cR (cR (bodyOf (Bd.f (bdBkK H W n w s H2))))))))) 9 (St.mk [.ptr (.o 0) 0 0 0 0, .any, .any, .any, .any, .any, .any, .any, .any, .any, .any, .any, .any, .any, .any, .any, .any, .any, .any, .any, .any, .any, .any, .any, .any, .any, .any, .any, .any, .any, .any, .any, .any, .any, .any, .any, .any, .any, .any, .any, .any, .any, .any, .any, .any, .any, .any, .any, .any, .any, .any, .any, .any, .any, .any, .any, .any, .any, .any, .any, .any, .any, .any, .any, .any, .any, .any, .any, .any, .any, .any, .any, .any, .any, .any, .any, .any, .any, .any, .any, .any, .any, .any, .any, .any, .any, .any, .any, .any, .any, .any, .any, .any, .any, .any, .any, .any, .any, .any, .any, .any, .any, .any, .any, .any, .any, .any, .any, .any, .any, .any, .any, .any, .any, .any, .any, .any, .any, .any, .agg [.seg .u32 8 [S8.a s, S8.b s, S8.c s, S8.d s, S8.e s, S8.f s, S8.g s, S8.h s]], .int .i64 0, .any, .any, .any, .any, .any, .any, .any, .any, .any, .any, .any, .any, .any, .any, .any] [(.o 0, .flat [.seg .u32 8 H, .seg .u8 64 W, .int .i64 n])] 2 []) (.exit 2) (St.mk [.ptr (.o 0) 0 0 0 0, .any, .any, .any, .any, .any, .any, .any, .any, .any, .any, .any, .any, .any, .any, .any, .any, .any, .any, .any, .any, .any, .any, .any, .any, .any, .any, .any, .any, .any, .any, .any, .any, .any, .any, .any, .any, .any, .any, .any, .any, .any, .any, .any, .any, .any, .any, .any, .any, .any, .any, .any, .any, .any, .any, .any, .any, .any, .any, .any, .any, .any, .any, .any, .any, .any, .any, .any, .any, .any, .any, .any, .any, .any, .any, .any, .any, .any, .any, .any, .any, .any, .any, .any, .any, .any, .any, .any, .any, .any, .any, .any, .any, .any, .any, .any, .any, .any, .any, .any, .any, .any, .any, .any, .any, .any, .any, .any, .any, .any, .any, .any, .any, .any, .any, .any, .any, .any, .any, .agg [.seg .u32 8 [S8.a s, S8.b s, S8.c s, S8.d s, S8.e s, S8.f s, S8.g s, S8.h s]], .int .i64 8, .any, .any, .any, .any, .any, .any, .any, .any, .any, .any, .any, .any, .any, .any, .any] [(.o 0, .flat [.seg .u32 8 H2, .seg .u8 64 W, .int .i64 n])] 2 []), q (8 : Nat), q H, q (64 : Nat), q W, q n, q0, q0, q0, q (8 : Nat), q ([S8.a s, S8.b s, S8.c s, S8.d s, S8.e s, S8.f s, S8.g s, S8.h s]), q1]) : Option (V × Heap × List Prop)) := by kernel_rfl

theorem pcBi_p1 (H : List Int) (W : List Int) (n : Int) (w : List Int) (s : S8) (t : Nat) (s2 : S8) :
  alongPc Tryz.prog (pcBi H W n w s t s2) [true] = (some (.normal, St.mk [.ptr (.o 0) 0 0 0 0, .any, .ptr (.o 1) 0 0 0 0, .int .u32 (S8.a s2), .int .u32 (S8.b s2), .int .u32 (S8.c s2), .int .u32 (S8.d s2), .int .u32 (S8.e s2), .int .u32 (S8.f s2), .int .u32 (S8.g s2), .int .u32 (S8.h s2), .any, .any, .any, .any, .any, .any, .any, .any, .any, .any, .any, .any, .any, .any, .any, .any, .any, .any, .any, .any, .any, .any, .any, .any, .any, .any, .any, .any, .any, .any, .any, .any, .any, .any, .any, .any, .any, .any, .any, .any, .any, .any, .any, .any, .any, .any, .any, .any, .any, .any, .int .i64 (↑(t + 1) : Int), .any, .any, .any, .any, .any, .any, .any, .any, .any, .any, .any, .any, .any, .any, .any, .any, .any, .any, .any, .any, .any, .any, .any, .any, .any, .any, .any, .any, .any, .any, .any, .any, .any, .any, .any, .any, .any, .any, .any, .any, .any, .any, .any, .any, .any, .any, .any, .any, .any, .any, .any, .any, .any, .any, .any, .any, .any, .any, .any, .any, .any, .any, .any, .any, .any, .any, .any, .any, .any, .any, .any, .any, .any, .any] [(.o 0, .flat [.seg .u32 8 H, .seg .u8 64 W, .int .i64 n]), (.o 1, .flat [.seg .u32 64 w])] 2 [], [decide ((↑t : Int) < (64 : Int)) = true, T Tryz.prog 149 [.int .u32 (S8.e s), .int .i64 6, .int .i64 11, .int .i64 25] [] (.int .u32 (s32 (S8.e s) (6 : Int) (11 : Int) (25 : Int))) [], T Tryz.prog 150 [.int .i64 ↑t] [] (.int .u32 (kN (Int.toNat (↑t : Int)))) [], (0 : Int) ≤ (↑t : Int) ∧ (↑t : Int) < (64 : Int), (0 : Nat) + Int.toNat (↑t : Int) < (64 : Nat), T Tryz.prog 149 [.int .u32 (S8.a s), .int .i64 2, .int .i64 13, .int .i64 22] [] (.int .u32 (s32 (S8.a s) (2 : Int) (13 : Int) (22 : Int))) [], InR IntKind.i64 ((↑t : Int) + (1 : Int)), q (8 : Nat), q H, q (64 : Nat), q W, q n, q (64 : Nat), q w, q0, q0, q0, q0, q0, q0, IntKind.wrap IntKind.u32 (IntKind.wrap IntKind.u32 (IntKind.wrap IntKind.u32 (IntKind.wrap IntKind.u32 (IntKind.wrap IntKind.u32 (S8.h s + s32 (S8.e s) (6 : Int) (11 : Int) (25 : Int)) + ibits (fun x x_1 y => x_1 ^^^ y) IntKind.u32 (ibits (fun x x_1 y => x_1 &&& y) IntKind.u32 (S8.e s) (S8.f s)) (ibits (fun x x_1 y => x_1 &&& y) IntKind.u32 (ibits (fun x x_1 y => x_1 ^^^ y) IntKind.u32 (4294967295 : Int) (S8.e s)) (S8.g s))) + kN (Int.toNat (↑t : Int))) + List.getD w ((0 : Nat) + Int.toNat (↑t : Int)) (0 : Int)) + IntKind.wrap IntKind.u32 (s32 (S8.a s) (2 : Int) (13 : Int) (22 : Int) + ibits (fun x x_1 y => x_1 ^^^ y) IntKind.u32 (ibits (fun x x_1 y => x_1 ^^^ y) IntKind.u32 (ibits (fun x x_1 y => x_1 &&& y) IntKind.u32 (S8.a s) (S8.b s)) (ibits (fun x x_1 y => x_1 &&& y) IntKind.u32 (S8.a s) (S8.c s))) (ibits (fun x x_1 y => x_1 &&& y) IntKind.u32 (S8.b s) (S8.c s)))) = S8.a s2, S8.a s = S8.b s2, S8.b s = S8.c s2, S8.c s = S8.d s2, IntKind.wrap IntKind.u32 (S8.d s + IntKind.wrap IntKind.u32 (IntKind.wrap IntKind.u32 (IntKind.wrap IntKind.u32 (IntKind.wrap IntKind.u32 (S8.h s + s32 (S8.e s) (6 : Int) (11 : Int) (25 : Int)) + ibits (fun x x_1 y => x_1 ^^^ y) IntKind.u32 (ibits (fun x x_1 y => x_1 &&& y) IntKind.u32 (S8.e s) (S8.f s)) (ibits (fun x x_1 y => x_1 &&& y) IntKind.u32 (ibits (fun x x_1 y => x_1 ^^^ y) IntKind.u32 (4294967295 : Int) (S8.e s)) (S8.g s))) + kN (Int.toNat (↑t : Int))) + List.getD w ((0 : Nat) + Int.toNat (↑t : Int)) (0 : Int))) = S8.e s2, S8.e s = S8.f s2, S8.f s = S8.g s2, S8.g s = S8.h s2, (↑t : Int) + (1 : Int) = (↑(t + (1 : Nat)) : Int)]) : Option (Exit × St × List Prop)) := by kernel_rfl
theorem pcBi_p0 (H : List Int) (W : List Int) (n : Int) (w : List Int) (s : S8) (t : Nat) (s2 : S8) :
  alongPc Tryz.prog (pcBi H W n w s t s2) [false] = (some (.exit 0, St.mk [.ptr (.o 0) 0 0 0 0, .any, .ptr (.o 1) 0 0 0 0, .int .u32 (S8.a s), .int .u32 (S8.b s), .int .u32 (S8.c s), .int .u32 (S8.d s), .int .u32 (S8.e s), .int .u32 (S8.f s), .int .u32 (S8.g s), .int .u32 (S8.h s), .any, .any, .any, .any, .any, .any, .any, .any, .any, .any, .any, .any, .any, .any, .any, .any, .any, .any, .any, .any, .any, .any, .any, .any, .any, .any, .any, .any, .any, .any, .any, .any, .any, .any, .any, .any, .any, .any, .any, .any, .any, .any, .any, .any, .any, .any, .any, .any, .any, .any, .int .i64 64, .any, .any, .any, .any, .any, .any, .any, .any, .any, .any, .any, .any, .any, .any, .any, .any, .any, .any, .any, .any, .any, .any, .any, .any, .any, .any, .any, .any, .any, .any, .any, .any, .any, .any, .any, .any, .any, .any, .any, .any, .any, .any, .any, .any, .any, .any, .any, .any, .any, .any, .any, .any, .any, .any, .any, .any, .any, .any, .any, .any, .any, .any, .any, .any, .any, .any, .any, .any, .any, .any, .any, .any, .any, .any] [(.o 0, .flat [.seg .u32 8 H, .seg .u8 64 W, .int .i64 n]), (.o 1, .flat [.seg .u32 64 w])] 2 [], [decide ((↑t : Int) < (64 : Int)) = false, q (8 : Nat), q H, q (64 : Nat), q W, q n, q (64 : Nat), q w, q0, q0, q0, q0, q0, q0, q (S8.a s), q (S8.b s), q (S8.c s), q (S8.d s), q (S8.e s), q (S8.f s), q (S8.g s), q (S8.h s), (↑t : Int) = (64 : Int)]) : Option (Exit × St × List Prop)) := by kernel_rfl

theorem pcBj_p1 (H : List Int) (W : List Int) (n : Int) (l : List Int) (i : Nat) (H2 : List Int) :
  alongPc Tryz.prog (pcBj H W n l i H2) [true] = (some (.normal, St.mk [.ptr (.o 0) 0 0 0 0, .any, .any, .any, .any, .any, .any, .any, .any, .any, .any, .any, .any, .any, .any, .any, .any, .any, .any, .any, .any, .any, .any, .any, .any, .any, .any, .any, .any, .any, .any, .any, .any, .any, .any, .any, .any, .any, .any, .any, .any, .any, .any, .any, .any, .any, .any, .any, .any, .any, .any, .any, .any, .any, .any, .any, .any, .any, .any, .any, .any, .any, .any, .any, .any, .any, .any, .any, .any, .any, .any, .any, .any, .any, .any, .any, .any, .any, .any, .any, .any, .any, .any, .any, .any, .any, .any, .any, .any, .any, .any, .any, .any, .any, .any, .any, .any, .any, .any, .any, .any, .any, .any, .any, .any, .any, .any, .any, .any, .any, .any, .any, .any, .any, .any, .any, .any, .any, .any, .agg [.seg .u32 8 l], .int .i64 (↑(i + 1) : Int), .any, .any, .any, .any, .any, .any, .any, .any, .any, .any, .any, .any, .any, .any, .any] [(.o 0, .flat [.seg .u32 8 H2, .seg .u8 64 W, .int .i64 n])] 2 [], [decide ((↑i : Int) < (8 : Int)) = true, (0 : Int) ≤ (↑i : Int) ∧ (↑i : Int) < (8 : Int) ∧ (↑i : Int) < (8 : Int), (0 : Int) ≤ (↑i : Int) ∧ (↑i : Int) < (8 : Int), (0 : Nat) + Int.toNat (↑i : Int) < (8 : Nat), (0 : Int) ≤ (↑i : Int) ∧ (↑i : Int) < (8 : Int), (0 : Nat) + Int.toNat (↑i : Int) < (8 : Nat), InR IntKind.i64 ((↑i : Int) + (1 : Int)), q (8 : Nat), List.set H ((0 : Nat) + Int.toNat (↑i : Int)) (IntKind.wrap IntKind.u32 (List.getD H ((0 : Nat) + Int.toNat (↑i : Int)) (0 : Int) + List.getD l (Int.toNat (↑i : Int)) (0 : Int))) = H2, q (64 : Nat), q W, q n, q0, q0, q0, q (8 : Nat), q l, (↑i : Int) + (1 : Int) = (↑(i + (1 : Nat)) : Int)]) : Option (Exit × St × List Prop)) := by kernel_rfl
theorem pcBj_p0 (H : List Int) (W : List Int) (n : Int) (l : List Int) (i : Nat) (H2 : List Int) :
  alongPc Tryz.prog (pcBj H W n l i H2) [false] = (some (.exit 2, St.mk [.ptr (.o 0) 0 0 0 0, .any, .any, .any, .any, .any, .any, .any, .any, .any, .any, .any, .any, .any, .any, .any, .any, .any, .any, .any, .any, .any, .any, .any, .any, .any, .any, .any, .any, .any, .any, .any, .any, .any, .any, .any, .any, .any, .any, .any, .any, .any, .any, .any, .any, .any, .any, .any, .any, .any, .any, .any, .any, .any, .any, .any, .any, .any, .any, .any, .any, .any, .any, .any, .any, .any, .any, .any, .any, .any, .any, .any, .any, .any, .any, .any, .any, .any, .any, .any, .any, .any, .any, .any, .any, .any, .any, .any, .any, .any, .any, .any, .any, .any, .any, .any, .any, .any, .any, .any, .any, .any, .any, .any, .any, .any, .any, .any, .any, .any, .any, .any, .any, .any, .any, .any, .any, .any, .any, .agg [.seg .u32 8 l], .int .i64 8, .any, .any, .any, .any, .any, .any, .any, .any, .any, .any, .any, .any, .any, .any, .any] [(.o 0, .flat [.seg .u32 8 H, .seg .u8 64 W, .int .i64 n])] 2 [], [decide ((↑i : Int) < (8 : Int)) = false, q (8 : Nat), q H, q (64 : Nat), q W, q n, q0, q0, q0, q (8 : Nat), q l, (↑i : Int) = (8 : Int)]) : Option (Exit × St × List Prop)) := by kernel_rfl

theorem T_bk (H W : List Int) (n : Int) : T Tryz.prog 138 [p0K 0] [(.o 0, stB H W n)] (.tup []) [(.o 0, stB (blk H W) W n)] := by
 have hA : ∀ w, RLoop Tryz.prog none 1 (cB (cB (cR (cL (cR (cR (bodyOf Tryz.f138))))))) (64 + 1) (bkI H W n w (rnd w (S8.of H) 0) 0) (.exit 0) (bkI H W n w (rnd w (S8.of H) 64) 64) := by
  intro w
  have hstep : ∀ t, t < 64 → R Tryz.prog none 1 (cB (cB (cR (cL (cR (cR (bodyOf Tryz.f138))))))) (bkI H W n w (rnd w (S8.of H) t) t) .normal (bkI H W n w (rnd w (S8.of H) (t + 1)) (t + 1)) := by
   intro t ht
   have h1 := T_tu (rnd w (S8.of H) t).e (a := 6) (b := 11) (c := 25) (by decide) (by decide) (by decide)
   have h2 := T_tu (rnd w (S8.of H) t).a (a := 2) (b := 13) (c := 22) (by decide) (by decide) (by decide)
   have h3 := T_kr ht
   refine R_alongPc NG MO _ (pcBi_p1 H W n w (rnd w (S8.of H) t) t (rnd w (S8.of H) (t + 1))) ?_ (by show 1 ≤ 2; decide)
   simp only [All, Nat.zero_add, Int.toNat_natCast]; and_intros
   all_goals first
    | exact True.intro
    | exact h1
    | exact h2
    | exact h3
    | rfl
    | (with_reducible assumption)
    | (rw [decide_eq_true_eq]; omega)
    | (rw [decide_eq_false_iff_not]; omega)
    | with_reducible rfl
    | (intro _ _; exact True.intro)
    | (intro _ _; with_reducible rfl)
    | (intro _ _; rfl)
    | (simp only [IntKind.min, IntKind.max, IntKind.signed, IntKind.bits, if_true]; omega)
    | omega
    | (intro h; exact h)
    | (intro h; cases h; done)
    | exact .inl rfl
    | exact .inl True.intro
    | exact .inr rfl
    | (simp; done)
  have hend : R Tryz.prog none 1 (cB (cB (cR (cL (cR (cR (bodyOf Tryz.f138))))))) (bkI H W n w (rnd w (S8.of H) 64) 64) (.exit 0) (bkI H W n w (rnd w (S8.of H) 64) 64) := by
   refine R_alongPc NG MO _ (pcBi_p0 H W n w (rnd w (S8.of H) 64) 64 ⟨0, 0, 0, 0, 0, 0, 0, 0⟩) ?_ (by show 1 ≤ 2; decide)
   simp only [All]; and_intros
   all_goals first
    | exact True.intro
    | (with_reducible assumption)
    | (rw [decide_eq_true_eq]; omega)
    | (rw [decide_eq_false_iff_not]; omega)
    | with_reducible rfl
    | (intro _ _; exact True.intro)
    | (intro _ _; with_reducible rfl)
    | (intro _ _; rfl)
    | (simp only [IntKind.min, IntKind.max, IntKind.signed, IntKind.bits, if_true]; omega)
    | omega
    | (intro h; exact h)
    | (intro h; cases h; done)
    | exact .inl rfl
    | exact .inl True.intro
    | exact .inr rfl
    | (simp; done)
  exact RLoop.inv (fun t => bkI H W n w (rnd w (S8.of H) t) t) 64 hstep hend (by simp)
 have hB : ∀ l, RLoop Tryz.prog none 1 (cB (cB (cR (cR (cR (cR (bodyOf Tryz.f138))))))) (8 + 1) (bkJ (hF H l 0) W n l 0) (.exit 2) (bkJ (hF H l 8) W n l 8) := by
  intro l
  have hstep : ∀ i, i < 8 → R Tryz.prog none 1 (cB (cB (cR (cR (cR (cR (bodyOf Tryz.f138))))))) (bkJ (hF H l i) W n l i) .normal (bkJ (hF H l (i + 1)) W n l (i + 1)) := by
   intro i hi
   refine R_alongPc NG MO _ (pcBj_p1 (hF H l i) W n l i (hF H l (i + 1))) ?_ (by show 1 ≤ 2; decide)
   simp only [All, Nat.zero_add, Int.toNat_natCast]; and_intros
   all_goals first
    | exact True.intro
    | rfl
    | (with_reducible assumption)
    | (rw [decide_eq_true_eq]; omega)
    | (rw [decide_eq_false_iff_not]; omega)
    | with_reducible rfl
    | (intro _ _; exact True.intro)
    | (intro _ _; with_reducible rfl)
    | (intro _ _; rfl)
    | (simp only [IntKind.min, IntKind.max, IntKind.signed, IntKind.bits, if_true]; omega)
    | omega
    | (intro h; exact h)
    | (intro h; cases h; done)
    | exact .inl rfl
    | exact .inl True.intro
    | exact .inr rfl
    | (simp; done)
  have hend : R Tryz.prog none 1 (cB (cB (cR (cR (cR (cR (bodyOf Tryz.f138))))))) (bkJ (hF H l 8) W n l 8) (.exit 2) (bkJ (hF H l 8) W n l 8) := by
   refine R_alongPc NG MO _ (pcBj_p0 (hF H l 8) W n l 8 []) ?_ (by show 1 ≤ 2; decide)
   simp only [All]; and_intros
   all_goals first
    | exact True.intro
    | (with_reducible assumption)
    | (rw [decide_eq_true_eq]; omega)
    | (rw [decide_eq_false_iff_not]; omega)
    | with_reducible rfl
    | (intro _ _; exact True.intro)
    | (intro _ _; with_reducible rfl)
    | (intro _ _; rfl)
    | (simp only [IntKind.min, IntKind.max, IntKind.signed, IntKind.bits, if_true]; omega)
    | omega
    | (intro h; exact h)
    | (intro h; cases h; done)
    | exact .inl rfl
    | exact .inl True.intro
    | exact .inr rfl
    | (simp; done)
  exact RLoop.inv (fun i => bkJ (hF H l i) W n l i) 8 hstep hend (by simp)
 have h1 := T_wtK W
 have hA1 := hA (wB W 48)
 have hB1 := hB (rnd (wB W 48) (S8.of H) 64).l
 generalize hw : wB W 48 = w at h1 hA1 hB1
 generalize hs : rnd w (S8.of H) 64 = s at hA1 hB1
 have hb : hF H s.l 8 = blk H W := by rw [blk, hw, hs]
 rw [hb] at hB1
 refine T_al (bdBkK_p H W n w s (blk H W)) Tryz.func138 ?_
 simp only [All]; and_intros
 all_goals first
  | exact True.intro
  | exact h1
  | exact hA1
  | exact hB1
  | (with_reducible assumption)
  | (rw [decide_eq_true_eq]; omega)
  | (rw [decide_eq_false_iff_not]; omega)
  | with_reducible rfl
  | (intro _ _; exact True.intro)
  | (intro _ _; with_reducible rfl)
  | (intro _ _; rfl)
  | (simp only [IntKind.min, IntKind.max, IntKind.signed, IntKind.bits, if_true]; omega)
  | omega
  | (intro h; exact h)
  | (intro h; cases h; done)
  | exact .inl rfl
  | exact .inl True.intro
  | exact .inr rfl
  | (simp; done)
end Go.Proofs.YtnmccoincblecaaGreat
namespace Go.Proofs.YtnmccoincblecaaGreat
open Go Sy Go.Proofs
noncomputable def bdBe : Bd := { f := Tryz.f103, args := [], kb := kb0, names := fun t => [nmV (getV t.tmps 0)] }
def wrI (H W : List Int) (n : Nat) (l : List Int) : St := ⟨mkT 38 [(0, p0K 0), (1, rb l)], [(.o 0, stB H W (n : Nat))], 1, []⟩
noncomputable def bdWr (H W : List Int) (n : Nat) (l H2 W2 : List Int) (n2 : Nat) : Bd := { f := Tryz.f104, args := [p0K 0, rb l], pre := [(.o 0, stB H W (n : Nat))], base := 1, kb := { db := fun _ _ _ _ => [], lp := fun _ _ => [(True, .loop (l.length + 1) (wTo (wrI H W n l)) (.exit 0) (wrI H2 W2 n2 []))] }, names := fun _ => [.o 0] }
def bkDb (H2 : List Int) : List V → Heap → Nat → List Cl := fun _ h _ => match pull (.o 0) h with
 | some (.flat [_, .seg _ _ W, .int _ n], _) => [{ pre := [.o 0], val := .tup [], post := [(.o 0, .flat [.seg .u32 8 H2, .seg .u8 64 W, .int .i64 n])] }]
 | _ => []
noncomputable def pcWr (H W : List Int) (n : Nat) (l H2 W2 : List Int) (n2 : Nat) (l2 : List Int) : Pc := { c := cB (cB (bodyOf Tryz.f104)), st := wrI H W n l, p := 1, kb := { db := dbQ [(138, bkDb H2)] }, k := fun x_ _ => match x_ with
 | .normal => some (wTo (wrI H2 W2 n2 l2))
 | _ => some (wTo (wrI H W n [])) }
end Go.Proofs.YtnmccoincblecaaGreat
namespace Go.Proofs.YtnmccoincblecaaGreat
open Go Sy Go.Proofs
theorem bdBe_p :
  along Tryz.prog (bdBe) [] = (some (.ptr (.o 192) 0 0 0 0, [(.o 192, .flat [.seg .u32 8 [(1779033703 : Int), (3144134277 : Int), (1013904242 : Int), (2773480762 : Int), (1359893119 : Int), (2600822924 : Int), (528734635 : Int), (1541459225 : Int)], .seg .u8 64 [(0 : Int), (0 : Int), (0 : Int), (0 : Int), (0 : Int), (0 : Int), (0 : Int), (0 : Int), (0 : Int), (0 : Int), (0 : Int), (0 : Int), (0 : Int), (0 : Int), (0 : Int), (0 : Int), (0 : Int), (0 : Int), (0 : Int), (0 : Int), (0 : Int), (0 : Int), (0 : Int), (0 : Int), (0 : Int), (0 : Int), (0 : Int), (0 : Int), (0 : Int), (0 : Int), (0 : Int), (0 : Int), (0 : Int), (0 : Int), (0 : Int), (0 : Int), (0 : Int), (0 : Int), (0 : Int), (0 : Int), (0 : Int), (0 : Int), (0 : Int), (0 : Int), (0 : Int), (0 : Int), (0 : Int), (0 : Int), (0 : Int), (0 : Int), (0 : Int), (0 : Int), (0 : Int), (0 : Int), (0 : Int), (0 : Int), (0 : Int), (0 : Int), (0 : Int), (0 : Int), (0 : Int), (0 : Int), (0 : Int), (0 : Int)], .int .i64 0])], []) : Option (V × Heap × List Prop)) := by kernel_rfl

theorem bdWr_p (H : List Int) (W : List Int) (n : Nat) (l : List Int) (H2 : List Int) (W2 : List Int) (n2 : Nat) :
  along Tryz.prog (bdWr H W n l H2 W2 n2) [] = (some (.tup [], [(.o 0, .flat [.seg .u32 8 H2, .seg .u8 64 W2, .int .i64 ↑n2])], [RLoop Tryz.prog none 1 (cB (cB (bodyOf (Bd.f (bdWr H W n l H2 W2 n2))))) (List.length l + 1) (St.mk [.ptr (.o 0) 0 0 0 0, .ros 1 (List.length l) (ib l) false, .any, .any, .any, .any, .any, .any, .any, .any, .any, .any, .any, .any, .any, .any, .any, .any, .any, .any, .any, .any, .any, .any, .any, .any, .any, .any, .any, .any, .any, .any, .any, .any, .any, .any, .any, .any] [(.o 0, .flat [.seg .u32 8 H, .seg .u8 64 W, .int .i64 ↑n])] 1 []) (.exit 0) (St.mk [.ptr (.o 0) 0 0 0 0, .ros 1 0 (ib []) false, .any, .any, .any, .any, .any, .any, .any, .any, .any, .any, .any, .any, .any, .any, .any, .any, .any, .any, .any, .any, .any, .any, .any, .any, .any, .any, .any, .any, .any, .any, .any, .any, .any, .any, .any, .any] [(.o 0, .flat [.seg .u32 8 H2, .seg .u8 64 W2, .int .i64 ↑n2])] 1 []), q (8 : Nat), q H, q (64 : Nat), q W, q (↑n : Int), q0, q0, q0, q (List.length l), ∀ (k : Nat), k < List.length l → [V.int IntKind.u8 (List.getD l k (0 : Int))] = [V.int IntKind.u8 (List.getD l k (0 : Int))], false = true → false = true]) : Option (V × Heap × List Prop)) := by kernel_rfl

noncomputable def pcWr_c (H : List Int) (W : List Int) (n : Nat) (l : List Int) (H2 : List Int) (W2 : List Int) (n2 : Nat) (l2 : List Int) : Nat → List Prop
 | 0 => [decide ((0 : Int) < (↑(List.length l) : Int)) = true, (0 : Int) ≤ (↑n : Int) ∧ (0 : Int) < (64 : Int), (0 : Int) ≤ (↑n : Int) % (64 : Int) ∧ (↑n : Int) % (64 : Int) ≤ (64 : Int), Int.toNat ((↑n : Int) % (64 : Int)) = (0 : Nat) ∨ Int.toNat ((↑n : Int) % (64 : Int)) < nat_lit 64, addO (0 : Nat) (some ((↑n : Int) % (64 : Int))) + (nat_lit 64 - natO (some ((↑n : Int) % (64 : Int))) (0 : Nat)) ≤ (64 : Nat), ∀ (q : Nat), q < List.length l → true = true, InR IntKind.i64 ((↑n : Int) + (↑(Nat.min (List.length l) (nat_lit 64 - natO (some ((↑n : Int) % (64 : Int))) (0 : Nat))) : Int)), (0 : Int) ≤ (↑(Nat.min (List.length l) (nat_lit 64 - natO (some ((↑n : Int) % (64 : Int))) (0 : Nat))) : Int) ∧ (↑(Nat.min (List.length l) (nat_lit 64 - natO (some ((↑n : Int) % (64 : Int))) (0 : Nat))) : Int) ≤ (↑(natO none (List.length l)) : Int), (0 : Int) ≤ (↑n : Int) + (↑(Nat.min (List.length l) (nat_lit 64 - natO (some ((↑n : Int) % (64 : Int))) (0 : Nat))) : Int) ∧ (0 : Int) < (64 : Int)]
 | _ => []
theorem pcWr_p11 (H : List Int) (W : List Int) (n : Nat) (l : List Int) (H2 : List Int) (W2 : List Int) (n2 : Nat) (l2 : List Int) :
 alongPc Tryz.prog (pcWr H W n l H2 W2 n2 l2) [true, true] = (some (.normal, St.mk [.ptr (.o 0) 0 0 0 0, .ros 1 (List.length l2) (ib l2) false, .any, .any, .any, .any, .any, .any, .any, .any, .any, .any, .any, .any, .any, .any, .any, .any, .any, .any, .any, .any, .any, .any, .any, .any, .any, .any, .any, .any, .any, .any, .any, .any, .any, .any, .any, .any] [(.o 0, .flat [.seg .u32 8 H2, .seg .u8 64 W2, .int .i64 ↑n2])] 1 [], pcWr_c H W n l H2 W2 n2 l2 0 ++ [decide (((↑n : Int) + (↑(Nat.min (List.length l) (nat_lit 64 - natO (some ((↑n : Int) % (64 : Int))) (0 : Nat))) : Int)) % (64 : Int) = (0 : Int)) = true, T Tryz.prog 138 [.ptr (.o 0) 0 0 0 0] [(.o 0, .flat [.seg .u32 8 H, .seg .u8 64 (segSet 64 W (addO 0 (some ((↑n : Int) % (64 : Int)))) (Nat.min (List.length l) (nat_lit 64 - natO (some ((↑n : Int) % (64 : Int))) 0)) (ib l)), .int .i64 ((↑n : Int) + (↑(Nat.min (List.length l) (nat_lit 64 - natO (some ((↑n : Int) % (64 : Int))) 0)) : Int))])] (.tup []) [(.o 0, .flat [.seg .u32 8 H2, .seg .u8 64 (segSet 64 W (addO 0 (some ((↑n : Int) % (64 : Int)))) (Nat.min (List.length l) (nat_lit 64 - natO (some ((↑n : Int) % (64 : Int))) 0)) (ib l)), .int .i64 ((↑n : Int) + (↑(Nat.min (List.length l) (nat_lit 64 - natO (some ((↑n : Int) % (64 : Int))) 0)) : Int))])], q (8 : Nat), q H2, q (64 : Nat), segSet (64 : Nat) W (addO (0 : Nat) (some ((↑n : Int) % (64 : Int)))) (Nat.min (List.length l) (nat_lit 64 - natO (some ((↑n : Int) % (64 : Int))) (0 : Nat))) (ib l) = W2, (↑n : Int) + (↑(Nat.min (List.length l) (nat_lit 64 - natO (some ((↑n : Int) % (64 : Int))) (0 : Nat))) : Int) = (↑n2 : Int), q0, q0, q0, natO none (List.length l) - natO (some (↑(Nat.min (List.length l) (nat_lit 64 - natO (some ((↑n : Int) % (64 : Int))) (0 : Nat))) : Int)) (0 : Nat) = List.length l2, ∀ (k : Nat), k < natO none (List.length l) - natO (some (↑(Nat.min (List.length l) (nat_lit 64 - natO (some ((↑n : Int) % (64 : Int))) (0 : Nat))) : Int)) (0 : Nat) → [V.int IntKind.u8 (List.getD l (Int.toNat (↑(Nat.min (List.length l) (nat_lit 64 - natO (some ((↑n : Int) % (64 : Int))) (0 : Nat))) : Int) + k) (0 : Int))] = [V.int IntKind.u8 (List.getD l2 k (0 : Int))], false = true → false = true]) : Option (Exit × St × List Prop)) := by kernel_rfl
theorem pcWr_p10 (H : List Int) (W : List Int) (n : Nat) (l : List Int) (H2 : List Int) (W2 : List Int) (n2 : Nat) (l2 : List Int) :
 alongPc Tryz.prog (pcWr H W n l H2 W2 n2 l2) [true, false] = (some (.normal, St.mk [.ptr (.o 0) 0 0 0 0, .ros 1 (List.length l2) (ib l2) false, .any, .any, .any, .any, .any, .any, .any, .any, .any, .any, .any, .any, .any, .any, .any, .any, .any, .any, .any, .any, .any, .any, .any, .any, .any, .any, .any, .any, .any, .any, .any, .any, .any, .any, .any, .any] [(.o 0, .flat [.seg .u32 8 H2, .seg .u8 64 W2, .int .i64 ↑n2])] 1 [], pcWr_c H W n l H2 W2 n2 l2 0 ++ [decide (((↑n : Int) + (↑(Nat.min (List.length l) (nat_lit 64 - natO (some ((↑n : Int) % (64 : Int))) (0 : Nat))) : Int)) % (64 : Int) = (0 : Int)) = false, q (8 : Nat), H = H2, q (64 : Nat), segSet (64 : Nat) W (addO (0 : Nat) (some ((↑n : Int) % (64 : Int)))) (Nat.min (List.length l) (nat_lit 64 - natO (some ((↑n : Int) % (64 : Int))) (0 : Nat))) (ib l) = W2, (↑n : Int) + (↑(Nat.min (List.length l) (nat_lit 64 - natO (some ((↑n : Int) % (64 : Int))) (0 : Nat))) : Int) = (↑n2 : Int), q0, q0, q0, natO none (List.length l) - natO (some (↑(Nat.min (List.length l) (nat_lit 64 - natO (some ((↑n : Int) % (64 : Int))) (0 : Nat))) : Int)) (0 : Nat) = List.length l2, ∀ (k : Nat), k < natO none (List.length l) - natO (some (↑(Nat.min (List.length l) (nat_lit 64 - natO (some ((↑n : Int) % (64 : Int))) (0 : Nat))) : Int)) (0 : Nat) → [V.int IntKind.u8 (List.getD l (Int.toNat (↑(Nat.min (List.length l) (nat_lit 64 - natO (some ((↑n : Int) % (64 : Int))) (0 : Nat))) : Int) + k) (0 : Int))] = [V.int IntKind.u8 (List.getD l2 k (0 : Int))], false = true → false = true]) : Option (Exit × St × List Prop)) := by kernel_rfl
theorem pcWr_p0 (H : List Int) (W : List Int) (n : Nat) (l : List Int) (H2 : List Int) (W2 : List Int) (n2 : Nat) (l2 : List Int) :
 alongPc Tryz.prog (pcWr H W n l H2 W2 n2 l2) [false] = (some (.exit 0, St.mk [.ptr (.o 0) 0 0 0 0, .ros 1 0 (ib []) false, .any, .any, .any, .any, .any, .any, .any, .any, .any, .any, .any, .any, .any, .any, .any, .any, .any, .any, .any, .any, .any, .any, .any, .any, .any, .any, .any, .any, .any, .any, .any, .any, .any, .any, .any, .any] [(.o 0, .flat [.seg .u32 8 H, .seg .u8 64 W, .int .i64 ↑n])] 1 [], [decide ((0 : Int) < (↑(List.length l) : Int)) = false, q (8 : Nat), q H, q (64 : Nat), q W, q (↑n : Int), q0, q0, q0, List.length l = nat_lit 0, ∀ (k : Nat), k < List.length l → [V.int IntKind.u8 (List.getD l k (0 : Int))] = [V.int IntKind.u8 (0 : Int)], false = true → false = true]) : Option (Exit × St × List Prop)) := by kernel_rfl

def wrC (n : Nat) (l : List Int) : Nat := Nat.min l.length (64 - natO (some ((n : Int) % 64)) 0)
def wrW (W : List Int) (n : Nat) (l : List Int) : List Int := segSet 64 W (addO 0 (some ((n : Int) % 64))) (wrC n l) (ib l)
theorem wrC_eq (n : Nat) (l : List Int) : wrC n l = min l.length (64 - n % 64) := by
 have : natO (some ((n : Int) % 64)) 0 = n % 64 := by show ((n : Int) % 64).toNat = _; omega
 rw [wrC, this]
theorem wrW_eq (W : List Int) (n : Nat) (l : List Int) : wrW W n l = segSet 64 W (n % 64) (wrC n l) (ib l) := by
 have : addO 0 (some ((n : Int) % 64)) = n % 64 := by show 0 + ((n : Int) % 64).toNat = _; omega
 rw [wrW, this]
theorem wr_all : ∀ (N : Nat) (l : List Int), l.length ≤ N → ∀ B H W, Inv B H W → B.length + l.length ≤ 1000000000000 → ∃ H2 W2, Inv (B ++ l) H2 W2 ∧ ∀ m, l.length < m →
  RLoop Tryz.prog none 1 (cB (cB (bodyOf Tryz.f104))) m (wrI H W B.length l) (.exit 0) (wrI H2 W2 (B.length + l.length) []) := by
 intro N
 induction N with
 | zero =>
  intro l hl B H W hI hb
  obtain rfl : l = [] := List.eq_nil_of_length_eq_zero (by omega)
  refine ⟨H, W, by rw [List.append_nil]; exact hI, fun m hm => ?_⟩
  obtain ⟨m, rfl⟩ : ∃ k, m = k + 1 := ⟨m - 1, by simp at hm; omega⟩
  refine RLoop.out ?_ (by simp)
  refine R_alongPc NG MO _ (pcWr_p0 H W B.length [] [] [] 0 []) ?_ (by show 1 ≤ 1; decide)
  simp only [All, All_append, pcWr_c]; and_intros
  all_goals first
   | exact True.intro
   | (with_reducible assumption)
   | (rw [decide_eq_true_eq]; omega)
   | (rw [decide_eq_false_iff_not]; omega)
   | with_reducible rfl
   | (intro _ _; exact True.intro)
   | (intro _ _; with_reducible rfl)
   | (intro _ _; rfl)
   | (simp only [IntKind.min, IntKind.max, IntKind.signed, IntKind.bits, if_true]; omega)
   | omega
   | (intro h; exact h)
   | (intro h; cases h; done)
   | exact .inl rfl
   | exact .inl True.intro
   | exact .inr rfl
   | (simp; done)
 | succ N ih =>
  intro l hl B H W hI hb
  by_cases h0 : l.length = 0
  ·obtain rfl : l = [] := List.eq_nil_of_length_eq_zero h0
   refine ⟨H, W, by rw [List.append_nil]; exact hI, fun m hm => ?_⟩
   obtain ⟨m, rfl⟩ : ∃ k, m = k + 1 := ⟨m - 1, by simp at hm; omega⟩
   refine RLoop.out ?_ (by simp)
   refine R_alongPc NG MO _ (pcWr_p0 H W B.length [] [] [] 0 []) ?_ (by show 1 ≤ 1; decide)
   simp only [All, All_append, pcWr_c]; and_intros
   all_goals first
    | exact True.intro
    | (with_reducible assumption)
    | (rw [decide_eq_true_eq]; omega)
    | (rw [decide_eq_false_iff_not]; omega)
    | with_reducible rfl
    | (intro _ _; exact True.intro)
    | (intro _ _; with_reducible rfl)
    | (intro _ _; rfl)
    | (simp only [IntKind.min, IntKind.max, IntKind.signed, IntKind.bits, if_true]; omega)
    | omega
    | (intro h; exact h)
    | (intro h; cases h; done)
    | exact .inl rfl
    | exact .inl True.intro
    | exact .inr rfl
    | (simp; done)
  have hc := wrC_eq B.length l
  have hc1 : wrC B.length l ≤ l.length := by omega
  have hc2 : wrC B.length l ≤ 64 - B.length % 64 := by omega
  have hc3 : 0 < wrC B.length l := by omega
  have hS := inv_step hI hc1 hc2
  simp only [← wrW_eq] at hS
  have e1 : natO (none : Option Int) l.length = l.length := rfl
  have e2 : natO (some ((wrC B.length l : Nat) : Int)) 0 = wrC B.length l := Int.toNat_natCast _
  have e3 : natO (some ((B.length : Int) % 64)) 0 = B.length % 64 := by show ((B.length : Int) % 64).toNat = _; omega
  have e4 : addO 0 (some ((B.length : Int) % 64)) = B.length % 64 := by show 0 + ((B.length : Int) % 64).toNat = _; omega
  have e5 : Nat.min l.length (64 - natO (some ((B.length : Int) % 64)) 0) = wrC B.length l := rfl
  have hd : (l.drop (wrC B.length l)).length = l.length - wrC B.length l := List.length_drop
  have ht : (B ++ l.take (wrC B.length l)).length = B.length + wrC B.length l := by rw [List.length_append, List.length_take, Nat.min_eq_left hc1]
  have hdg : ∀ k, (l.drop (wrC B.length l)).getD k 0 = l.getD (wrC B.length l + k) 0 := fun k => by rw [List.getD_eq_getElem?_getD, List.getD_eq_getElem?_getD, List.getElem?_drop]
  have key : ∃ H1, Inv (B ++ l.take (wrC B.length l)) H1 (wrW W B.length l) ∧ R Tryz.prog none 1 (cB (cB (bodyOf Tryz.f104))) (wrI H W B.length l) .normal (wrI H1 (wrW W B.length l) (B.length + wrC B.length l) (l.drop (wrC B.length l))) := by
   by_cases hz : (B.length + wrC B.length l) % 64 = 0
   ·have hB := T_bk H (wrW W B.length l) ((B.length : Int) + (wrC B.length l : Nat))
    refine ⟨blk H (wrW W B.length l), hS.1 hz hc3, ?_⟩
    refine R_alongPc NG MO _ (pcWr_p11 H W B.length l (blk H (wrW W B.length l)) (wrW W B.length l) (B.length + wrC B.length l) (l.drop (wrC B.length l))) ?_ (by show 1 ≤ 1; decide)
    simp only [All, All_append, pcWr_c, e5, e1, e2, hd, hdg, Int.toNat_natCast]; and_intros
    all_goals first
     | exact True.intro
     | (rw [e3]; omega)
     | (rw [e3, e4]; omega)
     | (intro k _; rw [hdg])
     | (with_reducible assumption)
     | (rw [decide_eq_true_eq]; omega)
     | (rw [decide_eq_false_iff_not]; omega)
     | with_reducible rfl
     | (intro _ _; exact True.intro)
     | (intro _ _; with_reducible rfl)
     | (intro _ _; rfl)
     | (simp only [IntKind.min, IntKind.max, IntKind.signed, IntKind.bits, if_true]; omega)
     | omega
     | (intro h; exact h)
     | (intro h; cases h; done)
     | exact .inl rfl
     | exact .inl True.intro
     | exact .inr rfl
     | (simp; done)
     | kernel_rfl
     | (refine Eq.mp ?_ hB; kernel_rfl)
   ·refine ⟨H, hS.2 hz, ?_⟩
    refine R_alongPc NG MO _ (pcWr_p10 H W B.length l H (wrW W B.length l) (B.length + wrC B.length l) (l.drop (wrC B.length l))) ?_ (by show 1 ≤ 1; decide)
    simp only [All, All_append, pcWr_c, e5, e1, e2, hd, hdg, Int.toNat_natCast]; and_intros
    all_goals first
     | exact True.intro
     | (rw [e3]; omega)
     | (rw [e3, e4]; omega)
     | (intro k _; rw [hdg])
     | (with_reducible assumption)
     | (rw [decide_eq_true_eq]; omega)
     | (rw [decide_eq_false_iff_not]; omega)
     | with_reducible rfl
     | (intro _ _; exact True.intro)
     | (intro _ _; with_reducible rfl)
     | (intro _ _; rfl)
     | (simp only [IntKind.min, IntKind.max, IntKind.signed, IntKind.bits, if_true]; omega)
     | omega
     | (intro h; exact h)
     | (intro h; cases h; done)
     | exact .inl rfl
     | exact .inl True.intro
     | exact .inr rfl
     | (simp; done)
     | kernel_rfl
  obtain ⟨H1, hI1, hR⟩ := key
  obtain ⟨H2, W2, hI2, hL⟩ := ih (l.drop (wrC B.length l)) (by omega) _ _ _ hI1 (by omega)
  refine ⟨H2, W2, by rw [List.append_assoc, List.take_append_drop] at hI2; exact hI2, fun m hm => ?_⟩
  obtain ⟨m, rfl⟩ : ∃ k, m = k + 1 := ⟨m - 1, by omega⟩
  have := hL m (by omega)
  rw [ht, hd, show B.length + wrC B.length l + (l.length - wrC B.length l) = B.length + l.length by omega] at this
  exact RLoop.step hR this
theorem T_wr {B H W : List Int} (hI : Inv B H W) (l : List Int) (hb : B.length + l.length ≤ 1000000000000) : ∃ H2 W2, Inv (B ++ l) H2 W2 ∧ T Tryz.prog 104 [p0K 0, rb l] [(.o 0, stB H W (B.length : Nat))] (.tup []) [(.o 0, stB H2 W2 ((B.length + l.length : Nat) : Int))] := by
 obtain ⟨H2, W2, h1, h2⟩ := wr_all l.length l (Nat.le_refl _) B H W hI hb
 have hL := h2 (l.length + 1) (Nat.lt_succ_self _)
 refine ⟨H2, W2, h1, ?_⟩
 refine T_al (bdWr_p H W B.length l H2 W2 (B.length + l.length)) Tryz.func104 ?_
 simp only [All, All_append, pcWr_c]; and_intros
 all_goals first
  | exact True.intro
  | exact hL
  | (with_reducible assumption)
  | (rw [decide_eq_true_eq]; omega)
  | (rw [decide_eq_false_iff_not]; omega)
  | with_reducible rfl
  | (intro _ _; exact True.intro)
  | (intro _ _; with_reducible rfl)
  | (intro _ _; rfl)
  | (simp only [IntKind.min, IntKind.max, IntKind.signed, IntKind.bits, if_true]; omega)
  | omega
  | (intro h; exact h)
  | (intro h; cases h; done)
  | exact .inl rfl
  | exact .inl True.intro
  | exact .inr rfl
  | (simp; done)
end Go.Proofs.YtnmccoincblecaaGreat
namespace Go.Proofs.YtnmccoincblecaaGreat
open Go Sy Go.Proofs
def wrCl (H W : List Int) (n : Nat) : List V → List Cl
 | [_, .sl x _ _ _ _ _ _] => [{ pre := [.o 0], rd := [x], val := .tup [], post := [(.o 0, stB H W (n : Nat))] }]
 | _ => []
def enI (H W : List Int) (n N : Nat) : St := ⟨mkT 63 [(0, p0K 0), (2, p0K 1), (3, .int .i64 (8 * (N : Int)))], [(.o 0, stB H W (n : Nat)), (.o 1, .flat [.seg .u8 32 z32L])], 2, []⟩
def enJ (H W : List Int) (n : Nat) (d : List Int) (k : Nat) : St := ⟨mkT 63 [(0, p0K 0), (2, p0K 1), (43, .int .i64 (k : Nat))], [(.o 0, stB H W (n : Nat)), (.o 1, .flat [.seg .u8 32 d])], 2, []⟩
def enR (N j : Nat) : Nat → List V := fun q => [.int .u8 (if q < j then lenE (8 * (N : Int)) q else 0)]
def enL (H W : List Int) (n N j : Nat) : St := ⟨mkT 63 [(0, p0K 0), (2, p0K 1), (3, .int .i64 (8 * (N : Int))), (4, .sl (.o 2) 1 0 0 0 8 none), (26, .int .i64 8), (27, .int .i64 (j : Nat))], [(.o 0, stB H W (n : Nat)), (.o 1, .flat [.seg .u8 32 z32L]), (.o 2, .rows 1 8 (enR N j) false)], 3, []⟩
def enDb (H1 W1 H3 W3 : List Int) (N z : Nat) (a : List V) : List Cl := match a with
 | [_, .sl _ _ _ _ _ 1 _] => wrCl H1 W1 (N + 1) a
 | _ => wrCl H3 W3 (N + 1 + z + 8) a
noncomputable def bdEn (H W : List Int) (N : Nat) (H1 W1 : List Int) (z : Nat) (H2 W2 H3 W3 d : List Int) : Bd := { f := Tryz.f105, args := [p0K 0], pre := [(.o 0, stB H W (N : Nat))], base := 1, kb := { db := dbQ [(104, fun a _ _ => enDb H1 W1 H3 W3 N z a)], lp := fun id t => bif Nat.beq id 0 then [(True, .loop (z + 1) (wToS [(.o 1, nmV (getV t.tmps 2))] (enI H1 W1 (N + 1) N)) (.exit 0) (enI H2 W2 (N + 1 + z) N))] else bif Nat.beq id 2 then [(True, .loop (8 + 1) (wToS [(.o 2, nmV (getV t.tmps 4))] (enL H2 W2 (N + 1 + z) N 0)) (.exit 2) (enL H2 W2 (N + 1 + z) N 8))] else [(True, .loop (32 + 1) (wTo (enJ H3 W3 (N + 1 + z + 8) z32L 0)) (.exit 4) (enJ H3 W3 (N + 1 + z + 8) d 32))] }, names := fun _ => [.o 0] }
noncomputable def pcEn (H W : List Int) (n N : Nat) (H2 W2 : List Int) : Pc := { c := cB (cB (cL (cR (cR (cR (bodyOf Tryz.f105)))))), st := enI H W n N, p := 1, kb := { db := dbQ [(104, fun a _ _ => wrCl H2 W2 (n + 1) a)] }, k := fun x_ _ => match x_ with
 | .normal => some (wTo (enI H2 W2 (n + 1) N))
 | _ => some (wTo (enI H W n N)) }
noncomputable def pcEl (H W : List Int) (n N j : Nat) : Pc := { c := cB (cB (cR (cL (cR (cR (cR (cR (cR (bodyOf Tryz.f105))))))))), st := enL H W n N j, p := 1, kb := kb0, k := fun x_ _ => match x_ with
 | .normal => some (wTo (enL H W n N (j + 1)))
 | _ => some (wTo (enL H W n N 8)) }
noncomputable def pcEj (H W : List Int) (n : Nat) (d : List Int) (k : Nat) (d2 : List Int) : Pc := { c := cB (cB (cR (cL (cR (cR (cR (cR (cR (cR (cR (bodyOf Tryz.f105))))))))))), st := enJ H W n d k, p := 1, kb := kb0, k := fun x_ _ => match x_ with
 | .normal => some (wTo (enJ H W n d2 (k + 1)))
 | _ => some (wTo (enJ H W n d 32)) }
end Go.Proofs.YtnmccoincblecaaGreat
