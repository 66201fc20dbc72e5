/-
  Contracts and laws that the claim's theorem leans on, joined out of the texts Te3 Te4 Qa0 SyFrz Qa1D Qa1 SySha Ka1D Ka1 Ka2D Ka2 Ka3D Ka3 Ka4D (own work of this seat): The plain law of messages: what was put is read, what is read was put; What a message that may be has; its bytes, or why not; The plain law: an envelope that is put is read again; Blocks that a call takes for good: they are only looked at from then on; Contracts: a number behind bytes that stay; the body that a request's tag is of; an envelope's bytes; Contracts: a number behind bytes that stay; the body that a request's tag is of; an envelope's bytes; The digest's numbers, plainly; Contracts: what the digest's rounds compute; Contracts: what the digest's rounds compute; Contract: one block of the digest; Contract: one block of the digest; Contracts: a stream of the digest; Contracts: a stream of the digest; Contracts: the digest's end, and the digest of parts.
-/
import Derived.Test.YtnmccoincblecaaGreatC03
import Derived.Test.YtnmccoincblecaaGreatC04
import Derived.Test.YtnmccoincblecaaGreatC09
set_option linter.unusedVariables false
set_option linter.unusedSimpArgs false
set_option maxHeartbeats 1000000
namespace Go.Proofs.YtnmccoincblecaaGreat
open Go Sy Go.Proofs
structure segMsg (m : SMsg) : Prop where
 batch : X2 m.batch
 vote : SegOk 32 m.vote.digest
 held : ∀ i, i < m.nheld → segHeld (m.held i)
 news : ∀ i, i < m.nnews → SegOk 16 (m.news i).tag
 digest : SegOk 32 m.digest
 cert : segCert m.cert
 sig : ∀ i, i < m.n → SegOk 16 (m.sig i).tag
theorem Q0 {a b : SHeld} : u6 a b = true ↔ q9 a.batch b.batch = true ∧ v9 a.cert b.cert = true := by simp [u6]
structure SameM (a b : SMsg) : Prop where
 kind : a.kind = b.kind
 epoch : a.epoch = b.epoch
 leader : a.leader = b.leader
 view : a.view = b.view
 slot : a.slot = b.slot
 batch : q9 a.batch b.batch = true
 vote : a.vote = b.vote
 cepoch : a.cepoch = b.cepoch
 cleader : a.cleader = b.cleader
 cview : a.cview = b.cview
 held : a.nheld = b.nheld ∧ ∀ i, i < a.nheld → u6 (a.held i) (b.held i) = true
 news : a.nnews = b.nnews ∧ ∀ i, i < a.nnews → a.news i = b.news i
 digest : a.digest = b.digest
 cert : v9 a.cert b.cert = true
 state : a.state = b.state
 sig : a.n = b.n ∧ ∀ i, i < a.n → a.sig i = b.sig i
theorem X9 {a b : SMsg} : m7 a b = true ↔ SameM a b := by
 simp only [m7, C3, Bool.and_eq_true, decide_eq_true_eq, aq4, aD0, aD3, bo8]
 constructor
 ·rintro ⟨h1, h2, h3, h4, h5, h6, h7, ⟨h8, h9, h10, h11⟩, h12, h13, h14, h15, h16⟩
  exact ⟨h1, h2, h3, h4, h5, h6, h7, h8, h9, h10, h11, h12, h13, h14, h15, h16⟩
 ·rintro ⟨h1, h2, h3, h4, h5, h6, h7, h8, h9, h10, h11, h12, h13, h14, h15, h16⟩
  exact ⟨h1, h2, h3, h4, h5, h6, h7, ⟨h8, h9, h10, h11⟩, h12, h13, h14, h15, h16⟩
theorem ai9 (b : SBatch) : q9 b b = true := H5.2 ⟨rfl, rfl, fun _ _ => rfl⟩
theorem am9 (b : SCert) : v9 b b = true := I9.2 ⟨rfl, rfl, fun _ _ => rfl⟩
theorem aL3 (b : SHeld) : u6 b b = true := Q0.2 ⟨ai9 _, am9 _⟩
theorem ai_ {a b : SBatch} (h : q9 a b = true) : q9 b a = true := by
 obtain ⟨h1, h2, h3⟩ := H5.1 h
 exact H5.2 ⟨h1.symm, h2.symm, fun i hi => (h3 i (by omega)).symm⟩
theorem am_ {a b : SCert} (h : v9 a b = true) : v9 b a = true := by
 obtain ⟨h1, h2, h3⟩ := I9.1 h
 exact I9.2 ⟨h1.symm, h2.symm, fun i hi => (h3 i (by omega)).symm⟩
theorem aL4 {a b : SHeld} (h : u6 a b = true) : u6 b a = true :=
 Q0.2 ⟨ai_ (Q0.1 h).1, am_ (Q0.1 h).2⟩
theorem K0 {a b : SMsg} (h : SameM a b) : SameM b a :=
 ⟨h.kind.symm, h.epoch.symm, h.leader.symm, h.view.symm, h.slot.symm, ai_ h.batch, h.vote.symm, h.cepoch.symm, h.cleader.symm, h.cview.symm, ⟨h.held.1.symm, fun i hi => aL4 (h.held.2 i (by have := h.held.1; omega))⟩, ⟨h.news.1.symm, fun i hi => (h.news.2 i (by have := h.news.1; omega)).symm⟩, h.digest.symm, am_ h.cert, h.state.symm, ⟨h.sig.1.symm, fun i hi => (h.sig.2 i (by have := h.sig.1; omega)).symm⟩⟩
theorem I1 (m : SMsg) : SameM m m := ⟨rfl, rfl, rfl, rfl, rfl, ai9 _, rfl, rfl, rfl, rfl, ⟨rfl, fun _ _ => aL3 _⟩, ⟨rfl, fun _ _ => rfl⟩, rfl, am9 _, rfl, ⟨rfl, fun _ _ => rfl⟩⟩
structure Good (m : SMsg) : Prop where
 kind : 1 ≤ m.kind ∧ m.kind ≤ 8
 only : SameM m (m5 m)
 vote : m.kind = 2 → u7 m.vote = true
 cert : m.kind = 7 → A2 m.cert = true
 epoch : 0 ≤ m.epoch ∧ m.epoch ≤ 1048576
 slot : 0 ≤ m.slot ∧ m.slot ≤ 1099511627776
 view : 0 ≤ m.view ∧ m.view ≤ 1099511627776
 leader : 0 ≤ m.leader ∧ m.leader ≤ 64
 batch : p8 m.batch = true
 cepoch : 0 ≤ m.cepoch ∧ m.cepoch ≤ 1048576
 cleader : 0 ≤ m.cleader ∧ m.cleader ≤ 64
 cview : 0 ≤ m.cview ∧ m.cview ≤ 1099511627776
 held : m.nheld ≤ 4 ∧ ∀ i, i < m.nheld → z8 (m.held i) = true
 news : m.nnews ≤ 64 ∧ ∀ i, i < m.nnews → u4 (m.news i) = true
 sig : m.n ≤ 64 ∧ ∀ i, i < m.n → r8 (m.sig i) = true
 state : m.state.size ≤ 4194304
theorem V9 {m : SMsg} : v5 m = true ↔ Good m := by
 simp only [v5, w9, Bool.and_eq_true, decide_eq_true_eq, F3, M7, Bool.or_eq_true, Bool.not_eq_true', decide_eq_false_iff_not, X9]
 constructor
 ·rintro ⟨h1, h2, h3, h4, h5, h6, h7, h8, h9, h10, ⟨h11, h12, h13, h14⟩, h15, h16, h17⟩
  exact ⟨⟨h1, h2⟩, h3, fun h => h4.resolve_left (fun g => g h), fun h => h5.resolve_left (fun g => g h), h6, h7, h8, h9, h10, h11, h12, h13, h14, h15, h16, by omega⟩
 ·rintro ⟨⟨h1, h2⟩, h3, h4, h5, h6, h7, h8, h9, h10, h11, h12, h13, h14, h15, h16, h17⟩
  exact ⟨h1, h2, h3, (Classical.em (m.kind = 2)).elim (fun g => .inr (h4 g)) .inl, (Classical.em (m.kind = 7)).elim (fun g => .inr (h5 g)) .inl, h6, h7, h8, h9, h10, ⟨h11, h12, h13, h14⟩, h15, h16, by omega⟩
theorem bU7 {m : SMsg} (g : Good m) (ht : segMsg m) (hk : m.kind = 1) {s : RS} {t : List UInt8} (he : s.e = 0) (hb : s.l = u3 m ++ t) : SameM (R1 (j2 m.kind) s).1 m ∧ (R1 (j2 m.kind) s).2 = { s with l := t } := by
 rw [u3] at hb
 rw [if_pos hk] at hb
 try simp only [c9, List.append_nil, List.append_assoc] at hb
 have ho : SameM m (o1 m) := by have := g.only; rw [m5] at this; simpa [hk] using this
 obtain ⟨a1, b1⟩ := C0 (n := m.epoch) (most := 1048576) g.epoch.1 g.epoch.2 (by decide) s _ he hb
 have e1 : M8 s = { s with l := c6 m.slot ++ (j6 m.batch ++ t) } := by show (f1 1048576 s).2 = _; rw [b1]
 obtain ⟨a2, b2⟩ := C0 (n := m.slot) (most := 1099511627776) g.slot.1 g.slot.2 (by decide) (M8 s) _ (by rw [e1]; exact he) (by rw [e1])
 have e2 : O4 s = { s with l := j6 m.batch ++ t } := by show (f1 1099511627776 (M8 s)).2 = _; rw [b2, e1]
 obtain ⟨a3, b3⟩ := au3 g.batch ht.batch (O4 s) _ (by rw [e2]; exact he) (by rw [e2])
 have e3 : av2 s = { s with l := t } := by show (l7 (O4 s)).2 = _; rw [b3, e2]
 refine ⟨?_, e3⟩
 have hs := K0 ho
 exact ⟨rfl, a1, hs.leader, hs.view, a2, a3, hs.vote, hs.cepoch, hs.cleader, hs.cview, hs.held, hs.news, hs.digest, hs.cert, hs.state, hs.sig⟩
theorem C7 : SegOk 32 z32 := ⟨rfl, by decide⟩
theorem U3 : p8 {} = true := by decide
theorem bU8 {s : RS} (he : (R1 (j2 1) s).2.e = 0) (hl : (R1 (j2 1) s).2.l = []) : s.e = 0 ∧ s.l = u3 (R1 (j2 1) s).1 ∧ Good (R1 (j2 1) s).1 ∧ segMsg (R1 (j2 1) s).1 := by
 obtain ⟨g3, l3, o3, b3⟩ := au4 (O4 s) he
 obtain ⟨g2, l2, o2, b2⟩ := C1 1099511627776 (M8 s) g3
 obtain ⟨g1, l1, o1, b1⟩ := C1 1048576 s g2
 refine ⟨g1, ?_, ?_, ?_⟩
 ·have hk : (R1 (j2 1) s).1.kind = 1 := rfl
  rw [u3, hk]
  rw [if_pos (show (1 : Int) = 1 from rfl)]
  show s.l = c9 [(f1 1048576 s).1, (f1 1099511627776 (M8 s)).1] ++ (j6 (l7 (O4 s)).1)
  have z : s.l = (c9 [(f1 1048576 s).1, (f1 1099511627776 (M8 s)).1] ++ (j6 (l7 (O4 s)).1)) ++ (R1 (j2 1) s).2.l := by
   try simp only [c9, List.append_nil, List.append_assoc]
   have l3' : (O4 s).l = j6 (l7 (O4 s)).1 ++ (R1 (j2 1) s).2.l := l3
   rw [← l3']
   have l2' : (M8 s).l = c6 (f1 1099511627776 (M8 s)).1 ++ (O4 s).l := l2
   rw [← l2']
   have l1' : s.l = c6 (f1 1048576 s).1 ++ (M8 s).l := l1
   exact l1'
  rw [hl, List.append_nil] at z
  exact z
 ·exact ⟨⟨show (1 : Int) ≤ 1 by decide, show (1 : Int) ≤ 8 by decide⟩, I1 _, fun h => absurd h (show ¬ (1 : Int) = 2 by decide), fun h => absurd h (show ¬ (1 : Int) = 7 by decide), ⟨o1.1, o1.2.1⟩, ⟨o2.1, o2.2.1⟩, ⟨Int.le_refl _, (by decide : (0 : Int) ≤ 1099511627776)⟩, ⟨Int.le_refl _, (by decide : (0 : Int) ≤ 64)⟩, o3.1, ⟨Int.le_refl _, (by decide : (0 : Int) ≤ 1048576)⟩, ⟨Int.le_refl _, (by decide : (0 : Int) ≤ 64)⟩, ⟨Int.le_refl _, (by decide : (0 : Int) ≤ 1099511627776)⟩, ⟨Nat.zero_le _, fun i hi => absurd hi (Nat.not_lt_zero i)⟩, ⟨Nat.zero_le _, fun i hi => absurd hi (Nat.not_lt_zero i)⟩, ⟨Nat.zero_le _, fun i hi => absurd hi (Nat.not_lt_zero i)⟩, Nat.zero_le _⟩
 ·exact ⟨o3.2, C7, fun i hi => absurd hi (Nat.not_lt_zero i), fun i hi => absurd hi (Nat.not_lt_zero i), C7, ⟨C7, fun i hi => absurd hi (Nat.not_lt_zero i)⟩, fun i hi => absurd hi (Nat.not_lt_zero i)⟩
theorem bU9 {m : SMsg} (g : Good m) (ht : segMsg m) (hk : m.kind = 2) {s : RS} {t : List UInt8} (he : s.e = 0) (hb : s.l = u3 m ++ t) : SameM (R2 (j2 m.kind) s).1 m ∧ (R2 (j2 m.kind) s).2 = { s with l := t } := by
 rw [u3] at hb
 rw [if_neg (by omega)] at hb
 rw [if_pos hk] at hb
 try simp only [c9, List.append_nil, List.append_assoc] at hb
 have ho : SameM m (o2 m) := by have := g.only; rw [m5] at this; simpa [hk] using this
 obtain ⟨a1, b1⟩ := a7_ (g.vote hk) ht.vote s _ he hb
 have e1 : aF6 s = { s with l := t } := by show (z9 s).2 = _; rw [b1]
 refine ⟨?_, e1⟩
 have hs := K0 ho
 exact ⟨rfl, hs.epoch, hs.leader, hs.view, hs.slot, hs.batch, a1, hs.cepoch, hs.cleader, hs.cview, hs.held, hs.news, hs.digest, hs.cert, hs.state, hs.sig⟩
theorem bU_ {s : RS} (he : (R2 (j2 2) s).2.e = 0) (hl : (R2 (j2 2) s).2.l = []) : s.e = 0 ∧ s.l = u3 (R2 (j2 2) s).1 ∧ Good (R2 (j2 2) s).1 ∧ segMsg (R2 (j2 2) s).1 := by
 obtain ⟨g1, l1, o1, b1⟩ := a8_ s he
 refine ⟨g1, ?_, ?_, ?_⟩
 ·have hk : (R2 (j2 2) s).1.kind = 2 := rfl
  rw [u3, hk]
  rw [if_neg (show ¬ (2 : Int) = 1 by decide)]
  rw [if_pos (show (2 : Int) = 2 from rfl)]
  show s.l = r7 (z9 s).1
  have z : s.l = (r7 (z9 s).1) ++ (R2 (j2 2) s).2.l := by
   try simp only [c9, List.append_nil, List.append_assoc]
   have l1' : s.l = r7 (z9 s).1 ++ (R2 (j2 2) s).2.l := l1
   exact l1'
  rw [hl, List.append_nil] at z
  exact z
 ·exact ⟨⟨show (1 : Int) ≤ 2 by decide, show (2 : Int) ≤ 8 by decide⟩, I1 _, fun _ => o1.1, fun h => absurd h (show ¬ (2 : Int) = 7 by decide), ⟨Int.le_refl _, (by decide : (0 : Int) ≤ 1048576)⟩, ⟨Int.le_refl _, (by decide : (0 : Int) ≤ 1099511627776)⟩, ⟨Int.le_refl _, (by decide : (0 : Int) ≤ 1099511627776)⟩, ⟨Int.le_refl _, (by decide : (0 : Int) ≤ 64)⟩, U3, ⟨Int.le_refl _, (by decide : (0 : Int) ≤ 1048576)⟩, ⟨Int.le_refl _, (by decide : (0 : Int) ≤ 64)⟩, ⟨Int.le_refl _, (by decide : (0 : Int) ≤ 1099511627776)⟩, ⟨Nat.zero_le _, fun i hi => absurd hi (Nat.not_lt_zero i)⟩, ⟨Nat.zero_le _, fun i hi => absurd hi (Nat.not_lt_zero i)⟩, ⟨Nat.zero_le _, fun i hi => absurd hi (Nat.not_lt_zero i)⟩, Nat.zero_le _⟩
 ·exact ⟨fun i hi => absurd hi (Nat.not_lt_zero i), o1.2, fun i hi => absurd hi (Nat.not_lt_zero i), fun i hi => absurd hi (Nat.not_lt_zero i), C7, ⟨C7, fun i hi => absurd hi (Nat.not_lt_zero i)⟩, fun i hi => absurd hi (Nat.not_lt_zero i)⟩
theorem bV0 {m : SMsg} (g : Good m) (ht : segMsg m) (hk : m.kind = 3) {s : RS} {t : List UInt8} (he : s.e = 0) (hb : s.l = u3 m ++ t) : SameM (R3 (j2 m.kind) s).1 m ∧ (R3 (j2 m.kind) s).2 = { s with l := t } := by
 rw [u3] at hb
 rw [if_neg (by omega)] at hb
 rw [if_neg (by omega)] at hb
 rw [if_pos hk] at hb
 try simp only [c9, List.append_nil, List.append_assoc] at hb
 have ho : SameM m (o3 m) := by have := g.only; rw [m5] at this; simpa [hk] using this
 obtain ⟨a1, b1⟩ := C0 (n := m.cepoch) (most := 1048576) g.cepoch.1 g.cepoch.2 (by decide) s _ he hb
 have e1 : M9 s = { s with l := c6 m.cleader ++ (c6 m.cview ++ (c6 (m.nheld : Int) ++ (m6 m.held m.nheld ++ t))) } := by show (f1 1048576 s).2 = _; rw [b1]
 obtain ⟨a2, b2⟩ := C0 (n := m.cleader) (most := 64) g.cleader.1 g.cleader.2 (by decide) (M9 s) _ (by rw [e1]; exact he) (by rw [e1])
 have e2 : O5 s = { s with l := c6 m.cview ++ (c6 (m.nheld : Int) ++ (m6 m.held m.nheld ++ t)) } := by show (f1 64 (M9 s)).2 = _; rw [b2, e1]
 obtain ⟨a3, b3⟩ := C0 (n := m.cview) (most := 1099511627776) g.cview.1 g.cview.2 (by decide) (O5 s) _ (by rw [e2]; exact he) (by rw [e2])
 have e3 : G8 s = { s with l := c6 (m.nheld : Int) ++ (m6 m.held m.nheld ++ t) } := by show (f1 1099511627776 (O5 s)).2 = _; rw [b3, e2]
 obtain ⟨n4, a4, b4⟩ := aA8 (one := B8) (enc := E2) (rel := fun x y => u6 x y = true) (el := m.held) (n := m.nheld) (most := 4) (by have := g.held.1; omega) (by decide) (fun i hi => bW1 (g.held.2 i hi) (ht.held i hi)) (s := (G8 s)) (by rw [e3]; exact he) (tail := t) (by rw [e3]; simp only [c9, List.append_nil, ah2])
 have e4 : aR2 s = { s with l := t } := by show O9 B8 4 (G8 s) = _; rw [b4, e3]
 refine ⟨?_, e4⟩
 have hs := K0 ho
 exact ⟨rfl, hs.epoch, hs.leader, hs.view, hs.slot, hs.batch, hs.vote, a1, a2, a3, ⟨n4, fun i hi => a4 i (by rw [← n4]; exact hi)⟩, hs.news, hs.digest, hs.cert, hs.state, hs.sig⟩
theorem bV1 {s : RS} (he : (R3 (j2 3) s).2.e = 0) (hl : (R3 (j2 3) s).2.l = []) : s.e = 0 ∧ s.l = u3 (R3 (j2 3) s).1 ∧ Good (R3 (j2 3) s).1 ∧ segMsg (R3 (j2 3) s).1 := by
 obtain ⟨g4, l4, n4, o4, b4⟩ := aA9 bW2 (most := 4) (s := (G8 s)) he
 obtain ⟨g3, l3, o3, b3⟩ := C1 1099511627776 (O5 s) g4
 obtain ⟨g2, l2, o2, b2⟩ := C1 64 (M9 s) g3
 obtain ⟨g1, l1, o1, b1⟩ := C1 1048576 s g2
 refine ⟨g1, ?_, ?_, ?_⟩
 ·have hk : (R3 (j2 3) s).1.kind = 3 := rfl
  rw [u3, hk]
  rw [if_neg (show ¬ (3 : Int) = 1 by decide)]
  rw [if_neg (show ¬ (3 : Int) = 2 by decide)]
  rw [if_pos (show (3 : Int) = 3 from rfl)]
  show s.l = c9 [(f1 1048576 s).1, (f1 64 (M9 s)).1, (f1 1099511627776 (O5 s)).1] ++ ((c9 [((A3 B8 4 (G8 s) : Nat) : Int)] ++ m6 (C4 B8 4 (G8 s)) (A3 B8 4 (G8 s))))
  have z : s.l = (c9 [(f1 1048576 s).1, (f1 64 (M9 s)).1, (f1 1099511627776 (O5 s)).1] ++ ((c9 [((A3 B8 4 (G8 s) : Nat) : Int)] ++ m6 (C4 B8 4 (G8 s)) (A3 B8 4 (G8 s))))) ++ (R3 (j2 3) s).2.l := by
   try simp only [c9, List.append_nil, List.append_assoc]
   have l4' : (G8 s).l = c6 ((A3 B8 4 (G8 s) : Nat) : Int) ++ (m6 (C4 B8 4 (G8 s)) (A3 B8 4 (G8 s)) ++ (R3 (j2 3) s).2.l) := by rw [ah2]; have := l4; simp only [c9, List.append_nil] at this; exact this
   rw [← l4']
   have l3' : (O5 s).l = c6 (f1 1099511627776 (O5 s)).1 ++ (G8 s).l := l3
   rw [← l3']
   have l2' : (M9 s).l = c6 (f1 64 (M9 s)).1 ++ (O5 s).l := l2
   rw [← l2']
   have l1' : s.l = c6 (f1 1048576 s).1 ++ (M9 s).l := l1
   exact l1'
  rw [hl, List.append_nil] at z
  exact z
 ·exact ⟨⟨show (1 : Int) ≤ 3 by decide, show (3 : Int) ≤ 8 by decide⟩, I1 _, fun h => absurd h (show ¬ (3 : Int) = 2 by decide), fun h => absurd h (show ¬ (3 : Int) = 7 by decide), ⟨Int.le_refl _, (by decide : (0 : Int) ≤ 1048576)⟩, ⟨Int.le_refl _, (by decide : (0 : Int) ≤ 1099511627776)⟩, ⟨Int.le_refl _, (by decide : (0 : Int) ≤ 1099511627776)⟩, ⟨Int.le_refl _, (by decide : (0 : Int) ≤ 64)⟩, U3, ⟨o1.1, o1.2.1⟩, ⟨o2.1, o2.2.1⟩, ⟨o3.1, o3.2.1⟩, ⟨Int.ofNat_le.1 n4, fun i hi => (o4 i hi).1⟩, ⟨Nat.zero_le _, fun i hi => absurd hi (Nat.not_lt_zero i)⟩, ⟨Nat.zero_le _, fun i hi => absurd hi (Nat.not_lt_zero i)⟩, Nat.zero_le _⟩
 ·exact ⟨fun i hi => absurd hi (Nat.not_lt_zero i), C7, fun i hi => (o4 i hi).2, fun i hi => absurd hi (Nat.not_lt_zero i), C7, ⟨C7, fun i hi => absurd hi (Nat.not_lt_zero i)⟩, fun i hi => absurd hi (Nat.not_lt_zero i)⟩
theorem bV2 {m : SMsg} (g : Good m) (ht : segMsg m) (hk : m.kind = 4) {s : RS} {t : List UInt8} (he : s.e = 0) (hb : s.l = u3 m ++ t) : SameM (R4 (j2 m.kind) s).1 m ∧ (R4 (j2 m.kind) s).2 = { s with l := t } := by
 rw [u3] at hb
 rw [if_neg (by omega)] at hb
 rw [if_neg (by omega)] at hb
 rw [if_neg (by omega)] at hb
 rw [if_pos hk] at hb
 try simp only [c9, List.append_nil, List.append_assoc] at hb
 have ho : SameM m (o4 m) := by have := g.only; rw [m5] at this; simpa [hk] using this
 obtain ⟨a1, b1⟩ := C0 (n := m.epoch) (most := 1048576) g.epoch.1 g.epoch.2 (by decide) s _ he hb
 have e1 : N0 s = { s with l := c6 m.leader ++ (c6 m.view ++ (c6 (m.nnews : Int) ++ (n9 m.news m.nnews ++ t))) } := by show (f1 1048576 s).2 = _; rw [b1]
 obtain ⟨a2, b2⟩ := C0 (n := m.leader) (most := 64) g.leader.1 g.leader.2 (by decide) (N0 s) _ (by rw [e1]; exact he) (by rw [e1])
 have e2 : O6 s = { s with l := c6 m.view ++ (c6 (m.nnews : Int) ++ (n9 m.news m.nnews ++ t)) } := by show (f1 64 (N0 s)).2 = _; rw [b2, e1]
 obtain ⟨a3, b3⟩ := C0 (n := m.view) (most := 1099511627776) g.view.1 g.view.2 (by decide) (O6 s) _ (by rw [e2]; exact he) (by rw [e2])
 have e3 : G9 s = { s with l := c6 (m.nnews : Int) ++ (n9 m.news m.nnews ++ t) } := by show (f1 1099511627776 (O6 s)).2 = _; rw [b3, e2]
 obtain ⟨n4, a4, b4⟩ := aA8 (one := E0) (enc := I7) (rel := fun x y => x = y) (el := m.news) (n := m.nnews) (most := 64) (by have := g.news.1; omega) (by decide) (fun i hi => ck_ (g.news.2 i hi) (ht.news i hi)) (s := (G9 s)) (by rw [e3]; exact he) (tail := t) (by rw [e3]; simp only [c9, List.append_nil, ak5])
 have e4 : aR3 s = { s with l := t } := by show O9 E0 64 (G9 s) = _; rw [b4, e3]
 refine ⟨?_, e4⟩
 have hs := K0 ho
 exact ⟨rfl, a1, a2, a3, hs.slot, hs.batch, hs.vote, hs.cepoch, hs.cleader, hs.cview, hs.held, ⟨n4, fun i hi => a4 i (by rw [← n4]; exact hi)⟩, hs.digest, hs.cert, hs.state, hs.sig⟩
theorem bV3 {s : RS} (he : (R4 (j2 4) s).2.e = 0) (hl : (R4 (j2 4) s).2.l = []) : s.e = 0 ∧ s.l = u3 (R4 (j2 4) s).1 ∧ Good (R4 (j2 4) s).1 ∧ segMsg (R4 (j2 4) s).1 := by
 obtain ⟨g4, l4, n4, o4, b4⟩ := aA9 cl0 (most := 64) (s := (G9 s)) he
 obtain ⟨g3, l3, o3, b3⟩ := C1 1099511627776 (O6 s) g4
 obtain ⟨g2, l2, o2, b2⟩ := C1 64 (N0 s) g3
 obtain ⟨g1, l1, o1, b1⟩ := C1 1048576 s g2
 refine ⟨g1, ?_, ?_, ?_⟩
 ·have hk : (R4 (j2 4) s).1.kind = 4 := rfl
  rw [u3, hk]
  rw [if_neg (show ¬ (4 : Int) = 1 by decide)]
  rw [if_neg (show ¬ (4 : Int) = 2 by decide)]
  rw [if_neg (show ¬ (4 : Int) = 3 by decide)]
  rw [if_pos (show (4 : Int) = 4 from rfl)]
  show s.l = c9 [(f1 1048576 s).1, (f1 64 (N0 s)).1, (f1 1099511627776 (O6 s)).1] ++ ((c9 [((A3 E0 64 (G9 s) : Nat) : Int)] ++ n9 (C4 E0 64 (G9 s)) (A3 E0 64 (G9 s))))
  have z : s.l = (c9 [(f1 1048576 s).1, (f1 64 (N0 s)).1, (f1 1099511627776 (O6 s)).1] ++ ((c9 [((A3 E0 64 (G9 s) : Nat) : Int)] ++ n9 (C4 E0 64 (G9 s)) (A3 E0 64 (G9 s))))) ++ (R4 (j2 4) s).2.l := by
   try simp only [c9, List.append_nil, List.append_assoc]
   have l4' : (G9 s).l = c6 ((A3 E0 64 (G9 s) : Nat) : Int) ++ (n9 (C4 E0 64 (G9 s)) (A3 E0 64 (G9 s)) ++ (R4 (j2 4) s).2.l) := by rw [ak5]; have := l4; simp only [c9, List.append_nil] at this; exact this
   rw [← l4']
   have l3' : (O6 s).l = c6 (f1 1099511627776 (O6 s)).1 ++ (G9 s).l := l3
   rw [← l3']
   have l2' : (N0 s).l = c6 (f1 64 (N0 s)).1 ++ (O6 s).l := l2
   rw [← l2']
   have l1' : s.l = c6 (f1 1048576 s).1 ++ (N0 s).l := l1
   exact l1'
  rw [hl, List.append_nil] at z
  exact z
 ·exact ⟨⟨show (1 : Int) ≤ 4 by decide, show (4 : Int) ≤ 8 by decide⟩, I1 _, fun h => absurd h (show ¬ (4 : Int) = 2 by decide), fun h => absurd h (show ¬ (4 : Int) = 7 by decide), ⟨o1.1, o1.2.1⟩, ⟨Int.le_refl _, (by decide : (0 : Int) ≤ 1099511627776)⟩, ⟨o3.1, o3.2.1⟩, ⟨o2.1, o2.2.1⟩, U3, ⟨Int.le_refl _, (by decide : (0 : Int) ≤ 1048576)⟩, ⟨Int.le_refl _, (by decide : (0 : Int) ≤ 64)⟩, ⟨Int.le_refl _, (by decide : (0 : Int) ≤ 1099511627776)⟩, ⟨Nat.zero_le _, fun i hi => absurd hi (Nat.not_lt_zero i)⟩, ⟨Int.ofNat_le.1 n4, fun i hi => (o4 i hi).1⟩, ⟨Nat.zero_le _, fun i hi => absurd hi (Nat.not_lt_zero i)⟩, Nat.zero_le _⟩
 ·exact ⟨fun i hi => absurd hi (Nat.not_lt_zero i), C7, fun i hi => absurd hi (Nat.not_lt_zero i), fun i hi => (o4 i hi).2, C7, ⟨C7, fun i hi => absurd hi (Nat.not_lt_zero i)⟩, fun i hi => absurd hi (Nat.not_lt_zero i)⟩
theorem bV4 {m : SMsg} (g : Good m) (ht : segMsg m) (hk : m.kind = 5) {s : RS} {t : List UInt8} (he : s.e = 0) (hb : s.l = u3 m ++ t) : SameM (R5 (j2 m.kind) s).1 m ∧ (R5 (j2 m.kind) s).2 = { s with l := t } := by
 rw [u3] at hb
 rw [if_neg (by omega)] at hb
 rw [if_neg (by omega)] at hb
 rw [if_neg (by omega)] at hb
 rw [if_neg (by omega)] at hb
 rw [if_pos hk] at hb
 try simp only [c9, List.append_nil, List.append_assoc] at hb
 have ho : SameM m (o5 m) := by have := g.only; rw [m5] at this; simpa [hk] using this
 obtain ⟨a1, b1⟩ := C0 (n := m.epoch) (most := 1048576) g.epoch.1 g.epoch.2 (by decide) s _ he hb
 have e1 : O7 s = { s with l := l9 m.digest ++ t } := by show (f1 1048576 s).2 = _; rw [b1]
 obtain ⟨a2, b2⟩ := bo4 ht.digest (O7 s) _ (by rw [e1]; exact he) (by rw [e1])
 have e2 : aR4 s = { s with l := t } := by show (J3 (O7 s)).2 = _; rw [b2, e1]
 refine ⟨?_, e2⟩
 have hs := K0 ho
 exact ⟨rfl, a1, hs.leader, hs.view, hs.slot, hs.batch, hs.vote, hs.cepoch, hs.cleader, hs.cview, hs.held, hs.news, a2, hs.cert, hs.state, hs.sig⟩
theorem bV5 {s : RS} (he : (R5 (j2 5) s).2.e = 0) (hl : (R5 (j2 5) s).2.l = []) : s.e = 0 ∧ s.l = u3 (R5 (j2 5) s).1 ∧ Good (R5 (j2 5) s).1 ∧ segMsg (R5 (j2 5) s).1 := by
 obtain ⟨g2, l2, o2, b2⟩ := bo5 (O7 s) he
 obtain ⟨g1, l1, o1, b1⟩ := C1 1048576 s g2
 refine ⟨g1, ?_, ?_, ?_⟩
 ·have hk : (R5 (j2 5) s).1.kind = 5 := rfl
  rw [u3, hk]
  rw [if_neg (show ¬ (5 : Int) = 1 by decide)]
  rw [if_neg (show ¬ (5 : Int) = 2 by decide)]
  rw [if_neg (show ¬ (5 : Int) = 3 by decide)]
  rw [if_neg (show ¬ (5 : Int) = 4 by decide)]
  rw [if_pos (show (5 : Int) = 5 from rfl)]
  show s.l = c9 [(f1 1048576 s).1] ++ (l9 (J3 (O7 s)).1)
  have z : s.l = (c9 [(f1 1048576 s).1] ++ (l9 (J3 (O7 s)).1)) ++ (R5 (j2 5) s).2.l := by
   try simp only [c9, List.append_nil, List.append_assoc]
   have l2' : (O7 s).l = l9 (J3 (O7 s)).1 ++ (R5 (j2 5) s).2.l := l2
   rw [← l2']
   have l1' : s.l = c6 (f1 1048576 s).1 ++ (O7 s).l := l1
   exact l1'
  rw [hl, List.append_nil] at z
  exact z
 ·exact ⟨⟨show (1 : Int) ≤ 5 by decide, show (5 : Int) ≤ 8 by decide⟩, I1 _, fun h => absurd h (show ¬ (5 : Int) = 2 by decide), fun h => absurd h (show ¬ (5 : Int) = 7 by decide), ⟨o1.1, o1.2.1⟩, ⟨Int.le_refl _, (by decide : (0 : Int) ≤ 1099511627776)⟩, ⟨Int.le_refl _, (by decide : (0 : Int) ≤ 1099511627776)⟩, ⟨Int.le_refl _, (by decide : (0 : Int) ≤ 64)⟩, U3, ⟨Int.le_refl _, (by decide : (0 : Int) ≤ 1048576)⟩, ⟨Int.le_refl _, (by decide : (0 : Int) ≤ 64)⟩, ⟨Int.le_refl _, (by decide : (0 : Int) ≤ 1099511627776)⟩, ⟨Nat.zero_le _, fun i hi => absurd hi (Nat.not_lt_zero i)⟩, ⟨Nat.zero_le _, fun i hi => absurd hi (Nat.not_lt_zero i)⟩, ⟨Nat.zero_le _, fun i hi => absurd hi (Nat.not_lt_zero i)⟩, Nat.zero_le _⟩
 ·exact ⟨fun i hi => absurd hi (Nat.not_lt_zero i), C7, fun i hi => absurd hi (Nat.not_lt_zero i), fun i hi => absurd hi (Nat.not_lt_zero i), o2, ⟨C7, fun i hi => absurd hi (Nat.not_lt_zero i)⟩, fun i hi => absurd hi (Nat.not_lt_zero i)⟩
theorem bV6 {m : SMsg} (g : Good m) (ht : segMsg m) (hk : m.kind = 6) {s : RS} {t : List UInt8} (he : s.e = 0) (hb : s.l = u3 m ++ t) : SameM (R6 (j2 m.kind) s).1 m ∧ (R6 (j2 m.kind) s).2 = { s with l := t } := by
 rw [u3] at hb
 rw [if_neg (by omega)] at hb
 rw [if_neg (by omega)] at hb
 rw [if_neg (by omega)] at hb
 rw [if_neg (by omega)] at hb
 rw [if_neg (by omega)] at hb
 rw [if_pos hk] at hb
 try simp only [c9, List.append_nil, List.append_assoc] at hb
 have ho : SameM m (o6 m) := by have := g.only; rw [m5] at this; simpa [hk] using this
 obtain ⟨a1, b1⟩ := C0 (n := m.epoch) (most := 1048576) g.epoch.1 g.epoch.2 (by decide) s _ he hb
 have e1 : N1 s = { s with l := c6 m.slot ++ t } := by show (f1 1048576 s).2 = _; rw [b1]
 obtain ⟨a2, b2⟩ := C0 (n := m.slot) (most := 1099511627776) g.slot.1 g.slot.2 (by decide) (N1 s) _ (by rw [e1]; exact he) (by rw [e1])
 have e2 : av3 s = { s with l := t } := by show (f1 1099511627776 (N1 s)).2 = _; rw [b2, e1]
 refine ⟨?_, e2⟩
 have hs := K0 ho
 exact ⟨rfl, a1, hs.leader, hs.view, a2, hs.batch, hs.vote, hs.cepoch, hs.cleader, hs.cview, hs.held, hs.news, hs.digest, hs.cert, hs.state, hs.sig⟩
theorem bV7 {s : RS} (he : (R6 (j2 6) s).2.e = 0) (hl : (R6 (j2 6) s).2.l = []) : s.e = 0 ∧ s.l = u3 (R6 (j2 6) s).1 ∧ Good (R6 (j2 6) s).1 ∧ segMsg (R6 (j2 6) s).1 := by
 obtain ⟨g2, l2, o2, b2⟩ := C1 1099511627776 (N1 s) he
 obtain ⟨g1, l1, o1, b1⟩ := C1 1048576 s g2
 refine ⟨g1, ?_, ?_, ?_⟩
 ·have hk : (R6 (j2 6) s).1.kind = 6 := rfl
  rw [u3, hk]
  rw [if_neg (show ¬ (6 : Int) = 1 by decide)]
  rw [if_neg (show ¬ (6 : Int) = 2 by decide)]
  rw [if_neg (show ¬ (6 : Int) = 3 by decide)]
  rw [if_neg (show ¬ (6 : Int) = 4 by decide)]
  rw [if_neg (show ¬ (6 : Int) = 5 by decide)]
  rw [if_pos (show (6 : Int) = 6 from rfl)]
  show s.l = c9 [(f1 1048576 s).1, (f1 1099511627776 (N1 s)).1]
  have z : s.l = (c9 [(f1 1048576 s).1, (f1 1099511627776 (N1 s)).1]) ++ (R6 (j2 6) s).2.l := by
   try simp only [c9, List.append_nil, List.append_assoc]
   have l2' : (N1 s).l = c6 (f1 1099511627776 (N1 s)).1 ++ (R6 (j2 6) s).2.l := l2
   rw [← l2']
   have l1' : s.l = c6 (f1 1048576 s).1 ++ (N1 s).l := l1
   exact l1'
  rw [hl, List.append_nil] at z
  exact z
 ·exact ⟨⟨show (1 : Int) ≤ 6 by decide, show (6 : Int) ≤ 8 by decide⟩, I1 _, fun h => absurd h (show ¬ (6 : Int) = 2 by decide), fun h => absurd h (show ¬ (6 : Int) = 7 by decide), ⟨o1.1, o1.2.1⟩, ⟨o2.1, o2.2.1⟩, ⟨Int.le_refl _, (by decide : (0 : Int) ≤ 1099511627776)⟩, ⟨Int.le_refl _, (by decide : (0 : Int) ≤ 64)⟩, U3, ⟨Int.le_refl _, (by decide : (0 : Int) ≤ 1048576)⟩, ⟨Int.le_refl _, (by decide : (0 : Int) ≤ 64)⟩, ⟨Int.le_refl _, (by decide : (0 : Int) ≤ 1099511627776)⟩, ⟨Nat.zero_le _, fun i hi => absurd hi (Nat.not_lt_zero i)⟩, ⟨Nat.zero_le _, fun i hi => absurd hi (Nat.not_lt_zero i)⟩, ⟨Nat.zero_le _, fun i hi => absurd hi (Nat.not_lt_zero i)⟩, Nat.zero_le _⟩
 ·exact ⟨fun i hi => absurd hi (Nat.not_lt_zero i), C7, fun i hi => absurd hi (Nat.not_lt_zero i), fun i hi => absurd hi (Nat.not_lt_zero i), C7, ⟨C7, fun i hi => absurd hi (Nat.not_lt_zero i)⟩, fun i hi => absurd hi (Nat.not_lt_zero i)⟩
theorem bV8 {m : SMsg} (g : Good m) (ht : segMsg m) (hk : m.kind = 7) {s : RS} {t : List UInt8} (he : s.e = 0) (hb : s.l = u3 m ++ t) : SameM (R7 (j2 m.kind) s).1 m ∧ (R7 (j2 m.kind) s).2 = { s with l := t } := by
 rw [u3] at hb
 rw [if_neg (by omega)] at hb
 rw [if_neg (by omega)] at hb
 rw [if_neg (by omega)] at hb
 rw [if_neg (by omega)] at hb
 rw [if_neg (by omega)] at hb
 rw [if_neg (by omega)] at hb
 rw [if_pos hk] at hb
 try simp only [c9, List.append_nil, List.append_assoc] at hb
 have ho : SameM m (o7 m) := by have := g.only; rw [m5] at this; simpa [hk] using this
 obtain ⟨a1, b1⟩ := au3 g.batch ht.batch s _ he hb
 have e1 : O8 s = { s with l := u9 m.cert ++ t } := by show (l7 s).2 = _; rw [b1]
 obtain ⟨a2, b2⟩ := aY8 (g.cert hk) ht.cert (O8 s) _ (by rw [e1]; exact he) (by rw [e1])
 have e2 : aR5 s = { s with l := t } := by show (G4 (O8 s)).2 = _; rw [b2, e1]
 refine ⟨?_, e2⟩
 have hs := K0 ho
 exact ⟨rfl, hs.epoch, hs.leader, hs.view, hs.slot, a1, hs.vote, hs.cepoch, hs.cleader, hs.cview, hs.held, hs.news, hs.digest, a2, hs.state, hs.sig⟩
theorem bV9 {s : RS} (he : (R7 (j2 7) s).2.e = 0) (hl : (R7 (j2 7) s).2.l = []) : s.e = 0 ∧ s.l = u3 (R7 (j2 7) s).1 ∧ Good (R7 (j2 7) s).1 ∧ segMsg (R7 (j2 7) s).1 := by
 obtain ⟨g2, l2, o2, b2⟩ := aY9 (O8 s) he
 obtain ⟨g1, l1, o1, b1⟩ := au4 s g2
 refine ⟨g1, ?_, ?_, ?_⟩
 ·have hk : (R7 (j2 7) s).1.kind = 7 := rfl
  rw [u3, hk]
  rw [if_neg (show ¬ (7 : Int) = 1 by decide)]
  rw [if_neg (show ¬ (7 : Int) = 2 by decide)]
  rw [if_neg (show ¬ (7 : Int) = 3 by decide)]
  rw [if_neg (show ¬ (7 : Int) = 4 by decide)]
  rw [if_neg (show ¬ (7 : Int) = 5 by decide)]
  rw [if_neg (show ¬ (7 : Int) = 6 by decide)]
  rw [if_pos (show (7 : Int) = 7 from rfl)]
  show s.l = j6 (l7 s).1 ++ (u9 (G4 (O8 s)).1)
  have z : s.l = (j6 (l7 s).1 ++ (u9 (G4 (O8 s)).1)) ++ (R7 (j2 7) s).2.l := by
   try simp only [c9, List.append_nil, List.append_assoc]
   have l2' : (O8 s).l = u9 (G4 (O8 s)).1 ++ (R7 (j2 7) s).2.l := l2
   rw [← l2']
   have l1' : s.l = j6 (l7 s).1 ++ (O8 s).l := l1
   exact l1'
  rw [hl, List.append_nil] at z
  exact z
 ·exact ⟨⟨show (1 : Int) ≤ 7 by decide, show (7 : Int) ≤ 8 by decide⟩, I1 _, fun h => absurd h (show ¬ (7 : Int) = 2 by decide), fun _ => o2.1, ⟨Int.le_refl _, (by decide : (0 : Int) ≤ 1048576)⟩, ⟨Int.le_refl _, (by decide : (0 : Int) ≤ 1099511627776)⟩, ⟨Int.le_refl _, (by decide : (0 : Int) ≤ 1099511627776)⟩, ⟨Int.le_refl _, (by decide : (0 : Int) ≤ 64)⟩, o1.1, ⟨Int.le_refl _, (by decide : (0 : Int) ≤ 1048576)⟩, ⟨Int.le_refl _, (by decide : (0 : Int) ≤ 64)⟩, ⟨Int.le_refl _, (by decide : (0 : Int) ≤ 1099511627776)⟩, ⟨Nat.zero_le _, fun i hi => absurd hi (Nat.not_lt_zero i)⟩, ⟨Nat.zero_le _, fun i hi => absurd hi (Nat.not_lt_zero i)⟩, ⟨Nat.zero_le _, fun i hi => absurd hi (Nat.not_lt_zero i)⟩, Nat.zero_le _⟩
 ·exact ⟨o1.2, C7, fun i hi => absurd hi (Nat.not_lt_zero i), fun i hi => absurd hi (Nat.not_lt_zero i), C7, o2.2, fun i hi => absurd hi (Nat.not_lt_zero i)⟩
theorem bV_ {m : SMsg} (g : Good m) (ht : segMsg m) (hk : m.kind = 8) {s : RS} {t : List UInt8} (he : s.e = 0) (hb : s.l = u3 m ++ t) : SameM (R8 (j2 m.kind) s).1 m ∧ (R8 (j2 m.kind) s).2 = { s with l := t } := by
 rw [u3] at hb
 rw [if_neg (by omega)] at hb
 rw [if_neg (by omega)] at hb
 rw [if_neg (by omega)] at hb
 rw [if_neg (by omega)] at hb
 rw [if_neg (by omega)] at hb
 rw [if_neg (by omega)] at hb
 rw [if_neg (by omega)] at hb
 rw [if_pos hk] at hb
 try simp only [c9, List.append_nil, List.append_assoc] at hb
 have ho : SameM m (o8 m) := by have := g.only; rw [m5] at this; simpa [hk] using this
 obtain ⟨a1, b1⟩ := aH0 (t := m.state) (most := 4194304) (by have := g.state; omega) (by decide) s _ he hb
 have e1 : F8 s = { s with l := c6 (m.n : Int) ++ (l8 m.sig m.n ++ t) } := by show (v6 4194304 s).2 = _; rw [b1]
 obtain ⟨n2, a2, b2⟩ := aA8 (one := w4) (enc := D8) (rel := fun x y => x = y) (el := m.sig) (n := m.n) (most := 64) (by have := g.sig.1; omega) (by decide) (fun i hi => a2_ (g.sig.2 i hi) (ht.sig i hi)) (s := (F8 s)) (by rw [e1]; exact he) (tail := t) (by rw [e1]; simp only [c9, List.append_nil, S1])
 have e2 : aR6 s = { s with l := t } := by show O9 w4 64 (F8 s) = _; rw [b2, e1]
 refine ⟨?_, e2⟩
 have hs := K0 ho
 exact ⟨rfl, hs.epoch, hs.leader, hs.view, hs.slot, hs.batch, hs.vote, hs.cepoch, hs.cleader, hs.cview, hs.held, hs.news, hs.digest, hs.cert, a1, ⟨n2, fun i hi => a2 i (by rw [← n2]; exact hi)⟩⟩
theorem bW0 {s : RS} (he : (R8 (j2 8) s).2.e = 0) (hl : (R8 (j2 8) s).2.l = []) : s.e = 0 ∧ s.l = u3 (R8 (j2 8) s).1 ∧ Good (R8 (j2 8) s).1 ∧ segMsg (R8 (j2 8) s).1 := by
 obtain ⟨g2, l2, n2, o2, b2⟩ := aA9 a3_ (most := 64) (s := (F8 s)) he
 obtain ⟨g1, l1, o1, b1⟩ := aH1 4194304 (by decide) s g2
 refine ⟨g1, ?_, ?_, ?_⟩
 ·have hk : (R8 (j2 8) s).1.kind = 8 := rfl
  rw [u3, hk]
  rw [if_neg (show ¬ (8 : Int) = 1 by decide)]
  rw [if_neg (show ¬ (8 : Int) = 2 by decide)]
  rw [if_neg (show ¬ (8 : Int) = 3 by decide)]
  rw [if_neg (show ¬ (8 : Int) = 4 by decide)]
  rw [if_neg (show ¬ (8 : Int) = 5 by decide)]
  rw [if_neg (show ¬ (8 : Int) = 6 by decide)]
  rw [if_neg (show ¬ (8 : Int) = 7 by decide)]
  rw [if_pos (show (8 : Int) = 8 from rfl)]
  show s.l = j3 (v6 4194304 s).1 ++ ((c9 [((A3 w4 64 (F8 s) : Nat) : Int)] ++ l8 (C4 w4 64 (F8 s)) (A3 w4 64 (F8 s))))
  have z : s.l = (j3 (v6 4194304 s).1 ++ ((c9 [((A3 w4 64 (F8 s) : Nat) : Int)] ++ l8 (C4 w4 64 (F8 s)) (A3 w4 64 (F8 s))))) ++ (R8 (j2 8) s).2.l := by
   try simp only [c9, List.append_nil, List.append_assoc]
   have l2' : (F8 s).l = c6 ((A3 w4 64 (F8 s) : Nat) : Int) ++ (l8 (C4 w4 64 (F8 s)) (A3 w4 64 (F8 s)) ++ (R8 (j2 8) s).2.l) := by rw [S1]; have := l2; simp only [c9, List.append_nil] at this; exact this
   rw [← l2']
   have l1' : s.l = j3 (v6 4194304 s).1 ++ (F8 s).l := l1
   exact l1'
  rw [hl, List.append_nil] at z
  exact z
 ·exact ⟨⟨show (1 : Int) ≤ 8 by decide, show (8 : Int) ≤ 8 by decide⟩, I1 _, fun h => absurd h (show ¬ (8 : Int) = 2 by decide), fun h => absurd h (show ¬ (8 : Int) = 7 by decide), ⟨Int.le_refl _, (by decide : (0 : Int) ≤ 1048576)⟩, ⟨Int.le_refl _, (by decide : (0 : Int) ≤ 1099511627776)⟩, ⟨Int.le_refl _, (by decide : (0 : Int) ≤ 1099511627776)⟩, ⟨Int.le_refl _, (by decide : (0 : Int) ≤ 64)⟩, U3, ⟨Int.le_refl _, (by decide : (0 : Int) ≤ 1048576)⟩, ⟨Int.le_refl _, (by decide : (0 : Int) ≤ 64)⟩, ⟨Int.le_refl _, (by decide : (0 : Int) ≤ 1099511627776)⟩, ⟨Nat.zero_le _, fun i hi => absurd hi (Nat.not_lt_zero i)⟩, ⟨Nat.zero_le _, fun i hi => absurd hi (Nat.not_lt_zero i)⟩, ⟨Int.ofNat_le.1 n2, fun i hi => (o2 i hi).1⟩, (by have : (((v6 4194304 s).1.size : Nat) : Int) ≤ 4194304 := o1; exact Int.ofNat_le.1 this)⟩
 ·exact ⟨fun i hi => absurd hi (Nat.not_lt_zero i), C7, fun i hi => absurd hi (Nat.not_lt_zero i), fun i hi => absurd hi (Nat.not_lt_zero i), C7, ⟨C7, fun i hi => absurd hi (Nat.not_lt_zero i)⟩, fun i hi => (o2 i hi).2⟩
theorem bp2 {m : SMsg} (g : Good m) (ht : segMsg m) {s : RS} {t : List UInt8} (he : s.e = 0) (hl : s.l = u3 m ++ t) : SameM (j9 (j2 m.kind) s).1 m ∧ (j9 (j2 m.kind) s).2 = { s with l := t } := by
 have hk := g.kind
 have hm : (j2 m.kind).kind = m.kind := rfl
 have : m.kind = 1 ∨ m.kind = 2 ∨ m.kind = 3 ∨ m.kind = 4 ∨ m.kind = 5 ∨ m.kind = 6 ∨ m.kind = 7 ∨ m.kind = 8 := by omega
 rcases this with h | h | h | h | h | h | h | h
 ·have e : j9 (j2 m.kind) s = R1 (j2 m.kind) s := by simp only [j9, hm, if_pos h]
  rw [e]; exact bU7 g ht h he hl
 ·have e : j9 (j2 m.kind) s = R2 (j2 m.kind) s := by simp only [j9, hm, if_neg (show ¬ m.kind = 1 by omega), if_pos h]
  rw [e]; exact bU9 g ht h he hl
 ·have e : j9 (j2 m.kind) s = R3 (j2 m.kind) s := by simp only [j9, hm, if_neg (show ¬ m.kind = 1 by omega), if_neg (show ¬ m.kind = 2 by omega), if_pos h]
  rw [e]; exact bV0 g ht h he hl
 ·have e : j9 (j2 m.kind) s = R4 (j2 m.kind) s := by simp only [j9, hm, if_neg (show ¬ m.kind = 1 by omega), if_neg (show ¬ m.kind = 2 by omega), if_neg (show ¬ m.kind = 3 by omega), if_pos h]
  rw [e]; exact bV2 g ht h he hl
 ·have e : j9 (j2 m.kind) s = R5 (j2 m.kind) s := by simp only [j9, hm, if_neg (show ¬ m.kind = 1 by omega), if_neg (show ¬ m.kind = 2 by omega), if_neg (show ¬ m.kind = 3 by omega), if_neg (show ¬ m.kind = 4 by omega), if_pos h]
  rw [e]; exact bV4 g ht h he hl
 ·have e : j9 (j2 m.kind) s = R6 (j2 m.kind) s := by simp only [j9, hm, if_neg (show ¬ m.kind = 1 by omega), if_neg (show ¬ m.kind = 2 by omega), if_neg (show ¬ m.kind = 3 by omega), if_neg (show ¬ m.kind = 4 by omega), if_neg (show ¬ m.kind = 5 by omega), if_pos h]
  rw [e]; exact bV6 g ht h he hl
 ·have e : j9 (j2 m.kind) s = R7 (j2 m.kind) s := by simp only [j9, hm, if_neg (show ¬ m.kind = 1 by omega), if_neg (show ¬ m.kind = 2 by omega), if_neg (show ¬ m.kind = 3 by omega), if_neg (show ¬ m.kind = 4 by omega), if_neg (show ¬ m.kind = 5 by omega), if_neg (show ¬ m.kind = 6 by omega), if_pos h]
  rw [e]; exact bV8 g ht h he hl
 ·have e : j9 (j2 m.kind) s = R8 (j2 m.kind) s := by simp only [j9, hm, if_neg (show ¬ m.kind = 1 by omega), if_neg (show ¬ m.kind = 2 by omega), if_neg (show ¬ m.kind = 3 by omega), if_neg (show ¬ m.kind = 4 by omega), if_neg (show ¬ m.kind = 5 by omega), if_neg (show ¬ m.kind = 6 by omega), if_neg (show ¬ m.kind = 7 by omega), if_pos h]
  rw [e]; exact bV_ g ht h he hl
theorem bp3 {k : Int} (hk : 1 ≤ k ∧ k ≤ 8) {s : RS} (he : (j9 (j2 k) s).2.e = 0) (hl : (j9 (j2 k) s).2.l = []) : s.e = 0 ∧ s.l = u3 (j9 (j2 k) s).1 ∧ Good (j9 (j2 k) s).1 ∧ segMsg (j9 (j2 k) s).1 ∧ (j9 (j2 k) s).1.kind = k := by
 have hm : (j2 k).kind = k := rfl
 have : k = 1 ∨ k = 2 ∨ k = 3 ∨ k = 4 ∨ k = 5 ∨ k = 6 ∨ k = 7 ∨ k = 8 := by omega
 rcases this with rfl | rfl | rfl | rfl | rfl | rfl | rfl | rfl
 ·have e : j9 (j2 1) s = R1 (j2 1) s := by simp only [j9, hm, if_true]
  rw [e] at he hl ⊢
  obtain ⟨q1, q2, q3, q4⟩ := bU8 he hl
  exact ⟨q1, q2, q3, q4, rfl⟩
 ·have e : j9 (j2 2) s = R2 (j2 2) s := by simp only [j9, hm, if_neg (show ¬ (2 : Int) = 1 by decide), if_true]
  rw [e] at he hl ⊢
  obtain ⟨q1, q2, q3, q4⟩ := bU_ he hl
  exact ⟨q1, q2, q3, q4, rfl⟩
 ·have e : j9 (j2 3) s = R3 (j2 3) s := by simp only [j9, hm, if_neg (show ¬ (3 : Int) = 1 by decide), if_neg (show ¬ (3 : Int) = 2 by decide), if_true]
  rw [e] at he hl ⊢
  obtain ⟨q1, q2, q3, q4⟩ := bV1 he hl
  exact ⟨q1, q2, q3, q4, rfl⟩
 ·have e : j9 (j2 4) s = R4 (j2 4) s := by simp only [j9, hm, if_neg (show ¬ (4 : Int) = 1 by decide), if_neg (show ¬ (4 : Int) = 2 by decide), if_neg (show ¬ (4 : Int) = 3 by decide), if_true]
  rw [e] at he hl ⊢
  obtain ⟨q1, q2, q3, q4⟩ := bV3 he hl
  exact ⟨q1, q2, q3, q4, rfl⟩
 ·have e : j9 (j2 5) s = R5 (j2 5) s := by simp only [j9, hm, if_neg (show ¬ (5 : Int) = 1 by decide), if_neg (show ¬ (5 : Int) = 2 by decide), if_neg (show ¬ (5 : Int) = 3 by decide), if_neg (show ¬ (5 : Int) = 4 by decide), if_true]
  rw [e] at he hl ⊢
  obtain ⟨q1, q2, q3, q4⟩ := bV5 he hl
  exact ⟨q1, q2, q3, q4, rfl⟩
 ·have e : j9 (j2 6) s = R6 (j2 6) s := by simp only [j9, hm, if_neg (show ¬ (6 : Int) = 1 by decide), if_neg (show ¬ (6 : Int) = 2 by decide), if_neg (show ¬ (6 : Int) = 3 by decide), if_neg (show ¬ (6 : Int) = 4 by decide), if_neg (show ¬ (6 : Int) = 5 by decide), if_true]
  rw [e] at he hl ⊢
  obtain ⟨q1, q2, q3, q4⟩ := bV7 he hl
  exact ⟨q1, q2, q3, q4, rfl⟩
 ·have e : j9 (j2 7) s = R7 (j2 7) s := by simp only [j9, hm, if_neg (show ¬ (7 : Int) = 1 by decide), if_neg (show ¬ (7 : Int) = 2 by decide), if_neg (show ¬ (7 : Int) = 3 by decide), if_neg (show ¬ (7 : Int) = 4 by decide), if_neg (show ¬ (7 : Int) = 5 by decide), if_neg (show ¬ (7 : Int) = 6 by decide), if_true]
  rw [e] at he hl ⊢
  obtain ⟨q1, q2, q3, q4⟩ := bV9 he hl
  exact ⟨q1, q2, q3, q4, rfl⟩
 ·have e : j9 (j2 8) s = R8 (j2 8) s := by simp only [j9, hm, if_neg (show ¬ (8 : Int) = 1 by decide), if_neg (show ¬ (8 : Int) = 2 by decide), if_neg (show ¬ (8 : Int) = 3 by decide), if_neg (show ¬ (8 : Int) = 4 by decide), if_neg (show ¬ (8 : Int) = 5 by decide), if_neg (show ¬ (8 : Int) = 6 by decide), if_neg (show ¬ (8 : Int) = 7 by decide), if_true]
  rw [e] at he hl ⊢
  obtain ⟨q1, q2, q3, q4⟩ := bW0 he hl
  exact ⟨q1, q2, q3, q4, rfl⟩
theorem bC4 {m : SMsg} (h : v5 m = true) (ht : segMsg m) (t : List UInt8) : J2 (p7 m ++ t) = m.kind ∧ (F7 (p7 m ++ t)).e = 0 ∧ SameM (w5 (p7 m ++ t)).1 m ∧ (w5 (p7 m ++ t)).2 = { l := t } := by
 have g := V9.1 h
 have hk := g.kind
 obtain ⟨a1, b1⟩ := C0 (n := m.kind) (most := 8) (by omega) hk.2 (by decide) { l := p7 m ++ t } (u3 m ++ t) rfl (by rw [p7, List.append_assoc])
 have e1 : F7 (p7 m ++ t) = { l := u3 m ++ t } := b1
 have eK : J2 (p7 m ++ t) = m.kind := a1
 obtain ⟨q1, q2⟩ := bp2 g ht (s := { l := u3 m ++ t }) (t := t) rfl rfl
 have eF : w5 (p7 m ++ t) = j9 (j2 m.kind) { l := u3 m ++ t } := by rw [w5, eK, e1]
 exact ⟨eK, by rw [e1], by rw [eF]; exact q1, by rw [eF, q2]⟩
theorem aY_ {m : SMsg} (h : v5 m = true) (ht : segMsg m) (hlen : (p7 m).length ≤ 4194304) : (D4 (p7 m)).2 = 0 ∧ m7 (D4 (p7 m)).1 m = true := by
 have hk := (V9.1 h).kind
 obtain ⟨eK, e1, q1, q2⟩ := bC4 h ht []
 rw [List.append_nil] at eK e1 q1 q2
 have : D4 (p7 m) = ((w5 (p7 m)).1, 0) := by
  unfold D4
  rw [if_neg (by omega), if_neg (by rw [eK]; omega), if_neg (by rw [q2]; simp), if_neg (by rw [q2]; simp [D6])]
 rw [this]
 exact ⟨rfl, X9.2 q1⟩
theorem bU4 {l : List UInt8} {x : SMsg} (h : D4 l = (x, 0)) : v5 x = true ∧ segMsg x ∧ p7 x = l ∧ l.length ≤ 4194304 := by
 unfold D4 at h
 split at h
 ·exact absurd (congrArg Prod.snd h) (by simp)
 ·rename_i h0
  split at h
  ·exact absurd (congrArg Prod.snd h) (by simp)
  ·rename_i h1
   split at h
   ·exact absurd (congrArg Prod.snd h) (by simp)
   ·rename_i h2
    split at h
    ·rename_i h3
     exact absurd (congrArg Prod.snd h) h3
    ·rename_i h3
     have h3 : D6 (w5 l).2 = 0 := by simpa using h3
     have hx : (w5 l).1 = x := congrArg Prod.fst h
     have he : (w5 l).2.e = 0 := by
      unfold D6 at h3
      split at h3
      ·rename_i h4; exact absurd h3 h4
      ·rename_i h4; simpa using h4
     have hl : (w5 l).2.l = [] := by
      unfold D6 at h3
      rw [if_neg (by simpa using he)] at h3
      split at h3
      ·cases h3
      ·exact List.eq_nil_of_length_eq_zero (by omega)
     have he1 : (F7 l).e = 0 := by
      refine Classical.byContradiction fun hne => ?_
      exact (aX8 (j2 (J2 l)) (F7 l)).2 hne he
     obtain ⟨g1, g2, g3, g4⟩ := C1 8 { l := l } he1
     have hk : 1 ≤ J2 l ∧ J2 l ≤ 8 := by
      have k1 : 0 ≤ J2 l := g3.1
      have k2 : J2 l ≤ 8 := g3.2.1
      have k3 : J2 l ≠ 0 := fun k3 => h1 ⟨k3, he1⟩
      omega
     obtain ⟨q1, q2, q3, q4, q5⟩ := bp3 hk (s := F7 l) he hl
     have hx' : (j9 (j2 (J2 l)) (F7 l)).1 = x := hx
     rw [hx'] at q2 q3 q4 q5
     refine ⟨V9.2 q3, q4, ?_, by omega⟩
     rw [p7, q5, ← q2]
     exact g2.symm
def ab_ (m : SMsg) : Int := if v5 m = true then (if 4194304 < (p7 m).length then 3 else 0) else 130
def ak3 (m : SMsg) : ByteArray := if ab_ m = 0 then baL (p7 m) else ByteArray.mk (Array.mk [])
theorem E3 {n : Int} {k : Int} (h : 0 ≤ n ∧ n ≤ k) (hk : k < 9223372036854775808) : p9 n := ⟨h.1, by omega⟩
theorem aU4 {r : SReq} (h : A0 r = true) (ht : SegOk 16 r.tag) : ReqOk r ∧ r.data.size ≤ 10000 := by
 simp only [A0, Bool.and_eq_true, decide_eq_true_eq, F3] at h
 exact ⟨⟨E3 h.1 (by decide), E3 h.2.1 (by decide), by omega, ht⟩, by omega⟩
theorem ay8 {b : SBatch} (h : p8 b = true) (ht : X2 b) : BatchOk b := by
 simp only [p8, Bool.and_eq_true, Bool.not_eq_true', Bool.and_eq_false_iff, decide_eq_false_iff_not, M7] at h
 obtain ⟨h1, h2, h3⟩ := h
 refine ⟨by omega, fun hn => ?_, fun k hk => (aU4 (h3 k hk) (ht k hk)).1, fun k hk => (aU4 (h3 k hk) (ht k hk)).2⟩
 rcases h1 with h1 | h1
 ·rw [hn] at h1; cases h1
 ·omega
theorem aJ7 {v : SVote} (h : u7 v = true) (ht : SegOk 32 v.digest) : VoteOk v := by
 simp only [u7, Bool.and_eq_true, Bool.or_eq_true, decide_eq_true_eq, F3] at h
 obtain ⟨h1, h2, h3, h4⟩ := h
 exact ⟨⟨by omega, by omega⟩, E3 h2 (by decide), E3 h3 (by decide), E3 h4 (by decide), ht⟩
theorem aJ3 {s : SSign} (h : r8 s = true) (ht : SegOk 16 s.tag) : SignOk s := ⟨E3 (F3.1 h) (by decide), ht⟩
theorem aH6 {c : SCert} (h : A2 c = true) (ht : segCert c) : CertOk c := by
 simp only [A2, Bool.and_eq_true, M7] at h
 exact ⟨aJ7 h.1 ht.vote, by have := h.2.1; omega, fun k hk => aJ3 (h.2.2 k hk) (ht.sig k hk)⟩
theorem bp_ {x : SHeld} (h : z8 x = true) (ht : segHeld x) : HeldOk x := by
 simp only [z8, Bool.and_eq_true] at h
 exact ⟨ay8 h.1 ht.batch, aH6 h.2 ht.cert⟩
theorem bC7 {x : SEnv} (h : u4 x = true) (ht : SegOk 16 x.tag) : EnvOk x := by
 simp only [u4, Bool.and_eq_true, decide_eq_true_eq, F3] at h
 exact ⟨E3 h.1 (by decide), by have := h.2; omega, ht⟩
theorem bC5 {m : SMsg} (h : v5 m = true) (ht : segMsg m) : EncOk m := by
 have g := V9.1 h
 exact ⟨g.kind, E3 g.epoch (by decide), E3 g.leader (by decide), E3 g.view (by decide), E3 g.slot (by decide), E3 g.cepoch (by decide), E3 g.cleader (by decide), E3 g.cview (by decide),
  ay8 g.batch ht.batch, fun hk => aJ7 (g.vote hk) ht.vote, by have := g.held.1; omega, fun k hk => bp_ (g.held.2 k hk) (ht.held k hk), by have := g.news.1; omega, fun k hk => bC7 (g.news.2 k hk) (ht.news k hk),
  ht.digest, fun hk => aH6 (g.cert hk) ht.cert, by have := g.state; omega, by have := g.sig.1; omega, fun k hk => aJ3 (g.sig.2 k hk) (ht.sig k hk)⟩
theorem aH_ {m : SMsg} (h : v5 m = true) : FitM m := by
 have g := V9.1 h
 have hb : ∀ {b : SBatch}, p8 b = true → b.n ≤ 1000000 := fun h => by
  simp only [p8, Bool.and_eq_true, M7] at h
  have := h.2.1; omega
 have hc : ∀ {c : SCert}, A2 c = true → c.n ≤ 1000000 := fun h => by
  simp only [A2, Bool.and_eq_true, M7] at h
  have := h.2.1; omega
 refine ⟨hb g.batch, by have := g.held.1; omega, fun k hk => ?_, by have := g.news.1; omega, ?_, by have := g.sig.1; omega⟩
 ·have := g.held.2 k hk
  simp only [z8, Bool.and_eq_true] at this
  exact ⟨hb this.1, hc this.2⟩
 ·by_cases h7 : m.kind = 7
  ·exact hc (g.cert h7)
  ·have ho := g.only.cert
   have : (m5 m).cert = { vote := L4 } := by
    unfold m5
    repeat' split
    all_goals first | rfl
   rw [this] at ho
   have := (I9.1 ho).2.1
   rw [this]; exact Nat.zero_le _
theorem aN1 {m : SMsg} (hf : FitM m) (ht : segMsg m) : T Tryz.prog 19 [.agg m.c] [] (.tup [.str (ak3 m), .int .i64 (ab_ m)]) [] := by
 have h := cr1 (m := m) (cc4 hf) fun h => bC5 h ht
 have e : F2 m (v5 m) = .tup [.str (ak3 m), .int .i64 (ab_ m)] := by
  unfold F2 ak3 ab_
  cases v5 m with
  | false => rfl
  | true =>
   simp only [if_true]
   by_cases hl : 4194304 < (p7 m).length
   ·simp only [if_pos hl]; rfl
   ·simp only [if_neg hl]; rfl
 rw [e] at h; exact h
theorem bo7 {m : SMsg} (h : ab_ m = 0) : v5 m = true ∧ (p7 m).length ≤ 4194304 ∧ ak3 m = baL (p7 m) := by
 have h' := h
 unfold ab_ at h
 split at h
 ·rename_i h1
  split at h
  ·cases h
  ·rename_i h2
   exact ⟨h1, by omega, by rw [ak3, if_pos h']⟩
 ·cases h
def av1 : SEnv := { src := 0, body := baL [], tag := z16 }
end Go.Proofs.YtnmccoincblecaaGreat
namespace Sy
open Go
variable {P : Program} {U : Imm} {ρ : Env}
theorem H8 {pre : c5} {w : World} (hh : HRel U ρ pre w) : U.le (freeze U ρ pre w) ∧ N6 U (freeze U ρ pre w) ρ pre ∧ HRel (freeze U ρ pre w) ρ [] w := by
 have hfU : ∀ n b l, (n, b) ∈ pre → ρ n = some l → l.real = true → U l.blk = none := fun n b l hm e hr => by
  obtain ⟨_, _, _, h⟩ := hh.real hm e hr; exact h
 refine ⟨fun k c e => ?_, fun n b hm l e hr => ?_, ?_⟩
 ·unfold freeze
  split
  ·rename_i hx
   obtain ⟨n, b, l, h1, h2, h3, rfl⟩ := hx
   rw [hfU n b l h1 h2 h3] at e; cases e
  ·exact e
 ·have hex : ∃ n b l', (n, b) ∈ pre ∧ ρ n = some l' ∧ l'.real = true ∧ l'.blk = l.blk := ⟨n, b, l, hm, e, hr, rfl⟩
  obtain ⟨o, h1, h2, h3⟩ := hh.real hm e hr
  constructor
  ·rintro cs rfl
   obtain ⟨c, el, lo, hi, rfl, _, _, h4⟩ := h2
   exact ⟨c, by unfold freeze; rw [if_pos hex, h1], h4⟩
  ·rintro es m f g rfl
   obtain ⟨c, el, lo, hi, rfl, _, _, _, _, h4⟩ := h2
   exact ⟨c, by unfold freeze; rw [if_pos hex, h1], h4⟩
 ·refine ⟨fun n b hm => absurd hm List.not_mem_nil, fun n b n' b' l l' hm => absurd hm List.not_mem_nil, List.nodup_nil, fun k c hk => ?_⟩
  unfold freeze at hk
  split at hk
  ·split at hk
   ·rename_i c' el fr hx
    simp only [Option.some.injEq] at hk; subst hk
    exact ⟨el, fr, hx⟩
   ·cases hk
  ·exact hh.imm k c hk
theorem Leaves.frz {pre post : c5} {w w' : World} {val : V} {x : Value} {U' : Imm} {ρ' : Env} (H : HRel U ρ pre w) (L : Leaves (freeze U ρ pre w) ρ [] w val post x U' ρ' w') : Leaves U ρ pre w val post x U' ρ' w' := by
 refine ⟨L.val, L.heap, L.keep, L.only, ⟨L.ext.size, Imm.le_trans (H8 H).1 L.ext.imm, fun b hb _ => L.ext.frame b hb fun n l ⟨b, hb⟩ => absurd hb List.not_mem_nil, fun n l hd e hr => ?_, fun b c e => ?_, L.ext.out⟩⟩
 ·rcases L.ext.new n l hd e hr with h | ⟨_, _, ⟨b, hb⟩, _⟩
  ·exact .inl h
  ·exact absurd hb List.not_mem_nil
 ·rcases L.ext.newImm b c e with h | h | ⟨_, _, ⟨b, hb⟩, _⟩
  ·unfold freeze at h
   split at h
   ·rename_i hx
    obtain ⟨n, b', l, h1, h2, h3, h4⟩ := hx
    exact .inr (.inr ⟨n, l, ⟨b', h1⟩, h2, h3, h4⟩)
   ·exact .inl h
  ·exact .inr (.inl h)
  ·exact absurd hb List.not_mem_nil
theorem T.frz {f : FuncId} {args args' : List V} {pre post : c5} {val : V} (h : T P f args [] val post)
  (hw : ∀ U ρ w xs, HRel U ρ pre w → j1 U ρ args' xs → j1 (freeze U ρ pre w) ρ args xs) (hd : ∀ n, c5.dom post n → ¬ c5.dom pre n) : T P f args' pre val post := by
 intro U ρ w xs hh ha hf
 refine Calls.mono (h _ ρ w xs (H8 hh).2.2 (hw U ρ w _ hh ha) fun n hn => .inr ((hf n hn).resolve_left (hd n hn))) ?_
 rintro e w' ⟨x, U', ρ', he, L⟩
 exact ⟨x, U', ρ', he, Leaves.frz hh L⟩
theorem TO.frz {pr : Prim} {args args' : List V} {pre post : c5} {val : V} (h : TO P pr args [] val post)
  (hw : ∀ U ρ w xs, HRel U ρ pre w → j1 U ρ args' xs → j1 (freeze U ρ pre w) ρ args xs) (hd : ∀ n, c5.dom post n → ¬ c5.dom pre n) : TO P pr args' pre val post := by
 intro ty U ρ w xs hh ha hf
 obtain ⟨x, w', U', ρ', he, L⟩ := h ty _ ρ w xs (H8 hh).2.2 (hw U ρ w _ hh ha) fun n hn => .inr ((hf n hn).resolve_left (hd n hn))
 exact ⟨x, w', U', ρ', he, Leaves.frz hh L⟩
theorem aZ2 {pre0 pre1 : c5} {w : World} (hh : HRel U ρ (pre0 ++ pre1) w) : HRel (freeze U ρ pre1 w) ρ pre0 w := by
 have hl := hh.left
 obtain ⟨hU, hF, h00⟩ := H8 hh.right
 refine ⟨fun n b hm => ?_, hl.inj, hl.nd, h00.imm⟩
 obtain ⟨l, g1, g2⟩ := hl.blk n b hm
 refine ⟨l, g1, ?_⟩
 rcases g2 with ⟨hre, o, g3, g4, g5⟩ | g2
 ·refine .inl ⟨hre, o, g3, z6.mono hU (fun _ _ h => h) g4, ?_⟩
  unfold freeze
  rw [if_neg]
  ·exact g5
  ·rintro ⟨n1, b1, l1, k1, k2, k3, k4⟩
   have := hh.inj n b n1 b1 l l1 (List.mem_append_left _ hm) (List.mem_append_right _ k1) g1 k2 hre k3 k4.symm
   subst this
   have hnd := hh.nd
   rw [List.map_append, List.nodup_append] at hnd
   exact hnd.2.2 n (T8.1 ⟨b, hm⟩) n (T8.1 ⟨b1, k1⟩) rfl
 ·exact .inr g2
theorem Leaves.frzH {pre0 pre1 post : c5} {w w' : World} {val : V} {x : Value} {U' : Imm} {ρ' : Env} (H : HRel U ρ (pre0 ++ pre1) w) (L : Leaves (freeze U ρ pre1 w) ρ pre0 w val post x U' ρ' w') : Leaves U ρ (pre0 ++ pre1) w val post x U' ρ' w' := by
 refine ⟨L.val, L.heap, L.keep, L.only, ⟨L.ext.size, Imm.le_trans (H8 H.right).1 L.ext.imm, fun b hb hn => L.ext.frame b hb fun n l hd0 => hn n l (m8.2 (.inl hd0)), fun n l hd0 e hr0 => ?_, fun b c e => ?_, L.ext.out⟩⟩
 ·rcases L.ext.new n l hd0 e hr0 with h | ⟨n0, l0, h1, h2, h3, h4⟩
  ·exact .inl h
  ·exact .inr ⟨n0, l0, m8.2 (.inl h1), h2, h3, h4⟩
 ·rcases L.ext.newImm b c e with h | h | ⟨n0, l0, h1, h2, h3, h4⟩
  ·unfold freeze at h
   split at h
   ·rename_i hx
    obtain ⟨n, b', l, h1, h2, h3, h4⟩ := hx
    exact .inr (.inr ⟨n, l, m8.2 (.inr ⟨b', h1⟩), h2, h3, h4⟩)
   ·exact .inl h
  ·exact .inr (.inl h)
  ·exact .inr (.inr ⟨n0, l0, m8.2 (.inl h1), h2, h3, h4⟩)
theorem T.frzH {f : FuncId} {args args' : List V} {pre0 pre1 post : c5} {val : V} (h : T P f args pre0 val post)
  (hw : ∀ U ρ w xs, HRel U ρ pre1 w → j1 U ρ args' xs → j1 (freeze U ρ pre1 w) ρ args xs) (hd : ∀ n, c5.dom post n → ¬ c5.dom pre1 n) : T P f args' (pre0 ++ pre1) val post := by
 intro U ρ w xs hh ha hf
 refine Calls.mono (h _ ρ w xs (aZ2 hh) (hw U ρ w _ hh.right ha) fun n hn => ?_) ?_
 ·rcases hf n hn with h1 | h1
  ·exact .inl ((m8.1 h1).resolve_right (hd n hn))
  ·exact .inr h1
 rintro e w' ⟨x, U', ρ', he, L⟩
 exact ⟨x, U', ρ', he, Leaves.frzH hh L⟩
theorem TO.frzH {pr : Prim} {args args' : List V} {pre0 pre1 post : c5} {val : V} (h : TO P pr args pre0 val post)
  (hw : ∀ U ρ w xs, HRel U ρ pre1 w → j1 U ρ args' xs → j1 (freeze U ρ pre1 w) ρ args xs) (hd : ∀ n, c5.dom post n → ¬ c5.dom pre1 n) : TO P pr args' (pre0 ++ pre1) val post := by
 intro ty U ρ w xs hh ha hf
 obtain ⟨x, w', U', ρ', he, L⟩ := h ty _ ρ w xs (aZ2 hh) (hw U ρ w _ hh.right ha) fun n hn => by
  rcases hf n hn with h1 | h1
  ·exact .inl ((m8.1 h1).resolve_right (hd n hn))
  ·exact .inr h1
 exact ⟨x, w', U', ρ', he, Leaves.frzH hh L⟩
theorem aB0 {pre : c5} {args args' : List V} {cs : List Prop} (hl : V0 pre args' args = some cs) (hc : All cs) : ∀ U ρ w xs, HRel U ρ pre w → j1 U ρ args' xs → j1 (freeze U ρ pre w) ρ args xs :=
 fun _ _ _ xs H hv => T9 (H8 H).1 (H8 H).2.1 _ _ _ xs hl hc hv
theorem aL8 {u v : V} {xs : List Value} (h : j1 U ρ [u, v] xs) : ∃ x y, xs = [x, y] ∧ e9 U ρ u x ∧ e9 U ρ v y := by
 rw [j1] at h
 obtain ⟨x, r, rfl, h1, h2⟩ := h
 rw [j1] at h2
 obtain ⟨y, r', rfl, h3, h4⟩ := h2
 rw [j1] at h4
 subst h4
 exact ⟨x, y, rfl, h1, h3⟩
theorem i8.at {cs : List V} {l : List Value} (h : i8 U ρ cs l) (hc : ∀ v ∈ cs, V.cell v = true) : ∀ (i : Nat) (v : V), cs[i]? = some v → ∃ z : Value, l[i]? = some z ∧ e9 U ρ v z := by
 induction cs generalizing l with
 | nil => intro i v e; simp at e
 | cons a t ih =>
  rw [i8] at h
  obtain ⟨l1, l2, rfl, h1, h2⟩ := h
  have ha := hc a (List.mem_cons_self ..)
  rcases h1 with ⟨k, m, xs, rfl, _⟩ | ⟨_, x, rfl, hx⟩
  ·cases ha
  ·intro i v e
   cases i with
   | zero => simp only [List.getElem?_cons_zero, Option.some.injEq] at e; subst e; exact ⟨x, rfl, hx⟩
   | succ i => exact ih h2 (fun v hv => hc v (List.mem_cons_of_mem _ hv)) i v (by simpa using e)
theorem ah7 {pre : c5} {w : World} (H : HRel U ρ pre w) {x : Nm} {cs : List V} (hm : (x, B.flat cs) ∈ pre) {len : Nat} {cap : Option Nat} {y : Value} (hv : e9 U ρ (.sl x 0 0 0 0 len cap) y) {f : Nat → V} {clip : Bool} (hcl : clip = true → cap = some len)
  (hone : ∀ v ∈ cs, V.cell v = true) (h : ∀ i, i < len → V.cell (f i) = true ∧ ∃ v, cs[i]? = some v ∧ ∀ z, e9 U ρ v z → e9 (freeze U ρ pre w) Env.none (f i) z) : e9 (freeze U ρ pre w) ρ (.ros 1 len (fun i => [f i]) clip) y := by
 obtain ⟨l, hl, g⟩ := H.blk x _ hm
 rcases g with ⟨hr, o, g1, g2, g3⟩ | ⟨_, es, f', g⟩
 ·obtain ⟨c, hc, h4⟩ := ((H8 H).2.1 x _ hm l hl hr).1 cs rfl
  rw [e9] at hv
  obtain ⟨l', cp, e1, e2, e3, e4⟩ := hv
  rw [hl] at e1; cases e1
  rcases e4 with ⟨_, rfl, _⟩ | ⟨hr', _⟩
  ·rw [e9]
   refine ⟨_, cp, rfl, e2, fun hc => e3 len (hcl hc), fun i hi => ⟨l.blk, 0, c, by simp, hc, ?_⟩⟩
   obtain ⟨k1, v, k2, k3⟩ := h i hi
   obtain ⟨z, k4, k5⟩ := i8.at h4 hone i v k2
   refine ⟨[z], ?_, rfl, fun k hk => ?_⟩
   ·rw [i8]; exact ⟨[z], [], rfl, .inr ⟨k1, z, rfl, k3 z k5⟩, by rw [i8]⟩
   ·have : k = 0 := by simpa using hk
    subst this
    simpa using k4
  ·rw [hr] at hr'; cases hr'
 ·cases g
theorem aC3 {pre : c5} {w : World} (H : HRel U ρ pre w) {b : Nm} {k : IntKind} {m : Nat} {xs : List Int} (hm : (b, B.flat [.seg k m xs]) ∈ pre) {len : Nat} {cap : Option Nat} {z : Value} (hv : e9 U ρ (.sl b 0 0 0 0 len cap) z)
  (hlen : len ≤ m) {f : Nat → List V} (hf : ∀ i, i < len → f i = [.int k (xs.getD i 0)]) {ρ' : Env} : e9 (freeze U ρ pre w) ρ' (.ros 1 len f false) z := by
 obtain ⟨l, hl, g⟩ := H.blk b _ hm
 rcases g with ⟨hr, o, g1, g2, g3⟩ | ⟨_, es, f', g⟩
 ·obtain ⟨c, hc, h4⟩ := ((H8 H).2.1 b _ hm l hl hr).1 _ rfl
  rw [e9] at hv
  obtain ⟨l', cp, e1, e2, e3, e4⟩ := hv
  rw [hl] at e1; cases e1
  rcases e4 with ⟨_, rfl, _⟩ | ⟨hr', _⟩
  ·rw [i8] at h4
   obtain ⟨l1, l2, h5, h6, h7⟩ := h4
   rw [i8] at h7
   subst h7
   rcases h6 with ⟨k', m', xs', hk, hlx, rfl⟩ | ⟨hx, _⟩
   ·cases hk
    rw [e9]
    refine ⟨_, cp, rfl, e2, fun hh => absurd hh (by simp), fun i hi => ⟨l.blk, 0, c, by simp, hc, ?_⟩⟩
    rw [hf i hi]
    refine ⟨[.int k (xs.getD i 0)], ?_, rfl, fun j hj => ?_⟩
    ·rw [i8]; exact ⟨[.int k (xs.getD i 0)], [], rfl, .inr ⟨rfl, _, rfl, by rw [e9]⟩, by rw [i8]⟩
    ·have : j = 0 := by simpa using hj
     subst this
     have hi' : i < xs.length := by omega
     have e : c[i]? = c.toList[i]? := by simp
     simp only [Nat.zero_add, Nat.mul_one, Nat.add_zero, List.getElem?_cons_zero]
     rw [e, h5, List.append_nil, List.getElem?_map, List.getElem?_eq_getElem hi', List.getD_eq_getElem?_getD, List.getElem?_eq_getElem hi']
     rfl
   ·cases hx
  ·rw [hr] at hr'; cases hr'
 ·cases g
theorem ca9 {base : Nat} {t tx : TypeId} {d s val : V} {post : c5} {cs : List Prop} (h : aa4 P base t tx d s [] [] = some (val, post, cs)) (hc : All cs) (hn : ∀ ρ : Env, (∀ n, c5.dom post n → ρ n = none) → ρ (.o base) = none) :
  TO P (.append t tx) [d, s] [] val post := by
 intro ty U ρ w xs H hv hf
 obtain ⟨x, y, rfl, h1, h2⟩ := aL8 hv
 obtain ⟨z, w', U', ρ', e, L⟩ := ay5 (ty := ty) h hc h1 h2 H (hn ρ fun n hn => (hf n hn).resolve_left fun ⟨b, hb⟩ => absurd hb List.not_mem_nil)
 exact ⟨z, w', U', ρ', .inl (by simp only [Prim.exec, Sem.run_bind, e, Result.andThen_ok, Sem.run_pure]), L⟩
theorem ca_ {t tx : TypeId} {d s val : V} {pre post : c5} {cs : List Prop} (h : aM2 P t d s pre = some (val, post, cs)) (hc : All cs) : TO P (.copy t tx) [d, s] pre val post := by
 intro ty U ρ w xs H hv hf
 obtain ⟨x, y, rfl, h1, h2⟩ := aL8 hv
 obtain ⟨z, w', U', ρ', e, L⟩ := aQ7 (tx := tx) (ty := ty) h hc h1 h2 H
 exact ⟨z, w', U', ρ', .inl (by simp only [Prim.exec, Sem.run_bind, e, Result.andThen_ok, Sem.run_pure]), L⟩
theorem e9.ros {U U' : Imm} {ρ ρ' : Env} (hU : U.le U') {es len : Nat} {f : Nat → List V} {clip : Bool} {z : Value} (h : e9 U ρ (.ros es len f clip) z) : e9 U' ρ' (.ros es len f clip) z := by
 have := e9.mono (ρ' := ρ) hU (fun _ _ h => h) h
 rw [e9] at this ⊢; exact this
end Sy
namespace Go.Proofs.YtnmccoincblecaaGreat
open Go Sy Go.Proofs
noncomputable def bl2 (n : Nat) (l : List UInt8) (c : Bool) : Bd := { f := Tryz.f35, args := [.ros 1 l.length (bl l) c, .int .i64 n], base := 1, kb := { db := aQ9 (i4 8 n).length, lp := aS4 n l }, k := be1 n l, names := fun _ => [.o 1] }
def U8 (r : SReq) : List UInt8 := [82] ++ c6 r.client ++ c6 r.num ++ j3 r.data
noncomputable def cv7 (r : SReq) : Bd := { f := Tryz.f68, args := [.agg r.c], kb := { db := ai4 0 [(35, 5, fun a _ lo => F6 ([82] ++ c6 r.client) a lo), (35, 8, fun a _ lo => F6 ([82] ++ c6 r.client ++ c6 r.num) a lo), (34, 13, fun a _ lo => F6 (U8 r) a lo)] } }
theorem bl3 (n : Nat) (l : List UInt8) (c : Bool) :
  f4 zp (bl2 n l c) [false] = (some (.sl (.o 1) 1 0 0 0 (List.length (l ++ j8 n)) none, [(.o 1, bs (l ++ j8 n))], [(0 : Int) ≤ (↑(List.length l) : Int) ∧ (↑(List.length l) : Int) ≤ (↑(List.length l) : Int), (0 : Int) ≤ (↑(List.length l) : Int) ∧ (↑(List.length l) : Int) ≤ (↑(i3 (some (↑(List.length l) : Int)) (List.length l)) : Int), q (↑(List.length l) : Int), q false, T zp 80 [.int .i64 ↑n] [] (.int .i64 (↑(List.length (i4 8 n) + 1) : Int)) [], InR .i64 ((↑(List.length (i4 (8 : Nat) n) + (1 : Nat)) : Int) - (1 : Int)), 1 ≤ (1 : Nat), ∀ (k : Nat), k < (1 : Nat) → s6 (j4 [[V.int .u8 (IntKind.wrap .u8 ((↑(List.length (i4 (8 : Nat) n) + (1 : Nat)) : Int) - (1 : Int)))]] ((0 : Nat) + k)) = true, (0 : Nat) < (1 : Nat), (i3 (some (↑(List.length l) : Int)) (List.length l) - 0 + (1 : Nat)) * (1 : Nat) ≤ (140737488355328 : Nat), i5 zp none 1 (cB (cB (cR (cL (cR (cR (cR (cR (cR (f8 (Bd.f (bl2 n l c)))))))))))) (List.length (i4 8 n) + 1) (St.mk (mkT 41 [(0, .sl (.o 1) 1 0 0 0 (List.length (l ++ List.take 1 (j8 n))) none), (1, .int .i64 ↑n), (5, .int .i64 (↑(List.length (i4 8 n)) : Int)), (24, .int .i64 (↑(List.length (i4 8 n)) : Int)), (25, .int .i64 0)]) [(.o 1, bs (l ++ List.take 1 (j8 n)))] 2 []) (.exit 0) (St.mk (mkT 41 [(0, .sl (.o 1) 1 0 0 0 (List.length (l ++ List.take (List.length (i4 8 n) + 1) (j8 n))) none), (1, .int .i64 ↑n), (5, .int .i64 (↑(List.length (i4 8 n)) : Int)), (24, .int .i64 (↑(List.length (i4 8 n)) : Int)), (25, .int .i64 (↑(List.length (i4 8 n)) : Int))]) [(.o 1, bs (l ++ List.take (List.length (i4 8 n) + 1) (j8 n)))] 2 []), i3 (some (↑(List.length l) : Int)) (List.length l) - 0 + (1 : Nat) = List.length (l ++ List.take 1 (j8 n)), ∀ (k : Nat), k < i3 (some (↑(List.length l) : Int)) (List.length l) - 0 + (1 : Nat) → r6 (i3 (some (↑(List.length l) : Int)) (List.length l) - 0) (aC_ (bl l) none) (fun k => j4 [[V.int .u8 (IntKind.wrap .u8 ((↑(List.length (i4 (8 : Nat) n) + (1 : Nat)) : Int) - (1 : Int)))]] ((0 : Nat) + k)) k = bl (l ++ List.take 1 (j8 n)) k, true = false → true = false, q0, q0, q0, i3 (some (↑(List.length l) : Int)) (List.length l) - 0 + (1 : Nat) = List.length (l ++ List.take 1 (j8 n)), (none : Option Nat) = none ∨ (none : Option Nat) = none, q (↑n : Int), (↑(List.length (i4 (8 : Nat) n) + (1 : Nat)) : Int) - (1 : Int) = (↑(List.length (i4 (8 : Nat) n)) : Int), (↑(List.length (i4 (8 : Nat) n) + (1 : Nat)) : Int) - (1 : Int) = (↑(List.length (i4 (8 : Nat) n)) : Int), q1, List.length (l ++ List.take (List.length (i4 (8 : Nat) n) + (1 : Nat)) (j8 n)) = List.length (l ++ j8 n), ∀ (k : Nat), k < List.length (l ++ List.take (List.length (i4 (8 : Nat) n) + (1 : Nat)) (j8 n)) → bl (l ++ List.take (List.length (i4 (8 : Nat) n) + (1 : Nat)) (j8 n)) k = bl (l ++ j8 n) k, true = false → true = false, q0, q0, q0, List.length (l ++ List.take (List.length (i4 (8 : Nat) n) + (1 : Nat)) (j8 n)) = List.length (l ++ j8 n), (none : Option Nat) = none ∨ (none : Option Nat) = none]) : Option (V × c5 × List Prop)) := by kernel_rfl
theorem bS4 (r : SReq) :
  f4 zp (cv7 r) [] = (some (.str (E9 (List.length (U8 r)) fun k => bl (U8 r) (0 + k)), [], [T zp 35 [.sl (.o 128) 1 0 0 0 1 (some 1), .int .i64 (SReq.client r)] [(.o 128, .rows 1 1 (j4 [[.int .u8 82]]) false)] (sb (.o 320) ([(82 : UInt8)] ++ c6 (SReq.client r))) [(.o 320, bs ([(82 : UInt8)] ++ c6 (SReq.client r)))], T zp 35 [.sl (.o 320) 1 0 0 0 (List.length ([(82 : UInt8)] ++ c6 (SReq.client r))) none, .int .i64 (SReq.num r)] [(.o 320, bs ([(82 : UInt8)] ++ c6 (SReq.client r)))] (sb (.o 512) ([(82 : UInt8)] ++ c6 (SReq.client r) ++ c6 (SReq.num r))) [(.o 512, bs ([(82 : UInt8)] ++ c6 (SReq.client r) ++ c6 (SReq.num r)))], T zp 34 [.sl (.o 512) 1 0 0 0 (List.length ([(82 : UInt8)] ++ c6 (SReq.client r) ++ c6 (SReq.num r))) none, .str (SReq.data r)] [(.o 512, bs ([(82 : UInt8)] ++ c6 (SReq.client r) ++ c6 (SReq.num r)))] (sb (.o 832) (U8 r)) [(.o 832, bs (U8 r))], ∀ (k : Nat), k < List.length (U8 r) → true = true, (0 : Nat) + List.length (U8 r) ≤ List.length (U8 r), ∀ (k : Nat), k < List.length (U8 r) → true = true]) : Option (V × c5 × List Prop)) := by kernel_rfl
theorem bO2 {n : Nat} (h : n < 9223372036854775808) {l : List UInt8} (hl : l.length ≤ 70368744177664) (c : Bool) : T Tryz.prog 35 [.ros 1 l.length (bl l) c, .int .i64 n] [] (sb (.o 1) (l ++ j8 n)) [(.o 1, bs (l ++ j8 n))] := by
 have h1 := F1 8 n (K9 h)
 have hv : IntKind.wrap IntKind.u8 ((((i4 8 n).length + 1 : Nat) : Int) - 1) = ((UInt8.ofNat (i4 8 n).length).toNat : Int) := by
  rw [show (((i4 8 n).length + 1 : Nat) : Int) - 1 = (((i4 8 n).length : Nat) : Int) by omega, as6]
 have hc := ab6 l _ _ hv
 refine f5 (bl3 n l c) Tryz.func35 ?_
 simp only [All]
 and_intros
 all_goals first | exact aN5 h | exact at_ h hl | (simp only [i3, Int.toNat_natCast, Nat.sub_zero]; exact hc) | (simp [j8, i3, IntKind.min, IntKind.max, IntKind.signed, IntKind.bits] <;> omega) | (intro k hk; rw [show k = 0 by omega]; rfl)
theorem ce2 {z : Int} (h : p9 z) {l : List UInt8} (hl : l.length ≤ 70368744177664) (c : Bool) (m : Nat) : T Tryz.prog 35 [.ros 1 l.length (bl l) c, .int .i64 z] [] (sb (.o m) (l ++ c6 z)) [(.o m, bs (l ++ c6 z))] := by
 have e : ((z.toNat : Nat) : Int) = z := Int.toNat_of_nonneg h.1
 have h0 := bO2 (n := z.toNat) (by have := h.2; omega) hl c
 rw [e] at h0
 obtain ⟨σ, hσ, h1⟩ := T.at h0 [.o 1] [.o m] (by simp) (by simp) rfl
 simp only [List.map_cons, List.map_nil, List.cons.injEq, and_true] at hσ
 simpa [V.rens, V.ren, sb, bs, c5.ren, B.ren, hσ, c6] using h1
theorem cs_ {r : SReq} (hc : p9 r.client) (hn : p9 r.num) (hd : r.data.size ≤ 1000000000) : T Tryz.prog 68 [.agg r.c] [] (.str (baL (U8 r))) [] := by
 have h1 := m9 hc
 have h2 := m9 hn
 have h0 : T Tryz.prog 35 [.sl (.o 128) 1 0 0 0 1 (some 1), .int .i64 r.client] [(.o 128, .rows 1 1 (j4 [[.int .u8 82]]) false)] (sb (.o 320) ([82] ++ c6 r.client)) [(.o 320, bs ([82] ++ c6 r.client))] := by
  refine T.frz (ce2 hc (l := [82]) (by decide) false 320) (aB0 rfl ?_) ?_
  ·and_intros
   all_goals first | exact True.intro | (intro k hk; obtain rfl : k = 0 := (by omega); rfl) | with_reducible rfl | omega | (intro h; cases h; done) | (simp; done)
  ·rintro n ⟨b, hb⟩ ⟨b', hb'⟩
   simp only [List.mem_cons, List.mem_nil_iff, or_false, Prod.mk.injEq] at hb hb'
   rw [hb.1] at hb'
   cases hb'.1
 have e1 : ([82] ++ c6 r.client : List UInt8).length ≤ 10 := by simp; omega
 have e2 : ([82] ++ c6 r.client ++ c6 r.num : List UInt8).length ≤ 19 := by simp; omega
 refine T.val (f5 (bS4 r) Tryz.func68 ?_) (by rw [I3])
 simp only [All]; and_intros
 all_goals first | exact True.intro | exact h0 | exact K8 hn (by omega) (by decide) | exact aN6 (by omega) (by omega) (by decide) | (rw [Nat.zero_add]; exact Nat.le_refl _) | (intro _ _; exact True.intro)
end Go.Proofs.YtnmccoincblecaaGreat
namespace Sy
open Go
def o32 (x y : Int) : Int := n6 (fun _ x y => x ||| y) .u32 x y
def x32 (x y : Int) : Int := n6 (fun _ x y => x ^^^ y) .u32 x y
def a32 (x y : Int) : Int := n6 (fun _ x y => x &&& y) .u32 x y
def w32 (x : Int) : Int := IntKind.wrap .u32 x
def n32 (x : Int) : Int := x32 4294967295 x
def C8 (x n : Int) : Int := o32 (x / 2 ^ n.toNat) (w32 (x * 2 ^ (32 - n).toNat))
def lo5 (n : Int) : Int := n6 (fun _ x y => x &&& y) .u64 (IntKind.wrap .u64 n) 31
def T3 (x n : Int) : Int := o32 (w32 (x * 2 ^ (lo5 n).toNat)) (x / 2 ^ (IntKind.wrap .u64 (32 - lo5 n)).toNat)
theorem bE4 (x y : Int) : o32 x y = o32 y x := by
 simp only [o32, n6]
 rw [BitVec.or_comm]
theorem aZ5 : ∀ n : Nat, n < 32 → 0 < n → lo5 (-(n : Int)) = 32 - n ∧ IntKind.wrap .u64 (32 - lo5 (-(n : Int))) = n := by decide
theorem cx0 (x : Int) {n : Nat} (h0 : 0 < n) (h : n < 32) : T3 x (-(n : Int)) = C8 x n := by
 obtain ⟨h1, h2⟩ := aZ5 n h h0
 rw [T3, h2, h1, bE4, C8]
def kT : List Int := [0x428a2f98, 0x71374491, 0xb5c0fbcf, 0xe9b5dba5, 0x3956c25b, 0x59f111f1, 0x923f82a4, 0xab1c5ed5,
 0xd807aa98, 0x12835b01, 0x243185be, 0x550c7dc3, 0x72be5d74, 0x80deb1fe, 0x9bdc06a7, 0xc19bf174,
 0xe49b69c1, 0xefbe4786, 0x0fc19dc6, 0x240ca1cc, 0x2de92c6f, 0x4a7484aa, 0x5cb0a9dc, 0x76f988da,
 0x983e5152, 0xa831c66d, 0xb00327c8, 0xbf597fc7, 0xc6e00bf3, 0xd5a79147, 0x06ca6351, 0x14292967,
 0x27b70a85, 0x2e1b2138, 0x4d2c6dfc, 0x53380d13, 0x650a7354, 0x766a0abb, 0x81c2c92e, 0x92722c85,
 0xa2bfe8a1, 0xa81a664b, 0xc24b8b70, 0xc76c51a3, 0xd192e819, 0xd6990624, 0xf40e3585, 0x106aa070,
 0x19a4c116, 0x1e376c08, 0x2748774c, 0x34b0bcb5, 0x391c0cb3, 0x4ed8aa4a, 0x5b9cca4f, 0x682e6ff3,
 0x748f82ee, 0x78a5636f, 0x84c87814, 0x8cc70208, 0x90befffa, 0xa4506ceb, 0xbef9a3f7, 0xc67178f2]
def kN (t : Nat) : Int := kT.getD t 0
def s32 (x a b c : Int) : Int := x32 (x32 (C8 x a) (C8 x b)) (C8 x c)
def m32 (x a b c : Int) : Int := x32 (x32 (C8 x a) (C8 x b)) (x / 2 ^ c.toNat)
def ldW (b : List Int) (i : Nat) : Int := o32 (o32 (o32 (w32 (w32 (b.getD (4 * i) 0) * 16777216)) (w32 (w32 (b.getD (4 * i + 1) 0) * 65536))) (w32 (w32 (b.getD (4 * i + 2) 0) * 256))) (w32 (b.getD (4 * i + 3) 0))
def wA (b : List Int) : Nat → List Int
 | 0 => List.replicate 64 0
 | i + 1 => (wA b i).set i (ldW b i)
def mxW (w : List Int) (k : Nat) : Int := w32 (w32 (w32 (w.getD k 0 + m32 (w.getD (k + 1) 0) 7 18 3) + w.getD (k + 9) 0) + m32 (w.getD (k + 14) 0) 17 19 10)
def wB (b : List Int) : Nat → List Int
 | 0 => wA b 16
 | k + 1 => (wB b k).set (16 + k) (mxW (wB b k) k)
structure S8 where
 a : Int
 b : Int
 c : Int
 d : Int
 e : Int
 f : Int
 g : Int
 h : Int
def S8.l (s : S8) : List Int := [s.a, s.b, s.c, s.d, s.e, s.f, s.g, s.h]
def S8.of (h : List Int) : S8 := ⟨h.getD 0 0, h.getD 1 0, h.getD 2 0, h.getD 3 0, h.getD 4 0, h.getD 5 0, h.getD 6 0, h.getD 7 0⟩
def rx (w : List Int) (t : Nat) (s : S8) : Int := w32 (w32 (w32 (w32 (s.h + s32 s.e 6 11 25) + x32 (a32 s.e s.f) (a32 (n32 s.e) s.g)) + kN t) + w.getD t 0)
def ry (s : S8) : Int := w32 (s32 s.a 2 13 22 + x32 (x32 (a32 s.a s.b) (a32 s.a s.c)) (a32 s.b s.c))
def rnd (w : List Int) (s : S8) : Nat → S8
 | 0 => s
 | t + 1 => ⟨w32 (rx w t (rnd w s t) + ry (rnd w s t)), (rnd w s t).a, (rnd w s t).b, (rnd w s t).c, w32 ((rnd w s t).d + rx w t (rnd w s t)), (rnd w s t).e, (rnd w s t).f, (rnd w s t).g⟩
def hF (h l : List Int) : Nat → List Int
 | 0 => h
 | i + 1 => (hF h l i).set i (w32 ((hF h l i).getD i 0 + l.getD i 0))
def blk (h b : List Int) : List Int := hF h (rnd (wB b 48) (S8.of h) 64).l 8
def iv : List Int := [1779033703, 3144134277, 1013904242, 2773480762, 1359893119, 2600822924, 528734635, 1541459225]
def U9 (B : List Int) (k : Nat) : List Int := (List.range 64).map fun i => B.getD (64 * k + i) 0
def hK (B : List Int) : Nat → List Int
 | 0 => iv
 | k + 1 => blk (hK B k) (U9 B k)
def w8 (x : Int) : Int := IntKind.wrap .u8 x
def Z2 (n : Int) (i : Nat) : Int := w8 (n / 2 ^ (56 - 8 * i))
def J4 (n : Int) (j : Nat) : List Int := (List.range j).map (Z2 n)
def aG3 (n : Int) : List Int := J4 n 8
theorem av9 (n : Int) : (aG3 n).length = 8 := by simp [aG3, J4]
theorem bE0 {n : Int} {i : Nat} (h : i < 8) : (aG3 n).getD i 0 = Z2 n i := by
 rw [aG3, J4, List.getD_eq_getElem?_getD, List.getElem?_map, List.getElem?_range h]; rfl
def E1 (n : Nat) : Nat := (120 - n % 64) % 64
def T1 (B : List Int) : List Int := B ++ [128] ++ List.replicate (E1 (B.length + 1)) 0 ++ aG3 (8 * (B.length : Int))
def dA (H : List Int) : Nat → List Int
 | 0 => List.replicate 32 0
 | i + 1 => (dA H i).set i (w8 (H.getD (i / 4) 0 / 2 ^ (24 - 8 * (i % 4))))
def C9 (B : List Int) : List Int := dA (hK (T1 B) ((T1 B).length / 64)) 32
def ib (l : List Int) : Nat → List V := fun i => [.int .u8 (l.getD i 0)]
theorem aR8 (B C : List Int) : ∀ k, 64 * k ≤ B.length → hK (B ++ C) k = hK B k
 | 0, _ => rfl
 | k + 1, h => by
  have ih := aR8 B C k (by omega)
  have : U9 (B ++ C) k = U9 B k := by
   unfold U9
   apply List.map_congr_left
   intro i hi
   have := List.mem_range.1 hi
   rw [List.getD_eq_getElem?_getD, List.getD_eq_getElem?_getD, List.getElem?_append_left (by omega)]
  rw [hK, hK, ih, this]
structure Inv (B H W : List Int) : Prop where
 h : H = hK B (B.length / 64)
 len : W.length = 64
 w : ∀ i, i < B.length % 64 → W.getD i 0 = B.getD (64 * (B.length / 64) + i) 0
theorem Z9 (m : Nat) (xs : List Int) (j cnt : Nat) (g : Nat → List V) : (z5 m xs j cnt g).length = m := by simp [z5]
theorem bg9 {m : Nat} {xs : List Int} {j cnt q : Nat} {g : Nat → List V} (h : q < m) : (z5 m xs j cnt g).getD q 0 = if j ≤ q ∧ q < j + cnt then r5 (g (q - j)) else xs.getD q 0 := by
 rw [z5, List.getD_eq_getElem?_getD, List.getElem?_map, List.getElem?_range h]
 simp only [Option.map_some, Option.getD_some]
 by_cases h1 : j ≤ q ∧ q < j + cnt
 ·rw [if_pos h1, Nat.ble_eq_true_of_le h1.1, (show Nat.blt q (j + cnt) = true by rw [Nat.blt_eq]; exact h1.2)]; rfl
 ·rw [if_neg h1]
  cases h2 : Nat.ble j q with
  | false => rfl
  | true =>
   cases h3 : Nat.blt q (j + cnt) with
   | false => rfl
   | true => exact absurd ⟨Nat.le_of_ble_eq_true h2, by rwa [Nat.blt_eq] at h3⟩ h1
theorem bD5 {B H W l : List Int} (hI : Inv B H W) {c : Nat} (hc : c ≤ l.length) (hc2 : c ≤ 64 - B.length % 64) :
  let W2 := z5 64 W (B.length % 64) c (ib l)
  ((B.length + c) % 64 = 0 → 0 < c → Inv (B ++ l.take c) (blk H W2) W2) ∧ ((B.length + c) % 64 ≠ 0 → Inv (B ++ l.take c) H W2) := by
 intro W2
 have hl : (B ++ l.take c).length = B.length + c := by rw [List.length_append, List.length_take, Nat.min_eq_left hc]
 have hw : ∀ i, i < B.length % 64 + c → W2.getD i 0 = (B ++ l.take c).getD (64 * (B.length / 64) + i) 0 := by
  intro i hi
  have hi64 : i < 64 := by omega
  show (z5 64 W (B.length % 64) c (ib l)).getD i 0 = _
  rw [bg9 hi64]
  by_cases h1 : B.length % 64 ≤ i
  ·rw [if_pos ⟨h1, hi⟩, List.getD_eq_getElem?_getD, List.getElem?_append_right (by omega), List.getElem?_take_of_lt (by omega)]
   show l.getD (i - B.length % 64) 0 = _
   rw [List.getD_eq_getElem?_getD]
   congr 2; omega
  ·rw [if_neg (fun h => h1 h.1), hI.w i (by omega), List.getD_eq_getElem?_getD, List.getD_eq_getElem?_getD, List.getElem?_append_left (by omega)]
 constructor
 ·intro h0 hpos
  have hd : (B.length + c) / 64 = B.length / 64 + 1 := by omega
  have hfull : B.length % 64 + c = 64 := by omega
  refine ⟨?_, Z9 _ _ _ _ _, fun i hi => absurd hi (by rw [hl]; omega)⟩
  rw [hl, hd, hK, aR8 _ _ _ (by omega), ← hI.h]
  congr 1
  apply List.ext_getElem?
  intro i
  by_cases hi : i < 64
  ·have h1 := hw i (by omega)
   have e1 : i < W2.length := by rw [show W2.length = 64 from Z9 _ _ _ _ _]; exact hi
   have e2 : i < (U9 (B ++ l.take c) (B.length / 64)).length := by simp [U9]; exact hi
   rw [List.getElem?_eq_getElem e1, List.getElem?_eq_getElem e2]
   congr 1
   have h2 : W2.getD i 0 = W2[i] := by rw [List.getD_eq_getElem?_getD, List.getElem?_eq_getElem e1]; rfl
   refine h2.symm.trans (h1.trans ?_)
   simp [U9]
  ·rw [List.getElem?_eq_none (by rw [show W2.length = 64 from Z9 _ _ _ _ _]; omega), List.getElem?_eq_none (by simp [U9]; omega)]
 ·intro h0
  have hd : (B.length + c) / 64 = B.length / 64 := by omega
  have hm : (B.length + c) % 64 = B.length % 64 + c := by omega
  refine ⟨?_, Z9 _ _ _ _ _, fun i hi => ?_⟩
  ·rw [hl, hd, aR8 _ _ _ (by omega)]; exact hI.h
  ·rw [hl, hm] at hi
   rw [hl, hd]; exact hw i hi
theorem bW4 {W : List Int} (h : W.length = 64) : Inv [] iv W := ⟨rfl, h, fun i hi => absurd hi (Nat.not_lt_zero _)⟩
theorem aZ7 {n j : Nat} (h : j < E1 n) : (n + j) % 64 ≠ 56 := by unfold E1 at h; omega
theorem aG7 (n : Nat) : (n + E1 n) % 64 = 56 := by unfold E1; omega
theorem bE_ (B : List Int) : (T1 B).length % 64 = 0 := by
 have := aG7 (B.length + 1)
 simp only [T1, List.length_append, List.length_replicate, List.length_cons, List.length_nil, av9]
 omega
theorem bp7 (h l : List Int) : ∀ i, (hF h l i).length = h.length
 | 0 => rfl
 | i + 1 => by rw [hF, List.length_set, bp7 h l i]
theorem bp8 (B : List Int) : ∀ k, (hK B k).length = 8
 | 0 => rfl
 | k + 1 => by rw [hK, blk, bp7, bp8 B k]
theorem of8 {h : List Int} (hh : h.length = 8) : h = (S8.of h).l := by
 match h, hh with
 | [_, _, _, _, _, _, _, _], _ => rfl
theorem bq_ (n : Int) (j : Nat) : J4 n (j + 1) = J4 n j ++ [Z2 n j] := by rw [J4, List.range_succ, List.map_append]; rfl
theorem bC2 (B : List Int) (k : Nat) : (U9 B k).length = 64 := by simp [U9]
theorem bC1 {B : List Int} {k i : Nat} (h : i < 64) : (U9 B k).getD i 0 = B.getD (64 * k + i) 0 := by
 rw [U9, List.getD_eq_getElem?_getD, List.getElem?_map, List.getElem?_range h]; rfl
theorem ctb (L : List Int) (v : Int) (k : Nat) (hk : k < L.length + 1) : r6 L.length (ib L) (fun k => j4 [[V.int .u8 v]] (0 + k)) k = [V.int .u8 ((L ++ [v]).getD k 0)] := by
 rw [r6]
 cases hb : Nat.blt k L.length with
 | true =>
  rw [Nat.blt_eq] at hb
  rw [cond_true, ib, List.getD_eq_getElem?_getD, List.getD_eq_getElem?_getD, List.getElem?_append_left hb]
 | false =>
  have h1 : ¬ k < L.length := by rw [← Nat.blt_eq, hb]; simp
  have h2 : k = L.length := by omega
  subst h2
  rw [cond_false, Nat.sub_self, List.getD_eq_getElem?_getD, List.getElem?_append_right (Nat.le_refl _), Nat.sub_self]
  rfl
theorem cat0 (f g : Nat → List V) : r6 0 f g = g := by
 funext k
 rw [r6]
 have : Nat.blt k 0 = false := by cases k <;> rfl
 rw [this]; rfl
end Sy
namespace Go.Proofs.YtnmccoincblecaaGreat
open Go Sy Go.Proofs
noncomputable def bdRl (x n : Int) : Bd := { f := Tryz.f152, args := [.int .u32 x, .int .i64 n], kb := kb0 }
noncomputable def bdRr (x n : Int) : Bd := { f := Tryz.f146, args := [.int .u32 x, .int .i64 n], kb := kb0 }
def co8 : List V → c5 → Nat → List Cl := fun l _ _ => match l with
 | [.int _ x, .int _ n] => [{ val := .int .u32 (T3 x n) }]
 | _ => []
noncomputable def bdTu (x a b c : Int) : Bd := { f := Tryz.f149, args := [.int .u32 x, .int .i64 a, .int .i64 b, .int .i64 c], kb := { db := dbQ [(152, co8)] } }
noncomputable def bdMi (x a b c : Int) : Bd := { f := Tryz.f151, args := [.int .u32 x, .int .i64 a, .int .i64 b, .int .i64 c], kb := { db := dbQ [(152, co8)] } }
noncomputable def bdKr (t : Int) : Bd := { f := Tryz.f150, args := [.int .i64 t], kb := kb0 }
noncomputable def bdKc (t : Int) : Bd := { f := Tryz.f147, args := [.int .i64 t], kb := kb0 }
def wtI (b w : List Int) (i : Nat) : St := ⟨mkT 71 [(1, .ptr (.o 0) 0 0 0 0), (2, .ptr (.o 1) 0 0 0 0), (6, .int .i64 (i : Nat))], [(.o 0, .flat [.seg .u8 64 b]), (.o 1, .flat [.seg .u32 64 w])], 2, []⟩
def wtJ (b w : List Int) (k : Nat) : St := ⟨mkT 71 [(1, .ptr (.o 0) 0 0 0 0), (2, .ptr (.o 1) 0 0 0 0), (4, .fn (.func 151) [] []), (5, .int .i64 ((16 + k : Nat) : Int))], [(.o 0, .flat [.seg .u8 64 b]), (.o 1, .flat [.seg .u32 64 w])], 2, []⟩
def mxDb : List V → c5 → Nat → List Cl := fun l _ _ => match l with
 | [.int _ x, .int _ a, .int _ b, .int _ c] => [{ val := .int .u32 (m32 x a b c) }]
 | _ => []
noncomputable def bd3 (b w w2 : List Int) : Bd := { f := Tryz.f148, args := [.agg [.seg .u8 64 b]], kb := { db := fun _ _ _ _ => [], lp := fun id t => bif Nat.beq id 0 then [(True, .loop (16 + 1) (B6 [(.o 0, nmV (r9 t.tmps 1)), (.o 1, nmV (r9 t.tmps 2))] (wtI b (List.replicate 64 0) 0)) (.exit 0) (wtI b w 16))] else [(True, .loop (48 + 1) (wTo (wtJ b w 0)) (.exit 2) (wtJ b w2 48))] } }
noncomputable def co2 (b w : List Int) (i : Nat) (w2 : List Int) : Pc := { c := cB (cB (cR (cL (cR (f8 Tryz.f148))))), st := wtI b w i, kb := kb0, k := fun x_ _ => match x_ with
 | .normal => some (wTo (wtI b w2 (i + 1)))
 | _ => some (wTo (wtI b w 16)) }
noncomputable def co3 (b w : List Int) (k : Nat) (w2 : List Int) : Pc := { c := cB (cB (cR (cL (cR (cR (cR (f8 Tryz.f148))))))), st := wtJ b w k, kb := { db := dbQ [(151, mxDb)] }, k := fun x_ _ => match x_ with
 | .normal => some (wTo (wtJ b w2 (k + 1)))
 | _ => some (wTo (wtJ b w 48)) }
theorem cj4 (x : Int) (n : Int) :
  f4 zp (bdRl x n) [] = (some (.int .u32 (n6 (fun x x_1 y => x_1 ||| y) .u32 (IntKind.wrap .u32 (x * (2 : Int) ^ Int.toNat (n6 (fun x x_1 y => x_1 &&& y) .u64 (IntKind.wrap .u64 n) (31 : Int)))) (x / (2 : Int) ^ Int.toNat (IntKind.wrap .u64 ((32 : Int) - n6 (fun x x_1 y => x_1 &&& y) .u64 (IntKind.wrap .u64 n) (31 : Int))))), [], [(0 : Int) ≤ n6 (fun x x_1 y => x_1 &&& y) .u64 (IntKind.wrap .u64 n) (31 : Int) ∧ n6 (fun x x_1 y => x_1 &&& y) .u64 (IntKind.wrap .u64 n) (31 : Int) ≤ (32 : Int), (0 : Int) ≤ IntKind.wrap .u64 ((32 : Int) - n6 (fun x x_1 y => x_1 &&& y) .u64 (IntKind.wrap .u64 n) (31 : Int)) ∧ IntKind.wrap .u64 ((32 : Int) - n6 (fun x x_1 y => x_1 &&& y) .u64 (IntKind.wrap .u64 n) (31 : Int)) ≤ (32 : Int)]) : Option (V × c5 × List Prop)) := by kernel_rfl
theorem cj6 (x : Int) (n : Int) :
  f4 zp (bdRr x n) [] = (some (.int .u32 (n6 (fun x x_1 y => x_1 ||| y) .u32 (x / (2 : Int) ^ Int.toNat n) (IntKind.wrap .u32 (x * (2 : Int) ^ Int.toNat ((32 : Int) - n)))), [], [(0 : Int) ≤ n ∧ n ≤ (32 : Int), InR .i64 ((32 : Int) - n), (0 : Int) ≤ (32 : Int) - n ∧ (32 : Int) - n ≤ (32 : Int)]) : Option (V × c5 × List Prop)) := by kernel_rfl
theorem ck1 (x : Int) (a : Int) (b : Int) (c : Int) :
  f4 zp (bdTu x a b c) [] = (some (.int .u32 (n6 (fun x x_1 y => x_1 ^^^ y) .u32 (n6 (fun x x_1 y => x_1 ^^^ y) .u32 (T3 x ((0 : Int) - a)) (T3 x ((0 : Int) - b))) (T3 x ((0 : Int) - c))), [], [InR .i64 ((0 : Int) - a), T zp 152 [.int .u32 x, .int .i64 ((0 : Int) - a)] [] (.int .u32 (T3 x ((0 : Int) - a))) [], InR .i64 ((0 : Int) - b), T zp 152 [.int .u32 x, .int .i64 ((0 : Int) - b)] [] (.int .u32 (T3 x ((0 : Int) - b))) [], InR .i64 ((0 : Int) - c), T zp 152 [.int .u32 x, .int .i64 ((0 : Int) - c)] [] (.int .u32 (T3 x ((0 : Int) - c))) []]) : Option (V × c5 × List Prop)) := by kernel_rfl
theorem ci1 (x : Int) (a : Int) (b : Int) (c : Int) :
  f4 zp (bdMi x a b c) [] = (some (.int .u32 (n6 (fun x x_1 y => x_1 ^^^ y) .u32 (n6 (fun x x_1 y => x_1 ^^^ y) .u32 (T3 x ((0 : Int) - a)) (T3 x ((0 : Int) - b))) (x / (2 : Int) ^ Int.toNat c)), [], [InR .i64 ((0 : Int) - a), T zp 152 [.int .u32 x, .int .i64 ((0 : Int) - a)] [] (.int .u32 (T3 x ((0 : Int) - a))) [], InR .i64 ((0 : Int) - b), T zp 152 [.int .u32 x, .int .i64 ((0 : Int) - b)] [] (.int .u32 (T3 x ((0 : Int) - b))) [], (0 : Int) ≤ c ∧ c ≤ (32 : Int)]) : Option (V × c5 × List Prop)) := by kernel_rfl
theorem ch3 (t : Int) :
  f4 zp (bdKr t) [] = (some (.int .u32 (List.getD [(1116352408 : Int), (1899447441 : Int), (3049323471 : Int), (3921009573 : Int), (961987163 : Int), (1508970993 : Int), (2453635748 : Int), (2870763221 : Int), (3624381080 : Int), (310598401 : Int), (607225278 : Int), (1426881987 : Int), (1925078388 : Int), (2162078206 : Int), (2614888103 : Int), (3248222580 : Int), (3835390401 : Int), (4022224774 : Int), (264347078 : Int), (604807628 : Int), (770255983 : Int), (1249150122 : Int), (1555081692 : Int), (1996064986 : Int), (2554220882 : Int), (2821834349 : Int), (2952996808 : Int), (3210313671 : Int), (3336571891 : Int), (3584528711 : Int), (113926993 : Int), (338241895 : Int), (666307205 : Int), (773529912 : Int), (1294757372 : Int), (1396182291 : Int), (1695183700 : Int), (1986661051 : Int), (2177026350 : Int), (2456956037 : Int), (2730485921 : Int), (2820302411 : Int), (3259730800 : Int), (3345764771 : Int), (3516065817 : Int), (3600352804 : Int), (4094571909 : Int), (275423344 : Int), (430227734 : Int), (506948616 : Int), (659060556 : Int), (883997877 : Int), (958139571 : Int), (1322822218 : Int), (1537002063 : Int), (1747873779 : Int), (1955562222 : Int), (2024104815 : Int), (2227730452 : Int), (2361852424 : Int), (2428436474 : Int), (2756734187 : Int), (3204031479 : Int), (3329325298 : Int)] (0 + Int.toNat t) (0 : Int)), [], [(0 : Int) ≤ t ∧ t < (64 : Int), (0 : Nat) + Int.toNat t < (64 : Nat)]) : Option (V × c5 × List Prop)) := by kernel_rfl
theorem ch2 (t : Int) :
  f4 zp (bdKc t) [] = (some (.int .u32 (List.getD [(1116352408 : Int), (1899447441 : Int), (3049323471 : Int), (3921009573 : Int), (961987163 : Int), (1508970993 : Int), (2453635748 : Int), (2870763221 : Int), (3624381080 : Int), (310598401 : Int), (607225278 : Int), (1426881987 : Int), (1925078388 : Int), (2162078206 : Int), (2614888103 : Int), (3248222580 : Int), (3835390401 : Int), (4022224774 : Int), (264347078 : Int), (604807628 : Int), (770255983 : Int), (1249150122 : Int), (1555081692 : Int), (1996064986 : Int), (2554220882 : Int), (2821834349 : Int), (2952996808 : Int), (3210313671 : Int), (3336571891 : Int), (3584528711 : Int), (113926993 : Int), (338241895 : Int), (666307205 : Int), (773529912 : Int), (1294757372 : Int), (1396182291 : Int), (1695183700 : Int), (1986661051 : Int), (2177026350 : Int), (2456956037 : Int), (2730485921 : Int), (2820302411 : Int), (3259730800 : Int), (3345764771 : Int), (3516065817 : Int), (3600352804 : Int), (4094571909 : Int), (275423344 : Int), (430227734 : Int), (506948616 : Int), (659060556 : Int), (883997877 : Int), (958139571 : Int), (1322822218 : Int), (1537002063 : Int), (1747873779 : Int), (1955562222 : Int), (2024104815 : Int), (2227730452 : Int), (2361852424 : Int), (2428436474 : Int), (2756734187 : Int), (3204031479 : Int), (3329325298 : Int)] (0 + Int.toNat t) (0 : Int)), [], [(0 : Int) ≤ t ∧ t < (64 : Int), (0 : Nat) + Int.toNat t < (64 : Nat)]) : Option (V × c5 × List Prop)) := by kernel_rfl
theorem bT5 (b : List Int) (w : List Int) (w2 : List Int) :
  f4 zp (bd3 b w w2) [] = (some (.agg [.seg .u32 64 w2], [], [i5 zp none 0 (cB (cB (cR (cL (cR (f8 (Bd.f (bd3 b w w2)))))))) 17 (St.mk (mkT 71 [(1, .ptr (.o 0) 0 0 0 0), (2, .ptr (.o 1) 0 0 0 0), (6, .int .i64 0)]) [(.o 0, .flat [.seg .u8 64 b]), (.o 1, .flat [.seg .u32 64 (List.replicate 64 (0 : Int))])] 2 []) (.exit 0) (St.mk (mkT 71 [(1, .ptr (.o 0) 0 0 0 0), (2, .ptr (.o 1) 0 0 0 0), (6, .int .i64 16)]) [(.o 0, .flat [.seg .u8 64 b]), (.o 1, .flat [.seg .u32 64 w])] 2 []), q (64 : Nat), q b, q (64 : Nat), q ((List.replicate 64 (0 : Int))), q0, q0, q0, q0, q0, q0, q1, i5 zp none 0 (cB (cB (cR (cL (cR (cR (cR (f8 (Bd.f (bd3 b w w2)))))))))) 49 (St.mk (mkT 71 [(1, .ptr (.o 0) 0 0 0 0), (2, .ptr (.o 1) 0 0 0 0), (4, .fn (.func (151 : FuncId)) [] []), (5, .int .i64 16)]) [(.o 0, .flat [.seg .u8 64 b]), (.o 1, .flat [.seg .u32 64 w])] 2 []) (.exit 2) (St.mk (mkT 71 [(1, .ptr (.o 0) 0 0 0 0), (2, .ptr (.o 1) 0 0 0 0), (4, .fn (.func (151 : FuncId)) [] []), (5, .int .i64 64)]) [(.o 0, .flat [.seg .u8 64 b]), (.o 1, .flat [.seg .u32 64 w2])] 2 []), q (64 : Nat), q b, q (64 : Nat), q w, q0, q0, q0, q0, q0, q0, q (16 : Int)]) : Option (V × c5 × List Prop)) := by kernel_rfl
theorem b_3 (b : List Int) (w : List Int) (i : Nat) (w2 : List Int) :
  i6 zp (co2 b w i w2) [true] = (some (.normal, St.mk (mkT 71 [(1, .ptr (.o 0) 0 0 0 0), (2, .ptr (.o 1) 0 0 0 0), (6, .int .i64 (↑(i + 1) : Int))]) [(.o 0, .flat [.seg .u8 64 b]), (.o 1, .flat [.seg .u32 64 w2])] 2 [], [decide ((↑i : Int) < (16 : Int)) = true, InR .i64 ((4 : Int) * (↑i : Int)), (0 : Int) ≤ (4 : Int) * (↑i : Int) ∧ (4 : Int) * (↑i : Int) < (64 : Int), (0 : Nat) + Int.toNat ((4 : Int) * (↑i : Int)) < (64 : Nat), (0 : Int) ≤ (24 : Int) ∧ (24 : Int) ≤ (32 : Int), InR .i64 ((4 : Int) * (↑i : Int)), InR .i64 ((4 : Int) * (↑i : Int) + (1 : Int)), (0 : Int) ≤ (4 : Int) * (↑i : Int) + (1 : Int) ∧ (4 : Int) * (↑i : Int) + (1 : Int) < (64 : Int), (0 : Nat) + Int.toNat ((4 : Int) * (↑i : Int) + (1 : Int)) < (64 : Nat), (0 : Int) ≤ (16 : Int) ∧ (16 : Int) ≤ (32 : Int), InR .i64 ((4 : Int) * (↑i : Int)), InR .i64 ((4 : Int) * (↑i : Int) + (2 : Int)), (0 : Int) ≤ (4 : Int) * (↑i : Int) + (2 : Int) ∧ (4 : Int) * (↑i : Int) + (2 : Int) < (64 : Int), (0 : Nat) + Int.toNat ((4 : Int) * (↑i : Int) + (2 : Int)) < (64 : Nat), (0 : Int) ≤ (8 : Int) ∧ (8 : Int) ≤ (32 : Int), InR .i64 ((4 : Int) * (↑i : Int)), InR .i64 ((4 : Int) * (↑i : Int) + (3 : Int)), (0 : Int) ≤ (4 : Int) * (↑i : Int) + (3 : Int) ∧ (4 : Int) * (↑i : Int) + (3 : Int) < (64 : Int), (0 : Nat) + Int.toNat ((4 : Int) * (↑i : Int) + (3 : Int)) < (64 : Nat), (0 : Int) ≤ (↑i : Int) ∧ (↑i : Int) < (64 : Int), (0 : Nat) + Int.toNat (↑i : Int) < (64 : Nat), InR .i64 ((↑i : Int) + (1 : Int)), q (64 : Nat), q b, q (64 : Nat), List.set w ((0 : Nat) + Int.toNat (↑i : Int)) (n6 (fun x x_1 y => x_1 ||| y) .u32 (n6 (fun x x_1 y => x_1 ||| y) .u32 (n6 (fun x x_1 y => x_1 ||| y) .u32 (IntKind.wrap .u32 (IntKind.wrap .u32 (List.getD b ((0 : Nat) + Int.toNat ((4 : Int) * (↑i : Int))) (0 : Int)) * (16777216 : Int))) (IntKind.wrap .u32 (IntKind.wrap .u32 (List.getD b ((0 : Nat) + Int.toNat ((4 : Int) * (↑i : Int) + (1 : Int))) (0 : Int)) * (65536 : Int)))) (IntKind.wrap .u32 (IntKind.wrap .u32 (List.getD b ((0 : Nat) + Int.toNat ((4 : Int) * (↑i : Int) + (2 : Int))) (0 : Int)) * (256 : Int)))) (IntKind.wrap .u32 (List.getD b ((0 : Nat) + Int.toNat ((4 : Int) * (↑i : Int) + (3 : Int))) (0 : Int)))) = w2, q0, q0, q0, q0, q0, q0, (↑i : Int) + (1 : Int) = (↑(i + (1 : Nat)) : Int)]) : Option (Exit × St × List Prop)) := by kernel_rfl
theorem b_2 (b : List Int) (w : List Int) (i : Nat) (w2 : List Int) :
  i6 zp (co2 b w i w2) [false] = (some (.exit 0, St.mk (mkT 71 [(1, .ptr (.o 0) 0 0 0 0), (2, .ptr (.o 1) 0 0 0 0), (6, .int .i64 16)]) [(.o 0, .flat [.seg .u8 64 b]), (.o 1, .flat [.seg .u32 64 w])] 2 [], [decide ((↑i : Int) < (16 : Int)) = false, q (64 : Nat), q b, q (64 : Nat), q w, q0, q0, q0, q0, q0, q0, (↑i : Int) = (16 : Int)]) : Option (Exit × St × List Prop)) := by kernel_rfl
theorem b_5 (b : List Int) (w : List Int) (k : Nat) (w2 : List Int) :
  i6 zp (co3 b w k w2) [true] = (some (.normal, St.mk (mkT 71 [(1, .ptr (.o 0) 0 0 0 0), (2, .ptr (.o 1) 0 0 0 0), (4, .fn (.func (151 : FuncId)) [] []), (5, .int .i64 (↑(16 + (k + 1)) : Int))]) [(.o 0, .flat [.seg .u8 64 b]), (.o 1, .flat [.seg .u32 64 w2])] 2 [], [decide ((↑((16 : Nat) + k) : Int) < (64 : Int)) = true, InR .i64 ((↑((16 : Nat) + k) : Int) - (16 : Int)), (0 : Int) ≤ (↑((16 : Nat) + k) : Int) - (16 : Int) ∧ (↑((16 : Nat) + k) : Int) - (16 : Int) < (64 : Int), (0 : Nat) + Int.toNat ((↑((16 : Nat) + k) : Int) - (16 : Int)) < (64 : Nat), InR .i64 ((↑((16 : Nat) + k) : Int) - (15 : Int)), (0 : Int) ≤ (↑((16 : Nat) + k) : Int) - (15 : Int) ∧ (↑((16 : Nat) + k) : Int) - (15 : Int) < (64 : Int), (0 : Nat) + Int.toNat ((↑((16 : Nat) + k) : Int) - (15 : Int)) < (64 : Nat), T zp (151 : FuncId) [.int .u32 (List.getD w (0 + Int.toNat ((↑(16 + k) : Int) - (15 : Int))) (0 : Int)), .int .i64 7, .int .i64 18, .int .i64 3] [] (.int .u32 (m32 (List.getD w (0 + Int.toNat ((↑(16 + k) : Int) - (15 : Int))) (0 : Int)) (7 : Int) (18 : Int) (3 : Int))) [], InR .i64 ((↑((16 : Nat) + k) : Int) - (7 : Int)), (0 : Int) ≤ (↑((16 : Nat) + k) : Int) - (7 : Int) ∧ (↑((16 : Nat) + k) : Int) - (7 : Int) < (64 : Int), (0 : Nat) + Int.toNat ((↑((16 : Nat) + k) : Int) - (7 : Int)) < (64 : Nat), InR .i64 ((↑((16 : Nat) + k) : Int) - (2 : Int)), (0 : Int) ≤ (↑((16 : Nat) + k) : Int) - (2 : Int) ∧ (↑((16 : Nat) + k) : Int) - (2 : Int) < (64 : Int), (0 : Nat) + Int.toNat ((↑((16 : Nat) + k) : Int) - (2 : Int)) < (64 : Nat), T zp (151 : FuncId) [.int .u32 (List.getD w (0 + Int.toNat ((↑(16 + k) : Int) - (2 : Int))) (0 : Int)), .int .i64 17, .int .i64 19, .int .i64 10] [] (.int .u32 (m32 (List.getD w (0 + Int.toNat ((↑(16 + k) : Int) - (2 : Int))) (0 : Int)) (17 : Int) (19 : Int) (10 : Int))) [], (0 : Int) ≤ (↑((16 : Nat) + k) : Int) ∧ (↑((16 : Nat) + k) : Int) < (64 : Int), (0 : Nat) + Int.toNat (↑((16 : Nat) + k) : Int) < (64 : Nat), InR .i64 ((↑((16 : Nat) + k) : Int) + (1 : Int)), q (64 : Nat), q b, q (64 : Nat), List.set w ((0 : Nat) + Int.toNat (↑((16 : Nat) + k) : Int)) (IntKind.wrap .u32 (IntKind.wrap .u32 (IntKind.wrap .u32 (List.getD w ((0 : Nat) + Int.toNat ((↑((16 : Nat) + k) : Int) - (16 : Int))) (0 : Int) + m32 (List.getD w ((0 : Nat) + Int.toNat ((↑((16 : Nat) + k) : Int) - (15 : Int))) (0 : Int)) (7 : Int) (18 : Int) (3 : Int)) + List.getD w ((0 : Nat) + Int.toNat ((↑((16 : Nat) + k) : Int) - (7 : Int))) (0 : Int)) + m32 (List.getD w ((0 : Nat) + Int.toNat ((↑((16 : Nat) + k) : Int) - (2 : Int))) (0 : Int)) (17 : Int) (19 : Int) (10 : Int))) = w2, q0, q0, q0, q0, q0, q0, (↑((16 : Nat) + k) : Int) + (1 : Int) = (↑((16 : Nat) + (k + (1 : Nat))) : Int)]) : Option (Exit × St × List Prop)) := by kernel_rfl
theorem b_4 (b : List Int) (w : List Int) (k : Nat) (w2 : List Int) :
  i6 zp (co3 b w k w2) [false] = (some (.exit 2, St.mk (mkT 71 [(1, .ptr (.o 0) 0 0 0 0), (2, .ptr (.o 1) 0 0 0 0), (4, .fn (.func (151 : FuncId)) [] []), (5, .int .i64 64)]) [(.o 0, .flat [.seg .u8 64 b]), (.o 1, .flat [.seg .u32 64 w])] 2 [], [decide ((↑((16 : Nat) + k) : Int) < (64 : Int)) = false, q (64 : Nat), q b, q (64 : Nat), q w, q0, q0, q0, q0, q0, q0, (↑((16 : Nat) + k) : Int) = (64 : Int)]) : Option (Exit × St × List Prop)) := by kernel_rfl
theorem aN4 (x : Int) {m : Nat} (h0 : 0 < m) (h : m < 32) : T Tryz.prog 152 [.int .u32 x, .int .i64 (0 - (m : Nat))] [] (.int .u32 (T3 x (0 - (m : Nat)))) [] := by
 obtain ⟨h1, h2⟩ := aZ5 m h h0
 rw [← Int.zero_sub] at h1 h2
 have g1 : 0 ≤ lo5 (0 - (m : Int)) ∧ lo5 (0 - (m : Int)) ≤ 32 := by omega
 have g2 : 0 ≤ IntKind.wrap .u64 (32 - lo5 (0 - (m : Int))) ∧ IntKind.wrap .u64 (32 - lo5 (0 - (m : Int))) ≤ 32 := by omega
 exact f5 (cj4 x (0 - (m : Nat))) Tryz.func152 ⟨g1, g2, True.intro⟩
theorem aq2 (x : Int) {n : Nat} (h0 : 0 < n) (h : n < 32) : T3 x (0 - (n : Int)) = C8 x n := by rw [Int.zero_sub]; exact cx0 x h0 h
theorem ag_ (x : Int) {n : Nat} (h : n < 32) : T Tryz.prog 146 [.int .u32 x, .int .i64 (n : Nat)] [] (.int .u32 (C8 x (n : Nat))) [] := by
 refine f5 (cj6 x n) Tryz.func146 ?_
 simp only [All]; and_intros
 all_goals first | exact True.intro | (simp only [IntKind.min, IntKind.max, IntKind.signed, IntKind.bits, if_true]; omega) | omega
theorem ce_ (x : Int) {a b c : Nat} (ha : 0 < a ∧ a < 32) (hb : 0 < b ∧ b < 32) (hc : 0 < c ∧ c < 32) : T Tryz.prog 149 [.int .u32 x, .int .i64 (a : Nat), .int .i64 (b : Nat), .int .i64 (c : Nat)] [] (.int .u32 (s32 x a b c)) [] := by
 have h1 := aN4 x ha.1 ha.2
 have h2 := aN4 x hb.1 hb.2
 have h3 := aN4 x hc.1 hc.2
 obtain ⟨ha1, ha2⟩ := ha
 obtain ⟨hb1, hb2⟩ := hb
 obtain ⟨hc1, hc2⟩ := hc
 have h := T5 NG MO _ (ck1 x a b c) Tryz.func149 (by kernel_rfl) (by
  simp only [All]; and_intros
  all_goals first | exact True.intro | exact h1 | exact h2 | exact h3 | (simp only [IntKind.min, IntKind.max, IntKind.signed, IntKind.bits, if_true]; omega)
  ) (O1 (by kernel_rfl)) (by kernel_rfl)
 rw [aq2 x ha1 ha2, aq2 x hb1 hb2, aq2 x hc1 hc2] at h
 exact h
theorem cd1 (x : Int) {a b c : Nat} (ha : 0 < a ∧ a < 32) (hb : 0 < b ∧ b < 32) (hc : c < 32) : T Tryz.prog 151 [.int .u32 x, .int .i64 (a : Nat), .int .i64 (b : Nat), .int .i64 (c : Nat)] [] (.int .u32 (m32 x a b c)) [] := by
 have h1 := aN4 x ha.1 ha.2
 have h2 := aN4 x hb.1 hb.2
 obtain ⟨ha1, ha2⟩ := ha
 obtain ⟨hb1, hb2⟩ := hb
 have h := T5 NG MO _ (ci1 x a b c) Tryz.func151 (by kernel_rfl) (by
  simp only [All]; and_intros
  all_goals first | exact True.intro | exact h1 | exact h2 | (simp only [IntKind.min, IntKind.max, IntKind.signed, IntKind.bits, if_true]; omega) | omega
  ) (O1 (by kernel_rfl)) (by kernel_rfl)
 rw [aq2 x ha1 ha2, aq2 x hb1 hb2] at h
 exact h
theorem T_kr {t : Nat} (h : t < 64) : T Tryz.prog 150 [.int .i64 (t : Nat)] [] (.int .u32 (kN t)) [] := by
 have h0 := T5 NG MO _ (ch3 t) Tryz.func150 (by kernel_rfl) (by
  simp only [All]; and_intros
  all_goals first | exact True.intro | omega
  ) (O1 (by kernel_rfl)) (by kernel_rfl)
 rw [Nat.zero_add, Int.toNat_natCast] at h0
 exact h0
theorem T_kc {t : Nat} (h : t < 64) : T Tryz.prog 147 [.int .i64 (t : Nat)] [] (.int .u32 (kN t)) [] := by
 have h0 := T5 NG MO _ (ch2 t) Tryz.func147 (by kernel_rfl) (by
  simp only [All]; and_intros
  all_goals first | exact True.intro | omega
  ) (O1 (by kernel_rfl)) (by kernel_rfl)
 rw [Nat.zero_add, Int.toNat_natCast] at h0
 exact h0
theorem tn4 (i : Nat) : Int.toNat (4 * (i : Int)) = 4 * i ∧ Int.toNat (4 * (i : Int) + 1) = 4 * i + 1 ∧ Int.toNat (4 * (i : Int) + 2) = 4 * i + 2 ∧ Int.toNat (4 * (i : Int) + 3) = 4 * i + 3 := by omega
theorem cp4 (k : Nat) : Int.toNat (((16 + k : Nat) : Int) - 16) = k ∧ Int.toNat (((16 + k : Nat) : Int) - 15) = k + 1 ∧ Int.toNat (((16 + k : Nat) : Int) - 7) = k + 9 ∧ Int.toNat (((16 + k : Nat) : Int) - 2) = k + 14 := by omega
theorem ct_ (b : List Int) : T Tryz.prog 148 [.agg [.seg .u8 64 b]] [] (.agg [.seg .u32 64 (wB b 48)]) [] := by
 have hA : i5 Tryz.prog none 0 (cB (cB (cR (cL (cR (f8 Tryz.f148)))))) (16 + 1) (wtI b (wA b 0) 0) (.exit 0) (wtI b (wA b 16) 16) := by
  have hstep : ∀ i, i < 16 → R Tryz.prog none 0 (cB (cB (cR (cL (cR (f8 Tryz.f148)))))) (wtI b (wA b i) i) .normal (wtI b (wA b (i + 1)) (i + 1)) := by
   intro i hi
   obtain ⟨e0, e1, e2, e3⟩ := tn4 i
   refine f9 NG MO _ (b_3 b (wA b i) i (wA b (i + 1))) ?_ (Nat.zero_le _)
   simp only [All, e0, e1, e2, e3, Nat.zero_add, Int.toNat_natCast]; and_intros
   all_goals first | exact True.intro | rfl | (rw [decide_eq_true_eq]; omega) | (simp only [IntKind.min, IntKind.max, IntKind.signed, IntKind.bits, if_true]; omega) | omega
  have hend : R Tryz.prog none 0 (cB (cB (cR (cL (cR (f8 Tryz.f148)))))) (wtI b (wA b 16) 16) (.exit 0) (wtI b (wA b 16) 16) := by
   refine f9 NG MO _ (b_2 b (wA b 16) 16 []) ?_ (Nat.zero_le _)
   simp only [All]; and_intros
   all_goals first | exact True.intro | (rw [decide_eq_false_iff_not]; omega) | omega
  exact i5.inv (fun i => wtI b (wA b i) i) 16 hstep hend (by simp)
 have hB : i5 Tryz.prog none 0 (cB (cB (cR (cL (cR (cR (cR (f8 Tryz.f148)))))))) (48 + 1) (wtJ b (wB b 0) 0) (.exit 2) (wtJ b (wB b 48) 48) := by
  have hstep : ∀ k, k < 48 → R Tryz.prog none 0 (cB (cB (cR (cL (cR (cR (cR (f8 Tryz.f148)))))))) (wtJ b (wB b k) k) .normal (wtJ b (wB b (k + 1)) (k + 1)) := by
   intro k hk
   obtain ⟨e0, e1, e2, e3⟩ := cp4 k
   have h1 := cd1 ((wB b k).getD (k + 1) 0) (a := 7) (b := 18) (c := 3) (by decide) (by decide) (by decide)
   have h2 := cd1 ((wB b k).getD (k + 14) 0) (a := 17) (b := 19) (c := 10) (by decide) (by decide) (by decide)
   refine f9 NG MO _ (b_5 b (wB b k) k (wB b (k + 1))) ?_ (Nat.zero_le _)
   simp only [All, e0, e1, e2, e3, Nat.zero_add, Int.toNat_natCast]; and_intros
   all_goals first | exact True.intro | exact h1 | exact h2 | rfl | (rw [decide_eq_true_eq]; omega) | (simp only [IntKind.min, IntKind.max, IntKind.signed, IntKind.bits, if_true]; omega) | omega
  have hend : R Tryz.prog none 0 (cB (cB (cR (cL (cR (cR (cR (f8 Tryz.f148)))))))) (wtJ b (wB b 48) 48) (.exit 2) (wtJ b (wB b 48) 48) := by
   refine f9 NG MO _ (b_4 b (wB b 48) 48 []) ?_ (Nat.zero_le _)
   simp only [All]; and_intros
   all_goals first | exact True.intro | (rw [decide_eq_false_iff_not]; omega) | omega
  exact i5.inv (fun k => wtJ b (wB b k) k) 48 hstep hend (by simp)
 refine f5 (bT5 b (wA b 16) (wB b 48)) Tryz.func148 ?_
 simp only [All]; and_intros
 all_goals first | exact True.intro | exact hA | exact hB
def stB (H W : List Int) (n : Int) : B := .flat [.seg .u32 8 H, .seg .u8 64 W, .int .i64 n]
def rb (l : List Int) : V := .ros 1 l.length (ib l) false
def v7 : List Int := List.replicate 32 0
def p0K (m : Nat) : V := .ptr (.o m) 0 0 0 0
def tuDb : List V → c5 → Nat → List Cl := fun l _ _ => match l with
 | [.int _ x, .int _ a, .int _ b, .int _ c] => [{ val := .int .u32 (s32 x a b c) }]
 | _ => []
def cl4 : List V → c5 → Nat → List Cl := fun l _ _ => match l with
 | [.int _ t] => [{ val := .int .u32 (kN t.toNat) }]
 | _ => []
def bkI (H W : List Int) (n : Int) (w : List Int) (s : S8) (t : Nat) : St := ⟨mkT 136 [(0, p0K 0), (2, p0K 1), (3, .int .u32 s.a), (4, .int .u32 s.b), (5, .int .u32 s.c), (6, .int .u32 s.d), (7, .int .u32 s.e), (8, .int .u32 s.f), (9, .int .u32 s.g), (10, .int .u32 s.h), (61, .int .i64 (t : Nat))], [(.o 0, stB H W n), (.o 1, .flat [.seg .u32 64 w])], 2, []⟩
def bkJ (H W : List Int) (n : Int) (l : List Int) (i : Nat) : St := ⟨mkT 136 [(0, p0K 0), (119, .agg [.seg .u32 8 l]), (120, .int .i64 (i : Nat))], [(.o 0, stB H W n)], 2, []⟩
noncomputable def ba5 (H W : List Int) (n : Int) (w : List Int) (s : S8) (H2 : List Int) : Bd := { f := Tryz.f138, args := [p0K 0], pre := [(.o 0, stB H W n)], base := 1, kb := { db := dbQ [(148, O3 (.agg [.seg .u32 64 w]))], lp := fun id t => bif Nat.beq id 0 then [(True, .loop (64 + 1) (B6 [(.o 1, nmV (r9 t.tmps 2))] (bkI H W n w (S8.of H) 0)) (.exit 0) (bkI H W n w s 64))] else [(True, .loop (8 + 1) (wTo (bkJ H W n s.l 0)) (.exit 2) (bkJ H2 W n s.l 8))] }, names := fun _ => [.o 0] }
noncomputable def cl9 (H W : List Int) (n : Int) (w : List Int) (s : S8) (t : Nat) (s2 : S8) : Pc := { c := cB (cB (cR (cL (cR (cR (f8 Tryz.f138)))))), st := bkI H W n w s t, p := 1, kb := { db := dbQ [(149, tuDb), (150, cl4)] }, k := fun x_ _ => match x_ with
 | .normal => some (wTo (bkI H W n w s2 (t + 1)))
 | _ => some (wTo (bkI H W n w s 64)) }
noncomputable def cl_ (H W : List Int) (n : Int) (l : List Int) (i : Nat) (H2 : List Int) : Pc := { c := cB (cB (cR (cR (cR (cR (f8 Tryz.f138)))))), st := bkJ H W n l i, p := 1, kb := kb0, k := fun x_ _ => match x_ with
 | .normal => some (wTo (bkJ H2 W n l (i + 1)))
 | _ => some (wTo (bkJ H W n l 8)) }
theorem bP2 (H : List Int) (W : List Int) (n : Int) (w : List Int) (s : S8) (H2 : List Int) :
  f4 zp (ba5 H W n w s H2) [] = (some (.tup [], [(.o 0, .flat [.seg .u32 8 H2, .seg .u8 64 W, .int .i64 n])], [T zp 148 [.agg [.seg .u8 64 W]] [] (.agg [.seg .u32 64 w]) [], (0 : Int) ≤ (0 : Int) ∧ (0 : Int) < (8 : Int), 0 < (8 : Nat), (0 : Int) ≤ (1 : Int) ∧ (1 : Int) < (8 : Int), 1 < (8 : Nat), (0 : Int) ≤ (2 : Int) ∧ (2 : Int) < (8 : Int), 2 < (8 : Nat), (0 : Int) ≤ (3 : Int) ∧ (3 : Int) < (8 : Int), 3 < (8 : Nat), (0 : Int) ≤ (4 : Int) ∧ (4 : Int) < (8 : Int), 4 < (8 : Nat), (0 : Int) ≤ (5 : Int) ∧ (5 : Int) < (8 : Int), 5 < (8 : Nat), (0 : Int) ≤ (6 : Int) ∧ (6 : Int) < (8 : Int), 6 < (8 : Nat), (0 : Int) ≤ (7 : Int) ∧ (7 : Int) < (8 : Int), 7 < (8 : Nat), i5 zp none 1 (cB (cB (cR (cL (cR (cR (f8 (Bd.f (ba5 H W n w s H2))))))))) 65 (St.mk (mkT 136 [(0, .ptr (.o 0) 0 0 0 0), (2, .ptr (.o 1) 0 0 0 0), (3, .int .u32 (List.getD H 0 (0 : Int))), (4, .int .u32 (List.getD H 1 (0 : Int))), (5, .int .u32 (List.getD H 2 (0 : Int))), (6, .int .u32 (List.getD H 3 (0 : Int))), (7, .int .u32 (List.getD H 4 (0 : Int))), (8, .int .u32 (List.getD H 5 (0 : Int))), (9, .int .u32 (List.getD H 6 (0 : Int))), (10, .int .u32 (List.getD H 7 (0 : Int))), (61, .int .i64 0)]) [(.o 0, .flat [.seg .u32 8 H, .seg .u8 64 W, .int .i64 n]), (.o 1, .flat [.seg .u32 64 w])] 2 []) (.exit 0) (St.mk (mkT 136 [(0, .ptr (.o 0) 0 0 0 0), (2, .ptr (.o 1) 0 0 0 0), (3, .int .u32 (S8.a s)), (4, .int .u32 (S8.b s)), (5, .int .u32 (S8.c s)), (6, .int .u32 (S8.d s)), (7, .int .u32 (S8.e s)), (8, .int .u32 (S8.f s)), (9, .int .u32 (S8.g s)), (10, .int .u32 (S8.h s)), (61, .int .i64 64)]) [(.o 0, .flat [.seg .u32 8 H, .seg .u8 64 W, .int .i64 n]), (.o 1, .flat [.seg .u32 64 w])] 2 []), q (8 : Nat), q H, q (64 : Nat), q W, q n, q (64 : Nat), q w, q0, q0, q0, q0, q0, q0, List.getD H 0 (0 : Int) = List.getD H (0 : Nat) (0 : Int), List.getD H 1 (0 : Int) = List.getD H (1 : Nat) (0 : Int), List.getD H 2 (0 : Int) = List.getD H (2 : Nat) (0 : Int), List.getD H 3 (0 : Int) = List.getD H (3 : Nat) (0 : Int), List.getD H 4 (0 : Int) = List.getD H (4 : Nat) (0 : Int), List.getD H 5 (0 : Int) = List.getD H (5 : Nat) (0 : Int), List.getD H 6 (0 : Int) = List.getD H (6 : Nat) (0 : Int), List.getD H 7 (0 : Int) = List.getD H (7 : Nat) (0 : Int), q1, i5 zp none 1 (cB (cB (cR (cR (cR (cR (f8 (Bd.f (ba5 H W n w s H2))))))))) 9 (St.mk (mkT 136 [(0, .ptr (.o 0) 0 0 0 0), (119, .agg [.seg .u32 8 [S8.a s, S8.b s, S8.c s, S8.d s, S8.e s, S8.f s, S8.g s, S8.h s]]), (120, .int .i64 0)]) [(.o 0, .flat [.seg .u32 8 H, .seg .u8 64 W, .int .i64 n])] 2 []) (.exit 2) (St.mk (mkT 136 [(0, .ptr (.o 0) 0 0 0 0), (119, .agg [.seg .u32 8 [S8.a s, S8.b s, S8.c s, S8.d s, S8.e s, S8.f s, S8.g s, S8.h s]]), (120, .int .i64 8)]) [(.o 0, .flat [.seg .u32 8 H2, .seg .u8 64 W, .int .i64 n])] 2 []), q (8 : Nat), q H, q (64 : Nat), q W, q n, q0, q0, q0, q (8 : Nat), q ([S8.a s, S8.b s, S8.c s, S8.d s, S8.e s, S8.f s, S8.g s, S8.h s]), q1]) : Option (V × c5 × List Prop)) := by kernel_rfl
theorem bX2 (H : List Int) (W : List Int) (n : Int) (w : List Int) (s : S8) (t : Nat) (s2 : S8) :
  i6 zp (cl9 H W n w s t s2) [true] = (some (.normal, St.mk (mkT 136 [(0, .ptr (.o 0) 0 0 0 0), (2, .ptr (.o 1) 0 0 0 0), (3, .int .u32 (S8.a s2)), (4, .int .u32 (S8.b s2)), (5, .int .u32 (S8.c s2)), (6, .int .u32 (S8.d s2)), (7, .int .u32 (S8.e s2)), (8, .int .u32 (S8.f s2)), (9, .int .u32 (S8.g s2)), (10, .int .u32 (S8.h s2)), (61, .int .i64 (↑(t + 1) : Int))]) [(.o 0, .flat [.seg .u32 8 H, .seg .u8 64 W, .int .i64 n]), (.o 1, .flat [.seg .u32 64 w])] 2 [], [decide ((↑t : Int) < (64 : Int)) = true, T zp 149 [.int .u32 (S8.e s), .int .i64 6, .int .i64 11, .int .i64 25] [] (.int .u32 (s32 (S8.e s) (6 : Int) (11 : Int) (25 : Int))) [], T zp 150 [.int .i64 ↑t] [] (.int .u32 (kN (Int.toNat (↑t : Int)))) [], (0 : Int) ≤ (↑t : Int) ∧ (↑t : Int) < (64 : Int), (0 : Nat) + Int.toNat (↑t : Int) < (64 : Nat), T zp 149 [.int .u32 (S8.a s), .int .i64 2, .int .i64 13, .int .i64 22] [] (.int .u32 (s32 (S8.a s) (2 : Int) (13 : Int) (22 : Int))) [], InR .i64 ((↑t : Int) + (1 : Int)), q (8 : Nat), q H, q (64 : Nat), q W, q n, q (64 : Nat), q w, q0, q0, q0, q0, q0, q0, IntKind.wrap .u32 (IntKind.wrap .u32 (IntKind.wrap .u32 (IntKind.wrap .u32 (IntKind.wrap .u32 (S8.h s + s32 (S8.e s) (6 : Int) (11 : Int) (25 : Int)) + n6 (fun x x_1 y => x_1 ^^^ y) .u32 (n6 (fun x x_1 y => x_1 &&& y) .u32 (S8.e s) (S8.f s)) (n6 (fun x x_1 y => x_1 &&& y) .u32 (n6 (fun x x_1 y => x_1 ^^^ y) .u32 (4294967295 : Int) (S8.e s)) (S8.g s))) + kN (Int.toNat (↑t : Int))) + List.getD w ((0 : Nat) + Int.toNat (↑t : Int)) (0 : Int)) + IntKind.wrap .u32 (s32 (S8.a s) (2 : Int) (13 : Int) (22 : Int) + n6 (fun x x_1 y => x_1 ^^^ y) .u32 (n6 (fun x x_1 y => x_1 ^^^ y) .u32 (n6 (fun x x_1 y => x_1 &&& y) .u32 (S8.a s) (S8.b s)) (n6 (fun x x_1 y => x_1 &&& y) .u32 (S8.a s) (S8.c s))) (n6 (fun x x_1 y => x_1 &&& y) .u32 (S8.b s) (S8.c s)))) = S8.a s2, S8.a s = S8.b s2, S8.b s = S8.c s2, S8.c s = S8.d s2, IntKind.wrap .u32 (S8.d s + IntKind.wrap .u32 (IntKind.wrap .u32 (IntKind.wrap .u32 (IntKind.wrap .u32 (S8.h s + s32 (S8.e s) (6 : Int) (11 : Int) (25 : Int)) + n6 (fun x x_1 y => x_1 ^^^ y) .u32 (n6 (fun x x_1 y => x_1 &&& y) .u32 (S8.e s) (S8.f s)) (n6 (fun x x_1 y => x_1 &&& y) .u32 (n6 (fun x x_1 y => x_1 ^^^ y) .u32 (4294967295 : Int) (S8.e s)) (S8.g s))) + kN (Int.toNat (↑t : Int))) + List.getD w ((0 : Nat) + Int.toNat (↑t : Int)) (0 : Int))) = S8.e s2, S8.e s = S8.f s2, S8.f s = S8.g s2, S8.g s = S8.h s2, (↑t : Int) + (1 : Int) = (↑(t + (1 : Nat)) : Int)]) : Option (Exit × St × List Prop)) := by kernel_rfl
theorem bX1 (H : List Int) (W : List Int) (n : Int) (w : List Int) (s : S8) (t : Nat) (s2 : S8) :
  i6 zp (cl9 H W n w s t s2) [false] = (some (.exit 0, St.mk (mkT 136 [(0, .ptr (.o 0) 0 0 0 0), (2, .ptr (.o 1) 0 0 0 0), (3, .int .u32 (S8.a s)), (4, .int .u32 (S8.b s)), (5, .int .u32 (S8.c s)), (6, .int .u32 (S8.d s)), (7, .int .u32 (S8.e s)), (8, .int .u32 (S8.f s)), (9, .int .u32 (S8.g s)), (10, .int .u32 (S8.h s)), (61, .int .i64 64)]) [(.o 0, .flat [.seg .u32 8 H, .seg .u8 64 W, .int .i64 n]), (.o 1, .flat [.seg .u32 64 w])] 2 [], [decide ((↑t : Int) < (64 : Int)) = false, q (8 : Nat), q H, q (64 : Nat), q W, q n, q (64 : Nat), q w, q0, q0, q0, q0, q0, q0, q (S8.a s), q (S8.b s), q (S8.c s), q (S8.d s), q (S8.e s), q (S8.f s), q (S8.g s), q (S8.h s), (↑t : Int) = (64 : Int)]) : Option (Exit × St × List Prop)) := by kernel_rfl
theorem bX4 (H : List Int) (W : List Int) (n : Int) (l : List Int) (i : Nat) (H2 : List Int) :
  i6 zp (cl_ H W n l i H2) [true] = (some (.normal, St.mk (mkT 136 [(0, .ptr (.o 0) 0 0 0 0), (119, .agg [.seg .u32 8 l]), (120, .int .i64 (↑(i + 1) : Int))]) [(.o 0, .flat [.seg .u32 8 H2, .seg .u8 64 W, .int .i64 n])] 2 [], [decide ((↑i : Int) < (8 : Int)) = true, (0 : Int) ≤ (↑i : Int) ∧ (↑i : Int) < (8 : Int) ∧ (↑i : Int) < (8 : Int), (0 : Int) ≤ (↑i : Int) ∧ (↑i : Int) < (8 : Int), (0 : Nat) + Int.toNat (↑i : Int) < (8 : Nat), (0 : Int) ≤ (↑i : Int) ∧ (↑i : Int) < (8 : Int), (0 : Nat) + Int.toNat (↑i : Int) < (8 : Nat), InR .i64 ((↑i : Int) + (1 : Int)), q (8 : Nat), List.set H ((0 : Nat) + Int.toNat (↑i : Int)) (IntKind.wrap .u32 (List.getD H ((0 : Nat) + Int.toNat (↑i : Int)) (0 : Int) + List.getD l (Int.toNat (↑i : Int)) (0 : Int))) = H2, q (64 : Nat), q W, q n, q0, q0, q0, q (8 : Nat), q l, (↑i : Int) + (1 : Int) = (↑(i + (1 : Nat)) : Int)]) : Option (Exit × St × List Prop)) := by kernel_rfl
theorem bX3 (H : List Int) (W : List Int) (n : Int) (l : List Int) (i : Nat) (H2 : List Int) :
  i6 zp (cl_ H W n l i H2) [false] = (some (.exit 2, St.mk (mkT 136 [(0, .ptr (.o 0) 0 0 0 0), (119, .agg [.seg .u32 8 l]), (120, .int .i64 8)]) [(.o 0, .flat [.seg .u32 8 H, .seg .u8 64 W, .int .i64 n])] 2 [], [decide ((↑i : Int) < (8 : Int)) = false, q (8 : Nat), q H, q (64 : Nat), q W, q n, q0, q0, q0, q (8 : Nat), q l, (↑i : Int) = (8 : Int)]) : Option (Exit × St × List Prop)) := by kernel_rfl
theorem T_bk (H W : List Int) (n : Int) : T Tryz.prog 138 [p0K 0] [(.o 0, stB H W n)] (.tup []) [(.o 0, stB (blk H W) W n)] := by
 have hA : ∀ w, i5 Tryz.prog none 1 (cB (cB (cR (cL (cR (cR (f8 Tryz.f138))))))) (64 + 1) (bkI H W n w (rnd w (S8.of H) 0) 0) (.exit 0) (bkI H W n w (rnd w (S8.of H) 64) 64) := by
  intro w
  have hstep : ∀ t, t < 64 → R Tryz.prog none 1 (cB (cB (cR (cL (cR (cR (f8 Tryz.f138))))))) (bkI H W n w (rnd w (S8.of H) t) t) .normal (bkI H W n w (rnd w (S8.of H) (t + 1)) (t + 1)) := by
   intro t ht
   have h1 := ce_ (rnd w (S8.of H) t).e (a := 6) (b := 11) (c := 25) (by decide) (by decide) (by decide)
   have h2 := ce_ (rnd w (S8.of H) t).a (a := 2) (b := 13) (c := 22) (by decide) (by decide) (by decide)
   have h3 := T_kr ht
   refine f9 NG MO _ (bX2 H W n w (rnd w (S8.of H) t) t (rnd w (S8.of H) (t + 1))) ?_ (by show 1 ≤ 2; decide)
   simp only [All, Nat.zero_add, Int.toNat_natCast]; and_intros
   all_goals first | exact True.intro | exact h1 | exact h2 | exact h3 | rfl | (with_reducible assumption) | (rw [decide_eq_true_eq]; omega) | (simp only [IntKind.min, IntKind.max, IntKind.signed, IntKind.bits, if_true]; omega) | omega
  have hend : R Tryz.prog none 1 (cB (cB (cR (cL (cR (cR (f8 Tryz.f138))))))) (bkI H W n w (rnd w (S8.of H) 64) 64) (.exit 0) (bkI H W n w (rnd w (S8.of H) 64) 64) := by
   refine f9 NG MO _ (bX1 H W n w (rnd w (S8.of H) 64) 64 ⟨0, 0, 0, 0, 0, 0, 0, 0⟩) ?_ (by show 1 ≤ 2; decide)
   simp only [All]; and_intros
   all_goals first | exact True.intro | (rw [decide_eq_false_iff_not]; omega) | omega
  exact i5.inv (fun t => bkI H W n w (rnd w (S8.of H) t) t) 64 hstep hend (by simp)
 have hB : ∀ l, i5 Tryz.prog none 1 (cB (cB (cR (cR (cR (cR (f8 Tryz.f138))))))) (8 + 1) (bkJ (hF H l 0) W n l 0) (.exit 2) (bkJ (hF H l 8) W n l 8) := by
  intro l
  have hstep : ∀ i, i < 8 → R Tryz.prog none 1 (cB (cB (cR (cR (cR (cR (f8 Tryz.f138))))))) (bkJ (hF H l i) W n l i) .normal (bkJ (hF H l (i + 1)) W n l (i + 1)) := by
   intro i hi
   refine f9 NG MO _ (bX4 (hF H l i) W n l i (hF H l (i + 1))) ?_ (by show 1 ≤ 2; decide)
   simp only [All, Nat.zero_add, Int.toNat_natCast]; and_intros
   all_goals first | exact True.intro | rfl | (with_reducible assumption) | (rw [decide_eq_true_eq]; omega) | (simp only [IntKind.min, IntKind.max, IntKind.signed, IntKind.bits, if_true]; omega) | omega
  have hend : R Tryz.prog none 1 (cB (cB (cR (cR (cR (cR (f8 Tryz.f138))))))) (bkJ (hF H l 8) W n l 8) (.exit 2) (bkJ (hF H l 8) W n l 8) := by
   refine f9 NG MO _ (bX3 (hF H l 8) W n l 8 []) ?_ (by show 1 ≤ 2; decide)
   simp only [All]; and_intros
   all_goals first | exact True.intro | (rw [decide_eq_false_iff_not]; omega) | omega
  exact i5.inv (fun i => bkJ (hF H l i) W n l i) 8 hstep hend (by simp)
 have h1 := ct_ W
 have hA1 := hA (wB W 48)
 have hB1 := hB (rnd (wB W 48) (S8.of H) 64).l
 generalize hw : wB W 48 = w at h1 hA1 hB1
 generalize hs : rnd w (S8.of H) 64 = s at hA1 hB1
 have hb : hF H s.l 8 = blk H W := by rw [blk, hw, hs]
 rw [hb] at hB1
 refine f5 (bP2 H W n w s (blk H W)) Tryz.func138 ?_
 simp only [All]; and_intros
 all_goals first | exact True.intro | exact h1 | exact hA1 | exact hB1 | omega
noncomputable def bdBe : Bd := { f := Tryz.f103, args := [], kb := kb0, names := fun t => [nmV (r9 t.tmps 0)] }
def wrI (H W : List Int) (n : Nat) (l : List Int) : St := ⟨mkT 38 [(0, p0K 0), (1, rb l)], [(.o 0, stB H W (n : Nat))], 1, []⟩
noncomputable def ck4 (H W : List Int) (n : Nat) (l H2 W2 : List Int) (n2 : Nat) : Bd := { f := Tryz.f104, args := [p0K 0, rb l], pre := [(.o 0, stB H W (n : Nat))], base := 1, kb := { db := fun _ _ _ _ => [], lp := fun _ _ => [(True, .loop (l.length + 1) (wTo (wrI H W n l)) (.exit 0) (wrI H2 W2 n2 []))] }, names := fun _ => [.o 0] }
def bkDb (H2 : List Int) : List V → c5 → Nat → List Cl := fun _ h _ => match B3 (.o 0) h with
 | some (.flat [_, .seg _ _ W, .int _ n], _) => [{ pre := [.o 0], val := .tup [], post := [(.o 0, .flat [.seg .u32 8 H2, .seg .u8 64 W, .int .i64 n])] }]
 | _ => []
noncomputable def bH8 (H W : List Int) (n : Nat) (l H2 W2 : List Int) (n2 : Nat) (l2 : List Int) : Pc := { c := cB (cB (f8 Tryz.f104)), st := wrI H W n l, p := 1, kb := { db := dbQ [(138, bkDb H2)] }, k := fun x_ _ => match x_ with
 | .normal => some (wTo (wrI H2 W2 n2 l2))
 | _ => some (wTo (wrI H W n [])) }
theorem cg2 :
  f4 zp (bdBe) [] = (some (.ptr (.o 192) 0 0 0 0, [(.o 192, .flat [.seg .u32 8 [(1779033703 : Int), (3144134277 : Int), (1013904242 : Int), (2773480762 : Int), (1359893119 : Int), (2600822924 : Int), (528734635 : Int), (1541459225 : Int)], .seg .u8 64 (List.replicate 64 (0 : Int)), .int .i64 0])], []) : Option (V × c5 × List Prop)) := by kernel_rfl
theorem ck5 (H : List Int) (W : List Int) (n : Nat) (l : List Int) (H2 : List Int) (W2 : List Int) (n2 : Nat) :
  f4 zp (ck4 H W n l H2 W2 n2) [] = (some (.tup [], [(.o 0, .flat [.seg .u32 8 H2, .seg .u8 64 W2, .int .i64 ↑n2])], [i5 zp none 1 (cB (cB (f8 (Bd.f (ck4 H W n l H2 W2 n2))))) (List.length l + 1) (St.mk (mkT 38 [(0, .ptr (.o 0) 0 0 0 0), (1, .ros 1 (List.length l) (ib l) false)]) [(.o 0, .flat [.seg .u32 8 H, .seg .u8 64 W, .int .i64 ↑n])] 1 []) (.exit 0) (St.mk (mkT 38 [(0, .ptr (.o 0) 0 0 0 0), (1, .ros 1 0 (ib []) false)]) [(.o 0, .flat [.seg .u32 8 H2, .seg .u8 64 W2, .int .i64 ↑n2])] 1 []), q (8 : Nat), q H, q (64 : Nat), q W, q (↑n : Int), q0, q0, q0, q (List.length l), ∀ (k : Nat), k < List.length l → [V.int .u8 (List.getD l k (0 : Int))] = [V.int .u8 (List.getD l k (0 : Int))], false = true → false = true]) : Option (V × c5 × List Prop)) := by kernel_rfl
noncomputable def ai6 (H : List Int) (W : List Int) (n : Nat) (l : List Int) (H2 : List Int) (W2 : List Int) (n2 : Nat) (l2 : List Int) : Nat → List Prop
 | 0 => [decide ((0 : Int) < (↑(List.length l) : Int)) = true, (0 : Int) ≤ (↑n : Int) ∧ (0 : Int) < (64 : Int), (0 : Int) ≤ (↑n : Int) % (64 : Int) ∧ (↑n : Int) % (64 : Int) ≤ (64 : Int), Int.toNat ((↑n : Int) % (64 : Int)) = (0 : Nat) ∨ Int.toNat ((↑n : Int) % (64 : Int)) < 64, R0 (0 : Nat) (some ((↑n : Int) % (64 : Int))) + (64 - i3 (some ((↑n : Int) % (64 : Int))) (0 : Nat)) ≤ (64 : Nat), ∀ (q : Nat), q < List.length l → true = true, InR .i64 ((↑n : Int) + (↑(Nat.min (List.length l) (64 - i3 (some ((↑n : Int) % (64 : Int))) (0 : Nat))) : Int)), (0 : Int) ≤ (↑(Nat.min (List.length l) (64 - i3 (some ((↑n : Int) % (64 : Int))) (0 : Nat))) : Int) ∧ (↑(Nat.min (List.length l) (64 - i3 (some ((↑n : Int) % (64 : Int))) (0 : Nat))) : Int) ≤ (↑(i3 none (List.length l)) : Int), (0 : Int) ≤ (↑n : Int) + (↑(Nat.min (List.length l) (64 - i3 (some ((↑n : Int) % (64 : Int))) (0 : Nat))) : Int) ∧ (0 : Int) < (64 : Int)]
 | _ => []
theorem bH_ (H : List Int) (W : List Int) (n : Nat) (l : List Int) (H2 : List Int) (W2 : List Int) (n2 : Nat) (l2 : List Int) :
 i6 zp (bH8 H W n l H2 W2 n2 l2) [true, true] = (some (.normal, St.mk (mkT 38 [(0, .ptr (.o 0) 0 0 0 0), (1, .ros 1 (List.length l2) (ib l2) false)]) [(.o 0, .flat [.seg .u32 8 H2, .seg .u8 64 W2, .int .i64 ↑n2])] 1 [], ai6 H W n l H2 W2 n2 l2 0 ++ [decide (((↑n : Int) + (↑(Nat.min (List.length l) (64 - i3 (some ((↑n : Int) % (64 : Int))) (0 : Nat))) : Int)) % (64 : Int) = (0 : Int)) = true, T zp 138 [.ptr (.o 0) 0 0 0 0] [(.o 0, .flat [.seg .u32 8 H, .seg .u8 64 (z5 64 W (R0 0 (some ((↑n : Int) % (64 : Int)))) (Nat.min (List.length l) (64 - i3 (some ((↑n : Int) % (64 : Int))) 0)) (ib l)), .int .i64 ((↑n : Int) + (↑(Nat.min (List.length l) (64 - i3 (some ((↑n : Int) % (64 : Int))) 0)) : Int))])] (.tup []) [(.o 0, .flat [.seg .u32 8 H2, .seg .u8 64 (z5 64 W (R0 0 (some ((↑n : Int) % (64 : Int)))) (Nat.min (List.length l) (64 - i3 (some ((↑n : Int) % (64 : Int))) 0)) (ib l)), .int .i64 ((↑n : Int) + (↑(Nat.min (List.length l) (64 - i3 (some ((↑n : Int) % (64 : Int))) 0)) : Int))])], q (8 : Nat), q H2, q (64 : Nat), z5 (64 : Nat) W (R0 (0 : Nat) (some ((↑n : Int) % (64 : Int)))) (Nat.min (List.length l) (64 - i3 (some ((↑n : Int) % (64 : Int))) (0 : Nat))) (ib l) = W2, (↑n : Int) + (↑(Nat.min (List.length l) (64 - i3 (some ((↑n : Int) % (64 : Int))) (0 : Nat))) : Int) = (↑n2 : Int), q0, q0, q0, i3 none (List.length l) - i3 (some (↑(Nat.min (List.length l) (64 - i3 (some ((↑n : Int) % (64 : Int))) (0 : Nat))) : Int)) (0 : Nat) = List.length l2, ∀ (k : Nat), k < i3 none (List.length l) - i3 (some (↑(Nat.min (List.length l) (64 - i3 (some ((↑n : Int) % (64 : Int))) (0 : Nat))) : Int)) (0 : Nat) → [V.int .u8 (List.getD l (Int.toNat (↑(Nat.min (List.length l) (64 - i3 (some ((↑n : Int) % (64 : Int))) (0 : Nat))) : Int) + k) (0 : Int))] = [V.int .u8 (List.getD l2 k (0 : Int))], false = true → false = true]) : Option (Exit × St × List Prop)) := by kernel_rfl
theorem bH9 (H : List Int) (W : List Int) (n : Nat) (l : List Int) (H2 : List Int) (W2 : List Int) (n2 : Nat) (l2 : List Int) :
 i6 zp (bH8 H W n l H2 W2 n2 l2) [true, false] = (some (.normal, St.mk (mkT 38 [(0, .ptr (.o 0) 0 0 0 0), (1, .ros 1 (List.length l2) (ib l2) false)]) [(.o 0, .flat [.seg .u32 8 H2, .seg .u8 64 W2, .int .i64 ↑n2])] 1 [], ai6 H W n l H2 W2 n2 l2 0 ++ [decide (((↑n : Int) + (↑(Nat.min (List.length l) (64 - i3 (some ((↑n : Int) % (64 : Int))) (0 : Nat))) : Int)) % (64 : Int) = (0 : Int)) = false, q (8 : Nat), H = H2, q (64 : Nat), z5 (64 : Nat) W (R0 (0 : Nat) (some ((↑n : Int) % (64 : Int)))) (Nat.min (List.length l) (64 - i3 (some ((↑n : Int) % (64 : Int))) (0 : Nat))) (ib l) = W2, (↑n : Int) + (↑(Nat.min (List.length l) (64 - i3 (some ((↑n : Int) % (64 : Int))) (0 : Nat))) : Int) = (↑n2 : Int), q0, q0, q0, i3 none (List.length l) - i3 (some (↑(Nat.min (List.length l) (64 - i3 (some ((↑n : Int) % (64 : Int))) (0 : Nat))) : Int)) (0 : Nat) = List.length l2, ∀ (k : Nat), k < i3 none (List.length l) - i3 (some (↑(Nat.min (List.length l) (64 - i3 (some ((↑n : Int) % (64 : Int))) (0 : Nat))) : Int)) (0 : Nat) → [V.int .u8 (List.getD l (Int.toNat (↑(Nat.min (List.length l) (64 - i3 (some ((↑n : Int) % (64 : Int))) (0 : Nat))) : Int) + k) (0 : Int))] = [V.int .u8 (List.getD l2 k (0 : Int))], false = true → false = true]) : Option (Exit × St × List Prop)) := by kernel_rfl
theorem aZ8 (H : List Int) (W : List Int) (n : Nat) (l : List Int) (H2 : List Int) (W2 : List Int) (n2 : Nat) (l2 : List Int) :
 i6 zp (bH8 H W n l H2 W2 n2 l2) [false] = (some (.exit 0, St.mk (mkT 38 [(0, .ptr (.o 0) 0 0 0 0), (1, .ros 1 0 (ib []) false)]) [(.o 0, .flat [.seg .u32 8 H, .seg .u8 64 W, .int .i64 ↑n])] 1 [], [decide ((0 : Int) < (↑(List.length l) : Int)) = false, q (8 : Nat), q H, q (64 : Nat), q W, q (↑n : Int), q0, q0, q0, List.length l = 0, ∀ (k : Nat), k < List.length l → [V.int .u8 (List.getD l k (0 : Int))] = [V.int .u8 (0 : Int)], false = true → false = true]) : Option (Exit × St × List Prop)) := by kernel_rfl
def wrC (n : Nat) (l : List Int) : Nat := Nat.min l.length (64 - i3 (some ((n : Int) % 64)) 0)
def wrW (W : List Int) (n : Nat) (l : List Int) : List Int := z5 64 W (R0 0 (some ((n : Int) % 64))) (wrC n l) (ib l)
theorem cp9 (n : Nat) (l : List Int) : wrC n l = min l.length (64 - n % 64) := by
 have : i3 (some ((n : Int) % 64)) 0 = n % 64 := by show ((n : Int) % 64).toNat = _; omega
 rw [wrC, this]
theorem cp_ (W : List Int) (n : Nat) (l : List Int) : wrW W n l = z5 64 W (n % 64) (wrC n l) (ib l) := by
 have : R0 0 (some ((n : Int) % 64)) = n % 64 := by show 0 + ((n : Int) % 64).toNat = _; omega
 rw [wrW, this]
theorem cq0 : ∀ (N : Nat) (l : List Int), l.length ≤ N → ∀ B H W, Inv B H W → B.length + l.length ≤ 1000000000000 → ∃ H2 W2, Inv (B ++ l) H2 W2 ∧ ∀ m, l.length < m →
  i5 Tryz.prog none 1 (cB (cB (f8 Tryz.f104))) m (wrI H W B.length l) (.exit 0) (wrI H2 W2 (B.length + l.length) []) := by
 intro N
 induction N with
 | zero =>
  intro l hl B H W hI hb
  obtain rfl : l = [] := List.eq_nil_of_length_eq_zero (by omega)
  refine ⟨H, W, by rw [List.append_nil]; exact hI, fun m hm => ?_⟩
  obtain ⟨m, rfl⟩ : ∃ k, m = k + 1 := ⟨m - 1, by simp at hm; omega⟩
  refine i5.out ?_ (by simp)
  refine f9 NG MO _ (aZ8 H W B.length [] [] [] 0 []) ?_ (by show 1 ≤ 1; decide)
  simp only [All, f3, ai6]; and_intros
  all_goals first | exact True.intro | (rw [decide_eq_false_iff_not]; omega) | (intro _ _; rfl) | omega | (intro h; exact h)
 | succ N ih =>
  intro l hl B H W hI hb
  by_cases h0 : l.length = 0
  ·obtain rfl : l = [] := List.eq_nil_of_length_eq_zero h0
   refine ⟨H, W, by rw [List.append_nil]; exact hI, fun m hm => ?_⟩
   obtain ⟨m, rfl⟩ : ∃ k, m = k + 1 := ⟨m - 1, by simp at hm; omega⟩
   refine i5.out ?_ (by simp)
   refine f9 NG MO _ (aZ8 H W B.length [] [] [] 0 []) ?_ (by show 1 ≤ 1; decide)
   simp only [All, f3, ai6]; and_intros
   all_goals first | exact True.intro | (with_reducible assumption) | (rw [decide_eq_false_iff_not]; omega) | (intro _ _; rfl) | (intro h; exact h)
  have hc := cp9 B.length l
  have hc1 : wrC B.length l ≤ l.length := by omega
  have hc2 : wrC B.length l ≤ 64 - B.length % 64 := by omega
  have hc3 : 0 < wrC B.length l := by omega
  have hS := bD5 hI hc1 hc2
  simp only [← cp_] at hS
  have e1 : i3 (none : Option Int) l.length = l.length := rfl
  have e2 : i3 (some ((wrC B.length l : Nat) : Int)) 0 = wrC B.length l := Int.toNat_natCast _
  have e3 : i3 (some ((B.length : Int) % 64)) 0 = B.length % 64 := by show ((B.length : Int) % 64).toNat = _; omega
  have e4 : R0 0 (some ((B.length : Int) % 64)) = B.length % 64 := by show 0 + ((B.length : Int) % 64).toNat = _; omega
  have e5 : Nat.min l.length (64 - i3 (some ((B.length : Int) % 64)) 0) = wrC B.length l := rfl
  have hd : (l.drop (wrC B.length l)).length = l.length - wrC B.length l := List.length_drop
  have ht : (B ++ l.take (wrC B.length l)).length = B.length + wrC B.length l := by rw [List.length_append, List.length_take, Nat.min_eq_left hc1]
  have hdg : ∀ k, (l.drop (wrC B.length l)).getD k 0 = l.getD (wrC B.length l + k) 0 := fun k => by rw [List.getD_eq_getElem?_getD, List.getD_eq_getElem?_getD, List.getElem?_drop]
  have key : ∃ H1, Inv (B ++ l.take (wrC B.length l)) H1 (wrW W B.length l) ∧ R Tryz.prog none 1 (cB (cB (f8 Tryz.f104))) (wrI H W B.length l) .normal (wrI H1 (wrW W B.length l) (B.length + wrC B.length l) (l.drop (wrC B.length l))) := by
   by_cases hz : (B.length + wrC B.length l) % 64 = 0
   ·have hB := T_bk H (wrW W B.length l) ((B.length : Int) + (wrC B.length l : Nat))
    refine ⟨blk H (wrW W B.length l), hS.1 hz hc3, ?_⟩
    refine f9 NG MO _ (bH_ H W B.length l (blk H (wrW W B.length l)) (wrW W B.length l) (B.length + wrC B.length l) (l.drop (wrC B.length l))) ?_ (by show 1 ≤ 1; decide)
    simp only [All, f3, ai6, e5, e1, e2, hd, hdg, Int.toNat_natCast]; and_intros
    all_goals first | exact True.intro | (rw [e3]; omega) | (rw [decide_eq_true_eq]; omega) | (intro _ _; exact True.intro) | (simp only [IntKind.min, IntKind.max, IntKind.signed, IntKind.bits, if_true]; omega) | omega | (intro h; exact h) | kernel_rfl | (refine Eq.mp ?_ hB; kernel_rfl)
   ·refine ⟨H, hS.2 hz, ?_⟩
    refine f9 NG MO _ (bH9 H W B.length l H (wrW W B.length l) (B.length + wrC B.length l) (l.drop (wrC B.length l))) ?_ (by show 1 ≤ 1; decide)
    simp only [All, f3, ai6, e5, e1, e2, hd, hdg, Int.toNat_natCast]; and_intros
    all_goals first | exact True.intro | (rw [e3]; omega) | (rw [decide_eq_true_eq]; omega) | (rw [decide_eq_false_iff_not]; omega) | (intro _ _; exact True.intro) | (simp only [IntKind.min, IntKind.max, IntKind.signed, IntKind.bits, if_true]; omega) | omega | (intro h; exact h) | kernel_rfl
  obtain ⟨H1, hI1, hR⟩ := key
  obtain ⟨H2, W2, hI2, hL⟩ := ih (l.drop (wrC B.length l)) (by omega) _ _ _ hI1 (by omega)
  refine ⟨H2, W2, by rw [List.append_assoc, List.take_append_drop] at hI2; exact hI2, fun m hm => ?_⟩
  obtain ⟨m, rfl⟩ : ∃ k, m = k + 1 := ⟨m - 1, by omega⟩
  have := hL m (by omega)
  rw [ht, hd, show B.length + wrC B.length l + (l.length - wrC B.length l) = B.length + l.length by omega] at this
  exact i5.step hR this
theorem cf0 {B H W : List Int} (hI : Inv B H W) (l : List Int) (hb : B.length + l.length ≤ 1000000000000) : ∃ H2 W2, Inv (B ++ l) H2 W2 ∧ T Tryz.prog 104 [p0K 0, rb l] [(.o 0, stB H W (B.length : Nat))] (.tup []) [(.o 0, stB H2 W2 ((B.length + l.length : Nat) : Int))] := by
 obtain ⟨H2, W2, h1, h2⟩ := cq0 l.length l (Nat.le_refl _) B H W hI hb
 have hL := h2 (l.length + 1) (Nat.lt_succ_self _)
 refine ⟨H2, W2, h1, ?_⟩
 refine f5 (ck5 H W B.length l H2 W2 (B.length + l.length)) Tryz.func104 ?_
 simp only [All]; and_intros
 all_goals first | exact True.intro | exact hL | (intro _ _; exact True.intro) | (intro h; exact h)
def bJ5 (H W : List Int) (n : Nat) : List V → List Cl
 | [_, .sl x _ _ _ _ _ _] => [{ pre := [.o 0], rd := [x], val := .tup [], post := [(.o 0, stB H W (n : Nat))] }]
 | _ => []
def enI (H W : List Int) (n N : Nat) : St := ⟨mkT 63 [(0, p0K 0), (2, p0K 1), (3, .int .i64 (8 * (N : Int)))], [(.o 0, stB H W (n : Nat)), (.o 1, .flat [.seg .u8 32 v7])], 2, []⟩
def enJ (H W : List Int) (n : Nat) (d : List Int) (k : Nat) : St := ⟨mkT 63 [(0, p0K 0), (2, p0K 1), (43, .int .i64 (k : Nat))], [(.o 0, stB H W (n : Nat)), (.o 1, .flat [.seg .u8 32 d])], 2, []⟩
def enR (N j : Nat) : Nat → List V := fun q => [.int .u8 (if q < j then Z2 (8 * (N : Int)) q else 0)]
def enL (H W : List Int) (n N j : Nat) : St := ⟨mkT 63 [(0, p0K 0), (2, p0K 1), (3, .int .i64 (8 * (N : Int))), (4, .sl (.o 2) 1 0 0 0 8 none), (26, .int .i64 8), (27, .int .i64 (j : Nat))], [(.o 0, stB H W (n : Nat)), (.o 1, .flat [.seg .u8 32 v7]), (.o 2, .rows 1 8 (enR N j) false)], 3, []⟩
def enDb (H1 W1 H3 W3 : List Int) (N z : Nat) (a : List V) : List Cl := match a with
 | [_, .sl _ _ _ _ _ 1 _] => bJ5 H1 W1 (N + 1) a
 | _ => bJ5 H3 W3 (N + 1 + z + 8) a
noncomputable def ba9 (H W : List Int) (N : Nat) (H1 W1 : List Int) (z : Nat) (H2 W2 H3 W3 d : List Int) : Bd := { f := Tryz.f105, args := [p0K 0], pre := [(.o 0, stB H W (N : Nat))], base := 1, kb := { db := dbQ [(104, fun a _ _ => enDb H1 W1 H3 W3 N z a)], lp := fun id t => bif Nat.beq id 0 then [(True, .loop (z + 1) (B6 [(.o 1, nmV (r9 t.tmps 2))] (enI H1 W1 (N + 1) N)) (.exit 0) (enI H2 W2 (N + 1 + z) N))] else bif Nat.beq id 2 then [(True, .loop (8 + 1) (B6 [(.o 2, nmV (r9 t.tmps 4))] (enL H2 W2 (N + 1 + z) N 0)) (.exit 2) (enL H2 W2 (N + 1 + z) N 8))] else [(True, .loop (32 + 1) (wTo (enJ H3 W3 (N + 1 + z + 8) v7 0)) (.exit 4) (enJ H3 W3 (N + 1 + z + 8) d 32))] }, names := fun _ => [.o 0] }
noncomputable def cm9 (H W : List Int) (n N : Nat) (H2 W2 : List Int) : Pc := { c := cB (cB (cL (cR (cR (cR (f8 Tryz.f105)))))), st := enI H W n N, p := 1, kb := { db := dbQ [(104, fun a _ _ => bJ5 H2 W2 (n + 1) a)] }, k := fun x_ _ => match x_ with
 | .normal => some (wTo (enI H2 W2 (n + 1) N))
 | _ => some (wTo (enI H W n N)) }
noncomputable def cm8 (H W : List Int) (n N j : Nat) : Pc := { c := cB (cB (cR (cL (cR (cR (cR (cR (cR (f8 Tryz.f105))))))))), st := enL H W n N j, p := 1, kb := kb0, k := fun x_ _ => match x_ with
 | .normal => some (wTo (enL H W n N (j + 1)))
 | _ => some (wTo (enL H W n N 8)) }
noncomputable def cm7 (H W : List Int) (n : Nat) (d : List Int) (k : Nat) (d2 : List Int) : Pc := { c := cB (cB (cR (cL (cR (cR (cR (cR (cR (cR (cR (f8 Tryz.f105))))))))))), st := enJ H W n d k, p := 1, kb := kb0, k := fun x_ _ => match x_ with
 | .normal => some (wTo (enJ H W n d2 (k + 1)))
 | _ => some (wTo (enJ H W n d 32)) }
end Go.Proofs.YtnmccoincblecaaGreat
