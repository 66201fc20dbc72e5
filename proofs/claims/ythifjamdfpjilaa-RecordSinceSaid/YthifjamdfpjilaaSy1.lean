/-
  Abstract heaps and their relation to a world; what a step may have changed; a call's contract (own work of this seat).
-/
import Derived.Test.YthifjamdfpjilaaSy0
namespace Sy
open Go

/-- What a block holds. 'flat': just these cells. 'rows': so many elements of 'es' cells each (no names in them); 'grow': there may be room behind them. -/
inductive B where
  | flat (cs : List V)
  | rows (es n : Nat) (f : Nat → List V) (grow : Bool)
  | map (ents : List (V × V))
  | dfr
  | loop (fn : FuncId) (ps : Array Tmp) (tmps : List V) (assign body : Code) (st : LoopState) (pend : Option Code)

def B.ren (σ : Nm → Nm) : B → B
  | .flat cs => .flat (V.rens σ cs)
  | .rows es n f g => .rows es n f g
  | .map ents => .map (ents.map fun p => (V.ren σ p.1, V.ren σ p.2))
  | .dfr => .dfr
  | .loop f ps ts a b s p => .loop f ps (V.rens σ ts) a b s p
def B.within (S : Nm → Bool) : B → Bool
  | .flat cs => V.withins S cs
  | .rows _ _ _ _ => true
  | .map ents => ents.all fun p => V.within S p.1 && V.within S p.2
  | .dfr => true
  | .loop _ _ ts _ _ _ _ => V.withins S ts

abbrev Heap := List (Nm × B)
def Heap.dom (h : Heap) (n : Nm) : Prop := ∃ b, (n, b) ∈ h
def Heap.ren (σ : Nm → Nm) (h : Heap) : Heap := h.map fun p => (σ p.1, p.2.ren σ)

def EntsRel (U : Imm) (ρ : Env) : List (V × V) → List MapEntry → Prop
  | [], l => l = []
  | p :: ps, l => ∃ e r, l = e :: r ∧ VRel U ρ p.1 e.key ∧ VRel U ρ p.2 e.val ∧ EntsRel U ρ ps r

def BRel (U : Imm) (ρ : Env) (sz : Nat) : B → Obj → Prop
  | .flat cs, o => ∃ c el lo hi, o = .cells c el (lo, hi) ∧ c.size = sz ∧ (hi ≤ lo ∨ c.size ≤ lo) ∧ CsRel U ρ cs c.toList
  | .rows es n f g, o => ∃ c el lo hi, o = .cells c el (lo, hi) ∧ c.size = sz ∧ (hi ≤ lo ∨ c.size ≤ lo) ∧ n * es ≤ c.size ∧ (g = false → c.size = n * es) ∧
      ∀ i, i < n → ∃ r, CsRel U Env.none (f i) r ∧ r.length = es ∧ ∀ k, k < r.length → c[i * es + k]? = r[k]?
  | .map ents, o => ∃ es clock, o = .map es clock ∧ EntsRel U ρ ents es.toList ∧ (∀ e ∈ es, e.born < clock) ∧ (es.toList.map (·.born)).Nodup
  | .dfr, o => o = .deferred (some [])
  | .loop f ps ts a b s p, o => ∃ r, o = .loop r ∧ r.fn = f ∧ r.params = ps ∧ VsRel U ρ ts r.tmps.toList ∧ r.assign = a ∧ r.body = b ∧ r.state = s ∧ r.pending = p

theorem EntsRel.tr {U U' : Imm} {ρ ρ' : Env} {σ : Nm → Nm} {S : Nm → Bool} (hU : U.le U') (hρ : ∀ n l, S n = true → ρ n = some l → ρ' (σ n) = some l) :
    ∀ (v : List (V × V)) (x : List MapEntry), (v.all fun p => V.within S p.1 && V.within S p.2) = true → EntsRel U ρ v x → EntsRel U' ρ' (v.map fun p => (V.ren σ p.1, V.ren σ p.2)) x
  | [], x, _, h => by rw [EntsRel] at h; subst h; rfl
  | p :: ps, x, hs, h => by
    rw [EntsRel] at h
    obtain ⟨e, r, rfl, h1, h2, h3⟩ := h
    rw [List.all_cons, Bool.and_eq_true, Bool.and_eq_true] at hs
    rw [List.map_cons, EntsRel]
    exact ⟨e, r, rfl, VRel.tr hU hρ _ _ hs.1.1 h1, VRel.tr hU hρ _ _ hs.1.2 h2, EntsRel.tr hU hρ ps r hs.2 h3⟩

theorem BRel.tr {U U' : Imm} {ρ ρ' : Env} {σ : Nm → Nm} {S : Nm → Bool} {sz : Nat} (hU : U.le U') (hρ : ∀ n l, S n = true → ρ n = some l → ρ' (σ n) = some l)
    {b : B} {o : Obj} (hs : b.within S = true) (h : BRel U ρ sz b o) : BRel U' ρ' sz (b.ren σ) o := by
  cases b with
  | flat cs =>
    obtain ⟨c, el, lo, hi, h1, h2, h3, h4⟩ := h
    exact ⟨c, el, lo, hi, h1, h2, h3, CsRel.tr hU hρ _ _ hs h4⟩
  | rows es n f g =>
    obtain ⟨c, el, lo, hi, h1, h2, h3, h4, h5, h6⟩ := h
    refine ⟨c, el, lo, hi, h1, h2, h3, h4, h5, fun i hi' => ?_⟩
    obtain ⟨r, h7, h8, h9⟩ := h6 i hi'
    exact ⟨r, CsRel.imm hU _ _ h7, h8, h9⟩
  | map ents =>
    obtain ⟨es, clock, h1, h2, h3⟩ := h
    exact ⟨es, clock, h1, EntsRel.tr hU hρ _ _ hs h2, h3⟩
  | dfr => exact h
  | loop f ps ts a b s p =>
    obtain ⟨r, h1, h2, h3, h4, h5⟩ := h
    exact ⟨r, h1, h2, h3, VsRel.tr hU hρ _ _ hs h4, h5⟩
theorem V.rens_eq_map (σ : Nm → Nm) : ∀ l : List V, V.rens σ l = l.map (V.ren σ)
  | [] => by rw [V.rens]; rfl
  | v :: vs => by rw [V.rens, V.rens_eq_map σ vs]; rfl
theorem B.ren_id (b : B) : b.ren (fun n => n) = b := by
  cases b with
  | flat cs => simp [B.ren, V.rens_id]
  | rows => rfl
  | map ents => simp [B.ren, V.ren_id]
  | dfr => rfl
  | loop f ps ts a b s p => simp [B.ren, V.rens_id]
theorem B.ren_ren (σ τ : Nm → Nm) (b : B) : (b.ren τ).ren σ = b.ren fun n => σ (τ n) := by
  cases b with
  | flat cs => simp [B.ren, V.rens_rens]
  | rows => rfl
  | map ents => simp [B.ren, V.ren_ren]
  | dfr => rfl
  | loop f ps ts a b s p => simp [B.ren, V.rens_rens]
theorem B.within_true (b : B) : b.within (fun _ => true) = true := by
  cases b with
  | flat cs => exact V.withins_true cs
  | rows => rfl
  | map ents => simp [B.within, V.within_true]
  | dfr => rfl
  | loop f ps ts a b s p => exact V.withins_true ts
theorem BRel.within {U U' : Imm} {ρ ρ' : Env} {S : Nm → Bool} {sz : Nat} (hU : U.le U') (hρ : ∀ n l, S n = true → ρ n = some l → ρ' n = some l)
    {b : B} {o : Obj} (hs : b.within S = true) (h : BRel U ρ sz b o) : BRel U' ρ' sz b o := by
  have := BRel.tr (σ := fun n => n) hU hρ hs h; rwa [B.ren_id] at this
theorem BRel.mono {U U' : Imm} {ρ ρ' : Env} {sz : Nat} (hU : U.le U') (hρ : ρ.le ρ') {b : B} {o : Obj} (h : BRel U ρ sz b o) : BRel U' ρ' sz b o :=
  BRel.within (S := fun _ => true) hU (fun n l _ h => hρ n l h) (B.within_true b) h

/-- A heap as it lies in a world. -/
structure HRel (U : Imm) (ρ : Env) (h : Heap) (w : World) : Prop where
  blk : ∀ n b, (n, b) ∈ h → ∃ l, ρ n = some l ∧ ((l.real = true ∧ ∃ o, w.heap[l.blk]? = some o ∧ BRel U ρ l.sz b o ∧ U l.blk = none) ∨ (l.real = false ∧ ∃ es f, b = .rows es 0 f true))
  inj : ∀ n b n' b' l l', (n, b) ∈ h → (n', b') ∈ h → ρ n = some l → ρ n' = some l' → l.real = true → l'.real = true → l.blk = l'.blk → n = n'
  nd : (h.map Prod.fst).Nodup
  imm : ∀ b c, U b = some c → ∃ el fr, w.heap[b]? = some (.cells c el fr)

theorem HRel.drew {U ρ h} {w w' : World} (H : HRel U ρ h w) (e : w'.heap = w.heap) : HRel U ρ h w' :=
  ⟨fun n b hm => by rw [e]; exact H.blk n b hm, H.inj, H.nd, fun b c hc => by rw [e]; exact H.imm b c hc⟩

theorem lt_size {w : World} {b : Nat} {o : Obj} (h : w.heap[b]? = some o) : b < w.heap.size := by
  rcases Nat.lt_or_ge b w.heap.size with h1 | h1
  · exact h1
  · simp [Array.getElem?_eq_none h1] at h

theorem HRel.perm {U ρ h h1} {w : World} (H : HRel U ρ h w) (hp : h.Perm h1) : HRel U ρ h1 w :=
  ⟨fun n b hm => H.blk n b (hp.mem_iff.2 hm), fun n b n' b' l l' m m' => H.inj n b n' b' l l' (hp.mem_iff.2 m) (hp.mem_iff.2 m'), (hp.map Prod.fst).nodup_iff.1 H.nd, H.imm⟩
theorem HRel.left {U ρ a b} {w : World} (H : HRel U ρ (a ++ b) w) : HRel U ρ a w :=
  ⟨fun n x hm => H.blk n x (List.mem_append_left _ hm), fun n b n' b' l l' m m' => H.inj n b n' b' l l' (List.mem_append_left _ m) (List.mem_append_left _ m'),
    by have := H.nd; rw [List.map_append, List.nodup_append] at this; exact this.1, H.imm⟩
theorem HRel.right {U ρ a b} {w : World} (H : HRel U ρ (a ++ b) w) : HRel U ρ b w :=
  HRel.left (a := b) (b := a) (H.perm List.perm_append_comm)
theorem HRel.same {U ρ h} {w : World} (H : HRel U ρ h w) {n : Nm} {b b' : B} (m : (n, b) ∈ h) (m' : (n, b') ∈ h) : b = b' := by
  have := H.nd
  induction h with
  | nil => cases m
  | cons p t ih =>
    rw [List.map_cons, List.nodup_cons] at this
    rcases List.mem_cons.1 m with h | m1
    · rcases List.mem_cons.1 m' with h' | m1'
      · rw [← h'] at h; exact congrArg Prod.snd h
      · exact (this.1 (List.mem_map.2 ⟨_, m1', by rw [← h]⟩)).elim
    · rcases List.mem_cons.1 m' with h' | m1'
      · exact (this.1 (List.mem_map.2 ⟨_, m1, by rw [← h']⟩)).elim
      · exact ih (HRel.right (a := [p]) H) m1 m1' this.2

/-- What may have turned between two worlds: blocks of the heap, and new ones; nothing else. -/
structure Ext (U : Imm) (ρ : Env) (h : Heap) (w : World) (U' : Imm) (ρ' : Env) (h' : Heap) (w' : World) : Prop where
  size : w.heap.size ≤ w'.heap.size
  imm : U.le U'
  frame : ∀ b, b < w.heap.size → (∀ n l, h.dom n → ρ n = some l → l.real = true → l.blk ≠ b) → w'.heap[b]? = w.heap[b]?
  new : ∀ n l, h'.dom n → ρ' n = some l → l.real = true → w.heap.size ≤ l.blk ∨ ∃ n0 l0, h.dom n0 ∧ ρ n0 = some l0 ∧ l0.real = true ∧ l0.blk = l.blk
  newImm : ∀ b c, U' b = some c → U b = some c ∨ w.heap.size ≤ b ∨ ∃ n l, h.dom n ∧ ρ n = some l ∧ l.real = true ∧ l.blk = b
  out : w'.os = w.os ∧ w'.output = w.output

theorem Ext.refl (U : Imm) (ρ : Env) (h : Heap) (w : World) : Ext U ρ h w U ρ h w :=
  ⟨Nat.le_refl _, Imm.le_refl _, fun _ _ _ => rfl, fun n l hd e hr => .inr ⟨n, l, hd, e, hr, rfl⟩, fun _ _ e => .inl e, rfl, rfl⟩

theorem Ext.trans {U U1 U2 : Imm} {ρ ρ1 ρ2 : Env} {h h1 h2 : Heap} {w w1 w2 : World} (a : Ext U ρ h w U1 ρ1 h1 w1) (b : Ext U1 ρ1 h1 w1 U2 ρ2 h2 w2) : Ext U ρ h w U2 ρ2 h2 w2 := by
  refine ⟨Nat.le_trans a.size b.size, Imm.le_trans a.imm b.imm, fun x hx hn => ?_, fun n l hd e hr => ?_, fun x c e => ?_, b.out.1.trans a.out.1, b.out.2.trans a.out.2⟩
  · rw [b.frame x (Nat.lt_of_lt_of_le hx a.size) fun n l hd e hr he => ?_, a.frame x hx hn]
    rcases a.new n l hd e hr with h | ⟨n0, l0, h3, h4, h4r, h5⟩
    · omega
    · exact hn n0 l0 h3 h4 h4r (h5.trans he)
  · rcases b.new n l hd e hr with h | ⟨n0, l0, h3, h4, h4r, h5⟩
    · exact .inl (Nat.le_trans a.size h)
    · rw [← h5]; exact a.new n0 l0 h3 h4 h4r
  · rcases b.newImm x c e with h | h | ⟨n, l, h3, h4, h4r, h5⟩
    · exact a.newImm x c h
    · exact .inr (.inl (Nat.le_trans a.size h))
    · rcases a.new n l h3 h4 h4r with h | ⟨n0, l0, h6, h7, h7r, h8⟩
      · exact .inr (.inl (h5 ▸ h))
      · exact .inr (.inr ⟨n0, l0, h6, h7, h7r, h8.trans h5⟩)

/-- What a step that may touch the blocks of 'pre' alone leaves. -/
structure Leaves (U : Imm) (ρ : Env) (pre : Heap) (w : World) (val : V) (post : Heap) (x : Value) (U' : Imm) (ρ' : Env) (w' : World) : Prop where
  val : VRel U' ρ' val x
  heap : HRel U' ρ' post w'
  keep : ∀ n l, post.dom n → ρ n = some l → ρ' n = some l
  only : ∀ n l, ρ' n = some l → post.dom n ∨ ρ n = some l
  ext : Ext U ρ pre w U' ρ' post w'

/-- A call's contract: handed these values, where (at least) this heap lies, it returns that value, and leaves that heap. -/
def T (P : Program) (f : FuncId) (args : List V) (pre : Heap) (val : V) (post : Heap) : Prop :=
  ∀ (U : Imm) (ρ : Env) (w : World) (xs : Array Value), HRel U ρ pre w → VsRel U ρ args xs.toList → (∀ n, post.dom n → pre.dom n ∨ ρ n = none) →
    Calls P f xs w fun e w' => ∃ x U' ρ', e = .returned x ∧ Leaves U ρ pre w val post x U' ρ' w'

theorem Heap.dom_ren {σ : Nm → Nm} {h : Heap} {n : Nm} : (h.ren σ).dom n ↔ ∃ m, n = σ m ∧ h.dom m := by
  constructor
  · rintro ⟨b, hb⟩
    obtain ⟨⟨m, b'⟩, hm, he⟩ := List.mem_map.1 hb
    cases he
    exact ⟨m, rfl, b', hm⟩
  · rintro ⟨m, rfl, b, hb⟩
    exact ⟨b.ren σ, List.mem_map.2 ⟨(m, b), hb, rfl⟩⟩

theorem Heap.ren_ren (σ τ : Nm → Nm) (h : Heap) : (h.ren τ).ren σ = h.ren fun n => σ (τ n) := by
  simp [Heap.ren, Function.comp_def, B.ren_ren]
theorem Heap.ren_id (h : Heap) : h.ren (fun n => n) = h := by simp [Heap.ren, B.ren_id]

theorem nodup_map_inj {α β γ : Type} {f : α → β} {g : β → γ} (hi : ∀ a b, g a = g b → a = b) : ∀ {l : List α}, (l.map f).Nodup → (l.map fun x => g (f x)).Nodup
  | [], _ => List.nodup_nil
  | x :: xs, h => by
    rw [List.map_cons, List.nodup_cons] at h ⊢
    refine ⟨fun hm => h.1 ?_, nodup_map_inj hi h.2⟩
    obtain ⟨y, hy, e⟩ := List.mem_map.1 hm
    exact List.mem_map.2 ⟨y, hy, hi _ _ e⟩

theorem HRel.ren {U : Imm} {ρ ρ' : Env} {σ τ : Nm → Nm} (hτσ : ∀ n, τ (σ n) = n) {h : Heap} {w : World} (hρ : ∀ n, ρ' (σ n) = ρ n) (H : HRel U ρ h w) :
    HRel U ρ' (h.ren σ) w := by
  have hi : ∀ a b, σ a = σ b → a = b := fun a b e => by rw [← hτσ a, ← hτσ b, e]
  refine ⟨fun n b hm => ?_, fun n b n' b' l l' m m' e1 e2 r1 r2 e3 => ?_, ?_, H.imm⟩
  · obtain ⟨⟨m, b0⟩, hm0, he⟩ := List.mem_map.1 hm
    cases he
    obtain ⟨l, h1, h2⟩ := H.blk m b0 hm0
    refine ⟨l, by rw [hρ]; exact h1, h2.imp ?_ ?_⟩
    · rintro ⟨hr, o, h2, h3, h4⟩
      exact ⟨hr, o, h2, BRel.tr (S := fun _ => true) (Imm.le_refl _) (fun n l _ e => by rw [hρ]; exact e) (B.within_true _) h3, h4⟩
    · rintro ⟨hr, es, f, rfl⟩; exact ⟨hr, es, f, rfl⟩
  · obtain ⟨⟨k, b0⟩, hm, he⟩ := List.mem_map.1 m
    obtain ⟨⟨k', b0'⟩, hm', he'⟩ := List.mem_map.1 m'
    cases he; cases he'
    rw [hρ] at e1 e2
    exact congrArg σ (H.inj k b0 k' b0' l l' hm hm' e1 e2 r1 r2 e3)
  · rw [Heap.ren, List.map_map]
    exact nodup_map_inj (g := σ) hi H.nd

theorem Ext.ren {U U' : Imm} {ρ ρ' r r' : Env} {σ σ' : Nm → Nm} {h h' : Heap} {w w' : World} (hr : ∀ n, r (σ n) = ρ n) (hr' : ∀ n, r' (σ' n) = ρ' n)
    (e : Ext U ρ h w U' ρ' h' w') : Ext U r (h.ren σ) w U' r' (h'.ren σ') w' := by
  refine ⟨e.size, e.imm, fun b hb hn => e.frame b hb fun n l hd hl hrl => hn (σ n) l (Heap.dom_ren.2 ⟨n, rfl, hd⟩) (by rw [hr]; exact hl) hrl, fun n l hd hl hrl => ?_, fun b c hc => ?_, e.out⟩
  · obtain ⟨m, rfl, hd0⟩ := Heap.dom_ren.1 hd
    rw [hr'] at hl
    rcases e.new m l hd0 hl hrl with h | ⟨n0, l0, h3, h4, h4r, h5⟩
    · exact .inl h
    · exact .inr ⟨σ n0, l0, Heap.dom_ren.2 ⟨n0, rfl, h3⟩, by rw [hr]; exact h4, h4r, h5⟩
  · rcases e.newImm b c hc with h | h | ⟨n0, l0, h3, h4, h4r, h5⟩
    · exact .inl h
    · exact .inr (.inl h)
    · exact .inr (.inr ⟨σ n0, l0, Heap.dom_ren.2 ⟨n0, rfl, h3⟩, by rw [hr]; exact h4, h4r, h5⟩)

/-- A contract under other names. -/
theorem T.ren {P : Program} {f : FuncId} {args : List V} {pre : Heap} {val : V} {post : Heap} (σ τ : Nm → Nm) (hστ : ∀ n, σ (τ n) = n) (hτσ : ∀ n, τ (σ n) = n)
    (H : T P f args pre val post) : T P f (V.rens σ args) (pre.ren σ) (V.ren σ val) (post.ren σ) := by
  intro U ρ w xs hh ha hf
  have hh' : HRel U (fun n => ρ (σ n)) pre w := by
    have := HRel.ren (σ := τ) (τ := σ) (ρ' := fun n => ρ (σ n)) hστ (fun n => by rw [hστ]) hh
    rwa [Heap.ren_ren, show (fun n => τ (σ n)) = fun n => n from funext hτσ, Heap.ren_id] at this
  have ha' : VsRel U (fun n => ρ (σ n)) args xs.toList := by
    have := VsRel.tr (σ := τ) (ρ' := fun n => ρ (σ n)) (S := fun _ => true) (Imm.le_refl U) (fun n l _ e => by rw [hστ]; exact e) _ _ (V.withins_true _) ha
    rwa [V.rens_rens, show (fun n => τ (σ n)) = fun n => n from funext hτσ, V.rens_id] at this
  refine (H U _ w xs hh' ha' fun n hd => ?_).mono ?_
  · rcases hf (σ n) (Heap.dom_ren.2 ⟨n, rfl, hd⟩) with h | h
    · obtain ⟨m, e, h⟩ := Heap.dom_ren.1 h
      have : n = m := by rw [← hτσ n, ← hτσ m, e]
      exact .inl (this ▸ h)
    · exact .inr h
  rintro e w' ⟨x, U', ρ', h1, h2, h3, h4, h5, h6⟩
  refine ⟨x, U', fun n => ρ' (τ n), h1, VRel.tr (S := fun _ => true) (Imm.le_refl _) (fun n l _ e => by rw [hτσ]; exact e) _ _ (V.within_true _) h2,
    HRel.ren hτσ (fun n => by rw [hτσ]) h3, fun n l hd e => ?_, fun n l e => ?_, Ext.ren (fun n => rfl) (fun n => by rw [hτσ]) h6⟩
  · obtain ⟨m, rfl, hd0⟩ := Heap.dom_ren.1 hd
    show ρ' (τ (σ m)) = _
    rw [hτσ]
    exact h4 m l hd0 e
  · rcases h5 _ l e with h | h
    · exact .inl (Heap.dom_ren.2 ⟨_, (hστ n).symm, h⟩)
    · simp only [hστ] at h; exact .inr h

/-- Two names change places. -/
def Nm.swap (a b : Nm) (n : Nm) : Nm := if n = a then b else if n = b then a else n
theorem Nm.swap_swap (a b n : Nm) : Nm.swap a b (Nm.swap a b n) = n := by
  unfold Nm.swap
  by_cases h : n = a
  · subst h; by_cases h' : b = n
    · subst h'; simp
    · simp [h']
  · by_cases h' : n = b
    · subst h'; simp [h]
    · simp [h, h']
theorem T.swap {P : Program} {f : FuncId} {args : List V} {pre : Heap} {val : V} {post : Heap} (a b : Nm) (H : T P f args pre val post) :
    T P f (V.rens (Nm.swap a b) args) (pre.ren (Nm.swap a b)) (V.ren (Nm.swap a b) val) (post.ren (Nm.swap a b)) :=
  T.ren _ _ (Nm.swap_swap a b) (Nm.swap_swap a b) H

/-! ### The frame: what a step leaves, in a greater heap -/
theorem mem_dom {h : Heap} {n : Nm} {b : B} (m : (n, b) ∈ h) : h.dom n := ⟨b, m⟩
theorem dom_append {a b : Heap} {n : Nm} : Heap.dom (a ++ b) n ↔ Heap.dom a n ∨ Heap.dom b n := by
  constructor
  · rintro ⟨x, hx⟩; rcases List.mem_append.1 hx with h | h
    · exact .inl ⟨x, h⟩
    · exact .inr ⟨x, h⟩
  · rintro (⟨x, hx⟩ | ⟨x, hx⟩)
    · exact ⟨x, List.mem_append_left _ hx⟩
    · exact ⟨x, List.mem_append_right _ hx⟩
theorem HRel.ex {U ρ h} {w : World} (H : HRel U ρ h w) {n : Nm} (hd : h.dom n) : ∃ l, ρ n = some l := by
  obtain ⟨b, hb⟩ := hd; obtain ⟨l, h1, _⟩ := H.blk n b hb; exact ⟨l, h1⟩
theorem HRel.real {U ρ h} {w : World} (H : HRel U ρ h w) {n : Nm} {b : B} (hb : (n, b) ∈ h) {l : Loc} (hl : ρ n = some l) (hr : l.real = true) : ∃ o, w.heap[l.blk]? = some o ∧ BRel U ρ l.sz b o ∧ U l.blk = none := by
  obtain ⟨l', h1, h2⟩ := H.blk n b hb
  rw [hl] at h1; cases h1
  rcases h2 with ⟨_, h⟩ | ⟨h, _⟩
  · exact h
  · rw [hr] at h; cases h

open Classical in
/-- The names of both. -/
noncomputable def Env.both (post : Heap) (ρ' ρ : Env) : Env := fun n => if post.dom n then ρ' n else ρ n

theorem Leaves.frame {U U' : Imm} {ρ ρ' : Env} {pre post rest : Heap} {w w' : World} {val : V} {x : Value}
    (H : HRel U ρ (pre ++ rest) w) (hf : ∀ n, post.dom n → pre.dom n ∨ ρ n = none) (L : Leaves U ρ pre w val post x U' ρ' w') :
    ρ.le (Env.both post ρ' ρ) ∧ VRel U' (Env.both post ρ' ρ) val x ∧ HRel U' (Env.both post ρ' ρ) (post ++ rest) w' ∧ Ext U ρ (pre ++ rest) w U' (Env.both post ρ' ρ) (post ++ rest) w' := by
  have hp : ∀ n, post.dom n → Env.both post ρ' ρ n = ρ' n := fun n h => by simp [Env.both, h]
  have hq : ∀ n, ¬ post.dom n → Env.both post ρ' ρ n = ρ n := fun n h => by simp [Env.both, h]
  have hle : ρ.le (Env.both post ρ' ρ) := fun n l e => by
    by_cases h : post.dom n
    · rw [hp n h]; exact L.keep n l h e
    · rw [hq n h]; exact e
  have hle' : ρ'.le (Env.both post ρ' ρ) := fun n l e => by
    by_cases h : post.dom n
    · rw [hp n h]; exact e
    · rw [hq n h]; exact (L.only n l e).resolve_left h
  have hrest : ∀ n, Heap.dom rest n → ¬ Heap.dom pre n := fun n ⟨b, hb⟩ ⟨b', hb'⟩ => by
    have := H.nd
    rw [List.map_append, List.nodup_append] at this
    exact this.2.2 n (List.mem_map.2 ⟨_, hb', rfl⟩) n (List.mem_map.2 ⟨_, hb, rfl⟩) rfl
  have hdis : ∀ n, Heap.dom rest n → ¬ post.dom n := fun n hr hpn => by
    rcases hf n hpn with h | h
    · exact hrest n hr h
    · obtain ⟨l, hl⟩ := H.right.ex hr; rw [h] at hl; cases hl
  -- the blocks of the rest lie apart from those of 'pre'
  have hapart : ∀ n l n0 l0, Heap.dom rest n → ρ n = some l → l.real = true → Heap.dom pre n0 → ρ n0 = some l0 → l0.real = true → l0.blk ≠ l.blk := by
    rintro n l n0 l0 ⟨b, hb⟩ hl hr ⟨b0, hb0⟩ hl0 hr0 e
    have := H.inj n0 b0 n b l0 l (List.mem_append_left _ hb0) (List.mem_append_right _ hb) hl0 hl hr0 hr e
    subst this
    exact hrest n0 ⟨b, hb⟩ ⟨b0, hb0⟩
  refine ⟨hle, VRel.mono (Imm.le_refl _) hle' L.val, ⟨fun n b hm => ?_, fun n b n' b' l l' m m' e1 e2 r1 r2 e3 => ?_, ?_, L.heap.imm⟩, ⟨L.ext.size, L.ext.imm, fun b hb hn => ?_, fun n l hd e hr => ?_, fun b c e => ?_, L.ext.out⟩⟩
  · rcases List.mem_append.1 hm with hm | hm
    · obtain ⟨l, h1, h2⟩ := L.heap.blk n b hm
      refine ⟨l, hle' _ _ h1, h2.imp ?_ id⟩
      rintro ⟨hr, o, h2, h3, h4⟩
      exact ⟨hr, o, h2, BRel.mono (Imm.le_refl _) hle' h3, h4⟩
    · obtain ⟨l, h1, h2⟩ := H.right.blk n b hm
      refine ⟨l, hle _ _ h1, h2.imp ?_ id⟩
      rintro ⟨hr, o, h2, h3, h4⟩
      refine ⟨hr, o, ?_, BRel.mono L.ext.imm hle h3, ?_⟩
      · rw [L.ext.frame l.blk (lt_size h2) fun n0 l0 hd0 hl0 hr0 => hapart n l n0 l0 ⟨b, hm⟩ h1 hr hd0 hl0 hr0]; exact h2
      · cases hU : U' l.blk with
        | none => rfl
        | some c =>
          rcases L.ext.newImm _ _ hU with h | h | ⟨n0, l0, h5, h6, h6r, h7⟩
          · rw [h4] at h; cases h
          · have := lt_size h2; omega
          · exact (hapart n l n0 l0 ⟨b, hm⟩ h1 hr h5 h6 h6r h7).elim
  · -- one block, one name
    have key : ∀ n b n' b' l l', (n, b) ∈ post → (n', b') ∈ rest → Env.both post ρ' ρ n = .some l → Env.both post ρ' ρ n' = .some l' → l.real = true → l'.real = true → l.blk = l'.blk → False := by
      intro n b n' b' l l' m m' e1 e2 r1 r2 e3
      rw [hp n ⟨b, m⟩] at e1
      rw [hq n' (hdis n' ⟨b', m'⟩)] at e2
      obtain ⟨o, h2, _⟩ := H.right.real m' e2 r2
      rcases L.ext.new n l ⟨b, m⟩ e1 r1 with h | ⟨n0, l0, h5, h6, h6r, h7⟩
      · have := lt_size h2; omega
      · exact hapart n' l' n0 l0 ⟨b', m'⟩ e2 r2 h5 h6 h6r (h7.trans e3)
    rcases List.mem_append.1 m with m | m <;> rcases List.mem_append.1 m' with m' | m'
    · rw [hp n ⟨b, m⟩] at e1; rw [hp n' ⟨b', m'⟩] at e2
      exact L.heap.inj n b n' b' l l' m m' e1 e2 r1 r2 e3
    · exact (key n b n' b' l l' m m' e1 e2 r1 r2 e3).elim
    · exact (key n' b' n b l' l m' m e2 e1 r2 r1 e3.symm).elim
    · rw [hq n (hdis n ⟨b, m⟩)] at e1; rw [hq n' (hdis n' ⟨b', m'⟩)] at e2
      exact H.right.inj n b n' b' l l' m m' e1 e2 r1 r2 e3
  · rw [List.map_append, List.nodup_append]
    refine ⟨L.heap.nd, H.right.nd, fun n hn n' hn' e => ?_⟩
    subst e
    obtain ⟨⟨_, b⟩, hb, rfl⟩ := List.mem_map.1 hn
    obtain ⟨⟨m, b'⟩, hb', e⟩ := List.mem_map.1 hn'
    cases e
    exact hdis _ ⟨b', hb'⟩ ⟨b, hb⟩
  · exact L.ext.frame b hb fun n l hd e hr => hn n l (dom_append.2 (.inl hd)) e hr
  · rcases dom_append.1 hd with hd | hd
    · rw [hp n hd] at e
      rcases L.ext.new n l hd e hr with h | ⟨n0, l0, h5, h6⟩
      · exact .inl h
      · exact .inr ⟨n0, l0, dom_append.2 (.inl h5), h6⟩
    · rw [hq n (hdis n hd)] at e
      exact .inr ⟨n, l, dom_append.2 (.inr hd), e, hr, rfl⟩
  · rcases L.ext.newImm b c e with h | h | ⟨n0, l0, h5, h6⟩
    · exact .inl h
    · exact .inr (.inl h)
    · exact .inr (.inr ⟨n0, l0, dom_append.2 (.inl h5), h6⟩)

end Sy
