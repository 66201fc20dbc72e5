/-
  Contracts and laws that the claim's theorem leans on, joined out of the texts ZTc0 ZTc1D ZTc1 ZVa7D ZVa7 ZVa8D (own work of this seat): Contracts: what is the same, as the document's answer has it; Contracts: what is the same of messages, as the document's answer has it; Contracts: what is the same of messages, as the document's answer has it; Contracts: the document's only and Good; Contracts: the document's only and Good; Contract: the document's Good.
-/
import Derived.Test.YthifjamdfpjilaaGreatC07
import Derived.Test.YthifjamdfpjilaaGreatC08
set_option linter.unusedVariables false
set_option linter.unusedSimpArgs false
set_option maxHeartbeats 1000000
namespace Go.Proofs.YthifjamdfpjilaaGreat
open Go Sy Go.Proofs
theorem bdRs_p1 (n : Nat) (n' : Nat) (a : Nat → SSign) (b : Nat → SSign) (m : Nat) :
  along Tryz.prog (bdRs n n' a b m) [true] = (some (.bool false, [], [(!decide ((↑n : Int) = (↑n' : Int))) = true]) : Option (V × Heap × List Prop)) := by kernel_rfl
theorem bdRs_p01 (n : Nat) (n' : Nat) (a : Nat → SSign) (b : Nat → SSign) (m : Nat) :
  along Tryz.prog (bdRs n n' a b m) [false, true] = (some (.bool true, [], [(!decide ((↑n : Int) = (↑n' : Int))) = false, RLoop Tryz.prog none 0 (cB (cB (cR (cL (cR (cR (bodyOf (Bd.f (bdRs n n' a b m))))))))) (n + 1) (St.mk [.ros 17 n (fun i => SSign.c (a i)) false, .ros 17 n' (fun i => SSign.c (b i)) false, .any, .any, .any, .int .i64 0, .any, .any, .any, .any, .any, .any, .any, .any, .any, .any, .any, .any, .any, .any, .any, .any, .any, .any, .any, .any] [] 0 []) (.exit 0) (St.mk [.ros 17 n (fun i => SSign.c (a i)) false, .ros 17 n' (fun i => SSign.c (b i)) false, .any, .any, .any, .int .i64 ↑n, .any, .any, .any, .any, .any, .any, .any, .any, .any, .any, .any, .any, .any, .any, .any, .any, .any, .any, .any, .any] [] 0 []), q n, ∀ (k : Nat), k < n → SSign.c (a k) = SSign.c (a k), false = true → false = true, q (n'), ∀ (k : Nat), k < n' → SSign.c (b k) = SSign.c (b k), false = true → false = true, q1]) : Option (V × Heap × List Prop)) := by kernel_rfl
theorem bdRs_p00 (n : Nat) (n' : Nat) (a : Nat → SSign) (b : Nat → SSign) (m : Nat) :
  along Tryz.prog (bdRs n n' a b m) [false, false] = (some (.bool false, [], [(!decide ((↑n : Int) = (↑n' : Int))) = false, RLoop Tryz.prog none 0 (cB (cB (cR (cL (cR (cR (bodyOf (Bd.f (bdRs n n' a b m))))))))) (m + 1) (St.mk [.ros 17 n (fun i => SSign.c (a i)) false, .ros 17 n' (fun i => SSign.c (b i)) false, .any, .any, .any, .int .i64 0, .any, .any, .any, .any, .any, .any, .any, .any, .any, .any, .any, .any, .any, .any, .any, .any, .any, .any, .any, .any] [] 0 []) .ret (St.mk [.any, .any, .any, .any, .bool false, .any, .any, .any, .any, .any, .any, .any, .any, .any, .any, .any, .any, .any, .any, .any, .any, .any, .any, .any, .any, .any] [] 0 []), q n, ∀ (k : Nat), k < n → SSign.c (a k) = SSign.c (a k), false = true → false = true, q (n'), ∀ (k : Nat), k < n' → SSign.c (b k) = SSign.c (b k), false = true → false = true, q1]) : Option (V × Heap × List Prop)) := by kernel_rfl

theorem pcRs_p11 (n : Nat) (n' : Nat) (a : Nat → SSign) (b : Nat → SSign) (k : Nat) :
  alongPc Tryz.prog (pcRs n n' a b k) [true, true] = (some (.ret, St.mk [.any, .any, .any, .any, .bool false, .any, .any, .any, .any, .any, .any, .any, .any, .any, .any, .any, .any, .any, .any, .any, .any, .any, .any, .any, .any, .any] [] 0 [], [decide ((↑k : Int) < (↑n : Int)) = true, (0 : Int) ≤ (↑k : Int) ∧ (↑k : Int) < (↑n : Int), (0 : Int) ≤ (↑k : Int) ∧ (↑k : Int) < (↑n' : Int), (!(decide (SSign.node (a (Int.toNat (↑k : Int))) = SSign.node (b (Int.toNat (↑k : Int)))) && (decide (SSign.tag (a (Int.toNat (↑k : Int))) = SSign.tag (b (Int.toNat (↑k : Int)))) && true))) = true, q false]) : Option (Exit × St × List Prop)) := by kernel_rfl
theorem pcRs_p10 (n : Nat) (n' : Nat) (a : Nat → SSign) (b : Nat → SSign) (k : Nat) :
  alongPc Tryz.prog (pcRs n n' a b k) [true, false] = (some (.normal, St.mk [.ros 17 n (fun i => SSign.c (a i)) false, .ros 17 n' (fun i => SSign.c (b i)) false, .any, .any, .any, .int .i64 (↑(k + 1) : Int), .any, .any, .any, .any, .any, .any, .any, .any, .any, .any, .any, .any, .any, .any, .any, .any, .any, .any, .any, .any] [] 0 [], [decide ((↑k : Int) < (↑n : Int)) = true, (0 : Int) ≤ (↑k : Int) ∧ (↑k : Int) < (↑n : Int), (0 : Int) ≤ (↑k : Int) ∧ (↑k : Int) < (↑n' : Int), (!(decide (SSign.node (a (Int.toNat (↑k : Int))) = SSign.node (b (Int.toNat (↑k : Int)))) && (decide (SSign.tag (a (Int.toNat (↑k : Int))) = SSign.tag (b (Int.toNat (↑k : Int)))) && true))) = false, InR IntKind.i64 ((↑k : Int) + (1 : Int)), q n, ∀ (k : Nat), k < n → SSign.c (a k) = SSign.c (a k), false = true → false = true, q (n'), ∀ (k : Nat), k < n' → SSign.c (b k) = SSign.c (b k), false = true → false = true, (↑k : Int) + (1 : Int) = (↑(k + (1 : Nat)) : Int)]) : Option (Exit × St × List Prop)) := by kernel_rfl
theorem pcRs_p0 (n : Nat) (n' : Nat) (a : Nat → SSign) (b : Nat → SSign) (k : Nat) :
  alongPc Tryz.prog (pcRs n n' a b k) [false] = (some (.exit 0, St.mk [.ros 17 n (fun i => SSign.c (a i)) false, .ros 17 n' (fun i => SSign.c (b i)) false, .any, .any, .any, .int .i64 ↑n, .any, .any, .any, .any, .any, .any, .any, .any, .any, .any, .any, .any, .any, .any, .any, .any, .any, .any, .any, .any] [] 0 [], [decide ((↑k : Int) < (↑n : Int)) = false, q n, ∀ (k : Nat), k < n → SSign.c (a k) = SSign.c (a k), false = true → false = true, q (n'), ∀ (k : Nat), k < n' → SSign.c (b k) = SSign.c (b k), false = true → false = true, (↑k : Int) = (↑n : Int)]) : Option (Exit × St × List Prop)) := by kernel_rfl

theorem bdRb_p11 (a : SBatch) (b : SBatch) (m : Nat) :
  along Tryz.prog (bdRb a b m) [true, true] = (some (.bool false, [], [(!SBatch.noop a == SBatch.noop b) = true, q2]) : Option (V × Heap × List Prop)) := by kernel_rfl
theorem bdRb_p01 (a : SBatch) (b : SBatch) (m : Nat) :
  along Tryz.prog (bdRb a b m) [false, true] = (some (.bool false, [], [(!SBatch.noop a == SBatch.noop b) = false, (!decide ((↑(SBatch.n a) : Int) = (↑(SBatch.n b) : Int))) = true]) : Option (V × Heap × List Prop)) := by kernel_rfl
theorem bdRb_p001 (a : SBatch) (b : SBatch) (m : Nat) :
  along Tryz.prog (bdRb a b m) [false, false, true] = (some (.bool true, [], [(!SBatch.noop a == SBatch.noop b) = false, (!decide ((↑(SBatch.n a) : Int) = (↑(SBatch.n b) : Int))) = false, RLoop Tryz.prog none 0 (cB (cB (cR (cL (cR (cR (bodyOf (Bd.f (bdRb a b m))))))))) (SBatch.n a + 1) (St.mk [.any, .any, .ptr (.o 0) 0 0 0 0, .ptr (.o 1) 0 0 0 0, .any, .int .i64 0, .any, .any, .any, .any, .any, .any, .any, .any, .any, .any, .any, .any, .any, .any, .any, .any, .any, .any, .any, .any, .any, .any, .any, .any, .any, .any, .any, .any, .any, .any, .any, .any] [(.o 0, .flat (SBatch.c a)), (.o 1, .flat (SBatch.c b))] 256 []) (.exit 0) (St.mk [.any, .any, .ptr (.o 0) 0 0 0 0, .ptr (.o 1) 0 0 0 0, .any, .int .i64 (↑(SBatch.n a) : Int), .any, .any, .any, .any, .any, .any, .any, .any, .any, .any, .any, .any, .any, .any, .any, .any, .any, .any, .any, .any, .any, .any, .any, .any, .any, .any, .any, .any, .any, .any, .any, .any] [(.o 0, .flat (SBatch.c a)), (.o 1, .flat (SBatch.c b))] 256 []), q (SBatch.noop a), q (SBatch.n a), ∀ (k : Nat), k < SBatch.n a → SReq.c (SBatch.req a k) = SReq.c (SBatch.req a k), false = true → false = true, q (SBatch.noop b), q (SBatch.n b), ∀ (k : Nat), k < SBatch.n b → SReq.c (SBatch.req b k) = SReq.c (SBatch.req b k), false = true → false = true, q0, q0, q0, q0, q0, q0, q1]) : Option (V × Heap × List Prop)) := by kernel_rfl
theorem bdRb_p000 (a : SBatch) (b : SBatch) (m : Nat) :
  along Tryz.prog (bdRb a b m) [false, false, false] = (some (.bool false, [], [(!SBatch.noop a == SBatch.noop b) = false, (!decide ((↑(SBatch.n a) : Int) = (↑(SBatch.n b) : Int))) = false, RLoop Tryz.prog none 0 (cB (cB (cR (cL (cR (cR (bodyOf (Bd.f (bdRb a b m))))))))) (m + 1) (St.mk [.any, .any, .ptr (.o 0) 0 0 0 0, .ptr (.o 1) 0 0 0 0, .any, .int .i64 0, .any, .any, .any, .any, .any, .any, .any, .any, .any, .any, .any, .any, .any, .any, .any, .any, .any, .any, .any, .any, .any, .any, .any, .any, .any, .any, .any, .any, .any, .any, .any, .any] [(.o 0, .flat (SBatch.c a)), (.o 1, .flat (SBatch.c b))] 256 []) .ret (St.mk [.any, .any, .any, .any, .bool false, .any, .any, .any, .any, .any, .any, .any, .any, .any, .any, .any, .any, .any, .any, .any, .any, .any, .any, .any, .any, .any, .any, .any, .any, .any, .any, .any, .any, .any, .any, .any, .any, .any] [] 0 []), q (SBatch.noop a), q (SBatch.n a), ∀ (k : Nat), k < SBatch.n a → SReq.c (SBatch.req a k) = SReq.c (SBatch.req a k), false = true → false = true, q (SBatch.noop b), q (SBatch.n b), ∀ (k : Nat), k < SBatch.n b → SReq.c (SBatch.req b k) = SReq.c (SBatch.req b k), false = true → false = true, q0, q0, q0, q0, q0, q0, q1]) : Option (V × Heap × List Prop)) := by kernel_rfl

theorem pcRb_p11 (a : SBatch) (b : SBatch) (k : Nat) :
  alongPc Tryz.prog (pcRb a b k) [true, true] = (some (.ret, St.mk [.any, .any, .any, .any, .bool false, .any, .any, .any, .any, .any, .any, .any, .any, .any, .any, .any, .any, .any, .any, .any, .any, .any, .any, .any, .any, .any, .any, .any, .any, .any, .any, .any, .any, .any, .any, .any, .any, .any] [] 0 [], [decide ((↑k : Int) < (↑(SBatch.n a) : Int)) = true, (0 : Int) ≤ (↑k : Int) ∧ (↑k : Int) < (↑(SBatch.n a) : Int), (0 : Int) ≤ (↑k : Int) ∧ (↑k : Int) < (↑(SBatch.n b) : Int), (!(decide (SReq.client (SBatch.req a (Int.toNat (↑k : Int))) = SReq.client (SBatch.req b (Int.toNat (↑k : Int)))) && (decide (SReq.num (SBatch.req a (Int.toNat (↑k : Int))) = SReq.num (SBatch.req b (Int.toNat (↑k : Int)))) && (decide (SReq.data (SBatch.req a (Int.toNat (↑k : Int))) = SReq.data (SBatch.req b (Int.toNat (↑k : Int)))) && (decide (SReq.tag (SBatch.req a (Int.toNat (↑k : Int))) = SReq.tag (SBatch.req b (Int.toNat (↑k : Int)))) && true))))) = true, q false]) : Option (Exit × St × List Prop)) := by kernel_rfl
theorem pcRb_p10 (a : SBatch) (b : SBatch) (k : Nat) :
  alongPc Tryz.prog (pcRb a b k) [true, false] = (some (.normal, St.mk [.any, .any, .ptr (.o 0) 0 0 0 0, .ptr (.o 1) 0 0 0 0, .any, .int .i64 (↑(k + 1) : Int), .any, .any, .any, .any, .any, .any, .any, .any, .any, .any, .any, .any, .any, .any, .any, .any, .any, .any, .any, .any, .any, .any, .any, .any, .any, .any, .any, .any, .any, .any, .any, .any] [(.o 0, .flat (SBatch.c a)), (.o 1, .flat (SBatch.c b))] 256 [], [decide ((↑k : Int) < (↑(SBatch.n a) : Int)) = true, (0 : Int) ≤ (↑k : Int) ∧ (↑k : Int) < (↑(SBatch.n a) : Int), (0 : Int) ≤ (↑k : Int) ∧ (↑k : Int) < (↑(SBatch.n b) : Int), (!(decide (SReq.client (SBatch.req a (Int.toNat (↑k : Int))) = SReq.client (SBatch.req b (Int.toNat (↑k : Int)))) && (decide (SReq.num (SBatch.req a (Int.toNat (↑k : Int))) = SReq.num (SBatch.req b (Int.toNat (↑k : Int)))) && (decide (SReq.data (SBatch.req a (Int.toNat (↑k : Int))) = SReq.data (SBatch.req b (Int.toNat (↑k : Int)))) && (decide (SReq.tag (SBatch.req a (Int.toNat (↑k : Int))) = SReq.tag (SBatch.req b (Int.toNat (↑k : Int)))) && true))))) = false, InR IntKind.i64 ((↑k : Int) + (1 : Int)), q (SBatch.noop a), q (SBatch.n a), ∀ (k : Nat), k < SBatch.n a → SReq.c (SBatch.req a k) = SReq.c (SBatch.req a k), false = true → false = true, q (SBatch.noop b), q (SBatch.n b), ∀ (k : Nat), k < SBatch.n b → SReq.c (SBatch.req b k) = SReq.c (SBatch.req b k), false = true → false = true, q0, q0, q0, q0, q0, q0, (↑k : Int) + (1 : Int) = (↑(k + (1 : Nat)) : Int)]) : Option (Exit × St × List Prop)) := by kernel_rfl
theorem pcRb_p0 (a : SBatch) (b : SBatch) (k : Nat) :
  alongPc Tryz.prog (pcRb a b k) [false] = (some (.exit 0, St.mk [.any, .any, .ptr (.o 0) 0 0 0 0, .ptr (.o 1) 0 0 0 0, .any, .int .i64 (↑(SBatch.n a) : Int), .any, .any, .any, .any, .any, .any, .any, .any, .any, .any, .any, .any, .any, .any, .any, .any, .any, .any, .any, .any, .any, .any, .any, .any, .any, .any, .any, .any, .any, .any, .any, .any] [(.o 0, .flat (SBatch.c a)), (.o 1, .flat (SBatch.c b))] 256 [], [decide ((↑k : Int) < (↑(SBatch.n a) : Int)) = false, q (SBatch.noop a), q (SBatch.n a), ∀ (k : Nat), k < SBatch.n a → SReq.c (SBatch.req a k) = SReq.c (SBatch.req a k), false = true → false = true, q (SBatch.noop b), q (SBatch.n b), ∀ (k : Nat), k < SBatch.n b → SReq.c (SBatch.req b k) = SReq.c (SBatch.req b k), false = true → false = true, q0, q0, q0, q0, q0, q0, (↑k : Int) = (↑(SBatch.n a) : Int)]) : Option (Exit × St × List Prop)) := by kernel_rfl

theorem bdRc_p1 (a : SCert) (b : SCert) :
  along Tryz.prog (bdRc a b) [true] = (some (.bool (sameL (SCert.n a) (SCert.n b) fun i => signEq (SCert.sig a i) (SCert.sig b i)), [], [(decide (SVote.kind (SCert.vote a) = SVote.kind (SCert.vote b)) && (decide (SVote.epoch (SCert.vote a) = SVote.epoch (SCert.vote b)) && (decide (SVote.view (SCert.vote a) = SVote.view (SCert.vote b)) && (decide (SVote.slot (SCert.vote a) = SVote.slot (SCert.vote b)) && (decide (SVote.digest (SCert.vote a) = SVote.digest (SCert.vote b)) && true))))) = true, T Tryz.prog 71 [.ros 17 (SCert.n a) (fun i => SSign.c (SCert.sig a i)) false, .ros 17 (SCert.n b) (fun i => SSign.c (SCert.sig b i)) false] [] (.bool (sameL (SCert.n a) (SCert.n b) fun i => signEq (SCert.sig a i) (SCert.sig b i))) []]) : Option (V × Heap × List Prop)) := by kernel_rfl
theorem bdRc_p0 (a : SCert) (b : SCert) :
  along Tryz.prog (bdRc a b) [false] = (some (.bool false, [], [(decide (SVote.kind (SCert.vote a) = SVote.kind (SCert.vote b)) && (decide (SVote.epoch (SCert.vote a) = SVote.epoch (SCert.vote b)) && (decide (SVote.view (SCert.vote a) = SVote.view (SCert.vote b)) && (decide (SVote.slot (SCert.vote a) = SVote.slot (SCert.vote b)) && (decide (SVote.digest (SCert.vote a) = SVote.digest (SCert.vote b)) && true))))) = false]) : Option (V × Heap × List Prop)) := by kernel_rfl

theorem T_rs {n n' : Nat} (a b : Nat → SSign) (hn : n ≤ 1000000) : T Tryz.prog 71 [sg n a, sg n' b] [] (.bool (sameL n n' (fun i => signEq (a i) (b i)))) [] := by
 by_cases hnn : n = n'
 ·subst hnn
  rcases loop_all (P := Tryz.prog) (ro := none) (p := 0) (c := cB (cB (cR (cL (cR (cR (bodyOf Tryz.f71))))))) (I := s5I (sg n a) (sg n b) 26) (F := fun _ => smF 4 26) (e := fun _ => .ret) (q := fun k => signEq (a k) (b k) = true) (n := n)
   (fun k hk hq => by
    refine R_alongPc NG MO _ (pcRs_p10 n n a b k) ?_ (Nat.zero_le _)
    simp only [All, Int.toNat_natCast]; and_intros
    all_goals first
     | exact neg_t hq
     | (simp [hk, IntKind.min, IntKind.max, IntKind.signed, IntKind.bits] <;> omega))
   (fun k hk hq => by
    refine R_alongPc NG MO _ (pcRs_p11 n n a b k) ?_ (Nat.zero_le _)
    simp only [All, Int.toNat_natCast]; and_intros
    all_goals first
     | exact neg_f hq
     | (simp [hk, IntKind.min, IntKind.max, IntKind.signed, IntKind.bits] <;> omega))
   (by simp) (R_alongPc NG MO _ (pcRs_p0 n n a b n) (by simp [All]) (Nat.zero_le _)) (by simp) with ⟨h, hL⟩ | ⟨m, hm, _, hq, hL⟩
  ·refine T.bool (T_al (bdRs_p01 n n a b n) Tryz.func71 ⟨by simp, hL, ?_⟩) (by simp [sameL]; exact h)
   simp [All]
  ·refine T.bool (T_al (bdRs_p00 n n a b m) Tryz.func71 ⟨by simp, hL, ?_⟩) (by
    have : ¬ ∀ i, i < n → signEq (a i) (b i) = true := fun h => hq (h m hm)
    simp only [sameL, this, decide_false, Bool.and_false])
   simp [All]
 ·exact T.bool (T_al (bdRs_p1 n n' a b 0) Tryz.func71 ⟨by simp <;> omega, trivial⟩) (by simp [sameL, hnn])
theorem T_rb (a b : SBatch) (hn : a.n ≤ 1000000) : T Tryz.prog 68 [.agg a.c, .agg b.c] [] (.bool (sameBatchS a b)) [] := by
 rcases Bool.eq_false_or_eq_true (!a.noop == b.noop) with h0 | h0
 ·refine T.bool (T_al (bdRb_p11 a b 0) Tryz.func68 ?_) (by rw [Bool.not_eq_true'] at h0; simp only [sameBatchS, h0, Bool.false_and])
  simp only [All]; and_intros
  all_goals first
   | exact h0
   | rfl
   | trivial
 have h1 : (a.noop == b.noop) = true := by simpa using h0
 by_cases hnn : a.n = b.n
 ·rcases loop_all (P := Tryz.prog) (ro := none) (p := 0) (c := cB (cB (cR (cL (cR (cR (bodyOf Tryz.f68))))))) (I := r7I a b) (F := fun _ => smF 4 38) (e := fun _ => .ret) (q := fun k => reqEq (a.req k) (b.req k) = true) (n := a.n)
   (fun k hk hq => by
    refine R_alongPc NG MO _ (pcRb_p10 a b k) ?_ (Nat.zero_le _)
    simp only [All, Int.toNat_natCast]; and_intros
    all_goals first
     | exact neg_t hq
     | (simp [hk, IntKind.min, IntKind.max, IntKind.signed, IntKind.bits] <;> omega))
   (fun k hk hq => by
    refine R_alongPc NG MO _ (pcRb_p11 a b k) ?_ (Nat.zero_le _)
    simp only [All, Int.toNat_natCast]; and_intros
    all_goals first
     | exact neg_f hq
     | (simp [hk, IntKind.min, IntKind.max, IntKind.signed, IntKind.bits] <;> omega))
   (by simp) (R_alongPc NG MO _ (pcRb_p0 a b a.n) (by simp [All]) (Nat.zero_le _)) (by simp) with ⟨h, hL⟩ | ⟨m, hm, _, hq, hL⟩
  ·refine T.bool (T_al (bdRb_p001 a b 0) Tryz.func68 ?_) (by simp only [sameBatchS, sameL, h1, hnn, Bool.true_and, decide_true]; rw [← hnn]; exact (decide_eq_true h).symm)
   simp only [All]; and_intros
   all_goals first
    | exact h0
    | exact hL
    | (simp [hnn]; done)
  ·refine T.bool (T_al (bdRb_p000 a b m) Tryz.func68 ?_) (by
    have : ¬ ∀ i, i < a.n → reqEq (a.req i) (b.req i) = true := fun h => hq (h m hm)
    simp only [sameBatchS, sameL, this, decide_false, Bool.and_false])
   simp only [All]; and_intros
   all_goals first
    | exact h0
    | exact hL
    | (simp [hnn]; done)
 ·refine T.bool (T_al (bdRb_p01 a b 0) Tryz.func68 ?_) (by simp only [sameBatchS, sameL, hnn, decide_false, Bool.false_and, Bool.and_false])
  simp only [All]; and_intros
  all_goals first
   | exact h0
   | rfl
   | (simp <;> omega)
theorem T_rc (a b : SCert) (hn : a.n ≤ 1000000) : T Tryz.prog 70 [.agg a.c, .agg b.c] [] (.bool (sameCertS a b)) [] := by
 rcases Bool.eq_false_or_eq_true ((decide (SVote.kind (SCert.vote a) = SVote.kind (SCert.vote b)) && (decide (SVote.epoch (SCert.vote a) = SVote.epoch (SCert.vote b)) && (decide (SVote.view (SCert.vote a) = SVote.view (SCert.vote b)) && (decide (SVote.slot (SCert.vote a) = SVote.slot (SCert.vote b)) && (decide (SVote.digest (SCert.vote a) = SVote.digest (SCert.vote b)) && true)))))) with h1 | h1
 ·
  refine T.conv (T_al (bdRc_p1 a b) Tryz.func70 ?_) rfl rfl ?_ ?_
  ·simp only [All]; and_intros
   all_goals first
    | assumption
    | exact T_rs a.sig b.sig hn
    | trivial
    | rfl
    | (intro _ _; trivial)
    | (intro _ _; rfl)
    | (simp; done)
    | omega
  ·first | replace h1 := not_t h1 | replace h1 := not_f h1 | skip
   first | rfl | (congr 1; simp only [sameCertS, voteEq, h1, Bool.true_and, Bool.false_and, Bool.and_false]; done)
  ·rfl
 ·
  refine T.conv (T_al (bdRc_p0 a b) Tryz.func70 ?_) rfl rfl ?_ ?_
  ·simp only [All]; and_intros
   all_goals first
    | assumption
    | exact T_rs a.sig b.sig hn
    | trivial
    | rfl
    | (intro _ _; trivial)
    | (intro _ _; rfl)
    | (simp; done)
    | omega
  ·first | replace h1 := not_t h1 | replace h1 := not_f h1 | skip
   first | rfl | (congr 1; simp only [sameCertS, voteEq, h1, Bool.true_and, Bool.false_and, Bool.and_false]; done)
  ·rfl
end Go.Proofs.YthifjamdfpjilaaGreat
namespace Go.Proofs.YthifjamdfpjilaaGreat
open Go Sy Go.Proofs
noncomputable def bdRn (n n' : Nat) (a b : Nat → SEnv) (m : Nat) : Bd := bdS5 Tryz.f69 26 (fun _ _ _ _ => []) (nw n a) (nw n' b) n m
noncomputable def pcRn (n n' : Nat) (a b : Nat → SEnv) (k : Nat) : Pc := pcS5 Tryz.f69 26 (fun _ _ _ _ => []) (nw n a) (nw n' b) n k
noncomputable def bdRh (n n' : Nat) (a b : Nat → SHeld) (m : Nat) : Bd := bdS5 Tryz.f67 43 (fun _ _ _ _ => []) (hl n a) (hl n' b) n m
noncomputable def pcRh (n n' : Nat) (a b : Nat → SHeld) (k : Nat) : Pc := pcS5 Tryz.f67 43 (dbV [(68, .bool (sameBatchS (a k).batch (b k).batch)), (70, .bool (sameCertS (a k).cert (b k).cert))]) (hl n a) (hl n' b) n k
noncomputable def bdRm (a b : SMsg) : Bd := { f := Tryz.f13, args := [.agg a.c, .agg b.c], kb := { db := dbV [(67, .bool (sameL a.nheld b.nheld (fun i => sameHeldS (a.held i) (b.held i)))), (68, .bool (sameBatchS a.batch b.batch)), (69, .bool (sameL a.nnews b.nnews (fun i => envEq (a.news i) (b.news i)))), (70, .bool (sameCertS a.cert b.cert)), (71, .bool (sameL a.n b.n (fun i => signEq (a.sig i) (b.sig i))))] } }
end Go.Proofs.YthifjamdfpjilaaGreat
namespace Go.Proofs.YthifjamdfpjilaaGreat
open Go Sy Go.Proofs
theorem bdRn_p1 (n : Nat) (n' : Nat) (a : Nat → SEnv) (b : Nat → SEnv) (m : Nat) :
  along Tryz.prog (bdRn n n' a b m) [true] = (some (.bool false, [], [(!decide ((↑n : Int) = (↑n' : Int))) = true]) : Option (V × Heap × List Prop)) := by kernel_rfl
theorem bdRn_p01 (n : Nat) (n' : Nat) (a : Nat → SEnv) (b : Nat → SEnv) (m : Nat) :
  along Tryz.prog (bdRn n n' a b m) [false, true] = (some (.bool true, [], [(!decide ((↑n : Int) = (↑n' : Int))) = false, RLoop Tryz.prog none 0 (cB (cB (cR (cL (cR (cR (bodyOf (Bd.f (bdRn n n' a b m))))))))) (n + 1) (St.mk [.ros 18 n (fun i => SEnv.c (a i)) false, .ros 18 n' (fun i => SEnv.c (b i)) false, .any, .any, .any, .int .i64 0, .any, .any, .any, .any, .any, .any, .any, .any, .any, .any, .any, .any, .any, .any, .any, .any, .any, .any, .any, .any] [] 0 []) (.exit 0) (St.mk [.ros 18 n (fun i => SEnv.c (a i)) false, .ros 18 n' (fun i => SEnv.c (b i)) false, .any, .any, .any, .int .i64 ↑n, .any, .any, .any, .any, .any, .any, .any, .any, .any, .any, .any, .any, .any, .any, .any, .any, .any, .any, .any, .any] [] 0 []), q n, ∀ (k : Nat), k < n → SEnv.c (a k) = SEnv.c (a k), false = true → false = true, q (n'), ∀ (k : Nat), k < n' → SEnv.c (b k) = SEnv.c (b k), false = true → false = true, q1]) : Option (V × Heap × List Prop)) := by kernel_rfl
theorem bdRn_p00 (n : Nat) (n' : Nat) (a : Nat → SEnv) (b : Nat → SEnv) (m : Nat) :
  along Tryz.prog (bdRn n n' a b m) [false, false] = (some (.bool false, [], [(!decide ((↑n : Int) = (↑n' : Int))) = false, RLoop Tryz.prog none 0 (cB (cB (cR (cL (cR (cR (bodyOf (Bd.f (bdRn n n' a b m))))))))) (m + 1) (St.mk [.ros 18 n (fun i => SEnv.c (a i)) false, .ros 18 n' (fun i => SEnv.c (b i)) false, .any, .any, .any, .int .i64 0, .any, .any, .any, .any, .any, .any, .any, .any, .any, .any, .any, .any, .any, .any, .any, .any, .any, .any, .any, .any] [] 0 []) .ret (St.mk [.any, .any, .any, .any, .bool false, .any, .any, .any, .any, .any, .any, .any, .any, .any, .any, .any, .any, .any, .any, .any, .any, .any, .any, .any, .any, .any] [] 0 []), q n, ∀ (k : Nat), k < n → SEnv.c (a k) = SEnv.c (a k), false = true → false = true, q (n'), ∀ (k : Nat), k < n' → SEnv.c (b k) = SEnv.c (b k), false = true → false = true, q1]) : Option (V × Heap × List Prop)) := by kernel_rfl

theorem pcRn_p11 (n : Nat) (n' : Nat) (a : Nat → SEnv) (b : Nat → SEnv) (k : Nat) :
  alongPc Tryz.prog (pcRn n n' a b k) [true, true] = (some (.ret, St.mk [.any, .any, .any, .any, .bool false, .any, .any, .any, .any, .any, .any, .any, .any, .any, .any, .any, .any, .any, .any, .any, .any, .any, .any, .any, .any, .any] [] 0 [], [decide ((↑k : Int) < (↑n : Int)) = true, (0 : Int) ≤ (↑k : Int) ∧ (↑k : Int) < (↑n : Int), (0 : Int) ≤ (↑k : Int) ∧ (↑k : Int) < (↑n' : Int), (!(decide (SEnv.src (a (Int.toNat (↑k : Int))) = SEnv.src (b (Int.toNat (↑k : Int)))) && (decide (SEnv.body (a (Int.toNat (↑k : Int))) = SEnv.body (b (Int.toNat (↑k : Int)))) && (decide (SEnv.tag (a (Int.toNat (↑k : Int))) = SEnv.tag (b (Int.toNat (↑k : Int)))) && true)))) = true, q false]) : Option (Exit × St × List Prop)) := by kernel_rfl
theorem pcRn_p10 (n : Nat) (n' : Nat) (a : Nat → SEnv) (b : Nat → SEnv) (k : Nat) :
  alongPc Tryz.prog (pcRn n n' a b k) [true, false] = (some (.normal, St.mk [.ros 18 n (fun i => SEnv.c (a i)) false, .ros 18 n' (fun i => SEnv.c (b i)) false, .any, .any, .any, .int .i64 (↑(k + 1) : Int), .any, .any, .any, .any, .any, .any, .any, .any, .any, .any, .any, .any, .any, .any, .any, .any, .any, .any, .any, .any] [] 0 [], [decide ((↑k : Int) < (↑n : Int)) = true, (0 : Int) ≤ (↑k : Int) ∧ (↑k : Int) < (↑n : Int), (0 : Int) ≤ (↑k : Int) ∧ (↑k : Int) < (↑n' : Int), (!(decide (SEnv.src (a (Int.toNat (↑k : Int))) = SEnv.src (b (Int.toNat (↑k : Int)))) && (decide (SEnv.body (a (Int.toNat (↑k : Int))) = SEnv.body (b (Int.toNat (↑k : Int)))) && (decide (SEnv.tag (a (Int.toNat (↑k : Int))) = SEnv.tag (b (Int.toNat (↑k : Int)))) && true)))) = false, InR IntKind.i64 ((↑k : Int) + (1 : Int)), q n, ∀ (k : Nat), k < n → SEnv.c (a k) = SEnv.c (a k), false = true → false = true, q (n'), ∀ (k : Nat), k < n' → SEnv.c (b k) = SEnv.c (b k), false = true → false = true, (↑k : Int) + (1 : Int) = (↑(k + (1 : Nat)) : Int)]) : Option (Exit × St × List Prop)) := by kernel_rfl
theorem pcRn_p0 (n : Nat) (n' : Nat) (a : Nat → SEnv) (b : Nat → SEnv) (k : Nat) :
  alongPc Tryz.prog (pcRn n n' a b k) [false] = (some (.exit 0, St.mk [.ros 18 n (fun i => SEnv.c (a i)) false, .ros 18 n' (fun i => SEnv.c (b i)) false, .any, .any, .any, .int .i64 ↑n, .any, .any, .any, .any, .any, .any, .any, .any, .any, .any, .any, .any, .any, .any, .any, .any, .any, .any, .any, .any] [] 0 [], [decide ((↑k : Int) < (↑n : Int)) = false, q n, ∀ (k : Nat), k < n → SEnv.c (a k) = SEnv.c (a k), false = true → false = true, q (n'), ∀ (k : Nat), k < n' → SEnv.c (b k) = SEnv.c (b k), false = true → false = true, (↑k : Int) = (↑n : Int)]) : Option (Exit × St × List Prop)) := by kernel_rfl

theorem bdRh_p1 (n : Nat) (n' : Nat) (a : Nat → SHeld) (b : Nat → SHeld) (m : Nat) :
  along Tryz.prog (bdRh n n' a b m) [true] = (some (.bool false, [], [(!decide ((↑n : Int) = (↑n' : Int))) = true]) : Option (V × Heap × List Prop)) := by kernel_rfl
theorem bdRh_p01 (n : Nat) (n' : Nat) (a : Nat → SHeld) (b : Nat → SHeld) (m : Nat) :
  along Tryz.prog (bdRh n n' a b m) [false, true] = (some (.bool true, [], [(!decide ((↑n : Int) = (↑n' : Int))) = false, RLoop Tryz.prog none 0 (cB (cB (cR (cL (cR (cR (bodyOf (Bd.f (bdRh n n' a b m))))))))) (n + 1) (St.mk [.ros 39 n (fun i => SHeld.c (a i)) false, .ros 39 n' (fun i => SHeld.c (b i)) false, .any, .any, .any, .int .i64 0, .any, .any, .any, .any, .any, .any, .any, .any, .any, .any, .any, .any, .any, .any, .any, .any, .any, .any, .any, .any, .any, .any, .any, .any, .any, .any, .any, .any, .any, .any, .any, .any, .any, .any, .any, .any, .any] [] 0 []) (.exit 0) (St.mk [.ros 39 n (fun i => SHeld.c (a i)) false, .ros 39 n' (fun i => SHeld.c (b i)) false, .any, .any, .any, .int .i64 ↑n, .any, .any, .any, .any, .any, .any, .any, .any, .any, .any, .any, .any, .any, .any, .any, .any, .any, .any, .any, .any, .any, .any, .any, .any, .any, .any, .any, .any, .any, .any, .any, .any, .any, .any, .any, .any, .any] [] 0 []), q n, ∀ (k : Nat), k < n → SHeld.c (a k) = SHeld.c (a k), false = true → false = true, q (n'), ∀ (k : Nat), k < n' → SHeld.c (b k) = SHeld.c (b k), false = true → false = true, q1]) : Option (V × Heap × List Prop)) := by kernel_rfl
theorem bdRh_p00 (n : Nat) (n' : Nat) (a : Nat → SHeld) (b : Nat → SHeld) (m : Nat) :
  along Tryz.prog (bdRh n n' a b m) [false, false] = (some (.bool false, [], [(!decide ((↑n : Int) = (↑n' : Int))) = false, RLoop Tryz.prog none 0 (cB (cB (cR (cL (cR (cR (bodyOf (Bd.f (bdRh n n' a b m))))))))) (m + 1) (St.mk [.ros 39 n (fun i => SHeld.c (a i)) false, .ros 39 n' (fun i => SHeld.c (b i)) false, .any, .any, .any, .int .i64 0, .any, .any, .any, .any, .any, .any, .any, .any, .any, .any, .any, .any, .any, .any, .any, .any, .any, .any, .any, .any, .any, .any, .any, .any, .any, .any, .any, .any, .any, .any, .any, .any, .any, .any, .any, .any, .any] [] 0 []) .ret (St.mk [.any, .any, .any, .any, .bool false, .any, .any, .any, .any, .any, .any, .any, .any, .any, .any, .any, .any, .any, .any, .any, .any, .any, .any, .any, .any, .any, .any, .any, .any, .any, .any, .any, .any, .any, .any, .any, .any, .any, .any, .any, .any, .any, .any] [] 0 []), q n, ∀ (k : Nat), k < n → SHeld.c (a k) = SHeld.c (a k), false = true → false = true, q (n'), ∀ (k : Nat), k < n' → SHeld.c (b k) = SHeld.c (b k), false = true → false = true, q1]) : Option (V × Heap × List Prop)) := by kernel_rfl

noncomputable def pcRh_c (n : Nat) (n' : Nat) (a : Nat → SHeld) (b : Nat → SHeld) (k : Nat) : Nat → List Prop
 | 0 => [decide ((↑k : Int) < (↑n : Int)) = true, (0 : Int) ≤ (↑k : Int) ∧ (↑k : Int) < (↑n : Int), (0 : Int) ≤ (↑k : Int) ∧ (↑k : Int) < (↑n' : Int), T Tryz.prog 68 [.agg [.bool (SBatch.noop (SHeld.batch (a (Int.toNat (↑k : Int))))), rq (SBatch.n (SHeld.batch (a (Int.toNat (↑k : Int))))) (SBatch.req (SHeld.batch (a (Int.toNat (↑k : Int)))))], .agg [.bool (SBatch.noop (SHeld.batch (b (Int.toNat (↑k : Int))))), rq (SBatch.n (SHeld.batch (b (Int.toNat (↑k : Int))))) (SBatch.req (SHeld.batch (b (Int.toNat (↑k : Int)))))]] [] (.bool (sameBatchS (SHeld.batch (a k)) (SHeld.batch (b k)))) []]
 | 1 => [(!sameBatchS (SHeld.batch (a k)) (SHeld.batch (b k))) = false, (0 : Int) ≤ (↑k : Int) ∧ (↑k : Int) < (↑n : Int), (0 : Int) ≤ (↑k : Int) ∧ (↑k : Int) < (↑n' : Int), T Tryz.prog 70 [.agg [.int .i64 (SVote.kind (SCert.vote (SHeld.cert (a (Int.toNat (↑k : Int)))))), .int .i64 (SVote.epoch (SCert.vote (SHeld.cert (a (Int.toNat (↑k : Int)))))), .int .i64 (SVote.view (SCert.vote (SHeld.cert (a (Int.toNat (↑k : Int)))))), .int .i64 (SVote.slot (SCert.vote (SHeld.cert (a (Int.toNat (↑k : Int)))))), .seg .u8 32 (SVote.digest (SCert.vote (SHeld.cert (a (Int.toNat (↑k : Int)))))), sg (SCert.n (SHeld.cert (a (Int.toNat (↑k : Int))))) (SCert.sig (SHeld.cert (a (Int.toNat (↑k : Int)))))], .agg [.int .i64 (SVote.kind (SCert.vote (SHeld.cert (b (Int.toNat (↑k : Int)))))), .int .i64 (SVote.epoch (SCert.vote (SHeld.cert (b (Int.toNat (↑k : Int)))))), .int .i64 (SVote.view (SCert.vote (SHeld.cert (b (Int.toNat (↑k : Int)))))), .int .i64 (SVote.slot (SCert.vote (SHeld.cert (b (Int.toNat (↑k : Int)))))), .seg .u8 32 (SVote.digest (SCert.vote (SHeld.cert (b (Int.toNat (↑k : Int)))))), sg (SCert.n (SHeld.cert (b (Int.toNat (↑k : Int))))) (SCert.sig (SHeld.cert (b (Int.toNat (↑k : Int)))))]] [] (.bool (sameCertS (SHeld.cert (a k)) (SHeld.cert (b k)))) []]
 | _ => []
theorem pcRh_p111 (n : Nat) (n' : Nat) (a : Nat → SHeld) (b : Nat → SHeld) (k : Nat) :
 alongPc Tryz.prog (pcRh n n' a b k) [true, true, true] = (some (.ret, St.mk [.any, .any, .any, .any, .bool false, .any, .any, .any, .any, .any, .any, .any, .any, .any, .any, .any, .any, .any, .any, .any, .any, .any, .any, .any, .any, .any, .any, .any, .any, .any, .any, .any, .any, .any, .any, .any, .any, .any, .any, .any, .any, .any, .any] [] 0 [], pcRh_c n n' a b k 0 ++ [(!sameBatchS (SHeld.batch (a k)) (SHeld.batch (b k))) = true, q2, q false]) : Option (Exit × St × List Prop)) := by kernel_rfl
theorem pcRh_p101 (n : Nat) (n' : Nat) (a : Nat → SHeld) (b : Nat → SHeld) (k : Nat) :
 alongPc Tryz.prog (pcRh n n' a b k) [true, false, true] = (some (.ret, St.mk [.any, .any, .any, .any, .bool false, .any, .any, .any, .any, .any, .any, .any, .any, .any, .any, .any, .any, .any, .any, .any, .any, .any, .any, .any, .any, .any, .any, .any, .any, .any, .any, .any, .any, .any, .any, .any, .any, .any, .any, .any, .any, .any, .any] [] 0 [], pcRh_c n n' a b k 0 ++ (pcRh_c n n' a b k 1 ++ [(!sameCertS (SHeld.cert (a k)) (SHeld.cert (b k))) = true, q false])) : Option (Exit × St × List Prop)) := by kernel_rfl
theorem pcRh_p100 (n : Nat) (n' : Nat) (a : Nat → SHeld) (b : Nat → SHeld) (k : Nat) :
 alongPc Tryz.prog (pcRh n n' a b k) [true, false, false] = (some (.normal, St.mk [.ros 39 n (fun i => SHeld.c (a i)) false, .ros 39 n' (fun i => SHeld.c (b i)) false, .any, .any, .any, .int .i64 (↑(k + 1) : Int), .any, .any, .any, .any, .any, .any, .any, .any, .any, .any, .any, .any, .any, .any, .any, .any, .any, .any, .any, .any, .any, .any, .any, .any, .any, .any, .any, .any, .any, .any, .any, .any, .any, .any, .any, .any, .any] [] 0 [], pcRh_c n n' a b k 0 ++ (pcRh_c n n' a b k 1 ++ [(!sameCertS (SHeld.cert (a k)) (SHeld.cert (b k))) = false, InR IntKind.i64 ((↑k : Int) + (1 : Int)), q n, ∀ (k : Nat), k < n → SHeld.c (a k) = SHeld.c (a k), false = true → false = true, q (n'), ∀ (k : Nat), k < n' → SHeld.c (b k) = SHeld.c (b k), false = true → false = true, (↑k : Int) + (1 : Int) = (↑(k + (1 : Nat)) : Int)])) : Option (Exit × St × List Prop)) := by kernel_rfl
theorem pcRh_p0 (n : Nat) (n' : Nat) (a : Nat → SHeld) (b : Nat → SHeld) (k : Nat) :
 alongPc Tryz.prog (pcRh n n' a b k) [false] = (some (.exit 0, St.mk [.ros 39 n (fun i => SHeld.c (a i)) false, .ros 39 n' (fun i => SHeld.c (b i)) false, .any, .any, .any, .int .i64 ↑n, .any, .any, .any, .any, .any, .any, .any, .any, .any, .any, .any, .any, .any, .any, .any, .any, .any, .any, .any, .any, .any, .any, .any, .any, .any, .any, .any, .any, .any, .any, .any, .any, .any, .any, .any, .any, .any] [] 0 [], [decide ((↑k : Int) < (↑n : Int)) = false, q n, ∀ (k : Nat), k < n → SHeld.c (a k) = SHeld.c (a k), false = true → false = true, q (n'), ∀ (k : Nat), k < n' → SHeld.c (b k) = SHeld.c (b k), false = true → false = true, (↑k : Int) = (↑n : Int)]) : Option (Exit × St × List Prop)) := by kernel_rfl

noncomputable def bdRm_c (a : SMsg) (b : SMsg) : Nat → List Prop
 | 0 => [(!(decide (SVote.kind (SMsg.vote a) = SVote.kind (SMsg.vote b)) && (decide (SVote.epoch (SMsg.vote a) = SVote.epoch (SMsg.vote b)) && (decide (SVote.view (SMsg.vote a) = SVote.view (SMsg.vote b)) && (decide (SVote.slot (SMsg.vote a) = SVote.slot (SMsg.vote b)) && (decide (SVote.digest (SMsg.vote a) = SVote.digest (SMsg.vote b)) && true)))))) = false]
 | 1 => [(!decide (SMsg.cview a = SMsg.cview b)) = false, T Tryz.prog 67 [.ros 39 (SMsg.nheld a) (fun i => SHeld.c (SMsg.held a i)) false, .ros 39 (SMsg.nheld b) (fun i => SHeld.c (SMsg.held b i)) false] [] (.bool (sameL (SMsg.nheld a) (SMsg.nheld b) fun i => sameHeldS (SMsg.held a i) (SMsg.held b i))) []]
 | 2 => [(!sameL (SMsg.nheld a) (SMsg.nheld b) fun i => sameHeldS (SMsg.held a i) (SMsg.held b i)) = false, T Tryz.prog 68 [.agg [.bool (SBatch.noop (SMsg.batch a)), rq (SBatch.n (SMsg.batch a)) (SBatch.req (SMsg.batch a))], .agg [.bool (SBatch.noop (SMsg.batch b)), rq (SBatch.n (SMsg.batch b)) (SBatch.req (SMsg.batch b))]] [] (.bool (sameBatchS (SMsg.batch a) (SMsg.batch b))) []]
 | 3 => [sameBatchS (SMsg.batch a) (SMsg.batch b) = true, T Tryz.prog 69 [.ros 18 (SMsg.nnews a) (fun i => SEnv.c (SMsg.news a i)) false, .ros 18 (SMsg.nnews b) (fun i => SEnv.c (SMsg.news b i)) false] [] (.bool (sameL (SMsg.nnews a) (SMsg.nnews b) fun i => envEq (SMsg.news a i) (SMsg.news b i))) []]
 | 4 => [(sameL (SMsg.nnews a) (SMsg.nnews b) fun i => envEq (SMsg.news a i) (SMsg.news b i)) = true, T Tryz.prog 70 [.agg [.int .i64 (SVote.kind (SCert.vote (SMsg.cert a))), .int .i64 (SVote.epoch (SCert.vote (SMsg.cert a))), .int .i64 (SVote.view (SCert.vote (SMsg.cert a))), .int .i64 (SVote.slot (SCert.vote (SMsg.cert a))), .seg .u8 32 (SVote.digest (SCert.vote (SMsg.cert a))), sg (SCert.n (SMsg.cert a)) (SCert.sig (SMsg.cert a))], .agg [.int .i64 (SVote.kind (SCert.vote (SMsg.cert b))), .int .i64 (SVote.epoch (SCert.vote (SMsg.cert b))), .int .i64 (SVote.view (SCert.vote (SMsg.cert b))), .int .i64 (SVote.slot (SCert.vote (SMsg.cert b))), .seg .u8 32 (SVote.digest (SCert.vote (SMsg.cert b))), sg (SCert.n (SMsg.cert b)) (SCert.sig (SMsg.cert b))]] [] (.bool (sameCertS (SMsg.cert a) (SMsg.cert b))) []]
 | _ => []
theorem bdRm_p11111111 (a : SMsg) (b : SMsg) :
 along Tryz.prog (bdRm a b) [true, true, true, true, true, true, true, true] = (some (.bool false, [], [(!decide (SMsg.kind a = SMsg.kind b)) = true, q2, q2, q2, q2, q2, q2, q2]) : Option (V × Heap × List Prop)) := by kernel_rfl
theorem bdRm_p01111111 (a : SMsg) (b : SMsg) :
 along Tryz.prog (bdRm a b) [false, true, true, true, true, true, true, true] = (some (.bool false, [], [(!decide (SMsg.kind a = SMsg.kind b)) = false, (!decide (SMsg.epoch a = SMsg.epoch b)) = true, q2, q2, q2, q2, q2, q2]) : Option (V × Heap × List Prop)) := by kernel_rfl
theorem bdRm_p00111111 (a : SMsg) (b : SMsg) :
 along Tryz.prog (bdRm a b) [false, false, true, true, true, true, true, true] = (some (.bool false, [], [(!decide (SMsg.kind a = SMsg.kind b)) = false, (!decide (SMsg.epoch a = SMsg.epoch b)) = false, (!decide (SMsg.leader a = SMsg.leader b)) = true, q2, q2, q2, q2, q2]) : Option (V × Heap × List Prop)) := by kernel_rfl
theorem bdRm_p00011111 (a : SMsg) (b : SMsg) :
 along Tryz.prog (bdRm a b) [false, false, false, true, true, true, true, true] = (some (.bool false, [], [(!decide (SMsg.kind a = SMsg.kind b)) = false, (!decide (SMsg.epoch a = SMsg.epoch b)) = false, (!decide (SMsg.leader a = SMsg.leader b)) = false, (!decide (SMsg.view a = SMsg.view b)) = true, q2, q2, q2, q2]) : Option (V × Heap × List Prop)) := by kernel_rfl
theorem bdRm_p00001111 (a : SMsg) (b : SMsg) :
 along Tryz.prog (bdRm a b) [false, false, false, false, true, true, true, true] = (some (.bool false, [], [(!decide (SMsg.kind a = SMsg.kind b)) = false, (!decide (SMsg.epoch a = SMsg.epoch b)) = false, (!decide (SMsg.leader a = SMsg.leader b)) = false, (!decide (SMsg.view a = SMsg.view b)) = false, (!decide (SMsg.slot a = SMsg.slot b)) = true, q2, q2, q2]) : Option (V × Heap × List Prop)) := by kernel_rfl
theorem bdRm_p00000111 (a : SMsg) (b : SMsg) :
 along Tryz.prog (bdRm a b) [false, false, false, false, false, true, true, true] = (some (.bool false, [], [(!decide (SMsg.kind a = SMsg.kind b)) = false, (!decide (SMsg.epoch a = SMsg.epoch b)) = false, (!decide (SMsg.leader a = SMsg.leader b)) = false, (!decide (SMsg.view a = SMsg.view b)) = false, (!decide (SMsg.slot a = SMsg.slot b)) = false, (!(decide (SVote.kind (SMsg.vote a) = SVote.kind (SMsg.vote b)) && (decide (SVote.epoch (SMsg.vote a) = SVote.epoch (SMsg.vote b)) && (decide (SVote.view (SMsg.vote a) = SVote.view (SMsg.vote b)) && (decide (SVote.slot (SMsg.vote a) = SVote.slot (SMsg.vote b)) && (decide (SVote.digest (SMsg.vote a) = SVote.digest (SMsg.vote b)) && true)))))) = true, q2, q2]) : Option (V × Heap × List Prop)) := by kernel_rfl
theorem bdRm_p00000011 (a : SMsg) (b : SMsg) :
 along Tryz.prog (bdRm a b) [false, false, false, false, false, false, true, true] = (some (.bool false, [], [(!decide (SMsg.kind a = SMsg.kind b)) = false, (!decide (SMsg.epoch a = SMsg.epoch b)) = false, (!decide (SMsg.leader a = SMsg.leader b)) = false, (!decide (SMsg.view a = SMsg.view b)) = false, (!decide (SMsg.slot a = SMsg.slot b)) = false] ++ (bdRm_c a b 0 ++ [(!decide (SMsg.digest a = SMsg.digest b)) = true, q2])) : Option (V × Heap × List Prop)) := by kernel_rfl
theorem bdRm_p00000001 (a : SMsg) (b : SMsg) :
 along Tryz.prog (bdRm a b) [false, false, false, false, false, false, false, true] = (some (.bool false, [], [(!decide (SMsg.kind a = SMsg.kind b)) = false, (!decide (SMsg.epoch a = SMsg.epoch b)) = false, (!decide (SMsg.leader a = SMsg.leader b)) = false, (!decide (SMsg.view a = SMsg.view b)) = false, (!decide (SMsg.slot a = SMsg.slot b)) = false] ++ (bdRm_c a b 0 ++ [(!decide (SMsg.digest a = SMsg.digest b)) = false, (!decide (SMsg.state a = SMsg.state b)) = true])) : Option (V × Heap × List Prop)) := by kernel_rfl
theorem bdRm_p000000001111 (a : SMsg) (b : SMsg) :
 along Tryz.prog (bdRm a b) [false, false, false, false, false, false, false, false, true, true, true, true] = (some (.bool false, [], [(!decide (SMsg.kind a = SMsg.kind b)) = false, (!decide (SMsg.epoch a = SMsg.epoch b)) = false, (!decide (SMsg.leader a = SMsg.leader b)) = false, (!decide (SMsg.view a = SMsg.view b)) = false, (!decide (SMsg.slot a = SMsg.slot b)) = false] ++ (bdRm_c a b 0 ++ [(!decide (SMsg.digest a = SMsg.digest b)) = false, (!decide (SMsg.state a = SMsg.state b)) = false, (!decide (SMsg.cepoch a = SMsg.cepoch b)) = true, q2, q2, q2])) : Option (V × Heap × List Prop)) := by kernel_rfl
theorem bdRm_p000000000111 (a : SMsg) (b : SMsg) :
 along Tryz.prog (bdRm a b) [false, false, false, false, false, false, false, false, false, true, true, true] = (some (.bool false, [], [(!decide (SMsg.kind a = SMsg.kind b)) = false, (!decide (SMsg.epoch a = SMsg.epoch b)) = false, (!decide (SMsg.leader a = SMsg.leader b)) = false, (!decide (SMsg.view a = SMsg.view b)) = false, (!decide (SMsg.slot a = SMsg.slot b)) = false] ++ (bdRm_c a b 0 ++ [(!decide (SMsg.digest a = SMsg.digest b)) = false, (!decide (SMsg.state a = SMsg.state b)) = false, (!decide (SMsg.cepoch a = SMsg.cepoch b)) = false, (!decide (SMsg.cleader a = SMsg.cleader b)) = true, q2, q2])) : Option (V × Heap × List Prop)) := by kernel_rfl
theorem bdRm_p000000000011 (a : SMsg) (b : SMsg) :
 along Tryz.prog (bdRm a b) [false, false, false, false, false, false, false, false, false, false, true, true] = (some (.bool false, [], [(!decide (SMsg.kind a = SMsg.kind b)) = false, (!decide (SMsg.epoch a = SMsg.epoch b)) = false, (!decide (SMsg.leader a = SMsg.leader b)) = false, (!decide (SMsg.view a = SMsg.view b)) = false, (!decide (SMsg.slot a = SMsg.slot b)) = false] ++ (bdRm_c a b 0 ++ [(!decide (SMsg.digest a = SMsg.digest b)) = false, (!decide (SMsg.state a = SMsg.state b)) = false, (!decide (SMsg.cepoch a = SMsg.cepoch b)) = false, (!decide (SMsg.cleader a = SMsg.cleader b)) = false, (!decide (SMsg.cview a = SMsg.cview b)) = true, q2])) : Option (V × Heap × List Prop)) := by kernel_rfl
theorem bdRm_p000000000001 (a : SMsg) (b : SMsg) :
 along Tryz.prog (bdRm a b) [false, false, false, false, false, false, false, false, false, false, false, true] = (some (.bool false, [], [(!decide (SMsg.kind a = SMsg.kind b)) = false, (!decide (SMsg.epoch a = SMsg.epoch b)) = false, (!decide (SMsg.leader a = SMsg.leader b)) = false, (!decide (SMsg.view a = SMsg.view b)) = false, (!decide (SMsg.slot a = SMsg.slot b)) = false] ++ (bdRm_c a b 0 ++ ([(!decide (SMsg.digest a = SMsg.digest b)) = false, (!decide (SMsg.state a = SMsg.state b)) = false, (!decide (SMsg.cepoch a = SMsg.cepoch b)) = false, (!decide (SMsg.cleader a = SMsg.cleader b)) = false] ++ (bdRm_c a b 1 ++ [(!sameL (SMsg.nheld a) (SMsg.nheld b) fun i => sameHeldS (SMsg.held a i) (SMsg.held b i)) = true])))) : Option (V × Heap × List Prop)) := by kernel_rfl
theorem bdRm_p000000000000111 (a : SMsg) (b : SMsg) :
 along Tryz.prog (bdRm a b) [false, false, false, false, false, false, false, false, false, false, false, false, true, true, true] = (some (.bool (sameL (SMsg.n a) (SMsg.n b) fun i => signEq (SMsg.sig a i) (SMsg.sig b i)), [], [(!decide (SMsg.kind a = SMsg.kind b)) = false, (!decide (SMsg.epoch a = SMsg.epoch b)) = false, (!decide (SMsg.leader a = SMsg.leader b)) = false, (!decide (SMsg.view a = SMsg.view b)) = false, (!decide (SMsg.slot a = SMsg.slot b)) = false] ++ (bdRm_c a b 0 ++ ([(!decide (SMsg.digest a = SMsg.digest b)) = false, (!decide (SMsg.state a = SMsg.state b)) = false, (!decide (SMsg.cepoch a = SMsg.cepoch b)) = false, (!decide (SMsg.cleader a = SMsg.cleader b)) = false] ++ (bdRm_c a b 1 ++ (bdRm_c a b 2 ++ (bdRm_c a b 3 ++ (bdRm_c a b 4 ++ [sameCertS (SMsg.cert a) (SMsg.cert b) = true, T Tryz.prog 71 [.ros 17 (SMsg.n a) (fun i => SSign.c (SMsg.sig a i)) false, .ros 17 (SMsg.n b) (fun i => SSign.c (SMsg.sig b i)) false] [] (.bool (sameL (SMsg.n a) (SMsg.n b) fun i => signEq (SMsg.sig a i) (SMsg.sig b i))) []]))))))) : Option (V × Heap × List Prop)) := by kernel_rfl
theorem bdRm_p000000000000110 (a : SMsg) (b : SMsg) :
 along Tryz.prog (bdRm a b) [false, false, false, false, false, false, false, false, false, false, false, false, true, true, false] = (some (.bool false, [], [(!decide (SMsg.kind a = SMsg.kind b)) = false, (!decide (SMsg.epoch a = SMsg.epoch b)) = false, (!decide (SMsg.leader a = SMsg.leader b)) = false, (!decide (SMsg.view a = SMsg.view b)) = false, (!decide (SMsg.slot a = SMsg.slot b)) = false] ++ (bdRm_c a b 0 ++ ([(!decide (SMsg.digest a = SMsg.digest b)) = false, (!decide (SMsg.state a = SMsg.state b)) = false, (!decide (SMsg.cepoch a = SMsg.cepoch b)) = false, (!decide (SMsg.cleader a = SMsg.cleader b)) = false] ++ (bdRm_c a b 1 ++ (bdRm_c a b 2 ++ (bdRm_c a b 3 ++ (bdRm_c a b 4 ++ [sameCertS (SMsg.cert a) (SMsg.cert b) = false]))))))) : Option (V × Heap × List Prop)) := by kernel_rfl
theorem bdRm_p000000000000100 (a : SMsg) (b : SMsg) :
 along Tryz.prog (bdRm a b) [false, false, false, false, false, false, false, false, false, false, false, false, true, false, false] = (some (.bool false, [], [(!decide (SMsg.kind a = SMsg.kind b)) = false, (!decide (SMsg.epoch a = SMsg.epoch b)) = false, (!decide (SMsg.leader a = SMsg.leader b)) = false, (!decide (SMsg.view a = SMsg.view b)) = false, (!decide (SMsg.slot a = SMsg.slot b)) = false] ++ (bdRm_c a b 0 ++ ([(!decide (SMsg.digest a = SMsg.digest b)) = false, (!decide (SMsg.state a = SMsg.state b)) = false, (!decide (SMsg.cepoch a = SMsg.cepoch b)) = false, (!decide (SMsg.cleader a = SMsg.cleader b)) = false] ++ (bdRm_c a b 1 ++ (bdRm_c a b 2 ++ (bdRm_c a b 3 ++ [(sameL (SMsg.nnews a) (SMsg.nnews b) fun i => envEq (SMsg.news a i) (SMsg.news b i)) = false, q false])))))) : Option (V × Heap × List Prop)) := by kernel_rfl
theorem bdRm_p000000000000000 (a : SMsg) (b : SMsg) :
 along Tryz.prog (bdRm a b) [false, false, false, false, false, false, false, false, false, false, false, false, false, false, false] = (some (.bool false, [], [(!decide (SMsg.kind a = SMsg.kind b)) = false, (!decide (SMsg.epoch a = SMsg.epoch b)) = false, (!decide (SMsg.leader a = SMsg.leader b)) = false, (!decide (SMsg.view a = SMsg.view b)) = false, (!decide (SMsg.slot a = SMsg.slot b)) = false] ++ (bdRm_c a b 0 ++ ([(!decide (SMsg.digest a = SMsg.digest b)) = false, (!decide (SMsg.state a = SMsg.state b)) = false, (!decide (SMsg.cepoch a = SMsg.cepoch b)) = false, (!decide (SMsg.cleader a = SMsg.cleader b)) = false] ++ (bdRm_c a b 1 ++ (bdRm_c a b 2 ++ [sameBatchS (SMsg.batch a) (SMsg.batch b) = false, q false, q false]))))) : Option (V × Heap × List Prop)) := by kernel_rfl

theorem T_rn {n n' : Nat} (a b : Nat → SEnv) (hn : n ≤ 1000000) : T Tryz.prog 69 [nw n a, nw n' b] [] (.bool (sameL n n' (fun i => envEq (a i) (b i)))) [] := by
 by_cases hnn : n = n'
 ·subst hnn
  rcases loop_all (P := Tryz.prog) (ro := none) (p := 0) (c := cB (cB (cR (cL (cR (cR (bodyOf Tryz.f69))))))) (I := s5I (nw n a) (nw n b) 26) (F := fun _ => smF 4 26) (e := fun _ => .ret) (q := fun k => envEq (a k) (b k) = true) (n := n)
   (fun k hk hq => by
    refine R_alongPc NG MO _ (pcRn_p10 n n a b k) ?_ (Nat.zero_le _)
    simp only [All, All_append, pcRh_c, bdRm_c, Int.toNat_natCast]; and_intros
    all_goals first
     | exact neg_t hq
     | (simp [hk, IntKind.min, IntKind.max, IntKind.signed, IntKind.bits] <;> omega))
   (fun k hk hq => by
    refine R_alongPc NG MO _ (pcRn_p11 n n a b k) ?_ (Nat.zero_le _)
    simp only [All, All_append, pcRh_c, bdRm_c, Int.toNat_natCast]; and_intros
    all_goals first
     | exact neg_f hq
     | (simp [hk, IntKind.min, IntKind.max, IntKind.signed, IntKind.bits] <;> omega))
   (by simp) (R_alongPc NG MO _ (pcRn_p0 n n a b n) (by simp [All, All_append, pcRh_c, bdRm_c]) (Nat.zero_le _)) (by simp) with ⟨h, hL⟩ | ⟨m, hm, _, hq, hL⟩
  ·refine T.bool (T_al (bdRn_p01 n n a b n) Tryz.func69 ⟨by simp, hL, ?_⟩) (by simp [sameL]; exact h)
   simp [All, All_append, pcRh_c, bdRm_c]
  ·refine T.bool (T_al (bdRn_p00 n n a b m) Tryz.func69 ⟨by simp, hL, ?_⟩) (by
    have : ¬ ∀ i, i < n → envEq (a i) (b i) = true := fun h => hq (h m hm)
    simp only [sameL, this, decide_false, Bool.and_false])
   simp [All, All_append, pcRh_c, bdRm_c]
 ·exact T.bool (T_al (bdRn_p1 n n' a b 0) Tryz.func69 ⟨by simp <;> omega, trivial⟩) (by simp [sameL, hnn])
theorem and_t1 {a b : Bool} (h : (a && b) = true) : a = true := by cases a <;> simp_all
theorem and_t2 {a b : Bool} (h : (a && b) = true) : b = true := by cases a <;> simp_all
theorem T_rh {n n' : Nat} (a b : Nat → SHeld) (hn : n ≤ 1000000) (hb : ∀ k, k < n → (a k).batch.n ≤ 1000000 ∧ (a k).cert.n ≤ 1000000) : T Tryz.prog 67 [hl n a, hl n' b] [] (.bool (sameL n n' (fun i => sameHeldS (a i) (b i)))) [] := by
 by_cases hnn : n = n'
 ·subst hnn
  rcases loop_all (P := Tryz.prog) (ro := none) (p := 0) (c := cB (cB (cR (cL (cR (cR (bodyOf Tryz.f67))))))) (I := s5I (hl n a) (hl n b) 43) (F := fun _ => smF 4 43) (e := fun _ => .ret) (q := fun k => sameHeldS (a k) (b k) = true) (n := n)
   (fun k hk hq => by
    refine R_alongPc NG MO _ (pcRh_p100 n n a b k) ?_ (Nat.zero_le _)
    simp only [All, All_append, pcRh_c, bdRm_c, Int.toNat_natCast]; and_intros
    all_goals first
     | exact T_rb (a k).batch (b k).batch (hb k hk).1
     | exact T_rc (a k).cert (b k).cert (hb k hk).2
     | exact neg_t (and_t1 hq)
     | exact neg_t (and_t2 hq)
     | (simp [hk, IntKind.min, IntKind.max, IntKind.signed, IntKind.bits] <;> omega))
   (fun k hk hq => by
    by_cases h1 : sameBatchS (a k).batch (b k).batch = true
    ·have h2 : sameCertS (a k).cert (b k).cert = false := by
      rw [← Bool.not_eq_true]; intro h2; exact hq (by simp [sameHeldS, h1, h2])
     refine R_alongPc NG MO _ (pcRh_p101 n n a b k) ?_ (Nat.zero_le _)
     simp only [All, All_append, pcRh_c, bdRm_c, Int.toNat_natCast]; and_intros
     all_goals first
      | exact neg_t h1
      | exact neg_f' h2
      | exact T_rb (a k).batch (b k).batch (hb k hk).1
      | exact T_rc (a k).cert (b k).cert (hb k hk).2
      | (simp [hk, IntKind.min, IntKind.max, IntKind.signed, IntKind.bits] <;> omega)
    ·refine R_alongPc NG MO _ (pcRh_p111 n n a b k) ?_ (Nat.zero_le _)
     simp only [All, All_append, pcRh_c, bdRm_c, Int.toNat_natCast]; and_intros
     all_goals first
      | exact neg_f h1
      | exact T_rb (a k).batch (b k).batch (hb k hk).1
      | (simp [hk, IntKind.min, IntKind.max, IntKind.signed, IntKind.bits] <;> omega))
   (by simp) (R_alongPc NG MO _ (pcRh_p0 n n a b n) (by simp [All, All_append, pcRh_c, bdRm_c]) (Nat.zero_le _)) (by simp) with ⟨h, hL⟩ | ⟨m, hm, _, hq, hL⟩
  ·refine T.bool (T_al (bdRh_p01 n n a b n) Tryz.func67 ⟨by simp, hL, ?_⟩) (by simp [sameL]; exact h)
   simp [All, All_append, pcRh_c, bdRm_c]
  ·refine T.bool (T_al (bdRh_p00 n n a b m) Tryz.func67 ⟨by simp, hL, ?_⟩) (by
    have : ¬ ∀ i, i < n → sameHeldS (a i) (b i) = true := fun h => hq (h m hm)
    simp only [sameL, this, decide_false, Bool.and_false])
   simp [All, All_append, pcRh_c, bdRm_c]
 ·exact T.bool (T_al (bdRh_p1 n n' a b 0) Tryz.func67 ⟨by simp <;> omega, trivial⟩) (by simp [sameL, hnn])
theorem T_rm (a b : SMsg) (h : FitM a) : T Tryz.prog 13 [.agg a.c, .agg b.c] [] (.bool (sameMsgS a b)) [] := by
 rcases Bool.eq_false_or_eq_true ((!decide (SMsg.kind a = SMsg.kind b))) with h1 | h1
 ·
  refine T.conv (T_al (bdRm_p11111111 a b) Tryz.func13 ?_) rfl rfl ?_ ?_
  ·simp only [All, All_append, pcRh_c, bdRm_c]; and_intros
   all_goals first
    | assumption
    | exact T_rh a.held b.held h.nheld h.held
    | exact T_rb a.batch b.batch h.batch
    | exact T_rn a.news b.news h.nnews
    | exact T_rc a.cert b.cert h.cert
    | exact T_rs a.sig b.sig h.n
    | trivial
    | rfl
    | (intro _ _; trivial)
    | (intro _ _; rfl)
    | (simp; done)
    | omega
  ·first | replace h1 := not_t h1 | replace h1 := not_f h1 | skip
   first | rfl | (congr 1; simp only [sameMsgS, sameChangeS, voteEq, h1, Bool.true_and, Bool.false_and, Bool.and_false]; done)
  ·rfl
 ·
  rcases Bool.eq_false_or_eq_true ((!decide (SMsg.epoch a = SMsg.epoch b))) with h2 | h2
  ·
   refine T.conv (T_al (bdRm_p01111111 a b) Tryz.func13 ?_) rfl rfl ?_ ?_
   ·simp only [All, All_append, pcRh_c, bdRm_c]; and_intros
    all_goals first
     | assumption
     | exact T_rh a.held b.held h.nheld h.held
     | exact T_rb a.batch b.batch h.batch
     | exact T_rn a.news b.news h.nnews
     | exact T_rc a.cert b.cert h.cert
     | exact T_rs a.sig b.sig h.n
     | trivial
     | rfl
     | (intro _ _; trivial)
     | (intro _ _; rfl)
     | (simp; done)
     | omega
   ·first | replace h1 := not_t h1 | replace h1 := not_f h1 | skip
    first | replace h2 := not_t h2 | replace h2 := not_f h2 | skip
    first | rfl | (congr 1; simp only [sameMsgS, sameChangeS, voteEq, h1, h2, Bool.true_and, Bool.false_and, Bool.and_false]; done)
   ·rfl
  ·
   rcases Bool.eq_false_or_eq_true ((!decide (SMsg.leader a = SMsg.leader b))) with h3 | h3
   ·
    refine T.conv (T_al (bdRm_p00111111 a b) Tryz.func13 ?_) rfl rfl ?_ ?_
    ·simp only [All, All_append, pcRh_c, bdRm_c]; and_intros
     all_goals first
      | assumption
      | exact T_rh a.held b.held h.nheld h.held
      | exact T_rb a.batch b.batch h.batch
      | exact T_rn a.news b.news h.nnews
      | exact T_rc a.cert b.cert h.cert
      | exact T_rs a.sig b.sig h.n
      | trivial
      | rfl
      | (intro _ _; trivial)
      | (intro _ _; rfl)
      | (simp; done)
      | omega
    ·first | replace h1 := not_t h1 | replace h1 := not_f h1 | skip
     first | replace h2 := not_t h2 | replace h2 := not_f h2 | skip
     first | replace h3 := not_t h3 | replace h3 := not_f h3 | skip
     first | rfl | (congr 1; simp only [sameMsgS, sameChangeS, voteEq, h1, h2, h3, Bool.true_and, Bool.false_and, Bool.and_false]; done)
    ·rfl
   ·
    rcases Bool.eq_false_or_eq_true ((!decide (SMsg.view a = SMsg.view b))) with h4 | h4
    ·
     refine T.conv (T_al (bdRm_p00011111 a b) Tryz.func13 ?_) rfl rfl ?_ ?_
     ·simp only [All, All_append, pcRh_c, bdRm_c]; and_intros
      all_goals first
       | assumption
       | exact T_rh a.held b.held h.nheld h.held
       | exact T_rb a.batch b.batch h.batch
       | exact T_rn a.news b.news h.nnews
       | exact T_rc a.cert b.cert h.cert
       | exact T_rs a.sig b.sig h.n
       | trivial
       | rfl
       | (intro _ _; trivial)
       | (intro _ _; rfl)
       | (simp; done)
       | omega
     ·first | replace h1 := not_t h1 | replace h1 := not_f h1 | skip
      first | replace h2 := not_t h2 | replace h2 := not_f h2 | skip
      first | replace h3 := not_t h3 | replace h3 := not_f h3 | skip
      first | replace h4 := not_t h4 | replace h4 := not_f h4 | skip
      first | rfl | (congr 1; simp only [sameMsgS, sameChangeS, voteEq, h1, h2, h3, h4, Bool.true_and, Bool.false_and, Bool.and_false]; done)
     ·rfl
    ·
     rcases Bool.eq_false_or_eq_true ((!decide (SMsg.slot a = SMsg.slot b))) with h5 | h5
     ·
      refine T.conv (T_al (bdRm_p00001111 a b) Tryz.func13 ?_) rfl rfl ?_ ?_
      ·simp only [All, All_append, pcRh_c, bdRm_c]; and_intros
       all_goals first
        | assumption
        | exact T_rh a.held b.held h.nheld h.held
        | exact T_rb a.batch b.batch h.batch
        | exact T_rn a.news b.news h.nnews
        | exact T_rc a.cert b.cert h.cert
        | exact T_rs a.sig b.sig h.n
        | trivial
        | rfl
        | (intro _ _; trivial)
        | (intro _ _; rfl)
        | (simp; done)
        | omega
      ·first | replace h1 := not_t h1 | replace h1 := not_f h1 | skip
       first | replace h2 := not_t h2 | replace h2 := not_f h2 | skip
       first | replace h3 := not_t h3 | replace h3 := not_f h3 | skip
       first | replace h4 := not_t h4 | replace h4 := not_f h4 | skip
       first | replace h5 := not_t h5 | replace h5 := not_f h5 | skip
       first | rfl | (congr 1; simp only [sameMsgS, sameChangeS, voteEq, h1, h2, h3, h4, h5, Bool.true_and, Bool.false_and, Bool.and_false]; done)
      ·rfl
     ·
      rcases Bool.eq_false_or_eq_true ((!(decide (SVote.kind (SMsg.vote a) = SVote.kind (SMsg.vote b)) && (decide (SVote.epoch (SMsg.vote a) = SVote.epoch (SMsg.vote b)) && (decide (SVote.view (SMsg.vote a) = SVote.view (SMsg.vote b)) && (decide (SVote.slot (SMsg.vote a) = SVote.slot (SMsg.vote b)) && (decide (SVote.digest (SMsg.vote a) = SVote.digest (SMsg.vote b)) && true))))))) with h6 | h6
      ·
       refine T.conv (T_al (bdRm_p00000111 a b) Tryz.func13 ?_) rfl rfl ?_ ?_
       ·simp only [All, All_append, pcRh_c, bdRm_c]; and_intros
        all_goals first
         | assumption
         | exact T_rh a.held b.held h.nheld h.held
         | exact T_rb a.batch b.batch h.batch
         | exact T_rn a.news b.news h.nnews
         | exact T_rc a.cert b.cert h.cert
         | exact T_rs a.sig b.sig h.n
         | trivial
         | rfl
         | (intro _ _; trivial)
         | (intro _ _; rfl)
         | (simp; done)
         | omega
       ·first | replace h1 := not_t h1 | replace h1 := not_f h1 | skip
        first | replace h2 := not_t h2 | replace h2 := not_f h2 | skip
        first | replace h3 := not_t h3 | replace h3 := not_f h3 | skip
        first | replace h4 := not_t h4 | replace h4 := not_f h4 | skip
        first | replace h5 := not_t h5 | replace h5 := not_f h5 | skip
        first | replace h6 := not_t h6 | replace h6 := not_f h6 | skip
        first | rfl | (congr 1; simp only [sameMsgS, sameChangeS, voteEq, h1, h2, h3, h4, h5, h6, Bool.true_and, Bool.false_and, Bool.and_false]; done)
       ·rfl
      ·
       rcases Bool.eq_false_or_eq_true ((!decide (SMsg.digest a = SMsg.digest b))) with h7 | h7
       ·
        refine T.conv (T_al (bdRm_p00000011 a b) Tryz.func13 ?_) rfl rfl ?_ ?_
        ·simp only [All, All_append, pcRh_c, bdRm_c]; and_intros
         all_goals first
          | assumption
          | exact T_rh a.held b.held h.nheld h.held
          | exact T_rb a.batch b.batch h.batch
          | exact T_rn a.news b.news h.nnews
          | exact T_rc a.cert b.cert h.cert
          | exact T_rs a.sig b.sig h.n
          | trivial
          | rfl
          | (intro _ _; trivial)
          | (intro _ _; rfl)
          | (simp; done)
          | omega
        ·first | replace h1 := not_t h1 | replace h1 := not_f h1 | skip
         first | replace h2 := not_t h2 | replace h2 := not_f h2 | skip
         first | replace h3 := not_t h3 | replace h3 := not_f h3 | skip
         first | replace h4 := not_t h4 | replace h4 := not_f h4 | skip
         first | replace h5 := not_t h5 | replace h5 := not_f h5 | skip
         first | replace h6 := not_t h6 | replace h6 := not_f h6 | skip
         first | replace h7 := not_t h7 | replace h7 := not_f h7 | skip
         first | rfl | (congr 1; simp only [sameMsgS, sameChangeS, voteEq, h1, h2, h3, h4, h5, h6, h7, Bool.true_and, Bool.false_and, Bool.and_false]; done)
        ·rfl
       ·
        rcases Bool.eq_false_or_eq_true ((!decide (SMsg.state a = SMsg.state b))) with h8 | h8
        ·
         refine T.conv (T_al (bdRm_p00000001 a b) Tryz.func13 ?_) rfl rfl ?_ ?_
         ·simp only [All, All_append, pcRh_c, bdRm_c]; and_intros
          all_goals first
           | assumption
           | exact T_rh a.held b.held h.nheld h.held
           | exact T_rb a.batch b.batch h.batch
           | exact T_rn a.news b.news h.nnews
           | exact T_rc a.cert b.cert h.cert
           | exact T_rs a.sig b.sig h.n
           | trivial
           | rfl
           | (intro _ _; trivial)
           | (intro _ _; rfl)
           | (simp; done)
           | omega
         ·first | replace h1 := not_t h1 | replace h1 := not_f h1 | skip
          first | replace h2 := not_t h2 | replace h2 := not_f h2 | skip
          first | replace h3 := not_t h3 | replace h3 := not_f h3 | skip
          first | replace h4 := not_t h4 | replace h4 := not_f h4 | skip
          first | replace h5 := not_t h5 | replace h5 := not_f h5 | skip
          first | replace h6 := not_t h6 | replace h6 := not_f h6 | skip
          first | replace h7 := not_t h7 | replace h7 := not_f h7 | skip
          first | replace h8 := not_t h8 | replace h8 := not_f h8 | skip
          first | rfl | (congr 1; simp only [sameMsgS, sameChangeS, voteEq, h1, h2, h3, h4, h5, h6, h7, h8, Bool.true_and, Bool.false_and, Bool.and_false]; done)
         ·rfl
        ·
         rcases Bool.eq_false_or_eq_true ((!decide (SMsg.cepoch a = SMsg.cepoch b))) with h9 | h9
         ·
          refine T.conv (T_al (bdRm_p000000001111 a b) Tryz.func13 ?_) rfl rfl ?_ ?_
          ·simp only [All, All_append, pcRh_c, bdRm_c]; and_intros
           all_goals first
            | assumption
            | exact T_rh a.held b.held h.nheld h.held
            | exact T_rb a.batch b.batch h.batch
            | exact T_rn a.news b.news h.nnews
            | exact T_rc a.cert b.cert h.cert
            | exact T_rs a.sig b.sig h.n
            | trivial
            | rfl
            | (intro _ _; trivial)
            | (intro _ _; rfl)
            | (simp; done)
            | omega
          ·first | replace h1 := not_t h1 | replace h1 := not_f h1 | skip
           first | replace h2 := not_t h2 | replace h2 := not_f h2 | skip
           first | replace h3 := not_t h3 | replace h3 := not_f h3 | skip
           first | replace h4 := not_t h4 | replace h4 := not_f h4 | skip
           first | replace h5 := not_t h5 | replace h5 := not_f h5 | skip
           first | replace h6 := not_t h6 | replace h6 := not_f h6 | skip
           first | replace h7 := not_t h7 | replace h7 := not_f h7 | skip
           first | replace h8 := not_t h8 | replace h8 := not_f h8 | skip
           first | replace h9 := not_t h9 | replace h9 := not_f h9 | skip
           first | rfl | (congr 1; simp only [sameMsgS, sameChangeS, voteEq, h1, h2, h3, h4, h5, h6, h7, h8, h9, Bool.true_and, Bool.false_and, Bool.and_false]; done)
          ·rfl
         ·
          rcases Bool.eq_false_or_eq_true ((!decide (SMsg.cleader a = SMsg.cleader b))) with h10 | h10
          ·
           refine T.conv (T_al (bdRm_p000000000111 a b) Tryz.func13 ?_) rfl rfl ?_ ?_
           ·simp only [All, All_append, pcRh_c, bdRm_c]; and_intros
            all_goals first
             | assumption
             | exact T_rh a.held b.held h.nheld h.held
             | exact T_rb a.batch b.batch h.batch
             | exact T_rn a.news b.news h.nnews
             | exact T_rc a.cert b.cert h.cert
             | exact T_rs a.sig b.sig h.n
             | trivial
             | rfl
             | (intro _ _; trivial)
             | (intro _ _; rfl)
             | (simp; done)
             | omega
           ·first | replace h1 := not_t h1 | replace h1 := not_f h1 | skip
            first | replace h2 := not_t h2 | replace h2 := not_f h2 | skip
            first | replace h3 := not_t h3 | replace h3 := not_f h3 | skip
            first | replace h4 := not_t h4 | replace h4 := not_f h4 | skip
            first | replace h5 := not_t h5 | replace h5 := not_f h5 | skip
            first | replace h6 := not_t h6 | replace h6 := not_f h6 | skip
            first | replace h7 := not_t h7 | replace h7 := not_f h7 | skip
            first | replace h8 := not_t h8 | replace h8 := not_f h8 | skip
            first | replace h9 := not_t h9 | replace h9 := not_f h9 | skip
            first | replace h10 := not_t h10 | replace h10 := not_f h10 | skip
            first | rfl | (congr 1; simp only [sameMsgS, sameChangeS, voteEq, h1, h2, h3, h4, h5, h6, h7, h8, h9, h10, Bool.true_and, Bool.false_and, Bool.and_false]; done)
           ·rfl
          ·
           rcases Bool.eq_false_or_eq_true ((!decide (SMsg.cview a = SMsg.cview b))) with h11 | h11
           ·
            refine T.conv (T_al (bdRm_p000000000011 a b) Tryz.func13 ?_) rfl rfl ?_ ?_
            ·simp only [All, All_append, pcRh_c, bdRm_c]; and_intros
             all_goals first
              | assumption
              | exact T_rh a.held b.held h.nheld h.held
              | exact T_rb a.batch b.batch h.batch
              | exact T_rn a.news b.news h.nnews
              | exact T_rc a.cert b.cert h.cert
              | exact T_rs a.sig b.sig h.n
              | trivial
              | rfl
              | (intro _ _; trivial)
              | (intro _ _; rfl)
              | (simp; done)
              | omega
            ·first | replace h1 := not_t h1 | replace h1 := not_f h1 | skip
             first | replace h2 := not_t h2 | replace h2 := not_f h2 | skip
             first | replace h3 := not_t h3 | replace h3 := not_f h3 | skip
             first | replace h4 := not_t h4 | replace h4 := not_f h4 | skip
             first | replace h5 := not_t h5 | replace h5 := not_f h5 | skip
             first | replace h6 := not_t h6 | replace h6 := not_f h6 | skip
             first | replace h7 := not_t h7 | replace h7 := not_f h7 | skip
             first | replace h8 := not_t h8 | replace h8 := not_f h8 | skip
             first | replace h9 := not_t h9 | replace h9 := not_f h9 | skip
             first | replace h10 := not_t h10 | replace h10 := not_f h10 | skip
             first | replace h11 := not_t h11 | replace h11 := not_f h11 | skip
             first | rfl | (congr 1; simp only [sameMsgS, sameChangeS, voteEq, h1, h2, h3, h4, h5, h6, h7, h8, h9, h10, h11, Bool.true_and, Bool.false_and, Bool.and_false]; done)
            ·rfl
           ·
            rcases Bool.eq_false_or_eq_true ((!sameL (SMsg.nheld a) (SMsg.nheld b) fun i => sameHeldS (SMsg.held a i) (SMsg.held b i))) with h12 | h12
            ·
             refine T.conv (T_al (bdRm_p000000000001 a b) Tryz.func13 ?_) rfl rfl ?_ ?_
             ·simp only [All, All_append, pcRh_c, bdRm_c]; and_intros
              all_goals first
               | assumption
               | exact T_rh a.held b.held h.nheld h.held
               | exact T_rb a.batch b.batch h.batch
               | exact T_rn a.news b.news h.nnews
               | exact T_rc a.cert b.cert h.cert
               | exact T_rs a.sig b.sig h.n
               | trivial
               | rfl
               | (intro _ _; trivial)
               | (intro _ _; rfl)
               | (simp; done)
               | omega
             ·first | replace h1 := not_t h1 | replace h1 := not_f h1 | skip
              first | replace h2 := not_t h2 | replace h2 := not_f h2 | skip
              first | replace h3 := not_t h3 | replace h3 := not_f h3 | skip
              first | replace h4 := not_t h4 | replace h4 := not_f h4 | skip
              first | replace h5 := not_t h5 | replace h5 := not_f h5 | skip
              first | replace h6 := not_t h6 | replace h6 := not_f h6 | skip
              first | replace h7 := not_t h7 | replace h7 := not_f h7 | skip
              first | replace h8 := not_t h8 | replace h8 := not_f h8 | skip
              first | replace h9 := not_t h9 | replace h9 := not_f h9 | skip
              first | replace h10 := not_t h10 | replace h10 := not_f h10 | skip
              first | replace h11 := not_t h11 | replace h11 := not_f h11 | skip
              first | replace h12 := not_t h12 | replace h12 := not_f h12 | skip
              first | rfl | (congr 1; simp only [sameMsgS, sameChangeS, voteEq, h1, h2, h3, h4, h5, h6, h7, h8, h9, h10, h11, h12, Bool.true_and, Bool.false_and, Bool.and_false]; done)
             ·rfl
            ·
             rcases Bool.eq_false_or_eq_true (sameBatchS (SMsg.batch a) (SMsg.batch b)) with h13 | h13
             ·
              rcases Bool.eq_false_or_eq_true ((sameL (SMsg.nnews a) (SMsg.nnews b) fun i => envEq (SMsg.news a i) (SMsg.news b i))) with h14 | h14
              ·
               rcases Bool.eq_false_or_eq_true (sameCertS (SMsg.cert a) (SMsg.cert b)) with h15 | h15
               ·
                refine T.conv (T_al (bdRm_p000000000000111 a b) Tryz.func13 ?_) rfl rfl ?_ ?_
                ·simp only [All, All_append, pcRh_c, bdRm_c]; and_intros
                 all_goals first
                  | assumption
                  | exact T_rh a.held b.held h.nheld h.held
                  | exact T_rb a.batch b.batch h.batch
                  | exact T_rn a.news b.news h.nnews
                  | exact T_rc a.cert b.cert h.cert
                  | exact T_rs a.sig b.sig h.n
                  | trivial
                  | rfl
                  | (intro _ _; trivial)
                  | (intro _ _; rfl)
                  | (simp; done)
                  | omega
                ·first | replace h1 := not_t h1 | replace h1 := not_f h1 | skip
                 first | replace h2 := not_t h2 | replace h2 := not_f h2 | skip
                 first | replace h3 := not_t h3 | replace h3 := not_f h3 | skip
                 first | replace h4 := not_t h4 | replace h4 := not_f h4 | skip
                 first | replace h5 := not_t h5 | replace h5 := not_f h5 | skip
                 first | replace h6 := not_t h6 | replace h6 := not_f h6 | skip
                 first | replace h7 := not_t h7 | replace h7 := not_f h7 | skip
                 first | replace h8 := not_t h8 | replace h8 := not_f h8 | skip
                 first | replace h9 := not_t h9 | replace h9 := not_f h9 | skip
                 first | replace h10 := not_t h10 | replace h10 := not_f h10 | skip
                 first | replace h11 := not_t h11 | replace h11 := not_f h11 | skip
                 first | replace h12 := not_t h12 | replace h12 := not_f h12 | skip
                 first | replace h13 := not_t h13 | replace h13 := not_f h13 | skip
                 first | replace h14 := not_t h14 | replace h14 := not_f h14 | skip
                 first | replace h15 := not_t h15 | replace h15 := not_f h15 | skip
                 first | rfl | (congr 1; simp only [sameMsgS, sameChangeS, voteEq, h1, h2, h3, h4, h5, h6, h7, h8, h9, h10, h11, h12, h13, h14, h15, Bool.true_and, Bool.false_and, Bool.and_false]; done)
                ·rfl
               ·
                refine T.conv (T_al (bdRm_p000000000000110 a b) Tryz.func13 ?_) rfl rfl ?_ ?_
                ·simp only [All, All_append, pcRh_c, bdRm_c]; and_intros
                 all_goals first
                  | assumption
                  | exact T_rh a.held b.held h.nheld h.held
                  | exact T_rb a.batch b.batch h.batch
                  | exact T_rn a.news b.news h.nnews
                  | exact T_rc a.cert b.cert h.cert
                  | exact T_rs a.sig b.sig h.n
                  | trivial
                  | rfl
                  | (intro _ _; trivial)
                  | (intro _ _; rfl)
                  | (simp; done)
                  | omega
                ·first | replace h1 := not_t h1 | replace h1 := not_f h1 | skip
                 first | replace h2 := not_t h2 | replace h2 := not_f h2 | skip
                 first | replace h3 := not_t h3 | replace h3 := not_f h3 | skip
                 first | replace h4 := not_t h4 | replace h4 := not_f h4 | skip
                 first | replace h5 := not_t h5 | replace h5 := not_f h5 | skip
                 first | replace h6 := not_t h6 | replace h6 := not_f h6 | skip
                 first | replace h7 := not_t h7 | replace h7 := not_f h7 | skip
                 first | replace h8 := not_t h8 | replace h8 := not_f h8 | skip
                 first | replace h9 := not_t h9 | replace h9 := not_f h9 | skip
                 first | replace h10 := not_t h10 | replace h10 := not_f h10 | skip
                 first | replace h11 := not_t h11 | replace h11 := not_f h11 | skip
                 first | replace h12 := not_t h12 | replace h12 := not_f h12 | skip
                 first | replace h13 := not_t h13 | replace h13 := not_f h13 | skip
                 first | replace h14 := not_t h14 | replace h14 := not_f h14 | skip
                 first | replace h15 := not_t h15 | replace h15 := not_f h15 | skip
                 first | rfl | (congr 1; simp only [sameMsgS, sameChangeS, voteEq, h1, h2, h3, h4, h5, h6, h7, h8, h9, h10, h11, h12, h13, h14, h15, Bool.true_and, Bool.false_and, Bool.and_false]; done)
                ·rfl
              ·
               refine T.conv (T_al (bdRm_p000000000000100 a b) Tryz.func13 ?_) rfl rfl ?_ ?_
               ·simp only [All, All_append, pcRh_c, bdRm_c]; and_intros
                all_goals first
                 | assumption
                 | exact T_rh a.held b.held h.nheld h.held
                 | exact T_rb a.batch b.batch h.batch
                 | exact T_rn a.news b.news h.nnews
                 | exact T_rc a.cert b.cert h.cert
                 | exact T_rs a.sig b.sig h.n
                 | trivial
                 | rfl
                 | (intro _ _; trivial)
                 | (intro _ _; rfl)
                 | (simp; done)
                 | omega
               ·first | replace h1 := not_t h1 | replace h1 := not_f h1 | skip
                first | replace h2 := not_t h2 | replace h2 := not_f h2 | skip
                first | replace h3 := not_t h3 | replace h3 := not_f h3 | skip
                first | replace h4 := not_t h4 | replace h4 := not_f h4 | skip
                first | replace h5 := not_t h5 | replace h5 := not_f h5 | skip
                first | replace h6 := not_t h6 | replace h6 := not_f h6 | skip
                first | replace h7 := not_t h7 | replace h7 := not_f h7 | skip
                first | replace h8 := not_t h8 | replace h8 := not_f h8 | skip
                first | replace h9 := not_t h9 | replace h9 := not_f h9 | skip
                first | replace h10 := not_t h10 | replace h10 := not_f h10 | skip
                first | replace h11 := not_t h11 | replace h11 := not_f h11 | skip
                first | replace h12 := not_t h12 | replace h12 := not_f h12 | skip
                first | replace h13 := not_t h13 | replace h13 := not_f h13 | skip
                first | replace h14 := not_t h14 | replace h14 := not_f h14 | skip
                first | rfl | (congr 1; simp only [sameMsgS, sameChangeS, voteEq, h1, h2, h3, h4, h5, h6, h7, h8, h9, h10, h11, h12, h13, h14, Bool.true_and, Bool.false_and, Bool.and_false]; done)
               ·rfl
             ·
              refine T.conv (T_al (bdRm_p000000000000000 a b) Tryz.func13 ?_) rfl rfl ?_ ?_
              ·simp only [All, All_append, pcRh_c, bdRm_c]; and_intros
               all_goals first
                | assumption
                | exact T_rh a.held b.held h.nheld h.held
                | exact T_rb a.batch b.batch h.batch
                | exact T_rn a.news b.news h.nnews
                | exact T_rc a.cert b.cert h.cert
                | exact T_rs a.sig b.sig h.n
                | trivial
                | rfl
                | (intro _ _; trivial)
                | (intro _ _; rfl)
                | (simp; done)
                | omega
              ·first | replace h1 := not_t h1 | replace h1 := not_f h1 | skip
               first | replace h2 := not_t h2 | replace h2 := not_f h2 | skip
               first | replace h3 := not_t h3 | replace h3 := not_f h3 | skip
               first | replace h4 := not_t h4 | replace h4 := not_f h4 | skip
               first | replace h5 := not_t h5 | replace h5 := not_f h5 | skip
               first | replace h6 := not_t h6 | replace h6 := not_f h6 | skip
               first | replace h7 := not_t h7 | replace h7 := not_f h7 | skip
               first | replace h8 := not_t h8 | replace h8 := not_f h8 | skip
               first | replace h9 := not_t h9 | replace h9 := not_f h9 | skip
               first | replace h10 := not_t h10 | replace h10 := not_f h10 | skip
               first | replace h11 := not_t h11 | replace h11 := not_f h11 | skip
               first | replace h12 := not_t h12 | replace h12 := not_f h12 | skip
               first | replace h13 := not_t h13 | replace h13 := not_f h13 | skip
               first | rfl | (congr 1; simp only [sameMsgS, sameChangeS, voteEq, h1, h2, h3, h4, h5, h6, h7, h8, h9, h10, h11, h12, h13, Bool.true_and, Bool.false_and, Bool.and_false]; done)
              ·rfl
end Go.Proofs.YthifjamdfpjilaaGreat
namespace Go.Proofs.YthifjamdfpjilaaGreat
open Go Sy Go.Proofs
def kOnl (r : SMsg) : Exit → St → Option W := fun _ st => match getV st.tmps 2 with
 | .ptr a _ _ _ _ => some ⟨[(.o 300, a)], [(2, .set (.ptr (.o 300) 0 0 0 0))], [(.o 300, .set (.flat r.c))], none, st.next⟩
 | _ => none
noncomputable def bdXo (m r : SMsg) : Bd := { f := Tryz.f52, args := [.agg m.c], kb := kb0, k := kOnl r }
noncomputable def bdX1 (m : SMsg) : Bd := bdXo m (o1 m)
noncomputable def bdX2 (m : SMsg) : Bd := bdXo m (o2 m)
noncomputable def bdX3 (m : SMsg) : Bd := bdXo m (o3 m)
noncomputable def bdX4 (m : SMsg) : Bd := bdXo m (o4 m)
noncomputable def bdX5 (m : SMsg) : Bd := bdXo m (o5 m)
noncomputable def bdX6 (m : SMsg) : Bd := bdXo m (o6 m)
noncomputable def bdX7 (m : SMsg) : Bd := bdXo m (o7 m)
noncomputable def bdX8 (m : SMsg) : Bd := bdXo m (o8 m)
noncomputable def bdX9 (m : SMsg) : Bd := bdXo m (o9 m)
end Go.Proofs.YthifjamdfpjilaaGreat
namespace Go.Proofs.YthifjamdfpjilaaGreat
open Go Sy Go.Proofs
theorem bdX1_p1 (m : SMsg) :
  along Tryz.prog (bdX1 m) [true] = (some (.agg [.int .i64 (SMsg.kind m), .int .i64 (SMsg.epoch m), .int .i64 0, .int .i64 0, .int .i64 (SMsg.slot m), .bool (SBatch.noop (SMsg.batch m)), rq (SBatch.n (SMsg.batch m)) (SBatch.req (SMsg.batch m)), .int .i64 0, .int .i64 0, .int .i64 0, .int .i64 0, .seg .u8 32 z32, .int .i64 0, .int .i64 0, .int .i64 0, hl 0 fun x => SHeld.mk (SBatch.mk false 0 fun x => SReq.mk (0 : Int) (0 : Int) ByteArray.empty []) (SCert.mk (SVote.mk (0 : Int) (0 : Int) (0 : Int) (0 : Int) []) 0 fun x => SSign.mk (0 : Int) []), nw 0 fun x => SEnv.mk (0 : Int) ByteArray.empty [], .seg .u8 32 z32, .int .i64 0, .int .i64 0, .int .i64 0, .int .i64 0, .seg .u8 32 z32, sg 0 fun x => SSign.mk (0 : Int) [], .str ByteArray.empty, sg 0 fun x => SSign.mk (0 : Int) []], [], [decide (SMsg.kind m = (1 : Int)) = true, q (SMsg.kind m), q (SMsg.epoch m), q1, q1, q (SMsg.slot m), q (SBatch.noop (SMsg.batch m)), q (SBatch.n (SMsg.batch m)), ∀ (k : Nat), k < SBatch.n (SMsg.batch m) → SReq.c (SBatch.req (SMsg.batch m) k) = SReq.c (SBatch.req (SMsg.batch m) k), false = true → false = true, q1, q1, q1, q1, q (32 : Nat), q z32, q1, q1, q1, q0, q0, q (32 : Nat), q z32, q1, q1, q1, q1, q (32 : Nat), q z32, q0, q ByteArray.empty, q0, q0, q0, q0]) : Option (V × Heap × List Prop)) := by kernel_rfl

theorem bdX2_p01 (m : SMsg) :
  along Tryz.prog (bdX2 m) [false, true] = (some (.agg [.int .i64 (SMsg.kind m), .int .i64 0, .int .i64 0, .int .i64 0, .int .i64 0, .bool false, rq 0 fun x => SReq.mk (0 : Int) (0 : Int) ByteArray.empty [], .int .i64 (SVote.kind (SMsg.vote m)), .int .i64 (SVote.epoch (SMsg.vote m)), .int .i64 (SVote.view (SMsg.vote m)), .int .i64 (SVote.slot (SMsg.vote m)), .seg .u8 32 (SVote.digest (SMsg.vote m)), .int .i64 0, .int .i64 0, .int .i64 0, hl 0 fun x => SHeld.mk (SBatch.mk false 0 fun x => SReq.mk (0 : Int) (0 : Int) ByteArray.empty []) (SCert.mk (SVote.mk (0 : Int) (0 : Int) (0 : Int) (0 : Int) []) 0 fun x => SSign.mk (0 : Int) []), nw 0 fun x => SEnv.mk (0 : Int) ByteArray.empty [], .seg .u8 32 z32, .int .i64 0, .int .i64 0, .int .i64 0, .int .i64 0, .seg .u8 32 z32, sg 0 fun x => SSign.mk (0 : Int) [], .str ByteArray.empty, sg 0 fun x => SSign.mk (0 : Int) []], [], [decide (SMsg.kind m = (1 : Int)) = false, decide (SMsg.kind m = (2 : Int)) = true, q (SMsg.kind m), q1, q1, q1, q1, q false, q0, q (SVote.kind (SMsg.vote m)), q (SVote.epoch (SMsg.vote m)), q (SVote.view (SMsg.vote m)), q (SVote.slot (SMsg.vote m)), q (32 : Nat), q (SVote.digest (SMsg.vote m)), q1, q1, q1, q0, q0, q (32 : Nat), q z32, q1, q1, q1, q1, q (32 : Nat), q z32, q0, q ByteArray.empty, q0, q0, q0, q0]) : Option (V × Heap × List Prop)) := by kernel_rfl

theorem bdX3_p001 (m : SMsg) :
  along Tryz.prog (bdX3 m) [false, false, true] = (some (.agg [.int .i64 (SMsg.kind m), .int .i64 0, .int .i64 0, .int .i64 0, .int .i64 0, .bool false, rq 0 fun x => SReq.mk (0 : Int) (0 : Int) ByteArray.empty [], .int .i64 0, .int .i64 0, .int .i64 0, .int .i64 0, .seg .u8 32 z32, .int .i64 (SMsg.cepoch m), .int .i64 (SMsg.cleader m), .int .i64 (SMsg.cview m), hl (SMsg.nheld m) (SMsg.held m), nw 0 fun x => SEnv.mk (0 : Int) ByteArray.empty [], .seg .u8 32 z32, .int .i64 0, .int .i64 0, .int .i64 0, .int .i64 0, .seg .u8 32 z32, sg 0 fun x => SSign.mk (0 : Int) [], .str ByteArray.empty, sg 0 fun x => SSign.mk (0 : Int) []], [], [decide (SMsg.kind m = (1 : Int)) = false, decide (SMsg.kind m = (2 : Int)) = false, decide (SMsg.kind m = (3 : Int)) = true, q (SMsg.kind m), q1, q1, q1, q1, q false, q0, q1, q1, q1, q1, q (32 : Nat), q z32, q (SMsg.cepoch m), q (SMsg.cleader m), q (SMsg.cview m), q (SMsg.nheld m), ∀ (k : Nat), k < SMsg.nheld m → SHeld.c (SMsg.held m k) = SHeld.c (SMsg.held (SMsg.mk (SMsg.kind m) (0 : Int) (0 : Int) (0 : Int) (0 : Int) (SBatch.mk false (0 : Nat) fun x => SReq.mk (0 : Int) (0 : Int) ByteArray.empty []) vote0 (SMsg.cepoch m) (SMsg.cleader m) (SMsg.cview m) (SMsg.nheld m) (SMsg.held m) (0 : Nat) (fun x => SEnv.mk (0 : Int) ByteArray.empty []) z32 (SCert.mk vote0 (0 : Nat) fun x => SSign.mk (0 : Int) []) ByteArray.empty (0 : Nat) fun x => SSign.mk (0 : Int) []) k), false = true → false = true, q0, q (32 : Nat), q z32, q1, q1, q1, q1, q (32 : Nat), q z32, q0, q ByteArray.empty, q0, q0, q0, q0]) : Option (V × Heap × List Prop)) := by kernel_rfl

theorem bdX4_p0001 (m : SMsg) :
  along Tryz.prog (bdX4 m) [false, false, false, true] = (some (.agg [.int .i64 (SMsg.kind m), .int .i64 (SMsg.epoch m), .int .i64 (SMsg.leader m), .int .i64 (SMsg.view m), .int .i64 0, .bool false, rq 0 fun x => SReq.mk (0 : Int) (0 : Int) ByteArray.empty [], .int .i64 0, .int .i64 0, .int .i64 0, .int .i64 0, .seg .u8 32 z32, .int .i64 0, .int .i64 0, .int .i64 0, hl 0 fun x => SHeld.mk (SBatch.mk false 0 fun x => SReq.mk (0 : Int) (0 : Int) ByteArray.empty []) (SCert.mk (SVote.mk (0 : Int) (0 : Int) (0 : Int) (0 : Int) []) 0 fun x => SSign.mk (0 : Int) []), nw (SMsg.nnews m) (SMsg.news m), .seg .u8 32 z32, .int .i64 0, .int .i64 0, .int .i64 0, .int .i64 0, .seg .u8 32 z32, sg 0 fun x => SSign.mk (0 : Int) [], .str ByteArray.empty, sg 0 fun x => SSign.mk (0 : Int) []], [], [decide (SMsg.kind m = (1 : Int)) = false, decide (SMsg.kind m = (2 : Int)) = false, decide (SMsg.kind m = (3 : Int)) = false, decide (SMsg.kind m = (4 : Int)) = true, q (SMsg.kind m), q (SMsg.epoch m), q (SMsg.leader m), q (SMsg.view m), q1, q false, q0, q1, q1, q1, q1, q (32 : Nat), q z32, q1, q1, q1, q0, q (SMsg.nnews m), ∀ (k : Nat), k < SMsg.nnews m → SEnv.c (SMsg.news m k) = SEnv.c (SMsg.news (SMsg.mk (SMsg.kind m) (SMsg.epoch m) (SMsg.leader m) (SMsg.view m) (0 : Int) (SBatch.mk false (0 : Nat) fun x => SReq.mk (0 : Int) (0 : Int) ByteArray.empty []) vote0 (0 : Int) (0 : Int) (0 : Int) (0 : Nat) (fun x => SHeld.mk (SBatch.mk false (0 : Nat) fun x => SReq.mk (0 : Int) (0 : Int) ByteArray.empty []) (SCert.mk (SVote.mk (0 : Int) (0 : Int) (0 : Int) (0 : Int) []) (0 : Nat) fun x => SSign.mk (0 : Int) [])) (SMsg.nnews m) (SMsg.news m) z32 (SCert.mk vote0 (0 : Nat) fun x => SSign.mk (0 : Int) []) ByteArray.empty (0 : Nat) fun x => SSign.mk (0 : Int) []) k), false = true → false = true, q (32 : Nat), q z32, q1, q1, q1, q1, q (32 : Nat), q z32, q0, q ByteArray.empty, q0, q0, q0, q0]) : Option (V × Heap × List Prop)) := by kernel_rfl

theorem bdX5_p00001 (m : SMsg) :
  along Tryz.prog (bdX5 m) [false, false, false, false, true] = (some (.agg [.int .i64 (SMsg.kind m), .int .i64 (SMsg.epoch m), .int .i64 0, .int .i64 0, .int .i64 0, .bool false, rq 0 fun x => SReq.mk (0 : Int) (0 : Int) ByteArray.empty [], .int .i64 0, .int .i64 0, .int .i64 0, .int .i64 0, .seg .u8 32 z32, .int .i64 0, .int .i64 0, .int .i64 0, hl 0 fun x => SHeld.mk (SBatch.mk false 0 fun x => SReq.mk (0 : Int) (0 : Int) ByteArray.empty []) (SCert.mk (SVote.mk (0 : Int) (0 : Int) (0 : Int) (0 : Int) []) 0 fun x => SSign.mk (0 : Int) []), nw 0 fun x => SEnv.mk (0 : Int) ByteArray.empty [], .seg .u8 32 (SMsg.digest m), .int .i64 0, .int .i64 0, .int .i64 0, .int .i64 0, .seg .u8 32 z32, sg 0 fun x => SSign.mk (0 : Int) [], .str ByteArray.empty, sg 0 fun x => SSign.mk (0 : Int) []], [], [decide (SMsg.kind m = (1 : Int)) = false, decide (SMsg.kind m = (2 : Int)) = false, decide (SMsg.kind m = (3 : Int)) = false, decide (SMsg.kind m = (4 : Int)) = false, decide (SMsg.kind m = (5 : Int)) = true, q (SMsg.kind m), q (SMsg.epoch m), q1, q1, q1, q false, q0, q1, q1, q1, q1, q (32 : Nat), q z32, q1, q1, q1, q0, q0, q (32 : Nat), q (SMsg.digest m), q1, q1, q1, q1, q (32 : Nat), q z32, q0, q ByteArray.empty, q0, q0, q0, q0]) : Option (V × Heap × List Prop)) := by kernel_rfl

theorem bdX6_p000001 (m : SMsg) :
  along Tryz.prog (bdX6 m) [false, false, false, false, false, true] = (some (.agg [.int .i64 (SMsg.kind m), .int .i64 (SMsg.epoch m), .int .i64 0, .int .i64 0, .int .i64 (SMsg.slot m), .bool false, rq 0 fun x => SReq.mk (0 : Int) (0 : Int) ByteArray.empty [], .int .i64 0, .int .i64 0, .int .i64 0, .int .i64 0, .seg .u8 32 z32, .int .i64 0, .int .i64 0, .int .i64 0, hl 0 fun x => SHeld.mk (SBatch.mk false 0 fun x => SReq.mk (0 : Int) (0 : Int) ByteArray.empty []) (SCert.mk (SVote.mk (0 : Int) (0 : Int) (0 : Int) (0 : Int) []) 0 fun x => SSign.mk (0 : Int) []), nw 0 fun x => SEnv.mk (0 : Int) ByteArray.empty [], .seg .u8 32 z32, .int .i64 0, .int .i64 0, .int .i64 0, .int .i64 0, .seg .u8 32 z32, sg 0 fun x => SSign.mk (0 : Int) [], .str ByteArray.empty, sg 0 fun x => SSign.mk (0 : Int) []], [], [decide (SMsg.kind m = (1 : Int)) = false, decide (SMsg.kind m = (2 : Int)) = false, decide (SMsg.kind m = (3 : Int)) = false, decide (SMsg.kind m = (4 : Int)) = false, decide (SMsg.kind m = (5 : Int)) = false, decide (SMsg.kind m = (6 : Int)) = true, q (SMsg.kind m), q (SMsg.epoch m), q1, q1, q (SMsg.slot m), q false, q0, q1, q1, q1, q1, q (32 : Nat), q z32, q1, q1, q1, q0, q0, q (32 : Nat), q z32, q1, q1, q1, q1, q (32 : Nat), q z32, q0, q ByteArray.empty, q0, q0, q0, q0]) : Option (V × Heap × List Prop)) := by kernel_rfl

theorem bdX7_p0000001 (m : SMsg) :
  along Tryz.prog (bdX7 m) [false, false, false, false, false, false, true] = (some (.agg [.int .i64 (SMsg.kind m), .int .i64 0, .int .i64 0, .int .i64 0, .int .i64 0, .bool (SBatch.noop (SMsg.batch m)), rq (SBatch.n (SMsg.batch m)) (SBatch.req (SMsg.batch m)), .int .i64 0, .int .i64 0, .int .i64 0, .int .i64 0, .seg .u8 32 z32, .int .i64 0, .int .i64 0, .int .i64 0, hl 0 fun x => SHeld.mk (SBatch.mk false 0 fun x => SReq.mk (0 : Int) (0 : Int) ByteArray.empty []) (SCert.mk (SVote.mk (0 : Int) (0 : Int) (0 : Int) (0 : Int) []) 0 fun x => SSign.mk (0 : Int) []), nw 0 fun x => SEnv.mk (0 : Int) ByteArray.empty [], .seg .u8 32 z32, .int .i64 (SVote.kind (SCert.vote (SMsg.cert m))), .int .i64 (SVote.epoch (SCert.vote (SMsg.cert m))), .int .i64 (SVote.view (SCert.vote (SMsg.cert m))), .int .i64 (SVote.slot (SCert.vote (SMsg.cert m))), .seg .u8 32 (SVote.digest (SCert.vote (SMsg.cert m))), sg (SCert.n (SMsg.cert m)) (SCert.sig (SMsg.cert m)), .str ByteArray.empty, sg 0 fun x => SSign.mk (0 : Int) []], [], [decide (SMsg.kind m = (1 : Int)) = false, decide (SMsg.kind m = (2 : Int)) = false, decide (SMsg.kind m = (3 : Int)) = false, decide (SMsg.kind m = (4 : Int)) = false, decide (SMsg.kind m = (5 : Int)) = false, decide (SMsg.kind m = (6 : Int)) = false, decide (SMsg.kind m = (7 : Int)) = true, q (SMsg.kind m), q1, q1, q1, q1, q (SBatch.noop (SMsg.batch m)), q (SBatch.n (SMsg.batch m)), ∀ (k : Nat), k < SBatch.n (SMsg.batch m) → SReq.c (SBatch.req (SMsg.batch m) k) = SReq.c (SBatch.req (SMsg.batch m) k), false = true → false = true, q1, q1, q1, q1, q (32 : Nat), q z32, q1, q1, q1, q0, q0, q (32 : Nat), q z32, q (SVote.kind (SCert.vote (SMsg.cert m))), q (SVote.epoch (SCert.vote (SMsg.cert m))), q (SVote.view (SCert.vote (SMsg.cert m))), q (SVote.slot (SCert.vote (SMsg.cert m))), q (32 : Nat), q (SVote.digest (SCert.vote (SMsg.cert m))), q (SCert.n (SMsg.cert m)), ∀ (k : Nat), k < SCert.n (SMsg.cert m) → SSign.c (SCert.sig (SMsg.cert m) k) = SSign.c (SCert.sig (SMsg.cert m) k), false = true → false = true, q ByteArray.empty, q0, q0, q0, q0]) : Option (V × Heap × List Prop)) := by kernel_rfl

theorem bdX8_p00000001 (m : SMsg) :
  along Tryz.prog (bdX8 m) [false, false, false, false, false, false, false, true] = (some (.agg [.int .i64 (SMsg.kind m), .int .i64 0, .int .i64 0, .int .i64 0, .int .i64 0, .bool false, rq 0 fun x => SReq.mk (0 : Int) (0 : Int) ByteArray.empty [], .int .i64 0, .int .i64 0, .int .i64 0, .int .i64 0, .seg .u8 32 z32, .int .i64 0, .int .i64 0, .int .i64 0, hl 0 fun x => SHeld.mk (SBatch.mk false 0 fun x => SReq.mk (0 : Int) (0 : Int) ByteArray.empty []) (SCert.mk (SVote.mk (0 : Int) (0 : Int) (0 : Int) (0 : Int) []) 0 fun x => SSign.mk (0 : Int) []), nw 0 fun x => SEnv.mk (0 : Int) ByteArray.empty [], .seg .u8 32 z32, .int .i64 0, .int .i64 0, .int .i64 0, .int .i64 0, .seg .u8 32 z32, sg 0 fun x => SSign.mk (0 : Int) [], .str (SMsg.state m), sg (SMsg.n m) (SMsg.sig m)], [], [decide (SMsg.kind m = (1 : Int)) = false, decide (SMsg.kind m = (2 : Int)) = false, decide (SMsg.kind m = (3 : Int)) = false, decide (SMsg.kind m = (4 : Int)) = false, decide (SMsg.kind m = (5 : Int)) = false, decide (SMsg.kind m = (6 : Int)) = false, decide (SMsg.kind m = (7 : Int)) = false, decide (SMsg.kind m = (8 : Int)) = true, q (SMsg.kind m), q1, q1, q1, q1, q false, q0, q1, q1, q1, q1, q (32 : Nat), q z32, q1, q1, q1, q0, q0, q (32 : Nat), q z32, q1, q1, q1, q1, q (32 : Nat), q z32, q0, q (SMsg.state m), q (SMsg.n m), ∀ (k : Nat), k < SMsg.n m → SSign.c (SMsg.sig m k) = SSign.c (SMsg.sig (SMsg.mk (SMsg.kind m) (0 : Int) (0 : Int) (0 : Int) (0 : Int) (SBatch.mk false (0 : Nat) fun x => SReq.mk (0 : Int) (0 : Int) ByteArray.empty []) vote0 (0 : Int) (0 : Int) (0 : Int) (0 : Nat) (fun x => SHeld.mk (SBatch.mk false (0 : Nat) fun x => SReq.mk (0 : Int) (0 : Int) ByteArray.empty []) (SCert.mk (SVote.mk (0 : Int) (0 : Int) (0 : Int) (0 : Int) []) (0 : Nat) fun x => SSign.mk (0 : Int) [])) (0 : Nat) (fun x => SEnv.mk (0 : Int) ByteArray.empty []) z32 (SCert.mk vote0 (0 : Nat) fun x => SSign.mk (0 : Int) []) (SMsg.state m) (SMsg.n m) (SMsg.sig m)) k), false = true → false = true, q0, q0, q0]) : Option (V × Heap × List Prop)) := by kernel_rfl

theorem bdX9_p00000000 (m : SMsg) :
  along Tryz.prog (bdX9 m) [false, false, false, false, false, false, false, false] = (some (.agg [.int .i64 (SMsg.kind m), .int .i64 0, .int .i64 0, .int .i64 0, .int .i64 0, .bool false, rq 0 fun x => SReq.mk (0 : Int) (0 : Int) ByteArray.empty [], .int .i64 0, .int .i64 0, .int .i64 0, .int .i64 0, .seg .u8 32 z32, .int .i64 0, .int .i64 0, .int .i64 0, hl 0 fun x => SHeld.mk (SBatch.mk false 0 fun x => SReq.mk (0 : Int) (0 : Int) ByteArray.empty []) (SCert.mk (SVote.mk (0 : Int) (0 : Int) (0 : Int) (0 : Int) []) 0 fun x => SSign.mk (0 : Int) []), nw 0 fun x => SEnv.mk (0 : Int) ByteArray.empty [], .seg .u8 32 z32, .int .i64 0, .int .i64 0, .int .i64 0, .int .i64 0, .seg .u8 32 z32, sg 0 fun x => SSign.mk (0 : Int) [], .str ByteArray.empty, sg 0 fun x => SSign.mk (0 : Int) []], [], [decide (SMsg.kind m = (1 : Int)) = false, decide (SMsg.kind m = (2 : Int)) = false, decide (SMsg.kind m = (3 : Int)) = false, decide (SMsg.kind m = (4 : Int)) = false, decide (SMsg.kind m = (5 : Int)) = false, decide (SMsg.kind m = (6 : Int)) = false, decide (SMsg.kind m = (7 : Int)) = false, decide (SMsg.kind m = (8 : Int)) = false, q (SMsg.kind m), q1, q1, q1, q1, q false, q0, q1, q1, q1, q1, q (32 : Nat), q z32, q1, q1, q1, q0, q0, q (32 : Nat), q z32, q1, q1, q1, q1, q (32 : Nat), q z32, q0, q ByteArray.empty, q0, q0, q0, q0]) : Option (V × Heap × List Prop)) := by kernel_rfl

theorem T_ol (m : SMsg) : T Tryz.prog 52 [.agg m.c] [] (.agg (onlyS m).c) [] := by
 by_cases h1 : m.kind = 1
 ·have e : onlyS m = o1 m := by simp [onlyS, h1]
  refine T.val (T_al (bdX1_p1 m) Tryz.func52 ?_) (by rw [e]; rfl)
  simp [All, h1]
 by_cases h2 : m.kind = 2
 ·have e : onlyS m = o2 m := by simp [onlyS, h2]
  refine T.val (T_al (bdX2_p01 m) Tryz.func52 ?_) (by rw [e]; rfl)
  simp [All, h2]
 by_cases h3 : m.kind = 3
 ·have e : onlyS m = o3 m := by simp [onlyS, h3]
  refine T.val (T_al (bdX3_p001 m) Tryz.func52 ?_) (by rw [e]; rfl)
  simp [All, h3]
 by_cases h4 : m.kind = 4
 ·have e : onlyS m = o4 m := by simp [onlyS, h4]
  refine T.val (T_al (bdX4_p0001 m) Tryz.func52 ?_) (by rw [e]; rfl)
  simp [All, h4]
 by_cases h5 : m.kind = 5
 ·have e : onlyS m = o5 m := by simp [onlyS, h5]
  refine T.val (T_al (bdX5_p00001 m) Tryz.func52 ?_) (by rw [e]; rfl)
  simp [All, h5]
 by_cases h6 : m.kind = 6
 ·have e : onlyS m = o6 m := by simp [onlyS, h6]
  refine T.val (T_al (bdX6_p000001 m) Tryz.func52 ?_) (by rw [e]; rfl)
  simp [All, h6]
 by_cases h7 : m.kind = 7
 ·have e : onlyS m = o7 m := by simp [onlyS, h7]
  refine T.val (T_al (bdX7_p0000001 m) Tryz.func52 ?_) (by rw [e]; rfl)
  simp [All, h7]
 by_cases h8 : m.kind = 8
 ·have e : onlyS m = o8 m := by simp [onlyS, h8]
  refine T.val (T_al (bdX8_p00000001 m) Tryz.func52 ?_) (by rw [e]; rfl)
  simp [All, h8]
 have e : onlyS m = o9 m := by simp [onlyS, h1, h2, h3, h4, h5, h6, h7, h8]
 refine T.val (T_al (bdX9_p00000000 m) Tryz.func52 ?_) (by rw [e]; rfl)
 simp [All, h1, h2, h3, h4, h5, h6, h7, h8]
end Go.Proofs.YthifjamdfpjilaaGreat
namespace Go.Proofs.YthifjamdfpjilaaGreat
open Go Sy Go.Proofs
noncomputable def bdGd (m x : SMsg) : Bd := { f := Tryz.f11, args := [.agg m.c], kb := { db := fun k args h lo => match dbVu k args h lo with
 | [] => dbQ [(52, cVal (.agg x.c)), (13, cVal (.bool (sameMsgS m x))), (58, cVal (.bool (mayVoteS m.vote))), (59, cVal (.bool (mayCertS m.cert))), (55, cVal (.bool (mayBatchS m.batch))), (54, cVal (.bool (allS m.nheld 4 (fun i => mayHeldS (m.held i))))), (56, cVal (.bool (allS m.nnews 64 (fun i => mayEnvS (m.news i))))), (57, cVal (.bool (allS m.n 64 (fun i => maySignS (m.sig i)))))] k args h lo
 | r => r } }
end Go.Proofs.YthifjamdfpjilaaGreat
