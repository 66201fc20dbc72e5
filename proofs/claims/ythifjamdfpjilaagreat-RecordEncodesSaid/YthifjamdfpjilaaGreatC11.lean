/-
  Contracts and laws that the claim's theorem leans on, joined out of the texts ZVc1 ZVc2D ZVc2 ZVc3 ZRs1 ZRs3 ZRs4 ZRs5 ZRs6 SyLend ZVc4D ZVc4 ZVg1 (own work of this seat): Contracts: a record's bytes, and what is read of bytes; Contracts: the document's records: what a kind has alone, what is told, which may be, the bytes; Contracts: the document's records: what a kind has alone, what is told, which may be, the bytes; The chapter's example of records, decoded: a chain of contracts, printed by a program; Contracts of small functions; Contracts: what is looked at; Contracts: what is looked at, continued; Contracts: records that are looked at; the law's own function; Contracts: records that are looked at; Blocks lent to a call that only looks at them; The law of records that are encoded: the walk; The law of records that are encoded: the walk; The shapes of records and bytes that are handed in.
-/
import Derived.Test.YthifjamdfpjilaaGreatC04
import Derived.Test.YthifjamdfpjilaaGreatC06
import Derived.Test.YthifjamdfpjilaaGreatC10
set_option linter.unusedVariables false
set_option linter.unusedSimpArgs false
set_option maxHeartbeats 1000000
namespace Go.Proofs.YthifjamdfpjilaaGreat
open Go Sy Go.Proofs
theorem bdPeG_p1 (r : SRec) :
  along Tryz.prog (bdPeG r) [true] = (some (.tup [.ros 1 0 (bl []) false, .int .i64 240], [], [T Tryz.prog 22 [.agg (SRec.c r)] [] (.bool false) [], q2, nat_lit 0 = (0 : Nat), q (240 : Int)]) : Option (V × Heap × List Prop)) := by kernel_rfl

theorem bdPe1_p010 (r : SRec) :
  along Tryz.prog (bdPe1 r) [false, true, false] = some (V.tup [V.ros (1 : Nat) (List.length (putZ (SRec.kind r) ++ putZ (SRec.slot r) ++ putZ (SRec.view r) ++ batchB (SRec.batch r))) (bl (putZ (SRec.kind r) ++ putZ (SRec.slot r) ++ putZ (SRec.view r) ++ batchB (SRec.batch r))) false, V.int IntKind.i64 (0 : Int)], [], [T Tryz.prog (22 : Nat) [V.agg (SRec.c r)] [] (V.bool true) [], false = false, T Tryz.prog (74 : Nat) [V.snil, V.int IntKind.i64 (SRec.kind r)] [] (sb (Nm.o (nat_lit 512)) (putZ (SRec.kind r))) [(Nm.o (nat_lit 512), bs (putZ (SRec.kind r)))], decide (SRec.kind r = (1 : Int)) = true, T Tryz.prog (74 : Nat) [V.sl (Nm.o (nat_lit 512)) (1 : Nat) (0 : Nat) (0 : Nat) (0 : Nat) (List.length (putZ (SRec.kind r))) none, V.int IntKind.i64 (SRec.slot r)] [(Nm.o (nat_lit 512), bs (putZ (SRec.kind r)))] (sb (Nm.o (nat_lit 1088)) (putZ (SRec.kind r) ++ putZ (SRec.slot r))) [(Nm.o (nat_lit 1088), bs (putZ (SRec.kind r) ++ putZ (SRec.slot r)))], T Tryz.prog (74 : Nat) [V.sl (Nm.o (nat_lit 1088)) (1 : Nat) (0 : Nat) (0 : Nat) (0 : Nat) (List.length (putZ (SRec.kind r) ++ putZ (SRec.slot r))) none, V.int IntKind.i64 (SRec.view r)] [(Nm.o (nat_lit 1088), bs (putZ (SRec.kind r) ++ putZ (SRec.slot r)))] (sb (Nm.o (nat_lit 1280)) (putZ (SRec.kind r) ++ putZ (SRec.slot r) ++ putZ (SRec.view r))) [(Nm.o (nat_lit 1280), bs (putZ (SRec.kind r) ++ putZ (SRec.slot r) ++ putZ (SRec.view r)))], T Tryz.prog (75 : Nat) [V.sl (Nm.o (nat_lit 1280)) (1 : Nat) (0 : Nat) (0 : Nat) (0 : Nat) (List.length (putZ (SRec.kind r) ++ putZ (SRec.slot r) ++ putZ (SRec.view r))) none, V.agg (SBatch.c (SRec.batch r))] [(Nm.o (nat_lit 1280), bs (putZ (SRec.kind r) ++ putZ (SRec.slot r) ++ putZ (SRec.view r)))] (sb (Nm.o (nat_lit 1472)) (putZ (SRec.kind r) ++ putZ (SRec.slot r) ++ putZ (SRec.view r) ++ batchB (SRec.batch r))) [(Nm.o (nat_lit 1472), bs (putZ (SRec.kind r) ++ putZ (SRec.slot r) ++ putZ (SRec.view r) ++ batchB (SRec.batch r)))], decide ((4194304 : Int) < (↑(List.length (putZ (SRec.kind r) ++ putZ (SRec.slot r) ++ putZ (SRec.view r) ++ batchB (SRec.batch r))) : Int)) = false, List.length (putZ (SRec.kind r) ++ putZ (SRec.slot r) ++ putZ (SRec.view r) ++ batchB (SRec.batch r)) = List.length (putZ (SRec.kind r) ++ putZ (SRec.slot r) ++ putZ (SRec.view r) ++ batchB (SRec.batch r)), (0 : Nat) + List.length (putZ (SRec.kind r) ++ putZ (SRec.slot r) ++ putZ (SRec.view r) ++ batchB (SRec.batch r)) ≤ List.length (putZ (SRec.kind r) ++ putZ (SRec.slot r) ++ putZ (SRec.view r) ++ batchB (SRec.batch r)), ∀ (k : Nat), k < List.length (putZ (SRec.kind r) ++ putZ (SRec.slot r) ++ putZ (SRec.view r) ++ batchB (SRec.batch r)) → bl (putZ (SRec.kind r) ++ putZ (SRec.slot r) ++ putZ (SRec.view r) ++ batchB (SRec.batch r)) ((0 : Nat) + k) = bl (putZ (SRec.kind r) ++ putZ (SRec.slot r) ++ putZ (SRec.view r) ++ batchB (SRec.batch r)) k, false = true → none = some (List.length (putZ (SRec.kind r) ++ putZ (SRec.slot r) ++ putZ (SRec.view r) ++ batchB (SRec.batch r))), (0 : Int) = (0 : Int)]) := by kernel_rfl

theorem bdPe1L_p011 (r : SRec) :
  along Tryz.prog (bdPe1L r) [false, true, true] = (some (.tup [.ros 1 0 (bl []) false, .int .i64 3], [], [T Tryz.prog 22 [.agg (SRec.c r)] [] (.bool true) [], q false, T Tryz.prog 74 [.snil, .int .i64 (SRec.kind r)] [] (sb (.o 512) (putZ (SRec.kind r))) [(.o 512, bs (putZ (SRec.kind r)))], decide (SRec.kind r = (1 : Int)) = true, T Tryz.prog 74 [.sl (.o 512) 1 0 0 0 (List.length (putZ (SRec.kind r))) none, .int .i64 (SRec.slot r)] [(.o 512, bs (putZ (SRec.kind r)))] (sb (.o 1088) (putZ (SRec.kind r) ++ putZ (SRec.slot r))) [(.o 1088, bs (putZ (SRec.kind r) ++ putZ (SRec.slot r)))], T Tryz.prog 74 [.sl (.o 1088) 1 0 0 0 (List.length (putZ (SRec.kind r) ++ putZ (SRec.slot r))) none, .int .i64 (SRec.view r)] [(.o 1088, bs (putZ (SRec.kind r) ++ putZ (SRec.slot r)))] (sb (.o 1280) (putZ (SRec.kind r) ++ putZ (SRec.slot r) ++ putZ (SRec.view r))) [(.o 1280, bs (putZ (SRec.kind r) ++ putZ (SRec.slot r) ++ putZ (SRec.view r)))], T Tryz.prog 75 [.sl (.o 1280) 1 0 0 0 (List.length (putZ (SRec.kind r) ++ putZ (SRec.slot r) ++ putZ (SRec.view r))) none, .agg (SBatch.c (SRec.batch r))] [(.o 1280, bs (putZ (SRec.kind r) ++ putZ (SRec.slot r) ++ putZ (SRec.view r)))] (sb (.o 1472) (putZ (SRec.kind r) ++ putZ (SRec.slot r) ++ putZ (SRec.view r) ++ batchB (SRec.batch r))) [(.o 1472, bs (putZ (SRec.kind r) ++ putZ (SRec.slot r) ++ putZ (SRec.view r) ++ batchB (SRec.batch r)))], decide ((4194304 : Int) < (↑(List.length (putZ (SRec.kind r) ++ putZ (SRec.slot r) ++ putZ (SRec.view r) ++ batchB (SRec.batch r))) : Int)) = true, nat_lit 0 = (0 : Nat), q (3 : Int)]) : Option (V × Heap × List Prop)) := by kernel_rfl

theorem bdPe3_p0010 (r : SRec) :
  along Tryz.prog (bdPe3 r) [false, false, true, false] = some (V.tup [V.ros (1 : Nat) (List.length (putZ (SRec.kind r) ++ putZ (SRec.leader r) ++ putZ (SRec.view r))) (bl (putZ (SRec.kind r) ++ putZ (SRec.leader r) ++ putZ (SRec.view r))) false, V.int IntKind.i64 (0 : Int)], [], [T Tryz.prog (22 : Nat) [V.agg (SRec.c r)] [] (V.bool true) [], false = false, T Tryz.prog (74 : Nat) [V.snil, V.int IntKind.i64 (SRec.kind r)] [] (sb (Nm.o (nat_lit 512)) (putZ (SRec.kind r))) [(Nm.o (nat_lit 512), bs (putZ (SRec.kind r)))], decide (SRec.kind r = (1 : Int)) = false, decide (SRec.kind r = (3 : Int)) = true, T Tryz.prog (74 : Nat) [V.sl (Nm.o (nat_lit 512)) (1 : Nat) (0 : Nat) (0 : Nat) (0 : Nat) (List.length (putZ (SRec.kind r))) none, V.int IntKind.i64 (SRec.leader r)] [(Nm.o (nat_lit 512), bs (putZ (SRec.kind r)))] (sb (Nm.o (nat_lit 1216)) (putZ (SRec.kind r) ++ putZ (SRec.leader r))) [(Nm.o (nat_lit 1216), bs (putZ (SRec.kind r) ++ putZ (SRec.leader r)))], T Tryz.prog (74 : Nat) [V.sl (Nm.o (nat_lit 1216)) (1 : Nat) (0 : Nat) (0 : Nat) (0 : Nat) (List.length (putZ (SRec.kind r) ++ putZ (SRec.leader r))) none, V.int IntKind.i64 (SRec.view r)] [(Nm.o (nat_lit 1216), bs (putZ (SRec.kind r) ++ putZ (SRec.leader r)))] (sb (Nm.o (nat_lit 1408)) (putZ (SRec.kind r) ++ putZ (SRec.leader r) ++ putZ (SRec.view r))) [(Nm.o (nat_lit 1408), bs (putZ (SRec.kind r) ++ putZ (SRec.leader r) ++ putZ (SRec.view r)))], decide ((4194304 : Int) < (↑(List.length (putZ (SRec.kind r) ++ putZ (SRec.leader r) ++ putZ (SRec.view r))) : Int)) = false, List.length (putZ (SRec.kind r) ++ putZ (SRec.leader r) ++ putZ (SRec.view r)) = List.length (putZ (SRec.kind r) ++ putZ (SRec.leader r) ++ putZ (SRec.view r)), (0 : Nat) + List.length (putZ (SRec.kind r) ++ putZ (SRec.leader r) ++ putZ (SRec.view r)) ≤ List.length (putZ (SRec.kind r) ++ putZ (SRec.leader r) ++ putZ (SRec.view r)), ∀ (k : Nat), k < List.length (putZ (SRec.kind r) ++ putZ (SRec.leader r) ++ putZ (SRec.view r)) → bl (putZ (SRec.kind r) ++ putZ (SRec.leader r) ++ putZ (SRec.view r)) ((0 : Nat) + k) = bl (putZ (SRec.kind r) ++ putZ (SRec.leader r) ++ putZ (SRec.view r)) k, false = true → none = some (List.length (putZ (SRec.kind r) ++ putZ (SRec.leader r) ++ putZ (SRec.view r))), (0 : Int) = (0 : Int)]) := by kernel_rfl

theorem bdPe3L_p0011 (r : SRec) :
  along Tryz.prog (bdPe3L r) [false, false, true, true] = (some (.tup [.ros 1 0 (bl []) false, .int .i64 3], [], [T Tryz.prog 22 [.agg (SRec.c r)] [] (.bool true) [], q false, T Tryz.prog 74 [.snil, .int .i64 (SRec.kind r)] [] (sb (.o 512) (putZ (SRec.kind r))) [(.o 512, bs (putZ (SRec.kind r)))], decide (SRec.kind r = (1 : Int)) = false, decide (SRec.kind r = (3 : Int)) = true, T Tryz.prog 74 [.sl (.o 512) 1 0 0 0 (List.length (putZ (SRec.kind r))) none, .int .i64 (SRec.leader r)] [(.o 512, bs (putZ (SRec.kind r)))] (sb (.o 1216) (putZ (SRec.kind r) ++ putZ (SRec.leader r))) [(.o 1216, bs (putZ (SRec.kind r) ++ putZ (SRec.leader r)))], T Tryz.prog 74 [.sl (.o 1216) 1 0 0 0 (List.length (putZ (SRec.kind r) ++ putZ (SRec.leader r))) none, .int .i64 (SRec.view r)] [(.o 1216, bs (putZ (SRec.kind r) ++ putZ (SRec.leader r)))] (sb (.o 1408) (putZ (SRec.kind r) ++ putZ (SRec.leader r) ++ putZ (SRec.view r))) [(.o 1408, bs (putZ (SRec.kind r) ++ putZ (SRec.leader r) ++ putZ (SRec.view r)))], decide ((4194304 : Int) < (↑(List.length (putZ (SRec.kind r) ++ putZ (SRec.leader r) ++ putZ (SRec.view r))) : Int)) = true, nat_lit 0 = (0 : Nat), q (3 : Int)]) : Option (V × Heap × List Prop)) := by kernel_rfl

theorem bdPe5_p00000 (r : SRec) (t : SMsg) (s : ByteArray) :
  along Tryz.prog (bdPe5 r t s) [false, false, false, false, false] = some (V.tup [V.ros (1 : Nat) (List.length (putZ (SRec.kind r) ++ textB s)) (bl (putZ (SRec.kind r) ++ textB s)) false, V.int IntKind.i64 (0 : Int)], [], [T Tryz.prog (22 : Nat) [V.agg (SRec.c r)] [] (V.bool true) [], false = false, T Tryz.prog (74 : Nat) [V.snil, V.int IntKind.i64 (SRec.kind r)] [] (sb (Nm.o (nat_lit 512)) (putZ (SRec.kind r))) [(Nm.o (nat_lit 512), bs (putZ (SRec.kind r)))], decide (SRec.kind r = (1 : Int)) = false, decide (SRec.kind r = (3 : Int)) = false, T Tryz.prog (76 : Nat) [V.agg (SRec.c r)] [] (V.agg (SMsg.c t)) [], T Tryz.prog (8 : Nat) [V.agg (SMsg.c t)] [] (V.tup [V.str s, V.int IntKind.i64 (0 : Int)]) [], false = false, T Tryz.prog (77 : Nat) [V.sl (Nm.o (nat_lit 512)) (1 : Nat) (0 : Nat) (0 : Nat) (0 : Nat) (List.length (putZ (SRec.kind r))) none, V.str s] [(Nm.o (nat_lit 512), bs (putZ (SRec.kind r)))] (sb (Nm.o (nat_lit 1792)) (putZ (SRec.kind r) ++ textB s)) [(Nm.o (nat_lit 1792), bs (putZ (SRec.kind r) ++ textB s))], decide ((4194304 : Int) < (↑(List.length (putZ (SRec.kind r) ++ textB s)) : Int)) = false, List.length (putZ (SRec.kind r) ++ textB s) = List.length (putZ (SRec.kind r) ++ textB s), (0 : Nat) + List.length (putZ (SRec.kind r) ++ textB s) ≤ List.length (putZ (SRec.kind r) ++ textB s), ∀ (k : Nat), k < List.length (putZ (SRec.kind r) ++ textB s) → bl (putZ (SRec.kind r) ++ textB s) ((0 : Nat) + k) = bl (putZ (SRec.kind r) ++ textB s) k, false = true → none = some (List.length (putZ (SRec.kind r) ++ textB s)), (0 : Int) = (0 : Int)]) := by kernel_rfl

theorem bdPe5L_p00001 (r : SRec) (t : SMsg) (s : ByteArray) :
  along Tryz.prog (bdPe5L r t s) [false, false, false, false, true] = (some (.tup [.ros 1 0 (bl []) false, .int .i64 3], [], [T Tryz.prog 22 [.agg (SRec.c r)] [] (.bool true) [], q false, T Tryz.prog 74 [.snil, .int .i64 (SRec.kind r)] [] (sb (.o 512) (putZ (SRec.kind r))) [(.o 512, bs (putZ (SRec.kind r)))], decide (SRec.kind r = (1 : Int)) = false, decide (SRec.kind r = (3 : Int)) = false, T Tryz.prog 76 [.agg (SRec.c r)] [] (.agg (SMsg.c t)) [], T Tryz.prog 8 [.agg (SMsg.c t)] [] (.tup [.str s, .int .i64 0]) [], q false, T Tryz.prog 77 [.sl (.o 512) 1 0 0 0 (List.length (putZ (SRec.kind r))) none, .str s] [(.o 512, bs (putZ (SRec.kind r)))] (sb (.o 1792) (putZ (SRec.kind r) ++ textB s)) [(.o 1792, bs (putZ (SRec.kind r) ++ textB s))], decide ((4194304 : Int) < (↑(List.length (putZ (SRec.kind r) ++ textB s)) : Int)) = true, nat_lit 0 = (0 : Nat), q (3 : Int)]) : Option (V × Heap × List Prop)) := by kernel_rfl

theorem bdPe5E_p0001 (r : SRec) (t : SMsg) (s : ByteArray) (e2 : Int) :
  along Tryz.prog (bdPe5E r t s e2) [false, false, false, true] = (some (.tup [.ros 1 0 (bl []) false, .int .i64 e2], [], [T Tryz.prog 22 [.agg (SRec.c r)] [] (.bool true) [], q false, T Tryz.prog 74 [.snil, .int .i64 (SRec.kind r)] [] (sb (.o 512) (putZ (SRec.kind r))) [(.o 512, bs (putZ (SRec.kind r)))], decide (SRec.kind r = (1 : Int)) = false, decide (SRec.kind r = (3 : Int)) = false, T Tryz.prog 76 [.agg (SRec.c r)] [] (.agg (SMsg.c t)) [], T Tryz.prog 8 [.agg (SMsg.c t)] [] (.tup [.str s, .int .i64 e2]) [], (!decide (e2 = (0 : Int))) = true, nat_lit 0 = (0 : Nat), q e2]) : Option (V × Heap × List Prop)) := by kernel_rfl

theorem encE_zero {m : SMsg} (h : encE m = 0) : goodS m = true ∧ (encB m).length ≤ 4194304 ∧ encT m = baL (encB m) := by
 have h' := h
 unfold encE at h
 split at h
 ·rename_i h1
  split at h
  ·cases h
  ·rename_i h2
   exact ⟨h1, by omega, by rw [encT, if_pos h']⟩
 ·cases h
structure GoodP (m : SMsg) : Prop where
 slot : 0 ≤ m.slot ∧ m.slot ≤ 1099511627776
 leader : 0 ≤ m.leader ∧ m.leader ≤ 64
 batch : mayBatchS m.batch = true
theorem good_parts {m : SMsg} (h : goodS m = true) : GoodP m := by
 simp only [goodS, Bool.and_eq_true, decide_eq_true_eq, upto_iff] at h
 obtain ⟨h1, h2, h3, h4, h5, h6, h7, h8, h9, h10, h11⟩ := h
 exact ⟨h7, h9, h10⟩
theorem strB_baL (l : List UInt8) : strB (baL l) = l := rfl
theorem bytes_le {m : SMsg} (h : encE m = 0) : (encT m).size ≤ 4194304 := by
 obtain ⟨_, h2, h3⟩ := encE_zero h
 rw [h3, ← strB_len, strB_baL]; exact h2
structure segRec (r : SRec) : Prop where
 batch : segBatch r.batch
 cert : segCert r.cert
 sig : ∀ i, i < r.n → SegOk 16 (r.sig i).tag
theorem segTold {r : SRec} (h : segRec r) : segMsg (toldS r) := by
 have z : ∀ {p : Nat → Prop}, ∀ i, i < 0 → p i := fun i hi => absurd hi (Nat.not_lt_zero i)
 unfold toldS
 repeat' split
 ·exact ⟨h.batch, seg32, z, z, seg32, ⟨seg32, z⟩, z⟩
 ·exact ⟨z, seg32, z, z, seg32, ⟨seg32, z⟩, z⟩
 ·exact ⟨z, seg32, z, z, seg32, ⟨seg32, z⟩, h.sig⟩
 ·exact ⟨h.batch, seg32, z, z, seg32, h.cert, z⟩
theorem goodR_parts {r : SRec} (h : goodRS r = true) : (1 ≤ r.kind ∧ r.kind ≤ 5) ∧ sameRecS r (onlyRS r) = true ∧ goodS (toldS r) = true ∧ 0 ≤ r.view ∧ r.view ≤ 1099511627776 := by
 simp only [goodRS, Bool.and_eq_true, decide_eq_true_eq] at h
 exact ⟨⟨h.1, h.2.1⟩, h.2.2.1, h.2.2.2.1, h.2.2.2.2.1, h.2.2.2.2.2⟩
theorem T_recE {r : SRec} (hf : FitRec r) (ht : segRec r) : T Tryz.prog 20 [.agg r.c] [] (.tup [roB (recT r), .int .i64 (recE r)]) [] := by
 have hG := T_rg hf
 cases hg : goodRS r with
 | false =>
  rw [hg] at hG
  have e : recE r = 240 := by rw [recE, hg]; rfl
  have e2 : recT r = [] := by rw [recT, e]; rfl
  rw [e, e2]
  refine T_al (bdPeG_p1 r) Tryz.func20 ?_
  simp only [All]; and_intros
  all_goals first
   | exact hG
   | trivial
   | rfl
 | true =>
  rw [hg] at hG
  obtain ⟨hk, _, ht2, hv⟩ := goodR_parts hg
  have g := good_parts ht2
  have hview : num63 r.view := num63_of hv (by decide)
  by_cases h1 : r.kind = 1
  ·have eT : toldS r = to1 r := by rw [toldS, if_pos h1]
   rw [eT] at g
   have hslot : num63 r.slot := num63_of g.slot (by decide)
   have hb : BatchOk r.batch := batchOk_of g.batch ht.batch
   have hkind : num63 r.kind := ⟨by omega, by omega⟩
   have lb := batchB_len hb
   have l1 := putZ_len hkind
   have l2 := putZ_len hslot
   have l3 := putZ_len hview
   have eB : recB r = putZ r.kind ++ putZ r.slot ++ putZ r.view ++ batchB r.batch := by rw [recB, if_pos h1]
   have p1 := T_putNil hkind (m := 512)
   by_cases hl : 4194304 < (recB r).length
   ·have e : recE r = 3 := by rw [recE, hg, if_pos rfl, if_pos (.inl (.inl h1)), if_pos hl]
    have e2 : recT r = [] := by rw [recT, e]; rfl
    rw [e, e2]
    rw [eB] at hl
    refine T_al (bdPe1L_p011 r) Tryz.func20 ?_
    simp only [All]; and_intros
    all_goals first
     | exact hG
     | exact T_putNil hkind
     | exact T_put hslot (by omega) (by decide)
     | exact T_put hview (by simp only [List.length_append]; omega) (by decide)
     | exact T_bp (by simp only [List.length_append]; omega) hb (by decide)
     | (rw [decide_eq_true_eq]; omega)
     | trivial
     | rfl
   ·have e : recE r = 0 := by rw [recE, hg, if_pos rfl, if_pos (.inl (.inl h1)), if_neg hl]
    have e2 : recT r = recB r := by rw [recT, if_pos e]
    rw [e, e2, eB]
    rw [eB] at hl
    refine T_al (bdPe1_p010 r) Tryz.func20 ?_
    simp only [All]; and_intros
    all_goals first
     | exact hG
     | exact T_putNil hkind
     | exact T_put hslot (by omega) (by decide)
     | exact T_put hview (by simp only [List.length_append]; omega) (by decide)
     | exact T_bp (by simp only [List.length_append]; omega) hb (by decide)
     | (rw [decide_eq_true_eq]; omega)
     | (rw [decide_eq_false_iff_not]; omega)
     | trivial
     | rfl
     | (intro _ _; trivial)
     | (intro k _; rw [Nat.zero_add])
     | (simp; done)
     | (intro _ _; rfl)
     | (simp [h1]; done)
  by_cases h3 : r.kind = 3
  ·have eT : toldS r = to3 r := by rw [toldS, if_neg h1, if_pos h3]
   rw [eT] at g
   have hlead : num63 r.leader := num63_of g.leader (by decide)
   have hkind : num63 r.kind := ⟨by omega, by omega⟩
   have l1 := putZ_len hkind
   have l2 := putZ_len hlead
   have l3 := putZ_len hview
   have eB : recB r = putZ r.kind ++ putZ r.leader ++ putZ r.view := by rw [recB, if_neg h1, if_pos h3]
   have hl : ¬ 4194304 < (recB r).length := by rw [eB]; simp only [List.length_append]; omega
   have e : recE r = 0 := by rw [recE, hg, if_pos rfl, if_pos (.inl (.inr h3)), if_neg hl]
   have e2 : recT r = recB r := by rw [recT, if_pos e]
   rw [e, e2, eB]
   rw [eB] at hl
   refine T_al (bdPe3_p0010 r) Tryz.func20 ?_
   simp only [All]; and_intros
   all_goals first
    | exact hG
    | exact T_putNil hkind
    | exact T_put hlead (by omega) (by decide)
    | exact T_put hview (by simp only [List.length_append]; omega) (by decide)
    | (rw [decide_eq_true_eq]; omega)
    | (rw [decide_eq_false_iff_not]; omega)
    | trivial
    | rfl
    | (intro _ _; trivial)
    | (intro _ _; rfl)
    | (simp [h3]; done)
  have hkind : num63 r.kind := ⟨by omega, by omega⟩
  have l1 := putZ_len hkind
  have eB : recB r = putZ r.kind ++ textB (encT (toldS r)) := by rw [recB, if_neg h1, if_neg h3]
  have hT := T_to r
  have hE := T_encG (fitM_told hf) (segTold ht)
  have hn13 : ¬ (r.kind = 1 ∨ r.kind = 3) := fun h => h.elim h1 h3
  by_cases h0 : encE (toldS r) = 0
  ·rw [h0] at hE
   have hs := bytes_le h0
   by_cases hl : 4194304 < (recB r).length
   ·have e : recE r = 3 := by rw [recE, hg, if_pos rfl, if_pos (.inr h0), if_pos hl]
    have e2 : recT r = [] := by rw [recT, e]; rfl
    rw [e, e2]
    rw [eB] at hl
    refine T_al (bdPe5L_p00001 r (toldS r) (encT (toldS r))) Tryz.func20 ?_
    simp only [All]; and_intros
    all_goals first
     | exact hG
     | exact hT
     | exact hE
     | exact T_putNil hkind
     | exact T_text (by omega) (by omega) (by decide)
     | (rw [decide_eq_true_eq]; omega)
     | (rw [decide_eq_false_iff_not]; omega)
     | trivial
     | rfl
   ·have e : recE r = 0 := by rw [recE, hg, if_pos rfl, if_pos (.inr h0), if_neg hl]
    have e2 : recT r = recB r := by rw [recT, if_pos e]
    rw [e, e2, eB]
    rw [eB] at hl
    refine T_al (bdPe5_p00000 r (toldS r) (encT (toldS r))) Tryz.func20 ?_
    simp only [All]; and_intros
    all_goals first
     | exact hG
     | exact hT
     | exact hE
     | exact T_putNil hkind
     | exact T_text (by omega) (by omega) (by decide)
     | (rw [decide_eq_true_eq]; omega)
     | (rw [decide_eq_false_iff_not]; omega)
     | trivial
     | rfl
     | (intro _ _; trivial)
     | (intro k _; rw [Nat.zero_add])
     | (simp; done)
     | (intro _ _; rfl)
  ·have e : recE r = encE (toldS r) := by rw [recE, hg, if_pos rfl, if_neg (fun h => h.elim hn13 h0)]
   have e2 : recT r = [] := by rw [recT, if_neg (by rw [e]; exact h0)]
   rw [e, e2]
   refine T_al (bdPe5E_p0001 r (toldS r) (encT (toldS r)) (encE (toldS r))) Tryz.func20 ?_
   simp only [All]; and_intros
   all_goals first
    | exact hG
    | exact hT
    | exact hE
    | exact T_putNil hkind
    | (rw [decide_eq_false_iff_not]; omega)
    | exact neg_f' (decide_eq_false h0)
    | trivial
    | rfl
end Go.Proofs.YthifjamdfpjilaaGreat
namespace Go.Proofs.YthifjamdfpjilaaGreat
open Go Sy Go.Proofs
noncomputable def bdQo (r o : SRec) : Bd := { f := Tryz.f83, args := [.agg r.c], kb := kb0, k := kCl o.c }
noncomputable def bdQo1 (r : SRec) : Bd := bdQo r (ro1 r)
noncomputable def bdQo3 (r : SRec) : Bd := bdQo r (ro3 r)
noncomputable def bdQo5 (r : SRec) : Bd := bdQo r (ro5 r)
noncomputable def bdQo2 (r : SRec) : Bd := bdQo r (ro2 r)
noncomputable def bdQo9 (r : SRec) : Bd := bdQo r (ro9 r)
noncomputable def bdQt (r : SRec) (o : SMsg) : Bd := { f := Tryz.f80, args := [.agg r.c], kb := kb0, k := kCl o.c }
noncomputable def bdQt1 (r : SRec) : Bd := bdQt r (to1 r)
noncomputable def bdQt3 (r : SRec) : Bd := bdQt r (to3 r)
noncomputable def bdQt5 (r : SRec) : Bd := bdQt r (to5 r)
noncomputable def bdQt7 (r : SRec) : Bd := bdQt r (to7 r)
noncomputable def bdQg (r o : SRec) (t : SMsg) : Bd := { f := Tryz.f23, args := [.agg r.c], kb := { db := dbV [(83, .agg o.c), (25, .bool (sameRecS r o)), (80, .agg t.c), (11, .bool (goodS t))] } }
noncomputable def bdQe (r : SRec) (g : Bool) (t : SMsg) (s : ByteArray) (e2 : Int) (l : List UInt8) (e : Int) : Bd := { f := Tryz.f21, args := [.agg r.c], kb := { db := dbSeqF 0 [(23, 4, cVal (.bool g)), (78, 8, cN (putZ r.kind)), (78, 17, cN (putZ r.kind ++ putZ r.slot)), (78, 20, cN (putZ r.kind ++ putZ r.slot ++ putZ r.view)), (79, 23, cN (putZ r.kind ++ putZ r.slot ++ putZ r.view ++ batchB r.batch)), (78, 19, cN (putZ r.kind ++ putZ r.leader)), (78, 22, cN (putZ r.kind ++ putZ r.leader ++ putZ r.view)), (80, 17, cVal (.agg t.c)), (9, 18, cVal (.tup [.str s, .int .i64 e2])), (81, 28, cN (putZ r.kind ++ textB s))] }, k := kRe l e }
noncomputable def bdQeG (r : SRec) : Bd := bdQe r false {} .empty 0 [] 240
noncomputable def bdQe1 (r : SRec) : Bd := bdQe r true {} .empty 0 (putZ r.kind ++ putZ r.slot ++ putZ r.view ++ batchB r.batch) 0
noncomputable def bdQe1L (r : SRec) : Bd := bdQe r true {} .empty 0 [] 3
noncomputable def bdQe3 (r : SRec) : Bd := bdQe r true {} .empty 0 (putZ r.kind ++ putZ r.leader ++ putZ r.view) 0
noncomputable def bdQe3L (r : SRec) : Bd := bdQe r true {} .empty 0 [] 3
noncomputable def bdQe5 (r : SRec) (t : SMsg) (s : ByteArray) : Bd := bdQe r true t s 0 (putZ r.kind ++ textB s) 0
noncomputable def bdQe5L (r : SRec) (t : SMsg) (s : ByteArray) : Bd := bdQe r true t s 0 [] 3
noncomputable def bdQe5E (r : SRec) (t : SMsg) (s : ByteArray) (e2 : Int) : Bd := bdQe r true t s e2 [] 3
end Go.Proofs.YthifjamdfpjilaaGreat
namespace Go.Proofs.YthifjamdfpjilaaGreat
open Go Sy Go.Proofs
theorem bdQo1_p1 (r : SRec) :
  along Tryz.prog (bdQo1 r) [true] = (some (.agg [.int .i64 (SRec.kind r), .int .i64 0, .int .i64 (SRec.view r), .int .i64 (SRec.slot r), .bool (SBatch.noop (SRec.batch r)), rq (SBatch.n (SRec.batch r)) (SBatch.req (SRec.batch r)), .int .i64 0, .int .i64 0, .int .i64 0, .int .i64 0, .seg .u8 32 z32, sg 0 fun x => SSign.mk (0 : Int) [], .str ByteArray.empty, sg 0 fun x => SSign.mk (0 : Int) []], [], [decide (SRec.kind r = (1 : Int)) = true, q (SRec.kind r), q1, q (SRec.view r), q (SRec.slot r), q (SBatch.noop (SRec.batch r)), q (SBatch.n (SRec.batch r)), ∀ (k : Nat), k < SBatch.n (SRec.batch r) → SReq.c (SBatch.req (SRec.batch r) k) = SReq.c (SBatch.req (SRec.batch r) k), false = true → false = true, q1, q1, q1, q1, q (32 : Nat), q z32, q0, q ByteArray.empty, q0, q0, q0, q0]) : Option (V × Heap × List Prop)) := by kernel_rfl

theorem bdQo3_p0001 (r : SRec) :
  along Tryz.prog (bdQo3 r) [false, false, false, true] = (some (.agg [.int .i64 (SRec.kind r), .int .i64 (SRec.leader r), .int .i64 (SRec.view r), .int .i64 0, .bool false, rq 0 fun x => SReq.mk (0 : Int) (0 : Int) ByteArray.empty [], .int .i64 0, .int .i64 0, .int .i64 0, .int .i64 0, .seg .u8 32 z32, sg 0 fun x => SSign.mk (0 : Int) [], .str ByteArray.empty, sg 0 fun x => SSign.mk (0 : Int) []], [], [decide (SRec.kind r = (1 : Int)) = false, decide (SRec.kind r = (2 : Int)) = false, decide (SRec.kind r = (4 : Int)) = false, decide (SRec.kind r = (3 : Int)) = true, q (SRec.kind r), q (SRec.leader r), q (SRec.view r), q1, q false, q0, q1, q1, q1, q1, q (32 : Nat), q z32, q0, q ByteArray.empty, q0, q0, q0, q0]) : Option (V × Heap × List Prop)) := by kernel_rfl

theorem bdQo5_p00001 (r : SRec) :
  along Tryz.prog (bdQo5 r) [false, false, false, false, true] = (some (.agg [.int .i64 (SRec.kind r), .int .i64 0, .int .i64 0, .int .i64 0, .bool false, rq 0 fun x => SReq.mk (0 : Int) (0 : Int) ByteArray.empty [], .int .i64 0, .int .i64 0, .int .i64 0, .int .i64 0, .seg .u8 32 z32, sg 0 fun x => SSign.mk (0 : Int) [], .str (SRec.state r), sg (SRec.n r) (SRec.sig r)], [], [decide (SRec.kind r = (1 : Int)) = false, decide (SRec.kind r = (2 : Int)) = false, decide (SRec.kind r = (4 : Int)) = false, decide (SRec.kind r = (3 : Int)) = false, decide (SRec.kind r = (5 : Int)) = true, q (SRec.kind r), q1, q1, q1, q false, q0, q1, q1, q1, q1, q (32 : Nat), q z32, q0, q (SRec.state r), q (SRec.n r), ∀ (k : Nat), k < SRec.n r → SSign.c (SRec.sig r k) = SSign.c (SRec.sig (SRec.mk (SRec.kind r) (0 : Int) (0 : Int) (0 : Int) (SBatch.mk false (0 : Nat) fun x => SReq.mk (0 : Int) (0 : Int) ByteArray.empty []) (SCert.mk vote0 (0 : Nat) fun x => SSign.mk (0 : Int) []) (SRec.state r) (SRec.n r) (SRec.sig r)) k), false = true → false = true, q0, q0, q0]) : Option (V × Heap × List Prop)) := by kernel_rfl

theorem bdQo2_p011 (r : SRec) :
  along Tryz.prog (bdQo2 r) [false, true, true] = (some (.agg [.int .i64 (SRec.kind r), .int .i64 0, .int .i64 0, .int .i64 0, .bool (SBatch.noop (SRec.batch r)), rq (SBatch.n (SRec.batch r)) (SBatch.req (SRec.batch r)), .int .i64 (SVote.kind (SCert.vote (SRec.cert r))), .int .i64 (SVote.epoch (SCert.vote (SRec.cert r))), .int .i64 (SVote.view (SCert.vote (SRec.cert r))), .int .i64 (SVote.slot (SCert.vote (SRec.cert r))), .seg .u8 32 (SVote.digest (SCert.vote (SRec.cert r))), sg (SCert.n (SRec.cert r)) (SCert.sig (SRec.cert r)), .str ByteArray.empty, sg 0 fun x => SSign.mk (0 : Int) []], [], [decide (SRec.kind r = (1 : Int)) = false, decide (SRec.kind r = (2 : Int)) = true, decide (SRec.kind r = (2 : Int)) = true, q (SRec.kind r), q1, q1, q1, q (SBatch.noop (SRec.batch r)), q (SBatch.n (SRec.batch r)), ∀ (k : Nat), k < SBatch.n (SRec.batch r) → SReq.c (SBatch.req (SRec.batch r) k) = SReq.c (SBatch.req (SRec.batch r) k), false = true → false = true, q (SVote.kind (SCert.vote (SRec.cert r))), q (SVote.epoch (SCert.vote (SRec.cert r))), q (SVote.view (SCert.vote (SRec.cert r))), q (SVote.slot (SCert.vote (SRec.cert r))), q (32 : Nat), q (SVote.digest (SCert.vote (SRec.cert r))), q (SCert.n (SRec.cert r)), ∀ (k : Nat), k < SCert.n (SRec.cert r) → SSign.c (SCert.sig (SRec.cert r) k) = SSign.c (SCert.sig (SRec.cert r) k), false = true → false = true, q ByteArray.empty, q0, q0, q0, q0]) : Option (V × Heap × List Prop)) := by kernel_rfl

theorem bdQo2_p001 (r : SRec) :
  along Tryz.prog (bdQo2 r) [false, false, true] = (some (.agg [.int .i64 (SRec.kind r), .int .i64 0, .int .i64 0, .int .i64 0, .bool (SBatch.noop (SRec.batch r)), rq (SBatch.n (SRec.batch r)) (SBatch.req (SRec.batch r)), .int .i64 (SVote.kind (SCert.vote (SRec.cert r))), .int .i64 (SVote.epoch (SCert.vote (SRec.cert r))), .int .i64 (SVote.view (SCert.vote (SRec.cert r))), .int .i64 (SVote.slot (SCert.vote (SRec.cert r))), .seg .u8 32 (SVote.digest (SCert.vote (SRec.cert r))), sg (SCert.n (SRec.cert r)) (SCert.sig (SRec.cert r)), .str ByteArray.empty, sg 0 fun x => SSign.mk (0 : Int) []], [], [decide (SRec.kind r = (1 : Int)) = false, decide (SRec.kind r = (2 : Int)) = false, decide (SRec.kind r = (4 : Int)) = true, q (SRec.kind r), q1, q1, q1, q (SBatch.noop (SRec.batch r)), q (SBatch.n (SRec.batch r)), ∀ (k : Nat), k < SBatch.n (SRec.batch r) → SReq.c (SBatch.req (SRec.batch r) k) = SReq.c (SBatch.req (SRec.batch r) k), false = true → false = true, q (SVote.kind (SCert.vote (SRec.cert r))), q (SVote.epoch (SCert.vote (SRec.cert r))), q (SVote.view (SCert.vote (SRec.cert r))), q (SVote.slot (SCert.vote (SRec.cert r))), q (32 : Nat), q (SVote.digest (SCert.vote (SRec.cert r))), q (SCert.n (SRec.cert r)), ∀ (k : Nat), k < SCert.n (SRec.cert r) → SSign.c (SCert.sig (SRec.cert r) k) = SSign.c (SCert.sig (SRec.cert r) k), false = true → false = true, q ByteArray.empty, q0, q0, q0, q0]) : Option (V × Heap × List Prop)) := by kernel_rfl

theorem bdQo9_p00000 (r : SRec) :
  along Tryz.prog (bdQo9 r) [false, false, false, false, false] = (some (.agg [.int .i64 (SRec.kind r), .int .i64 0, .int .i64 0, .int .i64 0, .bool false, rq 0 fun x => SReq.mk (0 : Int) (0 : Int) ByteArray.empty [], .int .i64 0, .int .i64 0, .int .i64 0, .int .i64 0, .seg .u8 32 z32, sg 0 fun x => SSign.mk (0 : Int) [], .str ByteArray.empty, sg 0 fun x => SSign.mk (0 : Int) []], [], [decide (SRec.kind r = (1 : Int)) = false, decide (SRec.kind r = (2 : Int)) = false, decide (SRec.kind r = (4 : Int)) = false, decide (SRec.kind r = (3 : Int)) = false, decide (SRec.kind r = (5 : Int)) = false, q (SRec.kind r), q1, q1, q1, q false, q0, q1, q1, q1, q1, q (32 : Nat), q z32, q0, q ByteArray.empty, q0, q0, q0, q0]) : Option (V × Heap × List Prop)) := by kernel_rfl

theorem bdQt1_p1 (r : SRec) :
  along Tryz.prog (bdQt1 r) [true] = (some (.agg [.int .i64 1, .int .i64 0, .int .i64 0, .int .i64 0, .int .i64 (SRec.slot r), .bool (SBatch.noop (SRec.batch r)), rq (SBatch.n (SRec.batch r)) (SBatch.req (SRec.batch r)), .int .i64 0, .int .i64 0, .int .i64 0, .int .i64 0, .seg .u8 32 z32, .int .i64 0, .int .i64 0, .int .i64 0, hl 0 fun x => SHeld.mk (SBatch.mk false 0 fun x => SReq.mk (0 : Int) (0 : Int) ByteArray.empty []) (SCert.mk (SVote.mk (0 : Int) (0 : Int) (0 : Int) (0 : Int) []) 0 fun x => SSign.mk (0 : Int) []), nw 0 fun x => SEnv.mk (0 : Int) ByteArray.empty [], .seg .u8 32 z32, .int .i64 0, .int .i64 0, .int .i64 0, .int .i64 0, .seg .u8 32 z32, sg 0 fun x => SSign.mk (0 : Int) [], .str ByteArray.empty, sg 0 fun x => SSign.mk (0 : Int) []], [], [decide (SRec.kind r = (1 : Int)) = true, q (1 : Int), q1, q1, q1, q (SRec.slot r), q (SBatch.noop (SRec.batch r)), q (SBatch.n (SRec.batch r)), ∀ (k : Nat), k < SBatch.n (SRec.batch r) → SReq.c (SBatch.req (SRec.batch r) k) = SReq.c (SBatch.req (SRec.batch r) k), false = true → false = true, q1, q1, q1, q1, q (32 : Nat), q z32, q1, q1, q1, q0, q0, q (32 : Nat), q z32, q1, q1, q1, q1, q (32 : Nat), q z32, q0, q ByteArray.empty, q0, q0, q0, q0]) : Option (V × Heap × List Prop)) := by kernel_rfl

theorem bdQt3_p01 (r : SRec) :
  along Tryz.prog (bdQt3 r) [false, true] = (some (.agg [.int .i64 4, .int .i64 0, .int .i64 (SRec.leader r), .int .i64 (SRec.view r), .int .i64 0, .bool false, rq 0 fun x => SReq.mk (0 : Int) (0 : Int) ByteArray.empty [], .int .i64 0, .int .i64 0, .int .i64 0, .int .i64 0, .seg .u8 32 z32, .int .i64 0, .int .i64 0, .int .i64 0, hl 0 fun x => SHeld.mk (SBatch.mk false 0 fun x => SReq.mk (0 : Int) (0 : Int) ByteArray.empty []) (SCert.mk (SVote.mk (0 : Int) (0 : Int) (0 : Int) (0 : Int) []) 0 fun x => SSign.mk (0 : Int) []), nw 0 fun x => SEnv.mk (0 : Int) ByteArray.empty [], .seg .u8 32 z32, .int .i64 0, .int .i64 0, .int .i64 0, .int .i64 0, .seg .u8 32 z32, sg 0 fun x => SSign.mk (0 : Int) [], .str ByteArray.empty, sg 0 fun x => SSign.mk (0 : Int) []], [], [decide (SRec.kind r = (1 : Int)) = false, decide (SRec.kind r = (3 : Int)) = true, q (4 : Int), q1, q (SRec.leader r), q (SRec.view r), q1, q false, q0, q1, q1, q1, q1, q (32 : Nat), q z32, q1, q1, q1, q0, q0, q (32 : Nat), q z32, q1, q1, q1, q1, q (32 : Nat), q z32, q0, q ByteArray.empty, q0, q0, q0, q0]) : Option (V × Heap × List Prop)) := by kernel_rfl

theorem bdQt5_p001 (r : SRec) :
  along Tryz.prog (bdQt5 r) [false, false, true] = (some (.agg [.int .i64 8, .int .i64 0, .int .i64 0, .int .i64 0, .int .i64 0, .bool false, rq 0 fun x => SReq.mk (0 : Int) (0 : Int) ByteArray.empty [], .int .i64 0, .int .i64 0, .int .i64 0, .int .i64 0, .seg .u8 32 z32, .int .i64 0, .int .i64 0, .int .i64 0, hl 0 fun x => SHeld.mk (SBatch.mk false 0 fun x => SReq.mk (0 : Int) (0 : Int) ByteArray.empty []) (SCert.mk (SVote.mk (0 : Int) (0 : Int) (0 : Int) (0 : Int) []) 0 fun x => SSign.mk (0 : Int) []), nw 0 fun x => SEnv.mk (0 : Int) ByteArray.empty [], .seg .u8 32 z32, .int .i64 0, .int .i64 0, .int .i64 0, .int .i64 0, .seg .u8 32 z32, sg 0 fun x => SSign.mk (0 : Int) [], .str (SRec.state r), sg (SRec.n r) (SRec.sig r)], [], [decide (SRec.kind r = (1 : Int)) = false, decide (SRec.kind r = (3 : Int)) = false, decide (SRec.kind r = (5 : Int)) = true, q (8 : Int), q1, q1, q1, q1, q false, q0, q1, q1, q1, q1, q (32 : Nat), q z32, q1, q1, q1, q0, q0, q (32 : Nat), q z32, q1, q1, q1, q1, q (32 : Nat), q z32, q0, q (SRec.state r), q (SRec.n r), ∀ (k : Nat), k < SRec.n r → SSign.c (SRec.sig r k) = SSign.c (SMsg.sig (SMsg.mk (8 : Int) (0 : Int) (0 : Int) (0 : Int) (0 : Int) (SBatch.mk false (0 : Nat) fun x => SReq.mk (0 : Int) (0 : Int) ByteArray.empty []) vote0 (0 : Int) (0 : Int) (0 : Int) (0 : Nat) (fun x => SHeld.mk (SBatch.mk false (0 : Nat) fun x => SReq.mk (0 : Int) (0 : Int) ByteArray.empty []) (SCert.mk (SVote.mk (0 : Int) (0 : Int) (0 : Int) (0 : Int) []) (0 : Nat) fun x => SSign.mk (0 : Int) [])) (0 : Nat) (fun x => SEnv.mk (0 : Int) ByteArray.empty []) z32 (SCert.mk vote0 (0 : Nat) fun x => SSign.mk (0 : Int) []) (SRec.state r) (SRec.n r) (SRec.sig r)) k), false = true → false = true, q0, q0, q0]) : Option (V × Heap × List Prop)) := by kernel_rfl

theorem bdQt7_p000 (r : SRec) :
  along Tryz.prog (bdQt7 r) [false, false, false] = (some (.agg [.int .i64 7, .int .i64 0, .int .i64 0, .int .i64 0, .int .i64 0, .bool (SBatch.noop (SRec.batch r)), rq (SBatch.n (SRec.batch r)) (SBatch.req (SRec.batch r)), .int .i64 0, .int .i64 0, .int .i64 0, .int .i64 0, .seg .u8 32 z32, .int .i64 0, .int .i64 0, .int .i64 0, hl 0 fun x => SHeld.mk (SBatch.mk false 0 fun x => SReq.mk (0 : Int) (0 : Int) ByteArray.empty []) (SCert.mk (SVote.mk (0 : Int) (0 : Int) (0 : Int) (0 : Int) []) 0 fun x => SSign.mk (0 : Int) []), nw 0 fun x => SEnv.mk (0 : Int) ByteArray.empty [], .seg .u8 32 z32, .int .i64 (SVote.kind (SCert.vote (SRec.cert r))), .int .i64 (SVote.epoch (SCert.vote (SRec.cert r))), .int .i64 (SVote.view (SCert.vote (SRec.cert r))), .int .i64 (SVote.slot (SCert.vote (SRec.cert r))), .seg .u8 32 (SVote.digest (SCert.vote (SRec.cert r))), sg (SCert.n (SRec.cert r)) (SCert.sig (SRec.cert r)), .str ByteArray.empty, sg 0 fun x => SSign.mk (0 : Int) []], [], [decide (SRec.kind r = (1 : Int)) = false, decide (SRec.kind r = (3 : Int)) = false, decide (SRec.kind r = (5 : Int)) = false, q (7 : Int), q1, q1, q1, q1, q (SBatch.noop (SRec.batch r)), q (SBatch.n (SRec.batch r)), ∀ (k : Nat), k < SBatch.n (SRec.batch r) → SReq.c (SBatch.req (SRec.batch r) k) = SReq.c (SBatch.req (SRec.batch r) k), false = true → false = true, q1, q1, q1, q1, q (32 : Nat), q z32, q1, q1, q1, q0, q0, q (32 : Nat), q z32, q (SVote.kind (SCert.vote (SRec.cert r))), q (SVote.epoch (SCert.vote (SRec.cert r))), q (SVote.view (SCert.vote (SRec.cert r))), q (SVote.slot (SCert.vote (SRec.cert r))), q (32 : Nat), q (SVote.digest (SCert.vote (SRec.cert r))), q (SCert.n (SRec.cert r)), ∀ (k : Nat), k < SCert.n (SRec.cert r) → SSign.c (SCert.sig (SRec.cert r) k) = SSign.c (SCert.sig (SRec.cert r) k), false = true → false = true, q ByteArray.empty, q0, q0, q0, q0]) : Option (V × Heap × List Prop)) := by kernel_rfl

noncomputable def bdQg_c (r : SRec) (o : SRec) (t : SMsg) : Nat → List Prop
 | 0 => [decide (SRec.kind r ≤ (5 : Int)) = true, T Tryz.prog 83 [.agg (SRec.c r)] [] (.agg (SRec.c o)) [], T Tryz.prog 25 [.agg (SRec.c r), .agg (SRec.c o)] [] (.bool (sameRecS r o)) []]
 | 1 => [sameRecS r o = true, T Tryz.prog 80 [.agg (SRec.c r)] [] (.agg (SMsg.c t)) [], T Tryz.prog 11 [.agg (SMsg.c t)] [] (.bool (goodS t)) []]
 | _ => []
theorem bdQg_p11111 (r : SRec) (o : SRec) (t : SMsg) :
 along Tryz.prog (bdQg r o t) [true, true, true, true, true] = (some (.bool (decide (SRec.view r ≤ (1099511627776 : Int))), [], [decide ((1 : Int) ≤ SRec.kind r) = true] ++ (bdQg_c r o t 0 ++ (bdQg_c r o t 1 ++ [goodS t = true, decide ((0 : Int) ≤ SRec.view r) = true]))) : Option (V × Heap × List Prop)) := by kernel_rfl
theorem bdQg_p11110 (r : SRec) (o : SRec) (t : SMsg) :
 along Tryz.prog (bdQg r o t) [true, true, true, true, false] = (some (.bool false, [], [decide ((1 : Int) ≤ SRec.kind r) = true] ++ (bdQg_c r o t 0 ++ (bdQg_c r o t 1 ++ [goodS t = true, decide ((0 : Int) ≤ SRec.view r) = false]))) : Option (V × Heap × List Prop)) := by kernel_rfl
theorem bdQg_p11100 (r : SRec) (o : SRec) (t : SMsg) :
 along Tryz.prog (bdQg r o t) [true, true, true, false, false] = (some (.bool false, [], [decide ((1 : Int) ≤ SRec.kind r) = true] ++ (bdQg_c r o t 0 ++ (bdQg_c r o t 1 ++ [goodS t = false, q false]))) : Option (V × Heap × List Prop)) := by kernel_rfl
theorem bdQg_p11000 (r : SRec) (o : SRec) (t : SMsg) :
 along Tryz.prog (bdQg r o t) [true, true, false, false, false] = (some (.bool false, [], [decide ((1 : Int) ≤ SRec.kind r) = true] ++ (bdQg_c r o t 0 ++ [sameRecS r o = false, q false, q false])) : Option (V × Heap × List Prop)) := by kernel_rfl
theorem bdQg_p10000 (r : SRec) (o : SRec) (t : SMsg) :
 along Tryz.prog (bdQg r o t) [true, false, false, false, false] = (some (.bool false, [], [decide ((1 : Int) ≤ SRec.kind r) = true, decide (SRec.kind r ≤ (5 : Int)) = false, q false, q false, q false]) : Option (V × Heap × List Prop)) := by kernel_rfl
theorem bdQg_p00000 (r : SRec) (o : SRec) (t : SMsg) :
 along Tryz.prog (bdQg r o t) [false, false, false, false, false] = (some (.bool false, [], [decide ((1 : Int) ≤ SRec.kind r) = false, q false, q false, q false, q false]) : Option (V × Heap × List Prop)) := by kernel_rfl

theorem bdQeG_p1 (r : SRec) :
  along Tryz.prog (bdQeG r) [true] = (some (.tup [.ros 1 0 (bl []) false, .int .i64 240], [], [T Tryz.prog 23 [.agg (SRec.c r)] [] (.bool false) [], q2, nat_lit 0 = (0 : Nat), q (240 : Int)]) : Option (V × Heap × List Prop)) := by kernel_rfl

theorem bdQe1_p010 (r : SRec) :
  along Tryz.prog (bdQe1 r) [false, true, false] = some (V.tup [V.ros (1 : Nat) (List.length (putZ (SRec.kind r) ++ putZ (SRec.slot r) ++ putZ (SRec.view r) ++ batchB (SRec.batch r))) (bl (putZ (SRec.kind r) ++ putZ (SRec.slot r) ++ putZ (SRec.view r) ++ batchB (SRec.batch r))) false, V.int IntKind.i64 (0 : Int)], [], [T Tryz.prog (23 : Nat) [V.agg (SRec.c r)] [] (V.bool true) [], false = false, T Tryz.prog (78 : Nat) [V.snil, V.int IntKind.i64 (SRec.kind r)] [] (sb (Nm.o (nat_lit 512)) (putZ (SRec.kind r))) [(Nm.o (nat_lit 512), bs (putZ (SRec.kind r)))], decide (SRec.kind r = (1 : Int)) = true, T Tryz.prog (78 : Nat) [V.sl (Nm.o (nat_lit 512)) (1 : Nat) (0 : Nat) (0 : Nat) (0 : Nat) (List.length (putZ (SRec.kind r))) none, V.int IntKind.i64 (SRec.slot r)] [(Nm.o (nat_lit 512), bs (putZ (SRec.kind r)))] (sb (Nm.o (nat_lit 1088)) (putZ (SRec.kind r) ++ putZ (SRec.slot r))) [(Nm.o (nat_lit 1088), bs (putZ (SRec.kind r) ++ putZ (SRec.slot r)))], T Tryz.prog (78 : Nat) [V.sl (Nm.o (nat_lit 1088)) (1 : Nat) (0 : Nat) (0 : Nat) (0 : Nat) (List.length (putZ (SRec.kind r) ++ putZ (SRec.slot r))) none, V.int IntKind.i64 (SRec.view r)] [(Nm.o (nat_lit 1088), bs (putZ (SRec.kind r) ++ putZ (SRec.slot r)))] (sb (Nm.o (nat_lit 1280)) (putZ (SRec.kind r) ++ putZ (SRec.slot r) ++ putZ (SRec.view r))) [(Nm.o (nat_lit 1280), bs (putZ (SRec.kind r) ++ putZ (SRec.slot r) ++ putZ (SRec.view r)))], T Tryz.prog (79 : Nat) [V.sl (Nm.o (nat_lit 1280)) (1 : Nat) (0 : Nat) (0 : Nat) (0 : Nat) (List.length (putZ (SRec.kind r) ++ putZ (SRec.slot r) ++ putZ (SRec.view r))) none, V.agg (SBatch.c (SRec.batch r))] [(Nm.o (nat_lit 1280), bs (putZ (SRec.kind r) ++ putZ (SRec.slot r) ++ putZ (SRec.view r)))] (sb (Nm.o (nat_lit 1472)) (putZ (SRec.kind r) ++ putZ (SRec.slot r) ++ putZ (SRec.view r) ++ batchB (SRec.batch r))) [(Nm.o (nat_lit 1472), bs (putZ (SRec.kind r) ++ putZ (SRec.slot r) ++ putZ (SRec.view r) ++ batchB (SRec.batch r)))], decide ((4194304 : Int) < (↑(List.length (putZ (SRec.kind r) ++ putZ (SRec.slot r) ++ putZ (SRec.view r) ++ batchB (SRec.batch r))) : Int)) = false, List.length (putZ (SRec.kind r) ++ putZ (SRec.slot r) ++ putZ (SRec.view r) ++ batchB (SRec.batch r)) = List.length (putZ (SRec.kind r) ++ putZ (SRec.slot r) ++ putZ (SRec.view r) ++ batchB (SRec.batch r)), (0 : Nat) + List.length (putZ (SRec.kind r) ++ putZ (SRec.slot r) ++ putZ (SRec.view r) ++ batchB (SRec.batch r)) ≤ List.length (putZ (SRec.kind r) ++ putZ (SRec.slot r) ++ putZ (SRec.view r) ++ batchB (SRec.batch r)), ∀ (k : Nat), k < List.length (putZ (SRec.kind r) ++ putZ (SRec.slot r) ++ putZ (SRec.view r) ++ batchB (SRec.batch r)) → bl (putZ (SRec.kind r) ++ putZ (SRec.slot r) ++ putZ (SRec.view r) ++ batchB (SRec.batch r)) ((0 : Nat) + k) = bl (putZ (SRec.kind r) ++ putZ (SRec.slot r) ++ putZ (SRec.view r) ++ batchB (SRec.batch r)) k, false = true → none = some (List.length (putZ (SRec.kind r) ++ putZ (SRec.slot r) ++ putZ (SRec.view r) ++ batchB (SRec.batch r))), (0 : Int) = (0 : Int)]) := by kernel_rfl

theorem bdQe1L_p011 (r : SRec) :
  along Tryz.prog (bdQe1L r) [false, true, true] = (some (.tup [.ros 1 0 (bl []) false, .int .i64 3], [], [T Tryz.prog 23 [.agg (SRec.c r)] [] (.bool true) [], q false, T Tryz.prog 78 [.snil, .int .i64 (SRec.kind r)] [] (sb (.o 512) (putZ (SRec.kind r))) [(.o 512, bs (putZ (SRec.kind r)))], decide (SRec.kind r = (1 : Int)) = true, T Tryz.prog 78 [.sl (.o 512) 1 0 0 0 (List.length (putZ (SRec.kind r))) none, .int .i64 (SRec.slot r)] [(.o 512, bs (putZ (SRec.kind r)))] (sb (.o 1088) (putZ (SRec.kind r) ++ putZ (SRec.slot r))) [(.o 1088, bs (putZ (SRec.kind r) ++ putZ (SRec.slot r)))], T Tryz.prog 78 [.sl (.o 1088) 1 0 0 0 (List.length (putZ (SRec.kind r) ++ putZ (SRec.slot r))) none, .int .i64 (SRec.view r)] [(.o 1088, bs (putZ (SRec.kind r) ++ putZ (SRec.slot r)))] (sb (.o 1280) (putZ (SRec.kind r) ++ putZ (SRec.slot r) ++ putZ (SRec.view r))) [(.o 1280, bs (putZ (SRec.kind r) ++ putZ (SRec.slot r) ++ putZ (SRec.view r)))], T Tryz.prog 79 [.sl (.o 1280) 1 0 0 0 (List.length (putZ (SRec.kind r) ++ putZ (SRec.slot r) ++ putZ (SRec.view r))) none, .agg (SBatch.c (SRec.batch r))] [(.o 1280, bs (putZ (SRec.kind r) ++ putZ (SRec.slot r) ++ putZ (SRec.view r)))] (sb (.o 1472) (putZ (SRec.kind r) ++ putZ (SRec.slot r) ++ putZ (SRec.view r) ++ batchB (SRec.batch r))) [(.o 1472, bs (putZ (SRec.kind r) ++ putZ (SRec.slot r) ++ putZ (SRec.view r) ++ batchB (SRec.batch r)))], decide ((4194304 : Int) < (↑(List.length (putZ (SRec.kind r) ++ putZ (SRec.slot r) ++ putZ (SRec.view r) ++ batchB (SRec.batch r))) : Int)) = true, nat_lit 0 = (0 : Nat), q (3 : Int)]) : Option (V × Heap × List Prop)) := by kernel_rfl

theorem bdQe3_p0010 (r : SRec) :
  along Tryz.prog (bdQe3 r) [false, false, true, false] = some (V.tup [V.ros (1 : Nat) (List.length (putZ (SRec.kind r) ++ putZ (SRec.leader r) ++ putZ (SRec.view r))) (bl (putZ (SRec.kind r) ++ putZ (SRec.leader r) ++ putZ (SRec.view r))) false, V.int IntKind.i64 (0 : Int)], [], [T Tryz.prog (23 : Nat) [V.agg (SRec.c r)] [] (V.bool true) [], false = false, T Tryz.prog (78 : Nat) [V.snil, V.int IntKind.i64 (SRec.kind r)] [] (sb (Nm.o (nat_lit 512)) (putZ (SRec.kind r))) [(Nm.o (nat_lit 512), bs (putZ (SRec.kind r)))], decide (SRec.kind r = (1 : Int)) = false, decide (SRec.kind r = (3 : Int)) = true, T Tryz.prog (78 : Nat) [V.sl (Nm.o (nat_lit 512)) (1 : Nat) (0 : Nat) (0 : Nat) (0 : Nat) (List.length (putZ (SRec.kind r))) none, V.int IntKind.i64 (SRec.leader r)] [(Nm.o (nat_lit 512), bs (putZ (SRec.kind r)))] (sb (Nm.o (nat_lit 1216)) (putZ (SRec.kind r) ++ putZ (SRec.leader r))) [(Nm.o (nat_lit 1216), bs (putZ (SRec.kind r) ++ putZ (SRec.leader r)))], T Tryz.prog (78 : Nat) [V.sl (Nm.o (nat_lit 1216)) (1 : Nat) (0 : Nat) (0 : Nat) (0 : Nat) (List.length (putZ (SRec.kind r) ++ putZ (SRec.leader r))) none, V.int IntKind.i64 (SRec.view r)] [(Nm.o (nat_lit 1216), bs (putZ (SRec.kind r) ++ putZ (SRec.leader r)))] (sb (Nm.o (nat_lit 1408)) (putZ (SRec.kind r) ++ putZ (SRec.leader r) ++ putZ (SRec.view r))) [(Nm.o (nat_lit 1408), bs (putZ (SRec.kind r) ++ putZ (SRec.leader r) ++ putZ (SRec.view r)))], decide ((4194304 : Int) < (↑(List.length (putZ (SRec.kind r) ++ putZ (SRec.leader r) ++ putZ (SRec.view r))) : Int)) = false, List.length (putZ (SRec.kind r) ++ putZ (SRec.leader r) ++ putZ (SRec.view r)) = List.length (putZ (SRec.kind r) ++ putZ (SRec.leader r) ++ putZ (SRec.view r)), (0 : Nat) + List.length (putZ (SRec.kind r) ++ putZ (SRec.leader r) ++ putZ (SRec.view r)) ≤ List.length (putZ (SRec.kind r) ++ putZ (SRec.leader r) ++ putZ (SRec.view r)), ∀ (k : Nat), k < List.length (putZ (SRec.kind r) ++ putZ (SRec.leader r) ++ putZ (SRec.view r)) → bl (putZ (SRec.kind r) ++ putZ (SRec.leader r) ++ putZ (SRec.view r)) ((0 : Nat) + k) = bl (putZ (SRec.kind r) ++ putZ (SRec.leader r) ++ putZ (SRec.view r)) k, false = true → none = some (List.length (putZ (SRec.kind r) ++ putZ (SRec.leader r) ++ putZ (SRec.view r))), (0 : Int) = (0 : Int)]) := by kernel_rfl

theorem bdQe3L_p0011 (r : SRec) :
  along Tryz.prog (bdQe3L r) [false, false, true, true] = (some (.tup [.ros 1 0 (bl []) false, .int .i64 3], [], [T Tryz.prog 23 [.agg (SRec.c r)] [] (.bool true) [], q false, T Tryz.prog 78 [.snil, .int .i64 (SRec.kind r)] [] (sb (.o 512) (putZ (SRec.kind r))) [(.o 512, bs (putZ (SRec.kind r)))], decide (SRec.kind r = (1 : Int)) = false, decide (SRec.kind r = (3 : Int)) = true, T Tryz.prog 78 [.sl (.o 512) 1 0 0 0 (List.length (putZ (SRec.kind r))) none, .int .i64 (SRec.leader r)] [(.o 512, bs (putZ (SRec.kind r)))] (sb (.o 1216) (putZ (SRec.kind r) ++ putZ (SRec.leader r))) [(.o 1216, bs (putZ (SRec.kind r) ++ putZ (SRec.leader r)))], T Tryz.prog 78 [.sl (.o 1216) 1 0 0 0 (List.length (putZ (SRec.kind r) ++ putZ (SRec.leader r))) none, .int .i64 (SRec.view r)] [(.o 1216, bs (putZ (SRec.kind r) ++ putZ (SRec.leader r)))] (sb (.o 1408) (putZ (SRec.kind r) ++ putZ (SRec.leader r) ++ putZ (SRec.view r))) [(.o 1408, bs (putZ (SRec.kind r) ++ putZ (SRec.leader r) ++ putZ (SRec.view r)))], decide ((4194304 : Int) < (↑(List.length (putZ (SRec.kind r) ++ putZ (SRec.leader r) ++ putZ (SRec.view r))) : Int)) = true, nat_lit 0 = (0 : Nat), q (3 : Int)]) : Option (V × Heap × List Prop)) := by kernel_rfl

theorem bdQe5_p00000 (r : SRec) (t : SMsg) (s : ByteArray) :
  along Tryz.prog (bdQe5 r t s) [false, false, false, false, false] = some (V.tup [V.ros (1 : Nat) (List.length (putZ (SRec.kind r) ++ textB s)) (bl (putZ (SRec.kind r) ++ textB s)) false, V.int IntKind.i64 (0 : Int)], [], [T Tryz.prog (23 : Nat) [V.agg (SRec.c r)] [] (V.bool true) [], false = false, T Tryz.prog (78 : Nat) [V.snil, V.int IntKind.i64 (SRec.kind r)] [] (sb (Nm.o (nat_lit 512)) (putZ (SRec.kind r))) [(Nm.o (nat_lit 512), bs (putZ (SRec.kind r)))], decide (SRec.kind r = (1 : Int)) = false, decide (SRec.kind r = (3 : Int)) = false, T Tryz.prog (80 : Nat) [V.agg (SRec.c r)] [] (V.agg (SMsg.c t)) [], T Tryz.prog (9 : Nat) [V.agg (SMsg.c t)] [] (V.tup [V.str s, V.int IntKind.i64 (0 : Int)]) [], false = false, T Tryz.prog (81 : Nat) [V.sl (Nm.o (nat_lit 512)) (1 : Nat) (0 : Nat) (0 : Nat) (0 : Nat) (List.length (putZ (SRec.kind r))) none, V.str s] [(Nm.o (nat_lit 512), bs (putZ (SRec.kind r)))] (sb (Nm.o (nat_lit 1792)) (putZ (SRec.kind r) ++ textB s)) [(Nm.o (nat_lit 1792), bs (putZ (SRec.kind r) ++ textB s))], decide ((4194304 : Int) < (↑(List.length (putZ (SRec.kind r) ++ textB s)) : Int)) = false, List.length (putZ (SRec.kind r) ++ textB s) = List.length (putZ (SRec.kind r) ++ textB s), (0 : Nat) + List.length (putZ (SRec.kind r) ++ textB s) ≤ List.length (putZ (SRec.kind r) ++ textB s), ∀ (k : Nat), k < List.length (putZ (SRec.kind r) ++ textB s) → bl (putZ (SRec.kind r) ++ textB s) ((0 : Nat) + k) = bl (putZ (SRec.kind r) ++ textB s) k, false = true → none = some (List.length (putZ (SRec.kind r) ++ textB s)), (0 : Int) = (0 : Int)]) := by kernel_rfl

theorem bdQe5L_p00001 (r : SRec) (t : SMsg) (s : ByteArray) :
  along Tryz.prog (bdQe5L r t s) [false, false, false, false, true] = (some (.tup [.ros 1 0 (bl []) false, .int .i64 3], [], [T Tryz.prog 23 [.agg (SRec.c r)] [] (.bool true) [], q false, T Tryz.prog 78 [.snil, .int .i64 (SRec.kind r)] [] (sb (.o 512) (putZ (SRec.kind r))) [(.o 512, bs (putZ (SRec.kind r)))], decide (SRec.kind r = (1 : Int)) = false, decide (SRec.kind r = (3 : Int)) = false, T Tryz.prog 80 [.agg (SRec.c r)] [] (.agg (SMsg.c t)) [], T Tryz.prog 9 [.agg (SMsg.c t)] [] (.tup [.str s, .int .i64 0]) [], q false, T Tryz.prog 81 [.sl (.o 512) 1 0 0 0 (List.length (putZ (SRec.kind r))) none, .str s] [(.o 512, bs (putZ (SRec.kind r)))] (sb (.o 1792) (putZ (SRec.kind r) ++ textB s)) [(.o 1792, bs (putZ (SRec.kind r) ++ textB s))], decide ((4194304 : Int) < (↑(List.length (putZ (SRec.kind r) ++ textB s)) : Int)) = true, nat_lit 0 = (0 : Nat), q (3 : Int)]) : Option (V × Heap × List Prop)) := by kernel_rfl

theorem bdQe5E_p0001 (r : SRec) (t : SMsg) (s : ByteArray) (e2 : Int) :
  along Tryz.prog (bdQe5E r t s e2) [false, false, false, true] = (some (.tup [.ros 1 0 (bl []) false, .int .i64 3], [], [T Tryz.prog 23 [.agg (SRec.c r)] [] (.bool true) [], q false, T Tryz.prog 78 [.snil, .int .i64 (SRec.kind r)] [] (sb (.o 512) (putZ (SRec.kind r))) [(.o 512, bs (putZ (SRec.kind r)))], decide (SRec.kind r = (1 : Int)) = false, decide (SRec.kind r = (3 : Int)) = false, T Tryz.prog 80 [.agg (SRec.c r)] [] (.agg (SMsg.c t)) [], T Tryz.prog 9 [.agg (SMsg.c t)] [] (.tup [.str s, .int .i64 e2]) [], (!decide (e2 = (0 : Int))) = true, nat_lit 0 = (0 : Nat), q (3 : Int)]) : Option (V × Heap × List Prop)) := by kernel_rfl

theorem T_qo (r : SRec) : T Tryz.prog 83 [.agg r.c] [] (.agg (onlyRS r).c) [] := by
 by_cases h1 : r.kind = 1
 ·refine T.val (T_al (bdQo1_p1 r) Tryz.func83 ?_) (by simp only [onlyRS, if_pos h1]; rfl)
  simp [All, All_append, bdQg_c, h1]
 by_cases h2 : r.kind = 3
 ·refine T.val (T_al (bdQo3_p0001 r) Tryz.func83 ?_) (by simp only [onlyRS, if_neg h1, if_pos h2]; rfl)
  simp [All, All_append, bdQg_c, h1, h2]
 by_cases h3 : r.kind = 5
 ·refine T.val (T_al (bdQo5_p00001 r) Tryz.func83 ?_) (by simp only [onlyRS, if_neg h1, if_neg h2, if_pos h3]; rfl)
  simp [All, All_append, bdQg_c, h1, h2, h3]
 by_cases h4 : r.kind = 2
 ·refine T.val (T_al (bdQo2_p011 r) Tryz.func83 ?_) (by simp only [onlyRS, if_neg h1, if_neg h2, if_neg h3, if_pos h4]; rfl)
  simp [All, All_append, bdQg_c, h1, h2, h3, h4]
 by_cases h5 : r.kind = 4
 ·refine T.val (T_al (bdQo2_p001 r) Tryz.func83 ?_) (by simp only [onlyRS, if_neg h1, if_neg h2, if_neg h3, if_neg h4, if_pos h5]; rfl)
  simp [All, All_append, bdQg_c, h1, h2, h3, h4, h5]
 refine T.val (T_al (bdQo9_p00000 r) Tryz.func83 ?_) (by simp only [onlyRS, if_neg h1, if_neg h2, if_neg h3, if_neg h4, if_neg h5]; rfl)
 simp [All, All_append, bdQg_c, h1, h2, h3, h4, h5]
theorem T_qt (r : SRec) : T Tryz.prog 80 [.agg r.c] [] (.agg (toldS r).c) [] := by
 by_cases h1 : r.kind = 1
 ·refine T.val (T_al (bdQt1_p1 r) Tryz.func80 ?_) (by simp only [toldS, if_pos h1]; rfl)
  simp [All, All_append, bdQg_c, to1, to3, to5, to7, msg0, vote0, h1]
 by_cases h2 : r.kind = 3
 ·refine T.val (T_al (bdQt3_p01 r) Tryz.func80 ?_) (by simp only [toldS, if_neg h1, if_pos h2]; rfl)
  simp [All, All_append, bdQg_c, to1, to3, to5, to7, msg0, vote0, h1, h2]
 by_cases h3 : r.kind = 5
 ·refine T.val (T_al (bdQt5_p001 r) Tryz.func80 ?_) (by simp only [toldS, if_neg h1, if_neg h2, if_pos h3]; rfl)
  simp [All, All_append, bdQg_c, to1, to3, to5, to7, msg0, vote0, h1, h2, h3]
 refine T.val (T_al (bdQt7_p000 r) Tryz.func80 ?_) (by simp only [toldS, if_neg h1, if_neg h2, if_neg h3]; rfl)
 simp [All, All_append, bdQg_c, to1, to3, to5, to7, msg0, vote0, h1, h2, h3]
theorem T_qg {r : SRec} (hf : FitRec r) : T Tryz.prog 23 [.agg r.c] [] (.bool (goodRS r)) [] := by
 rcases Bool.eq_false_or_eq_true (decide ((1 : Int) ≤ SRec.kind r)) with h1 | h1
 ·
  rcases Bool.eq_false_or_eq_true (decide (SRec.kind r ≤ (5 : Int))) with h2 | h2
  ·
   rcases Bool.eq_false_or_eq_true (sameRecS r ((onlyRS r))) with h3 | h3
   ·
    rcases Bool.eq_false_or_eq_true (goodS ((toldS r))) with h4 | h4
    ·
     rcases Bool.eq_false_or_eq_true (decide ((0 : Int) ≤ SRec.view r)) with h5 | h5
     ·
      refine T.conv (T_al (bdQg_p11111 r (onlyRS r) (toldS r)) Tryz.func23 ?_) rfl rfl ?_ ?_
      ·simp only [All, All_append, bdQg_c]; and_intros
       all_goals first
        | assumption
        | exact T_qo r
        | exact T_qt r
        | exact T_yS r (onlyRS r) hf
        | exact T_gd (fitM_told hf)
        | trivial
        | rfl
        | (intro _ _; trivial)
        | (intro _ _; rfl)
        | (simp; done)
        | omega
      ·first | replace h1 := not_t h1 | replace h1 := not_f h1 | skip
       first | replace h2 := not_t h2 | replace h2 := not_f h2 | skip
       first | replace h3 := not_t h3 | replace h3 := not_f h3 | skip
       first | replace h4 := not_t h4 | replace h4 := not_f h4 | skip
       first | replace h5 := not_t h5 | replace h5 := not_f h5 | skip
       first | rfl | (congr 1; simp only [goodRS, h1, h2, h3, h4, h5, Bool.true_and, Bool.false_and, Bool.and_false]; done)
      ·rfl
     ·
      refine T.conv (T_al (bdQg_p11110 r (onlyRS r) (toldS r)) Tryz.func23 ?_) rfl rfl ?_ ?_
      ·simp only [All, All_append, bdQg_c]; and_intros
       all_goals first
        | assumption
        | exact T_qo r
        | exact T_qt r
        | exact T_yS r (onlyRS r) hf
        | exact T_gd (fitM_told hf)
        | trivial
        | rfl
        | (intro _ _; trivial)
        | (intro _ _; rfl)
        | (simp; done)
        | omega
      ·first | replace h1 := not_t h1 | replace h1 := not_f h1 | skip
       first | replace h2 := not_t h2 | replace h2 := not_f h2 | skip
       first | replace h3 := not_t h3 | replace h3 := not_f h3 | skip
       first | replace h4 := not_t h4 | replace h4 := not_f h4 | skip
       first | replace h5 := not_t h5 | replace h5 := not_f h5 | skip
       first | rfl | (congr 1; simp only [goodRS, h1, h2, h3, h4, h5, Bool.true_and, Bool.false_and, Bool.and_false]; done)
      ·rfl
    ·
     refine T.conv (T_al (bdQg_p11100 r (onlyRS r) (toldS r)) Tryz.func23 ?_) rfl rfl ?_ ?_
     ·simp only [All, All_append, bdQg_c]; and_intros
      all_goals first
       | assumption
       | exact T_qo r
       | exact T_qt r
       | exact T_yS r (onlyRS r) hf
       | exact T_gd (fitM_told hf)
       | trivial
       | rfl
       | (intro _ _; trivial)
       | (intro _ _; rfl)
       | (simp; done)
       | omega
     ·first | replace h1 := not_t h1 | replace h1 := not_f h1 | skip
      first | replace h2 := not_t h2 | replace h2 := not_f h2 | skip
      first | replace h3 := not_t h3 | replace h3 := not_f h3 | skip
      first | replace h4 := not_t h4 | replace h4 := not_f h4 | skip
      first | rfl | (congr 1; simp only [goodRS, h1, h2, h3, h4, Bool.true_and, Bool.false_and, Bool.and_false]; done)
     ·rfl
   ·
    refine T.conv (T_al (bdQg_p11000 r (onlyRS r) (toldS r)) Tryz.func23 ?_) rfl rfl ?_ ?_
    ·simp only [All, All_append, bdQg_c]; and_intros
     all_goals first
      | assumption
      | exact T_qo r
      | exact T_qt r
      | exact T_yS r (onlyRS r) hf
      | exact T_gd (fitM_told hf)
      | trivial
      | rfl
      | (intro _ _; trivial)
      | (intro _ _; rfl)
      | (simp; done)
      | omega
    ·first | replace h1 := not_t h1 | replace h1 := not_f h1 | skip
     first | replace h2 := not_t h2 | replace h2 := not_f h2 | skip
     first | replace h3 := not_t h3 | replace h3 := not_f h3 | skip
     first | rfl | (congr 1; simp only [goodRS, h1, h2, h3, Bool.true_and, Bool.false_and, Bool.and_false]; done)
    ·rfl
  ·
   refine T.conv (T_al (bdQg_p10000 r (onlyRS r) (toldS r)) Tryz.func23 ?_) rfl rfl ?_ ?_
   ·simp only [All, All_append, bdQg_c]; and_intros
    all_goals first
     | assumption
     | exact T_qo r
     | exact T_qt r
     | exact T_yS r (onlyRS r) hf
     | exact T_gd (fitM_told hf)
     | trivial
     | rfl
     | (intro _ _; trivial)
     | (intro _ _; rfl)
     | (simp; done)
     | omega
   ·first | replace h1 := not_t h1 | replace h1 := not_f h1 | skip
    first | replace h2 := not_t h2 | replace h2 := not_f h2 | skip
    first | rfl | (congr 1; simp only [goodRS, h1, h2, Bool.true_and, Bool.false_and, Bool.and_false]; done)
   ·rfl
 ·
  refine T.conv (T_al (bdQg_p00000 r (onlyRS r) (toldS r)) Tryz.func23 ?_) rfl rfl ?_ ?_
  ·simp only [All, All_append, bdQg_c]; and_intros
   all_goals first
    | assumption
    | exact T_qo r
    | exact T_qt r
    | exact T_yS r (onlyRS r) hf
    | exact T_gd (fitM_told hf)
    | trivial
    | rfl
    | (intro _ _; trivial)
    | (intro _ _; rfl)
    | (simp; done)
    | omega
  ·first | replace h1 := not_t h1 | replace h1 := not_f h1 | skip
   first | rfl | (congr 1; simp only [goodRS, h1, Bool.true_and, Bool.false_and, Bool.and_false]; done)
  ·rfl
theorem T_qE {r : SRec} (hf : FitRec r) (ht : segRec r) : T Tryz.prog 21 [.agg r.c] [] (.tup [roB (recT r), .int .i64 (recE r)]) [] := by
 have hG := T_qg hf
 cases hg : goodRS r with
 | false =>
  rw [hg] at hG
  have e : recE r = 240 := by rw [recE, hg]; rfl
  have e2 : recT r = [] := by rw [recT, e]; rfl
  rw [e, e2]
  refine T_al (bdQeG_p1 r) Tryz.func21 ?_
  simp only [All, All_append, bdQg_c]; and_intros
  all_goals first
   | exact hG
   | trivial
   | rfl
 | true =>
  rw [hg] at hG
  obtain ⟨hk, _, ht2, hv⟩ := goodR_parts hg
  have g := good_parts ht2
  have hview : num63 r.view := num63_of hv (by decide)
  by_cases h1 : r.kind = 1
  ·have eT : toldS r = to1 r := by rw [toldS, if_pos h1]
   rw [eT] at g
   have hslot : num63 r.slot := num63_of g.slot (by decide)
   have hb : BatchOk r.batch := batchOk_of g.batch ht.batch
   have hkind : num63 r.kind := ⟨by omega, by omega⟩
   have lb := batchB_len hb
   have l1 := putZ_len hkind
   have l2 := putZ_len hslot
   have l3 := putZ_len hview
   have eB : recB r = putZ r.kind ++ putZ r.slot ++ putZ r.view ++ batchB r.batch := by rw [recB, if_pos h1]
   have p1 := T_rpNil hkind (m := 512)
   by_cases hl : 4194304 < (recB r).length
   ·have e : recE r = 3 := by rw [recE, hg, if_pos rfl, if_pos (.inl (.inl h1)), if_pos hl]
    have e2 : recT r = [] := by rw [recT, e]; rfl
    rw [e, e2]
    rw [eB] at hl
    refine T_al (bdQe1L_p011 r) Tryz.func21 ?_
    simp only [All, All_append, bdQg_c]; and_intros
    all_goals first
     | exact hG
     | exact T_rpNil hkind
     | exact T_rp hslot (by omega) (by decide)
     | exact T_rp hview (by simp only [List.length_append]; omega) (by decide)
     | exact T_pB (by simp only [List.length_append]; omega) hb (by decide)
     | (rw [decide_eq_true_eq]; omega)
     | trivial
     | rfl
   ·have e : recE r = 0 := by rw [recE, hg, if_pos rfl, if_pos (.inl (.inl h1)), if_neg hl]
    have e2 : recT r = recB r := by rw [recT, if_pos e]
    rw [e, e2, eB]
    rw [eB] at hl
    refine T_al (bdQe1_p010 r) Tryz.func21 ?_
    simp only [All, All_append, bdQg_c]; and_intros
    all_goals first
     | exact hG
     | exact T_rpNil hkind
     | exact T_rp hslot (by omega) (by decide)
     | exact T_rp hview (by simp only [List.length_append]; omega) (by decide)
     | exact T_pB (by simp only [List.length_append]; omega) hb (by decide)
     | (rw [decide_eq_true_eq]; omega)
     | (rw [decide_eq_false_iff_not]; omega)
     | trivial
     | rfl
     | (intro _ _; trivial)
     | (intro k _; rw [Nat.zero_add])
     | (simp; done)
     | (intro _ _; rfl)
     | (simp [h1]; done)
  by_cases h3 : r.kind = 3
  ·have eT : toldS r = to3 r := by rw [toldS, if_neg h1, if_pos h3]
   rw [eT] at g
   have hlead : num63 r.leader := num63_of g.leader (by decide)
   have hkind : num63 r.kind := ⟨by omega, by omega⟩
   have l1 := putZ_len hkind
   have l2 := putZ_len hlead
   have l3 := putZ_len hview
   have eB : recB r = putZ r.kind ++ putZ r.leader ++ putZ r.view := by rw [recB, if_neg h1, if_pos h3]
   have hl : ¬ 4194304 < (recB r).length := by rw [eB]; simp only [List.length_append]; omega
   have e : recE r = 0 := by rw [recE, hg, if_pos rfl, if_pos (.inl (.inr h3)), if_neg hl]
   have e2 : recT r = recB r := by rw [recT, if_pos e]
   rw [e, e2, eB]
   rw [eB] at hl
   refine T_al (bdQe3_p0010 r) Tryz.func21 ?_
   simp only [All, All_append, bdQg_c]; and_intros
   all_goals first
    | exact hG
    | exact T_rpNil hkind
    | exact T_rp hlead (by omega) (by decide)
    | exact T_rp hview (by simp only [List.length_append]; omega) (by decide)
    | (rw [decide_eq_true_eq]; omega)
    | (rw [decide_eq_false_iff_not]; omega)
    | trivial
    | rfl
    | (intro _ _; trivial)
    | (intro _ _; rfl)
    | (simp [h3]; done)
  have hkind : num63 r.kind := ⟨by omega, by omega⟩
  have l1 := putZ_len hkind
  have eB : recB r = putZ r.kind ++ textB (encT (toldS r)) := by rw [recB, if_neg h1, if_neg h3]
  have hT := T_qt r
  have hE := T_reG (fitM_told hf) (segTold ht)
  have hn13 : ¬ (r.kind = 1 ∨ r.kind = 3) := fun h => h.elim h1 h3
  by_cases h0 : encE (toldS r) = 0
  ·rw [h0] at hE
   have hs := bytes_le h0
   by_cases hl : 4194304 < (recB r).length
   ·have e : recE r = 3 := by rw [recE, hg, if_pos rfl, if_pos (.inr h0), if_pos hl]
    have e2 : recT r = [] := by rw [recT, e]; rfl
    rw [e, e2]
    rw [eB] at hl
    refine T_al (bdQe5L_p00001 r (toldS r) (encT (toldS r))) Tryz.func21 ?_
    simp only [All, All_append, bdQg_c]; and_intros
    all_goals first
     | exact hG
     | exact hT
     | exact hE
     | exact T_rpNil hkind
     | exact T_rt (by omega) (by omega) (by decide)
     | (rw [decide_eq_true_eq]; omega)
     | (rw [decide_eq_false_iff_not]; omega)
     | trivial
     | rfl
   ·have e : recE r = 0 := by rw [recE, hg, if_pos rfl, if_pos (.inr h0), if_neg hl]
    have e2 : recT r = recB r := by rw [recT, if_pos e]
    rw [e, e2, eB]
    rw [eB] at hl
    refine T_al (bdQe5_p00000 r (toldS r) (encT (toldS r))) Tryz.func21 ?_
    simp only [All, All_append, bdQg_c]; and_intros
    all_goals first
     | exact hG
     | exact hT
     | exact hE
     | exact T_rpNil hkind
     | exact T_rt (by omega) (by omega) (by decide)
     | (rw [decide_eq_true_eq]; omega)
     | (rw [decide_eq_false_iff_not]; omega)
     | trivial
     | rfl
     | (intro _ _; trivial)
     | (intro k _; rw [Nat.zero_add])
     | (simp; done)
     | (intro _ _; rfl)
  ·have e0 : encE (toldS r) = 3 := by
    unfold encE at h0 ⊢
    rw [if_pos ht2] at h0 ⊢
    split at h0
    ·rw [if_pos (by assumption)]
    ·exact absurd rfl h0
   have e : recE r = 3 := by rw [recE, hg, if_pos rfl, if_neg (fun h => h.elim hn13 h0), e0]
   have e2 : recT r = [] := by rw [recT, if_neg (by rw [e]; decide)]
   rw [e, e2]
   refine T_al (bdQe5E_p0001 r (toldS r) (encT (toldS r)) (encE (toldS r))) Tryz.func21 ?_
   simp only [All, All_append, bdQg_c]; and_intros
   all_goals first
    | exact hG
    | exact hT
    | exact hE
    | exact T_rpNil hkind
    | (rw [decide_eq_false_iff_not]; omega)
    | exact neg_f' (decide_eq_false h0)
    | trivial
    | rfl
end Go.Proofs.YthifjamdfpjilaaGreat
namespace Go.Proofs.YthifjamdfpjilaaGreat
open Go Sy Go.Proofs
abbrev vF : V := .bool false
abbrev vT : V := .bool true
abbrev v0 : V := .int .i64 0
theorem lw0 : T Tryz.prog 85 [.ros 1 6 (lst [[.int .u8 1], [.int .u8 3], [.int .u8 1], [.int .u8 2], [.int .u8 1], [.int .u8 1]]) false] [] (.ptr (.o 880) 0 0 0 0) [(.o 880, .flat [.ros 1 6 (lst [[.int .u8 1], [.int .u8 3], [.int .u8 1], [.int .u8 2], [.int .u8 1], [.int .u8 1]]) false, v0, vT])] :=
 T_along NG MO [] (b := .mk Tryz.f85 [.ros 1 6 (lst [[.int .u8 1], [.int .u8 3], [.int .u8 1], [.int .u8 2], [.int .u8 1], [.int .u8 1]]) false] [] 832 (kbT []) (fun _ __1 => some (.mk [(.o 880, .o 1216)] [(2, .set (.ptr (.o 880) 0 0 0 0))] [(.o 880, .set (.flat [.ros 1 6 (lst [[.int .u8 1], [.int .u8 3], [.int .u8 1], [.int .u8 2], [.int .u8 1], [.int .u8 1]]) false, v0, vT]))] none 896)) (fun _ => [.o 880]) none) (cs := [q0, ∀ (k : Nat), k < nat_lit 6 → solid (lst [[V.int IntKind.u8 (1 : Int)], [V.int IntKind.u8 (3 : Int)], [V.int IntKind.u8 (1 : Int)], [V.int IntKind.u8 (2 : Int)], [V.int IntKind.u8 (1 : Int)], [V.int IntKind.u8 (1 : Int)]] k) = true, nat_lit 6 ≤ (140737488355328 : Nat), nat_lit 6 = nat_lit 6, nat_lit 6 ≤ nat_lit 6, ∀ (k : Nat), k < nat_lit 6 → catF (0 : Nat) (getL []) (lst [[V.int IntKind.u8 (1 : Int)], [V.int IntKind.u8 (3 : Int)], [V.int IntKind.u8 (1 : Int)], [V.int IntKind.u8 (2 : Int)], [V.int IntKind.u8 (1 : Int)], [V.int IntKind.u8 (1 : Int)]]) ((0 : Nat) + k) = lst [[V.int IntKind.u8 (1 : Int)], [V.int IntKind.u8 (3 : Int)], [V.int IntKind.u8 (1 : Int)], [V.int IntKind.u8 (2 : Int)], [V.int IntKind.u8 (1 : Int)], [V.int IntKind.u8 (1 : Int)]] k, false = true → none = some (nat_lit 6), q1, q2, q0, q0, q0]) (by kernel_rfl) Tryz.func85 (by kernel_rfl) ⟨rfl, (AllK.all (by repeat (first | exact trivial | refine ⟨?_, rfl⟩))), (by decide), rfl, (by decide), (AllK.all (by repeat (first | exact trivial | refine ⟨?_, rfl⟩))), (fun h => by first | exact h | cases h), rfl, rfl, rfl, rfl, rfl, trivial⟩ (pinH_ok (by kernel_rfl)) (by kernel_rfl)
theorem lw1 : T Tryz.prog 110 [.ptr (.o 880) 0 0 0 0] [(.o 880, .flat [.ros 1 6 (lst [[.int .u8 1], [.int .u8 3], [.int .u8 1], [.int .u8 2], [.int .u8 1], [.int .u8 1]]) false, v0, vT])] (vF) [(.o 880, .flat [.ros 1 6 (lst [[.int .u8 1], [.int .u8 3], [.int .u8 1], [.int .u8 2], [.int .u8 1], [.int .u8 1]]) false, v0, vT])] :=
 T_along NG MO [] (b := .mk Tryz.f110 [.ptr (.o 880) 0 0 0 0] [(.o 880, .flat [.ros 1 6 (lst [[.int .u8 1], [.int .u8 3], [.int .u8 1], [.int .u8 2], [.int .u8 1], [.int .u8 1]]) false, v0, vT])] 1152 (kbT []) (fun _ __1 => some (.mk [] [(2, .set (vF))] [(.o 880, .set (.flat [.ros 1 6 (lst [[.int .u8 1], [.int .u8 3], [.int .u8 1], [.int .u8 2], [.int .u8 1], [.int .u8 1]]) false, v0, vT]))] none 1216)) (fun _ => [.o 880]) none) (cs := [q false, q false, nat_lit 6 = nat_lit 6, ∀ (k : Nat), k < nat_lit 6 → lst [[V.int IntKind.u8 (1 : Int)], [V.int IntKind.u8 (3 : Int)], [V.int IntKind.u8 (1 : Int)], [V.int IntKind.u8 (2 : Int)], [V.int IntKind.u8 (1 : Int)], [V.int IntKind.u8 (1 : Int)]] k = lst [[V.int IntKind.u8 (1 : Int)], [V.int IntKind.u8 (3 : Int)], [V.int IntKind.u8 (1 : Int)], [V.int IntKind.u8 (2 : Int)], [V.int IntKind.u8 (1 : Int)], [V.int IntKind.u8 (1 : Int)]] k, false = true → false = true, q1, q2, q false]) (by kernel_rfl) Tryz.func110 (by kernel_rfl) ⟨rfl, rfl, rfl, (AllK.all (by repeat (first | exact trivial | refine ⟨?_, rfl⟩))), (fun h => by first | exact h | cases h), rfl, rfl, rfl, trivial⟩ (pinH_ok (by kernel_rfl)) (by kernel_rfl)
theorem lw2 : T Tryz.prog 111 [.ptr (.o 880) 0 0 0 0] [(.o 880, .flat [.ros 1 6 (lst [[.int .u8 1], [.int .u8 3], [.int .u8 1], [.int .u8 2], [.int .u8 1], [.int .u8 1]]) false, v0, vT])] (.tup [.int .i64 3, .int .i64 2, v0]) [(.o 880, .flat [.ros 1 6 (lst [[.int .u8 1], [.int .u8 3], [.int .u8 1], [.int .u8 2], [.int .u8 1], [.int .u8 1]]) false, v0, vT])] :=
 T_along NG MO [] (b := .mk Tryz.f111 [.ptr (.o 880) 0 0 0 0] [(.o 880, .flat [.ros 1 6 (lst [[.int .u8 1], [.int .u8 3], [.int .u8 1], [.int .u8 2], [.int .u8 1], [.int .u8 1]]) false, v0, vT])] 1408 (kbT []) (fun _ __1 => some (.mk [] [(2, .set (.int .i64 3)), (3, .set (.int .i64 2)), (4, .set (v0))] [(.o 880, .set (.flat [.ros 1 6 (lst [[.int .u8 1], [.int .u8 3], [.int .u8 1], [.int .u8 2], [.int .u8 1], [.int .u8 1]]) false, v0, vT]))] none 1472)) (fun _ => [.o 880]) none) (cs := [q false, (0 : Int) ≤ (0 : Int) ∧ (0 : Int) < (6 : Int), InR IntKind.i64 (1 : Int), q false, q false, q2, (0 : Int) ≤ (1 : Int) ∧ (1 : Int) < (6 : Int), q false, q false, q false, InR IntKind.i64 (2 : Int), (0 : Int) ≤ (2 : Int) ∧ (2 : Int) ≤ (6 : Int), (0 : Int) ≤ (1 : Int) ∧ (1 : Int) ≤ (2 : Int), q2, (0 : Int) ≤ (0 : Int) ∧ (0 : Int) < (1 : Int), (0 : Int) ≤ (8 : Int) ∧ (8 : Int) ≤ (64 : Int), InR IntKind.i64 (0 : Int), InR IntKind.i64 (3 : Int), InR IntKind.i64 (1 : Int), q false, InR IntKind.i64 (2 : Int), nat_lit 6 = nat_lit 6, ∀ (k : Nat), k < nat_lit 6 → lst [[V.int IntKind.u8 (1 : Int)], [V.int IntKind.u8 (3 : Int)], [V.int IntKind.u8 (1 : Int)], [V.int IntKind.u8 (2 : Int)], [V.int IntKind.u8 (1 : Int)], [V.int IntKind.u8 (1 : Int)]] k = lst [[V.int IntKind.u8 (1 : Int)], [V.int IntKind.u8 (3 : Int)], [V.int IntKind.u8 (1 : Int)], [V.int IntKind.u8 (2 : Int)], [V.int IntKind.u8 (1 : Int)], [V.int IntKind.u8 (1 : Int)]] k, false = true → false = true, q1, q2, q (3 : Int), q (2 : Int), q1]) (by kernel_rfl) Tryz.func111 (by kernel_rfl) ⟨rfl, (by decide), ⟨by decide, by decide⟩, rfl, rfl, rfl, (by decide), rfl, rfl, rfl, ⟨by decide, by decide⟩, (by decide), (by decide), rfl, (by decide), (by decide), ⟨by decide, by decide⟩, ⟨by decide, by decide⟩, ⟨by decide, by decide⟩, rfl, ⟨by decide, by decide⟩, rfl, (AllK.all (by repeat (first | exact trivial | refine ⟨?_, rfl⟩))), (fun h => by first | exact h | cases h), rfl, rfl, rfl, rfl, rfl, trivial⟩ (pinH_ok (by kernel_rfl)) (by kernel_rfl)
theorem lw3 : T Tryz.prog 113 [.ptr (.o 880) 0 0 0 0, .int .i64 2] [(.o 880, .flat [.ros 1 6 (lst [[.int .u8 1], [.int .u8 3], [.int .u8 1], [.int .u8 2], [.int .u8 1], [.int .u8 1]]) false, v0, vT])] (.ros 1 2 (lst [[.int .u8 1], [.int .u8 3]]) false) [(.o 880, .flat [.ros 1 4 (lst [[.int .u8 1], [.int .u8 2], [.int .u8 1], [.int .u8 1]]) false, v0, vT])] :=
 T_along NG MO [] (b := .mk Tryz.f113 [.ptr (.o 880) 0 0 0 0, .int .i64 2] [(.o 880, .flat [.ros 1 6 (lst [[.int .u8 1], [.int .u8 3], [.int .u8 1], [.int .u8 2], [.int .u8 1], [.int .u8 1]]) false, v0, vT])] 2752 (kbT []) (fun _ __1 => some (.mk [] [(4, .set (.ros 1 2 (lst [[.int .u8 1], [.int .u8 3]]) false))] [(.o 880, .set (.flat [.ros 1 4 (lst [[.int .u8 1], [.int .u8 2], [.int .u8 1], [.int .u8 1]]) false, v0, vT]))] none 2816)) (fun _ => [.o 880]) none) (cs := [(0 : Int) ≤ (2 : Int) ∧ (2 : Int) ≤ (6 : Int), (0 : Int) ≤ (2 : Int) ∧ (2 : Int) ≤ (6 : Int), nat_lit 4 = nat_lit 4, ∀ (k : Nat), k < nat_lit 4 → shiftF (lst [[V.int IntKind.u8 (1 : Int)], [V.int IntKind.u8 (3 : Int)], [V.int IntKind.u8 (1 : Int)], [V.int IntKind.u8 (2 : Int)], [V.int IntKind.u8 (1 : Int)], [V.int IntKind.u8 (1 : Int)]]) (some (2 : Int)) k = lst [[V.int IntKind.u8 (1 : Int)], [V.int IntKind.u8 (2 : Int)], [V.int IntKind.u8 (1 : Int)], [V.int IntKind.u8 (1 : Int)]] k, false = true → false = true, q1, q2, nat_lit 2 = nat_lit 2, ∀ (k : Nat), k < nat_lit 2 → shiftF (lst [[V.int IntKind.u8 (1 : Int)], [V.int IntKind.u8 (3 : Int)], [V.int IntKind.u8 (1 : Int)], [V.int IntKind.u8 (2 : Int)], [V.int IntKind.u8 (1 : Int)], [V.int IntKind.u8 (1 : Int)]]) none k = lst [[V.int IntKind.u8 (1 : Int)], [V.int IntKind.u8 (3 : Int)]] k, false = true → false = true]) (by kernel_rfl) Tryz.func113 (by kernel_rfl) ⟨(by decide), (by decide), rfl, (AllK.all (by repeat (first | exact trivial | refine ⟨?_, rfl⟩))), (fun h => by first | exact h | cases h), rfl, rfl, rfl, (AllK.all (by repeat (first | exact trivial | refine ⟨?_, rfl⟩))), (fun h => by first | exact h | cases h), trivial⟩ (pinH_ok (by kernel_rfl)) (by kernel_rfl)
theorem lw4 : T Tryz.prog 86 [.ptr (.o 880) 0 0 0 0, .int .i64 5] [(.o 880, .flat [.ros 1 6 (lst [[.int .u8 1], [.int .u8 3], [.int .u8 1], [.int .u8 2], [.int .u8 1], [.int .u8 1]]) false, v0, vT])] (.int .i64 3) [(.o 880, .flat [.ros 1 4 (lst [[.int .u8 1], [.int .u8 2], [.int .u8 1], [.int .u8 1]]) false, v0, vT])] :=
 T_along NG MO [] (b := .mk Tryz.f86 [.ptr (.o 880) 0 0 0 0, .int .i64 5] [(.o 880, .flat [.ros 1 6 (lst [[.int .u8 1], [.int .u8 3], [.int .u8 1], [.int .u8 2], [.int .u8 1], [.int .u8 1]]) false, v0, vT])] 1024 (kbT [(1152, .mk false [] [.o 880] none (vF) [(.o 880, .flat [.ros 1 6 (lst [[.int .u8 1], [.int .u8 3], [.int .u8 1], [.int .u8 2], [.int .u8 1], [.int .u8 1]]) false, v0, vT])]), (1408, .mk false [] [.o 880] none (.tup [.int .i64 3, .int .i64 2, v0]) [(.o 880, .flat [.ros 1 6 (lst [[.int .u8 1], [.int .u8 3], [.int .u8 1], [.int .u8 2], [.int .u8 1], [.int .u8 1]]) false, v0, vT])]), (2752, .mk false [] [.o 880] none (.ros 1 2 (lst [[.int .u8 1], [.int .u8 3]]) false) [(.o 880, .flat [.ros 1 4 (lst [[.int .u8 1], [.int .u8 2], [.int .u8 1], [.int .u8 1]]) false, v0, vT])])]) (fun _ __1 => some (.mk [] [(4, .set (.int .i64 3))] [(.o 880, .set (.flat [.ros 1 4 (lst [[.int .u8 1], [.int .u8 2], [.int .u8 1], [.int .u8 1]]) false, v0, vT]))] none 1088)) (fun _ => [.o 880]) none) (cs := [type_of% lw1, q false, type_of% lw2, q2, q false, q false, type_of% lw3, nat_lit 4 = nat_lit 4, ∀ (k : Nat), k < nat_lit 4 → lst [[V.int IntKind.u8 (1 : Int)], [V.int IntKind.u8 (2 : Int)], [V.int IntKind.u8 (1 : Int)], [V.int IntKind.u8 (1 : Int)]] k = lst [[V.int IntKind.u8 (1 : Int)], [V.int IntKind.u8 (2 : Int)], [V.int IntKind.u8 (1 : Int)], [V.int IntKind.u8 (1 : Int)]] k, false = true → false = true, q1, q2, q (3 : Int)]) (by kernel_rfl) Tryz.func86 (by kernel_rfl) ⟨lw1, rfl, lw2, rfl, rfl, rfl, lw3, rfl, (AllK.all (by repeat (first | exact trivial | refine ⟨?_, rfl⟩))), (fun h => by first | exact h | cases h), rfl, rfl, rfl, trivial⟩ (pinH_ok (by kernel_rfl)) (by kernel_rfl)
theorem lw5 : T Tryz.prog 110 [.ptr (.o 880) 0 0 0 0] [(.o 880, .flat [.ros 1 4 (lst [[.int .u8 1], [.int .u8 2], [.int .u8 1], [.int .u8 1]]) false, v0, vT])] (vF) [(.o 880, .flat [.ros 1 4 (lst [[.int .u8 1], [.int .u8 2], [.int .u8 1], [.int .u8 1]]) false, v0, vT])] :=
 T_along NG MO [] (b := .mk Tryz.f110 [.ptr (.o 880) 0 0 0 0] [(.o 880, .flat [.ros 1 4 (lst [[.int .u8 1], [.int .u8 2], [.int .u8 1], [.int .u8 1]]) false, v0, vT])] 2048 (kbT []) (fun _ __1 => some (.mk [] [(2, .set (vF))] [(.o 880, .set (.flat [.ros 1 4 (lst [[.int .u8 1], [.int .u8 2], [.int .u8 1], [.int .u8 1]]) false, v0, vT]))] none 2112)) (fun _ => [.o 880]) none) (cs := [q false, q false, nat_lit 4 = nat_lit 4, ∀ (k : Nat), k < nat_lit 4 → lst [[V.int IntKind.u8 (1 : Int)], [V.int IntKind.u8 (2 : Int)], [V.int IntKind.u8 (1 : Int)], [V.int IntKind.u8 (1 : Int)]] k = lst [[V.int IntKind.u8 (1 : Int)], [V.int IntKind.u8 (2 : Int)], [V.int IntKind.u8 (1 : Int)], [V.int IntKind.u8 (1 : Int)]] k, false = true → false = true, q1, q2, q false]) (by kernel_rfl) Tryz.func110 (by kernel_rfl) ⟨rfl, rfl, rfl, (AllK.all (by repeat (first | exact trivial | refine ⟨?_, rfl⟩))), (fun h => by first | exact h | cases h), rfl, rfl, rfl, trivial⟩ (pinH_ok (by kernel_rfl)) (by kernel_rfl)
theorem lw6 : T Tryz.prog 111 [.ptr (.o 880) 0 0 0 0] [(.o 880, .flat [.ros 1 4 (lst [[.int .u8 1], [.int .u8 2], [.int .u8 1], [.int .u8 1]]) false, v0, vT])] (.tup [.int .i64 2, .int .i64 2, v0]) [(.o 880, .flat [.ros 1 4 (lst [[.int .u8 1], [.int .u8 2], [.int .u8 1], [.int .u8 1]]) false, v0, vT])] :=
 T_along NG MO [] (b := .mk Tryz.f111 [.ptr (.o 880) 0 0 0 0] [(.o 880, .flat [.ros 1 4 (lst [[.int .u8 1], [.int .u8 2], [.int .u8 1], [.int .u8 1]]) false, v0, vT])] 2304 (kbT []) (fun _ __1 => some (.mk [] [(2, .set (.int .i64 2)), (3, .set (.int .i64 2)), (4, .set (v0))] [(.o 880, .set (.flat [.ros 1 4 (lst [[.int .u8 1], [.int .u8 2], [.int .u8 1], [.int .u8 1]]) false, v0, vT]))] none 2368)) (fun _ => [.o 880]) none) (cs := [q false, (0 : Int) ≤ (0 : Int) ∧ (0 : Int) < (4 : Int), InR IntKind.i64 (1 : Int), q false, q false, q2, (0 : Int) ≤ (1 : Int) ∧ (1 : Int) < (4 : Int), q false, q false, q false, InR IntKind.i64 (2 : Int), (0 : Int) ≤ (2 : Int) ∧ (2 : Int) ≤ (4 : Int), (0 : Int) ≤ (1 : Int) ∧ (1 : Int) ≤ (2 : Int), q2, (0 : Int) ≤ (0 : Int) ∧ (0 : Int) < (1 : Int), (0 : Int) ≤ (8 : Int) ∧ (8 : Int) ≤ (64 : Int), InR IntKind.i64 (0 : Int), InR IntKind.i64 (2 : Int), InR IntKind.i64 (1 : Int), q false, InR IntKind.i64 (2 : Int), nat_lit 4 = nat_lit 4, ∀ (k : Nat), k < nat_lit 4 → lst [[V.int IntKind.u8 (1 : Int)], [V.int IntKind.u8 (2 : Int)], [V.int IntKind.u8 (1 : Int)], [V.int IntKind.u8 (1 : Int)]] k = lst [[V.int IntKind.u8 (1 : Int)], [V.int IntKind.u8 (2 : Int)], [V.int IntKind.u8 (1 : Int)], [V.int IntKind.u8 (1 : Int)]] k, false = true → false = true, q1, q2, q (2 : Int), q (2 : Int), q1]) (by kernel_rfl) Tryz.func111 (by kernel_rfl) ⟨rfl, (by decide), ⟨by decide, by decide⟩, rfl, rfl, rfl, (by decide), rfl, rfl, rfl, ⟨by decide, by decide⟩, (by decide), (by decide), rfl, (by decide), (by decide), ⟨by decide, by decide⟩, ⟨by decide, by decide⟩, ⟨by decide, by decide⟩, rfl, ⟨by decide, by decide⟩, rfl, (AllK.all (by repeat (first | exact trivial | refine ⟨?_, rfl⟩))), (fun h => by first | exact h | cases h), rfl, rfl, rfl, rfl, rfl, trivial⟩ (pinH_ok (by kernel_rfl)) (by kernel_rfl)
theorem lw7 : T Tryz.prog 113 [.ptr (.o 880) 0 0 0 0, .int .i64 2] [(.o 880, .flat [.ros 1 4 (lst [[.int .u8 1], [.int .u8 2], [.int .u8 1], [.int .u8 1]]) false, v0, vT])] (.ros 1 2 (lst [[.int .u8 1], [.int .u8 2]]) false) [(.o 880, .flat [.ros 1 2 (lst [[.int .u8 1], [.int .u8 1]]) false, v0, vT])] :=
 T_along NG MO [] (b := .mk Tryz.f113 [.ptr (.o 880) 0 0 0 0, .int .i64 2] [(.o 880, .flat [.ros 1 4 (lst [[.int .u8 1], [.int .u8 2], [.int .u8 1], [.int .u8 1]]) false, v0, vT])] 3648 (kbT []) (fun _ __1 => some (.mk [] [(4, .set (.ros 1 2 (lst [[.int .u8 1], [.int .u8 2]]) false))] [(.o 880, .set (.flat [.ros 1 2 (lst [[.int .u8 1], [.int .u8 1]]) false, v0, vT]))] none 3712)) (fun _ => [.o 880]) none) (cs := [(0 : Int) ≤ (2 : Int) ∧ (2 : Int) ≤ (4 : Int), (0 : Int) ≤ (2 : Int) ∧ (2 : Int) ≤ (4 : Int), nat_lit 2 = nat_lit 2, ∀ (k : Nat), k < nat_lit 2 → shiftF (lst [[V.int IntKind.u8 (1 : Int)], [V.int IntKind.u8 (2 : Int)], [V.int IntKind.u8 (1 : Int)], [V.int IntKind.u8 (1 : Int)]]) (some (2 : Int)) k = lst [[V.int IntKind.u8 (1 : Int)], [V.int IntKind.u8 (1 : Int)]] k, false = true → false = true, q1, q2, nat_lit 2 = nat_lit 2, ∀ (k : Nat), k < nat_lit 2 → shiftF (lst [[V.int IntKind.u8 (1 : Int)], [V.int IntKind.u8 (2 : Int)], [V.int IntKind.u8 (1 : Int)], [V.int IntKind.u8 (1 : Int)]]) none k = lst [[V.int IntKind.u8 (1 : Int)], [V.int IntKind.u8 (2 : Int)]] k, false = true → false = true]) (by kernel_rfl) Tryz.func113 (by kernel_rfl) ⟨(by decide), (by decide), rfl, (AllK.all (by repeat (first | exact trivial | refine ⟨?_, rfl⟩))), (fun h => by first | exact h | cases h), rfl, rfl, rfl, (AllK.all (by repeat (first | exact trivial | refine ⟨?_, rfl⟩))), (fun h => by first | exact h | cases h), trivial⟩ (pinH_ok (by kernel_rfl)) (by kernel_rfl)
theorem lw8 : T Tryz.prog 86 [.ptr (.o 880) 0 0 0 0, .int .i64 64] [(.o 880, .flat [.ros 1 4 (lst [[.int .u8 1], [.int .u8 2], [.int .u8 1], [.int .u8 1]]) false, v0, vT])] (.int .i64 2) [(.o 880, .flat [.ros 1 2 (lst [[.int .u8 1], [.int .u8 1]]) false, v0, vT])] :=
 T_along NG MO [] (b := .mk Tryz.f86 [.ptr (.o 880) 0 0 0 0, .int .i64 64] [(.o 880, .flat [.ros 1 4 (lst [[.int .u8 1], [.int .u8 2], [.int .u8 1], [.int .u8 1]]) false, v0, vT])] 1920 (kbT [(2048, .mk false [] [.o 880] none (vF) [(.o 880, .flat [.ros 1 4 (lst [[.int .u8 1], [.int .u8 2], [.int .u8 1], [.int .u8 1]]) false, v0, vT])]), (2304, .mk false [] [.o 880] none (.tup [.int .i64 2, .int .i64 2, v0]) [(.o 880, .flat [.ros 1 4 (lst [[.int .u8 1], [.int .u8 2], [.int .u8 1], [.int .u8 1]]) false, v0, vT])]), (3648, .mk false [] [.o 880] none (.ros 1 2 (lst [[.int .u8 1], [.int .u8 2]]) false) [(.o 880, .flat [.ros 1 2 (lst [[.int .u8 1], [.int .u8 1]]) false, v0, vT])])]) (fun _ __1 => some (.mk [] [(4, .set (.int .i64 2))] [(.o 880, .set (.flat [.ros 1 2 (lst [[.int .u8 1], [.int .u8 1]]) false, v0, vT]))] none 1984)) (fun _ => [.o 880]) none) (cs := [type_of% lw5, q false, type_of% lw6, q2, q false, q false, type_of% lw7, nat_lit 2 = nat_lit 2, ∀ (k : Nat), k < nat_lit 2 → lst [[V.int IntKind.u8 (1 : Int)], [V.int IntKind.u8 (1 : Int)]] k = lst [[V.int IntKind.u8 (1 : Int)], [V.int IntKind.u8 (1 : Int)]] k, false = true → false = true, q1, q2, q (2 : Int)]) (by kernel_rfl) Tryz.func86 (by kernel_rfl) ⟨lw5, rfl, lw6, rfl, rfl, rfl, lw7, rfl, (AllK.all (by repeat (first | exact trivial | refine ⟨?_, rfl⟩))), (fun h => by first | exact h | cases h), rfl, rfl, rfl, trivial⟩ (pinH_ok (by kernel_rfl)) (by kernel_rfl)
theorem lw9 : T Tryz.prog 110 [.ptr (.o 880) 0 0 0 0] [(.o 880, .flat [.ros 1 2 (lst [[.int .u8 1], [.int .u8 1]]) false, v0, vT])] (vF) [(.o 880, .flat [.ros 1 2 (lst [[.int .u8 1], [.int .u8 1]]) false, v0, vT])] :=
 T_along NG MO [] (b := .mk Tryz.f110 [.ptr (.o 880) 0 0 0 0] [(.o 880, .flat [.ros 1 2 (lst [[.int .u8 1], [.int .u8 1]]) false, v0, vT])] 2176 (kbT []) (fun _ __1 => some (.mk [] [(2, .set (vF))] [(.o 880, .set (.flat [.ros 1 2 (lst [[.int .u8 1], [.int .u8 1]]) false, v0, vT]))] none 2240)) (fun _ => [.o 880]) none) (cs := [q false, q false, nat_lit 2 = nat_lit 2, ∀ (k : Nat), k < nat_lit 2 → lst [[V.int IntKind.u8 (1 : Int)], [V.int IntKind.u8 (1 : Int)]] k = lst [[V.int IntKind.u8 (1 : Int)], [V.int IntKind.u8 (1 : Int)]] k, false = true → false = true, q1, q2, q false]) (by kernel_rfl) Tryz.func110 (by kernel_rfl) ⟨rfl, rfl, rfl, (AllK.all (by repeat (first | exact trivial | refine ⟨?_, rfl⟩))), (fun h => by first | exact h | cases h), rfl, rfl, rfl, trivial⟩ (pinH_ok (by kernel_rfl)) (by kernel_rfl)
theorem lw10 : T Tryz.prog 111 [.ptr (.o 880) 0 0 0 0] [(.o 880, .flat [.ros 1 2 (lst [[.int .u8 1], [.int .u8 1]]) false, v0, vT])] (.tup [.int .i64 1, .int .i64 2, v0]) [(.o 880, .flat [.ros 1 2 (lst [[.int .u8 1], [.int .u8 1]]) false, v0, vT])] :=
 T_along NG MO [] (b := .mk Tryz.f111 [.ptr (.o 880) 0 0 0 0] [(.o 880, .flat [.ros 1 2 (lst [[.int .u8 1], [.int .u8 1]]) false, v0, vT])] 2432 (kbT []) (fun _ __1 => some (.mk [] [(2, .set (.int .i64 1)), (3, .set (.int .i64 2)), (4, .set (v0))] [(.o 880, .set (.flat [.ros 1 2 (lst [[.int .u8 1], [.int .u8 1]]) false, v0, vT]))] none 2496)) (fun _ => [.o 880]) none) (cs := [q false, (0 : Int) ≤ (0 : Int) ∧ (0 : Int) < (2 : Int), InR IntKind.i64 (1 : Int), q false, q false, q2, (0 : Int) ≤ (1 : Int) ∧ (1 : Int) < (2 : Int), q false, q false, q false, InR IntKind.i64 (2 : Int), (0 : Int) ≤ (2 : Int) ∧ (2 : Int) ≤ (2 : Int), (0 : Int) ≤ (1 : Int) ∧ (1 : Int) ≤ (2 : Int), q2, (0 : Int) ≤ (0 : Int) ∧ (0 : Int) < (1 : Int), (0 : Int) ≤ (8 : Int) ∧ (8 : Int) ≤ (64 : Int), InR IntKind.i64 (0 : Int), InR IntKind.i64 (1 : Int), InR IntKind.i64 (1 : Int), q false, InR IntKind.i64 (2 : Int), nat_lit 2 = nat_lit 2, ∀ (k : Nat), k < nat_lit 2 → lst [[V.int IntKind.u8 (1 : Int)], [V.int IntKind.u8 (1 : Int)]] k = lst [[V.int IntKind.u8 (1 : Int)], [V.int IntKind.u8 (1 : Int)]] k, false = true → false = true, q1, q2, q (1 : Int), q (2 : Int), q1]) (by kernel_rfl) Tryz.func111 (by kernel_rfl) ⟨rfl, (by decide), ⟨by decide, by decide⟩, rfl, rfl, rfl, (by decide), rfl, rfl, rfl, ⟨by decide, by decide⟩, (by decide), (by decide), rfl, (by decide), (by decide), ⟨by decide, by decide⟩, ⟨by decide, by decide⟩, ⟨by decide, by decide⟩, rfl, ⟨by decide, by decide⟩, rfl, (AllK.all (by repeat (first | exact trivial | refine ⟨?_, rfl⟩))), (fun h => by first | exact h | cases h), rfl, rfl, rfl, rfl, rfl, trivial⟩ (pinH_ok (by kernel_rfl)) (by kernel_rfl)
theorem lw11 : T Tryz.prog 113 [.ptr (.o 880) 0 0 0 0, .int .i64 2] [(.o 880, .flat [.ros 1 2 (lst [[.int .u8 1], [.int .u8 1]]) false, v0, vT])] (.ros 1 2 (lst [[.int .u8 1], [.int .u8 1]]) false) [(.o 880, .flat [.ros 1 0 (lst []) false, v0, vT])] :=
 T_along NG MO [] (b := .mk Tryz.f113 [.ptr (.o 880) 0 0 0 0, .int .i64 2] [(.o 880, .flat [.ros 1 2 (lst [[.int .u8 1], [.int .u8 1]]) false, v0, vT])] 3776 (kbT []) (fun _ __1 => some (.mk [] [(4, .set (.ros 1 2 (lst [[.int .u8 1], [.int .u8 1]]) false))] [(.o 880, .set (.flat [.ros 1 0 (lst []) false, v0, vT]))] none 3840)) (fun _ => [.o 880]) none) (cs := [(0 : Int) ≤ (2 : Int) ∧ (2 : Int) ≤ (2 : Int), (0 : Int) ≤ (2 : Int) ∧ (2 : Int) ≤ (2 : Int), nat_lit 0 = nat_lit 0, ∀ (k : Nat), k < nat_lit 0 → shiftF (lst [[V.int IntKind.u8 (1 : Int)], [V.int IntKind.u8 (1 : Int)]]) (some (2 : Int)) k = [], false = true → false = true, q1, q2, nat_lit 2 = nat_lit 2, ∀ (k : Nat), k < nat_lit 2 → shiftF (lst [[V.int IntKind.u8 (1 : Int)], [V.int IntKind.u8 (1 : Int)]]) none k = lst [[V.int IntKind.u8 (1 : Int)], [V.int IntKind.u8 (1 : Int)]] k, false = true → false = true]) (by kernel_rfl) Tryz.func113 (by kernel_rfl) ⟨(by decide), (by decide), rfl, (AllK.all (by repeat (first | exact trivial | refine ⟨?_, rfl⟩))), (fun h => by first | exact h | cases h), rfl, rfl, rfl, (AllK.all (by repeat (first | exact trivial | refine ⟨?_, rfl⟩))), (fun h => by first | exact h | cases h), trivial⟩ (pinH_ok (by kernel_rfl)) (by kernel_rfl)
theorem lw12 : T Tryz.prog 86 [.ptr (.o 880) 0 0 0 0, .int .i64 1099511627776] [(.o 880, .flat [.ros 1 2 (lst [[.int .u8 1], [.int .u8 1]]) false, v0, vT])] (.int .i64 1) [(.o 880, .flat [.ros 1 0 (lst []) false, v0, vT])] :=
 T_along NG MO [] (b := .mk Tryz.f86 [.ptr (.o 880) 0 0 0 0, .int .i64 1099511627776] [(.o 880, .flat [.ros 1 2 (lst [[.int .u8 1], [.int .u8 1]]) false, v0, vT])] 2048 (kbT [(2176, .mk false [] [.o 880] none (vF) [(.o 880, .flat [.ros 1 2 (lst [[.int .u8 1], [.int .u8 1]]) false, v0, vT])]), (2432, .mk false [] [.o 880] none (.tup [.int .i64 1, .int .i64 2, v0]) [(.o 880, .flat [.ros 1 2 (lst [[.int .u8 1], [.int .u8 1]]) false, v0, vT])]), (3776, .mk false [] [.o 880] none (.ros 1 2 (lst [[.int .u8 1], [.int .u8 1]]) false) [(.o 880, .flat [.ros 1 0 (lst []) false, v0, vT])])]) (fun _ __1 => some (.mk [] [(4, .set (.int .i64 1))] [(.o 880, .set (.flat [.ros 1 0 (lst []) false, v0, vT]))] none 2112)) (fun _ => [.o 880]) none) (cs := [type_of% lw9, q false, type_of% lw10, q2, q false, q false, type_of% lw11, nat_lit 0 = nat_lit 0, ∀ (k : Nat), k < nat_lit 0 → ([] : List V) = [], false = true → false = true, q1, q2, q (1 : Int)]) (by kernel_rfl) Tryz.func86 (by kernel_rfl) ⟨lw9, rfl, lw10, rfl, rfl, rfl, lw11, rfl, (AllK.all (by repeat (first | exact trivial | refine ⟨?_, rfl⟩))), (fun h => by first | exact h | cases h), rfl, rfl, rfl, trivial⟩ (pinH_ok (by kernel_rfl)) (by kernel_rfl)
theorem lw13 : T Tryz.prog 87 [.ptr (.o 880) 0 0 0 0] [(.o 880, .flat [.ros 1 0 (lst []) false, v0, vT])] (v0) [(.o 880, .flat [.ros 1 0 (lst []) false, v0, vT])] :=
 T_along NG MO [] (b := .mk Tryz.f87 [.ptr (.o 880) 0 0 0 0] [(.o 880, .flat [.ros 1 0 (lst []) false, v0, vT])] 2560 (kbT []) (fun _ __1 => some (.mk [] [(2, .set (v0))] [(.o 880, .set (.flat [.ros 1 0 (lst []) false, v0, vT]))] none 2624)) (fun _ => [.o 880]) none) (cs := [q false, q false, nat_lit 0 = nat_lit 0, ∀ (k : Nat), k < nat_lit 0 → ([] : List V) = [], false = true → false = true, q1, q2, q1]) (by kernel_rfl) Tryz.func87 (by kernel_rfl) ⟨rfl, rfl, rfl, (AllK.all (by repeat (first | exact trivial | refine ⟨?_, rfl⟩))), (fun h => by first | exact h | cases h), rfl, rfl, rfl, trivial⟩ (pinH_ok (by kernel_rfl)) (by kernel_rfl)
theorem lw14 : T Tryz.prog 123 [.ptr (.o 880) 0 0 0 0] [(.o 880, .flat [.ros 1 0 (lst []) false, v0, vT])] (v0) [(.o 880, .flat [.ros 1 0 (lst []) false, v0, vT])] :=
 T_along NG MO [] (b := .mk Tryz.f123 [.ptr (.o 880) 0 0 0 0] [(.o 880, .flat [.ros 1 0 (lst []) false, v0, vT])] 3008 (kbT []) (fun _ __1 => some (.mk [] [(2, .set (v0))] [(.o 880, .set (.flat [.ros 1 0 (lst []) false, v0, vT]))] none 3072)) (fun _ => [.o 880]) none) (cs := [nat_lit 0 = nat_lit 0, ∀ (k : Nat), k < nat_lit 0 → ([] : List V) = [], false = true → false = true, q1, q2, q1]) (by kernel_rfl) Tryz.func123 (by kernel_rfl) ⟨rfl, (AllK.all (by repeat (first | exact trivial | refine ⟨?_, rfl⟩))), (fun h => by first | exact h | cases h), rfl, rfl, rfl, trivial⟩ (pinH_ok (by kernel_rfl)) (by kernel_rfl)
theorem lw15 : T Tryz.prog 89 [.ptr (.o 880) 0 0 0 0] [(.o 880, .flat [.ros 1 0 (lst []) false, v0, vT])] (v0) [(.o 880, .flat [.ros 1 0 (lst []) false, v0, vT])] :=
 T_along NG MO [] (b := .mk Tryz.f89 [.ptr (.o 880) 0 0 0 0] [(.o 880, .flat [.ros 1 0 (lst []) false, v0, vT])] 2432 (kbT [(2560, .mk false [] [.o 880] none (v0) [(.o 880, .flat [.ros 1 0 (lst []) false, v0, vT])]), (3008, .mk false [] [.o 880] none (v0) [(.o 880, .flat [.ros 1 0 (lst []) false, v0, vT])])]) (fun _ __1 => some (.mk [] [(2, .set (v0))] [(.o 880, .set (.flat [.ros 1 0 (lst []) false, v0, vT]))] none 2496)) (fun _ => [.o 880]) none) (cs := [type_of% lw13, q false, type_of% lw14, q false, nat_lit 0 = nat_lit 0, ∀ (k : Nat), k < nat_lit 0 → ([] : List V) = [], false = true → false = true, q1, q2, q1]) (by kernel_rfl) Tryz.func89 (by kernel_rfl) ⟨lw13, rfl, lw14, rfl, rfl, (AllK.all (by repeat (first | exact trivial | refine ⟨?_, rfl⟩))), (fun h => by first | exact h | cases h), rfl, rfl, rfl, trivial⟩ (pinH_ok (by kernel_rfl)) (by kernel_rfl)
theorem lw16 : T Tryz.prog 73 [.ros 1 6 (lst [[.int .u8 1], [.int .u8 3], [.int .u8 1], [.int .u8 2], [.int .u8 1], [.int .u8 1]]) false] [] (.tup [.agg [.int .i64 3, .int .i64 2, .int .i64 1, v0, vF, .snil, v0, v0, v0, v0, .seg .u8 32 z32, .snil, .str ByteArray.empty, .snil], v0]) [] :=
 T_along NG MO [] (b := .mk Tryz.f73 [.ros 1 6 (lst [[.int .u8 1], [.int .u8 3], [.int .u8 1], [.int .u8 2], [.int .u8 1], [.int .u8 1]]) false] [] 640 (kbT [(832, .mk false [] [] none (.ptr (.o 880) 0 0 0 0) [(.o 880, .flat [.ros 1 6 (lst [[.int .u8 1], [.int .u8 3], [.int .u8 1], [.int .u8 2], [.int .u8 1], [.int .u8 1]]) false, v0, vT])]), (1024, .mk false [] [.o 880] none (.int .i64 3) [(.o 880, .flat [.ros 1 4 (lst [[.int .u8 1], [.int .u8 2], [.int .u8 1], [.int .u8 1]]) false, v0, vT])]), (1920, .mk false [] [.o 880] none (.int .i64 2) [(.o 880, .flat [.ros 1 2 (lst [[.int .u8 1], [.int .u8 1]]) false, v0, vT])]), (2048, .mk false [] [.o 880] none (.int .i64 1) [(.o 880, .flat [.ros 1 0 (lst []) false, v0, vT])]), (2432, .mk false [] [.o 880] none (v0) [(.o 880, .flat [.ros 1 0 (lst []) false, v0, vT])])]) (fun _ __1 => none) (fun _ => []) none) (cs := [type_of% lw0, type_of% lw4, q false, q false, q2, type_of% lw8, type_of% lw12, type_of% lw15, q false, q false, q false, q2]) (by kernel_rfl) Tryz.func73 (by kernel_rfl) ⟨lw0, lw4, rfl, rfl, rfl, lw8, lw12, lw15, rfl, rfl, rfl, rfl, trivial⟩ (pinH_ok (by kernel_rfl)) (by kernel_rfl)
theorem T_lwDec : type_of% lw16 := lw16
end Go.Proofs.YthifjamdfpjilaaGreat
namespace Go.Proofs.YthifjamdfpjilaaGreat
open Go Sy Go.Proofs
theorem bdAdd_p111 (n : Int) (more : Int) (most : Int) :
  along Tryz.prog (bdAdd n more most) [true, true, true] = some (V.int IntKind.i64 (most + 1), [], [decide (most < n) = true, true = true, true = true, InR IntKind.i64 (most + 1)]) := by kernel_rfl
theorem bdAdd_p011 (n : Int) (more : Int) (most : Int) :
  along Tryz.prog (bdAdd n more most) [false, true, true] = some (V.int IntKind.i64 (most + 1), [], [decide (most < n) = false, decide (most < more) = true, true = true, InR IntKind.i64 (most + 1)]) := by kernel_rfl
theorem bdAdd_p001 (n : Int) (more : Int) (most : Int) :
  along Tryz.prog (bdAdd n more most) [false, false, true] = some (V.int IntKind.i64 (most + 1), [], [decide (most < n) = false, decide (most < more) = false, InR IntKind.i64 (most - more), decide (most - more < n) = true, InR IntKind.i64 (most + 1)]) := by kernel_rfl
theorem bdAdd_p000 (n : Int) (more : Int) (most : Int) :
  along Tryz.prog (bdAdd n more most) [false, false, false] = some (V.int IntKind.i64 (n + more), [], [decide (most < n) = false, decide (most < more) = false, InR IntKind.i64 (most - more), decide (most - more < n) = false, InR IntKind.i64 (n + more)]) := by kernel_rfl

def addS (n more most : Int) : Int := if most < n ∨ most < more ∨ most - more < n then most + 1 else n + more
theorem T_add {n more : Int} (h1 : 0 ≤ n) (h2 : 0 ≤ more) (h3 : more ≤ 9223372036854775807) : T Tryz.prog 27 [.int .i64 n, .int .i64 more, .int .i64 4000] [] (.int .i64 (addS n more 4000)) [] := by
 by_cases a : (4000 : Int) < n
 ·exact T.val (T_al (bdAdd_p111 n more 4000) Tryz.func27 (by simp [All, InR64, a])) (by simp [addS, a])
 by_cases b : (4000 : Int) < more
 ·exact T.val (T_al (bdAdd_p011 n more 4000) Tryz.func27 (by simp [All, InR64, a, b] <;> omega)) (by simp [addS, b])
 by_cases c : (4000 : Int) - more < n
 ·exact T.val (T_al (bdAdd_p001 n more 4000) Tryz.func27 (by simp [All, InR64, a, b, c] <;> omega)) (by simp [addS, c])
 ·exact T.val (T_al (bdAdd_p000 n more 4000) Tryz.func27 (by simp [All, InR64, a, b, c] <;> omega)) (by simp [addS, a, b, c])

end Go.Proofs.YthifjamdfpjilaaGreat
namespace Go.Proofs.YthifjamdfpjilaaGreat
open Go Sy Go.Proofs
def bt (n : Nat) (b : Nat → SBatch) : V := .ros 2 n (fun i => (b i).c) false
/-- How much is counted of requests, of batches. -/
def lightR (n0 : Int) (r : Nat → SReq) : Nat → Int
 | 0 => n0
 | k + 1 => addS (addS (lightR n0 r k) 20 4000) (r k).data.size 4000
/-- One batch: as long as it isn't too much. -/
def light1I (b : SBatch) (n0 : Int) (k : Nat) : St := ⟨mkT 47 [(0, .sl (.o 0) 2 0 0 0 1 (some 1)), (3, .int .i64 (lightR n0 b.req k)), (4, .int .i64 0), (5, .int .i64 k)], [(.o 0, .rows 2 1 (getL [b.c]) false)], 1, []⟩
def dbAdd : Nat → List V → Heap → Nat → List Cl
 | 27, [.int _ a, .int _ c, _], _, _ => [{ val := .int .i64 (addS a c 4000) }]
 | _, _, _, _ => []
def lpLight (b : SBatch) (m : Nat) : Nat → St → List (Prop × Hint)
 | 0, _ => [(True, .rounds 2)]
 | _, _ => [(True, .loop (m + 1) (wTo (light1I b 5 0)) (.exit 2) (light1I b 5 m))]
noncomputable def pcLi (b : SBatch) (n0 : Int) (m k : Nat) : Pc := { c := cB (cB (cR (cR (cB (cL (cR (cB (cB (cR (cL (cR (cR (bodyOf Tryz.f26))))))))))))), st := light1I b n0 k, p := 1, kb := { db := dbAdd }, k := fun e _ => match e with
 | .normal => some (wTo (light1I b n0 (k + 1)))
 | _ => some (wTo (light1I b n0 m)) }
noncomputable def bdLight (b : SBatch) (m : Nat) : Bd := { f := Tryz.f26, args := [.sl (.o 0) 2 0 0 0 1 (some 1)], pre := [(.o 0, .rows 2 1 (getL [b.c]) false)], base := 1, kb := { db := dbAdd, lp := lpLight b m }, names := fun _ => [.o 0] }
end Go.Proofs.YthifjamdfpjilaaGreat
namespace Go.Proofs.YthifjamdfpjilaaGreat
open Go Sy Go.Proofs
theorem bdLight_p1100 (b : SBatch) (m : Nat) :
  along Tryz.prog (bdLight b m) [true, true, false, false] = some (V.bool (decide (lightR (5 : Int) (SBatch.req b) m ≤ (4000 : Int))), [(Nm.o (0 : Nat), B.rows (2 : Nat) (1 : Nat) (getL [SBatch.c b]) false)], [true = true, true = true, T Tryz.prog (27 : Nat) [V.int IntKind.i64 (0 : Int), V.int IntKind.i64 (5 : Int), V.int IntKind.i64 (4000 : Int)] [] (V.int IntKind.i64 (5 : Int)) [], RLoop Tryz.prog none (nat_lit 1) (cB (cB (cR (cR (cB (cL (cR (cB (cB (cR (cL (cR (cR (bodyOf (Bd.f (bdLight b m)))))))))))))))) (m + (1 : Nat)) (St.mk [V.sl (Nm.o (0 : Nat)) (2 : Nat) (0 : Nat) (0 : Nat) (0 : Nat) (1 : Nat) (some (1 : Nat)), V.any, V.any, V.int IntKind.i64 (5 : Int), V.int IntKind.i64 (0 : Int), V.int IntKind.i64 (0 : Int), V.any, V.any, V.any, V.any, V.any, V.any, V.any, V.any, V.any, V.any, V.any, V.any, V.any, V.any, V.any, V.any, V.any, V.any, V.any, V.any, V.any, V.any, V.any, V.any, V.any, V.any, V.any, V.any, V.any, V.any, V.any, V.any, V.any, V.any, V.any, V.any, V.any, V.any, V.any, V.any, V.any] [(Nm.o (0 : Nat), B.rows (2 : Nat) (1 : Nat) (getL [SBatch.c b]) false)] (nat_lit 1) []) (Exit.exit (2 : Nat)) (St.mk [V.sl (Nm.o (0 : Nat)) (2 : Nat) (0 : Nat) (0 : Nat) (0 : Nat) (1 : Nat) (some (1 : Nat)), V.any, V.any, V.int IntKind.i64 (lightR (5 : Int) (SBatch.req b) m), V.int IntKind.i64 (0 : Int), V.int IntKind.i64 (↑m : Int), V.any, V.any, V.any, V.any, V.any, V.any, V.any, V.any, V.any, V.any, V.any, V.any, V.any, V.any, V.any, V.any, V.any, V.any, V.any, V.any, V.any, V.any, V.any, V.any, V.any, V.any, V.any, V.any, V.any, V.any, V.any, V.any, V.any, V.any, V.any, V.any, V.any, V.any, V.any, V.any, V.any] [(Nm.o (0 : Nat), B.rows (2 : Nat) (1 : Nat) (getL [SBatch.c b]) false)] (1 : Nat) []), (1 : Nat) = (1 : Nat), ∀ (k : Nat), k < (1 : Nat) → getL [SBatch.c b] k = getL [SBatch.c b] k, false = false → false = false, (0 : Nat) = (0 : Nat), (0 : Nat) = (0 : Nat), (0 : Nat) = (0 : Nat), (1 : Nat) = (1 : Nat), some (1 : Nat) = none ∨ some (1 : Nat) = some (1 : Nat), (5 : Int) = (5 : Int), (0 : Int) = (0 : Int), (0 : Int) = (0 : Int), InR IntKind.i64 (1 : Int), false = false, false = false]) := by kernel_rfl

theorem pcLi_p11 (b : SBatch) (n0 : Int) (m : Nat) (k : Nat) :
  alongPc Tryz.prog (pcLi b n0 m k) [true, true] = some (Exit.normal, St.mk [V.sl (Nm.o (0 : Nat)) (2 : Nat) (0 : Nat) (0 : Nat) (0 : Nat) (1 : Nat) (some (1 : Nat)), V.any, V.any, V.int IntKind.i64 (lightR n0 (SBatch.req b) (k + (1 : Nat))), V.int IntKind.i64 (0 : Int), V.int IntKind.i64 (↑(k + (1 : Nat)) : Int), V.any, V.any, V.any, V.any, V.any, V.any, V.any, V.any, V.any, V.any, V.any, V.any, V.any, V.any, V.any, V.any, V.any, V.any, V.any, V.any, V.any, V.any, V.any, V.any, V.any, V.any, V.any, V.any, V.any, V.any, V.any, V.any, V.any, V.any, V.any, V.any, V.any, V.any, V.any, V.any, V.any] [(Nm.o (0 : Nat), B.rows (2 : Nat) (1 : Nat) (getL [SBatch.c b]) false)] (nat_lit 1) [], [(0 : Int) ≤ (0 : Int) ∧ (0 : Int) < (1 : Int), nat_lit 0 < (1 : Nat), decide ((↑k : Int) < (↑(SBatch.n b) : Int)) = true, decide (lightR n0 (SBatch.req b) k ≤ (4000 : Int)) = true, T Tryz.prog (27 : Nat) [V.int IntKind.i64 (lightR n0 (SBatch.req b) k), V.int IntKind.i64 (20 : Int), V.int IntKind.i64 (4000 : Int)] [] (V.int IntKind.i64 (addS (lightR n0 (SBatch.req b) k) (20 : Int) (4000 : Int))) [], (0 : Int) ≤ (0 : Int) ∧ (0 : Int) < (1 : Int), nat_lit 0 < (1 : Nat), (0 : Int) ≤ (↑k : Int) ∧ (↑k : Int) < (↑(SBatch.n b) : Int), T Tryz.prog (27 : Nat) [V.int IntKind.i64 (addS (lightR n0 (SBatch.req b) k) (20 : Int) (4000 : Int)), V.int IntKind.i64 (↑(ByteArray.size (SReq.data (SBatch.req b (Int.toNat (↑k : Int))))) : Int), V.int IntKind.i64 (4000 : Int)] [] (V.int IntKind.i64 (addS (addS (lightR n0 (SBatch.req b) k) (20 : Int) (4000 : Int)) (↑(ByteArray.size (SReq.data (SBatch.req b (Int.toNat (↑k : Int))))) : Int) (4000 : Int))) [], InR IntKind.i64 ((↑k : Int) + (1 : Int)), (1 : Nat) = (1 : Nat), ∀ (k : Nat), k < (1 : Nat) → getL [SBatch.c b] k = getL [SBatch.c b] k, false = false → false = false, (0 : Nat) = (0 : Nat), (0 : Nat) = (0 : Nat), (0 : Nat) = (0 : Nat), (1 : Nat) = (1 : Nat), some (1 : Nat) = none ∨ some (1 : Nat) = some (1 : Nat), addS (addS (lightR n0 (SBatch.req b) k) (20 : Int) (4000 : Int)) (↑(ByteArray.size (SReq.data (SBatch.req b (Int.toNat (↑k : Int))))) : Int) (4000 : Int) = lightR n0 (SBatch.req b) (k + (1 : Nat)), (0 : Int) = (0 : Int), (↑k : Int) + (1 : Int) = (↑(k + (1 : Nat)) : Int)]) := by kernel_rfl
theorem pcLi_p10 (b : SBatch) (n0 : Int) (m : Nat) (k : Nat) :
  alongPc Tryz.prog (pcLi b n0 m k) [true, false] = some (Exit.exit (2 : Nat), St.mk [V.sl (Nm.o (0 : Nat)) (2 : Nat) (0 : Nat) (0 : Nat) (0 : Nat) (1 : Nat) (some (1 : Nat)), V.any, V.any, V.int IntKind.i64 (lightR n0 (SBatch.req b) m), V.int IntKind.i64 (0 : Int), V.int IntKind.i64 (↑m : Int), V.any, V.any, V.any, V.any, V.any, V.any, V.any, V.any, V.any, V.any, V.any, V.any, V.any, V.any, V.any, V.any, V.any, V.any, V.any, V.any, V.any, V.any, V.any, V.any, V.any, V.any, V.any, V.any, V.any, V.any, V.any, V.any, V.any, V.any, V.any, V.any, V.any, V.any, V.any, V.any, V.any] [(Nm.o (0 : Nat), B.rows (2 : Nat) (1 : Nat) (getL [SBatch.c b]) false)] (nat_lit 1) [], [(0 : Int) ≤ (0 : Int) ∧ (0 : Int) < (1 : Int), nat_lit 0 < (1 : Nat), decide ((↑k : Int) < (↑(SBatch.n b) : Int)) = true, decide (lightR n0 (SBatch.req b) k ≤ (4000 : Int)) = false, (1 : Nat) = (1 : Nat), ∀ (k : Nat), k < (1 : Nat) → getL [SBatch.c b] k = getL [SBatch.c b] k, false = false → false = false, (0 : Nat) = (0 : Nat), (0 : Nat) = (0 : Nat), (0 : Nat) = (0 : Nat), (1 : Nat) = (1 : Nat), some (1 : Nat) = none ∨ some (1 : Nat) = some (1 : Nat), lightR n0 (SBatch.req b) k = lightR n0 (SBatch.req b) m, (0 : Int) = (0 : Int), (↑k : Int) = (↑m : Int)]) := by kernel_rfl
theorem pcLi_p00 (b : SBatch) (n0 : Int) (m : Nat) (k : Nat) :
  alongPc Tryz.prog (pcLi b n0 m k) [false, false] = some (Exit.exit (2 : Nat), St.mk [V.sl (Nm.o (0 : Nat)) (2 : Nat) (0 : Nat) (0 : Nat) (0 : Nat) (1 : Nat) (some (1 : Nat)), V.any, V.any, V.int IntKind.i64 (lightR n0 (SBatch.req b) m), V.int IntKind.i64 (0 : Int), V.int IntKind.i64 (↑m : Int), V.any, V.any, V.any, V.any, V.any, V.any, V.any, V.any, V.any, V.any, V.any, V.any, V.any, V.any, V.any, V.any, V.any, V.any, V.any, V.any, V.any, V.any, V.any, V.any, V.any, V.any, V.any, V.any, V.any, V.any, V.any, V.any, V.any, V.any, V.any, V.any, V.any, V.any, V.any, V.any, V.any] [(Nm.o (0 : Nat), B.rows (2 : Nat) (1 : Nat) (getL [SBatch.c b]) false)] (nat_lit 1) [], [(0 : Int) ≤ (0 : Int) ∧ (0 : Int) < (1 : Int), nat_lit 0 < (1 : Nat), decide ((↑k : Int) < (↑(SBatch.n b) : Int)) = false, false = false, (1 : Nat) = (1 : Nat), ∀ (k : Nat), k < (1 : Nat) → getL [SBatch.c b] k = getL [SBatch.c b] k, false = false → false = false, (0 : Nat) = (0 : Nat), (0 : Nat) = (0 : Nat), (0 : Nat) = (0 : Nat), (1 : Nat) = (1 : Nat), some (1 : Nat) = none ∨ some (1 : Nat) = some (1 : Nat), lightR n0 (SBatch.req b) k = lightR n0 (SBatch.req b) m, (0 : Int) = (0 : Int), (↑k : Int) = (↑m : Int)]) := by kernel_rfl

theorem exists_stop (p : Nat → Prop) : ∀ n, ∃ m, m ≤ n ∧ (∀ k, k < m → p k) ∧ (m = n ∨ ¬ p m)
 | 0 => ⟨0, Nat.le_refl _, fun k h => absurd h (Nat.not_lt_zero k), .inl rfl⟩
 | n + 1 => by
  obtain ⟨m, h1, h2, h3⟩ := exists_stop p n
  rcases h3 with rfl | h3
  ·by_cases h : p m
   ·refine ⟨m + 1, Nat.le_refl _, fun k hk => ?_, .inl rfl⟩
    rcases Nat.lt_or_ge k m with h4 | h4
    ·exact h2 k h4
    ·have : k = m := by omega
     subst this; exact h
   ·exact ⟨m, Nat.le_succ _, h2, .inr h⟩
  ·exact ⟨m, Nat.le_succ_of_le h1, h2, .inr h3⟩

theorem addS_range {n more : Int} (h1 : 0 ≤ n) (h2 : 0 ≤ more) : 0 ≤ addS n more 4000 ∧ addS n more 4000 ≤ 4001 := by
 unfold addS; split <;> omega
theorem addS_le {n more : Int} (h : addS n more 4000 ≤ 4000) : n ≤ 4000 ∧ more ≤ 4000 ∧ addS n more 4000 = n + more := by
 unfold addS at h ⊢; split at h
 ·omega
 ·rename_i h'; simp only [not_or, Int.not_lt] at h'; rw [if_neg (by omega)]; omega
theorem lightR_range {n0 : Int} (h : 0 ≤ n0 ∧ n0 ≤ 4001) (r : Nat → SReq) : ∀ k, 0 ≤ lightR n0 r k ∧ lightR n0 r k ≤ 4001
 | 0 => h
 | k + 1 => by
  rw [lightR]
  exact addS_range (addS_range (lightR_range h r k).1 (by decide)).1 (by omega)
theorem lightR_up {n0 : Int} (r : Nat → SReq) : ∀ k, lightR n0 r k ≤ 4000 → n0 + 20 * k ≤ lightR n0 r k
 | 0, _ => by simp [lightR]
 | k + 1, h => by
  rw [lightR] at h ⊢
  have h1 := addS_le h
  have h2 := addS_le h1.1
  have := lightR_up r k h2.1
  rw [h1.2.2, h2.2.2]; omega
theorem lightR_over {n0 : Int} (r : Nat → SReq) {m : Nat} : ∀ k, m ≤ k → lightR n0 r k ≤ 4000 → lightR n0 r m ≤ 4000
 | 0, h, h1 => by have : m = 0 := by omega
                  subst this; exact h1
 | k + 1, h, h1 => by
  rcases Nat.lt_or_ge m (k + 1) with h2 | h2
  ·rw [lightR] at h1
   exact lightR_over r k (by omega) (addS_le (addS_le h1).1).1
  ·have : m = k + 1 := by omega
   subst this; exact h1
/-- Is a batch not too much? -/
def lightB (b : SBatch) : Bool := decide (lightR 5 b.req b.n ≤ 4000)
theorem lightB_n {b : SBatch} (h : lightB b = true) : b.n ≤ 200 := by
 have := of_decide_eq_true h
 have := lightR_up b.req b.n this
 omega

theorem L_li (b : SBatch) {m : Nat} (hm : m ≤ b.n) (hd : ∀ k, k < b.n → (b.req k).data.size ≤ 9223372036854775807) (h1 : ∀ k, k < m → lightR 5 b.req k ≤ 4000) (h2 : m = b.n ∨ ¬ lightR 5 b.req m ≤ 4000) (hn : b.n ≤ 9223372036854775807) :
  RLoop Tryz.prog none 1 (cB (cB (cR (cR (cB (cL (cR (cB (cB (cR (cL (cR (cR (bodyOf Tryz.f26)))))))))))))) (m + 1) (light1I b 5 0) (.exit 2) (light1I b 5 m) :=
 RLoop.inv (light1I b 5) m (fun k hk => by
  have h3 := h1 k hk
  have hkn : k < b.n := by omega
  have h4 := lightR_range (n0 := 5) (by decide) b.req k
  have h5 := addS_range h4.1 (more := 20) (by decide)
  have hdk : (((b.req (Int.toNat (k : Int))).data.size : Nat) : Int) ≤ 9223372036854775807 := by
   have := hd k hkn
   rw [Int.toNat_natCast]; omega
  refine R_alongPc NG MO _ (pcLi_p11 b 5 m k) ?_ (Nat.le_refl _)
  simp only [All]
  and_intros
  all_goals first
   | exact T_add h4.1 (by decide) (by decide)
   | exact T_add h5.1 (by omega) hdk
   | (simp [h3, hkn, lightR, IntKind.min, IntKind.max, IntKind.signed, IntKind.bits] <;> omega))
  (by
   rcases h2 with h2 | h2
   ·refine R_alongPc NG MO _ (pcLi_p00 b 5 m m) ?_ (Nat.le_refl _)
    simp [All, h2]
   ·by_cases h3 : m < b.n
    ·refine R_alongPc NG MO _ (pcLi_p10 b 5 m m) ?_ (Nat.le_refl _)
     simp [All, h2, h3]
    ·refine R_alongPc NG MO _ (pcLi_p00 b 5 m m) ?_ (Nat.le_refl _)
     simp [All, h3]) (by simp)
theorem T_light0 (b : SBatch) (hd : ∀ k, k < b.n → (b.req k).data.size ≤ 9223372036854775807) (hn : b.n ≤ 9223372036854775807) :
  T Tryz.prog 26 [.sl (.o 0) 2 0 0 0 1 (some 1)] [(.o 0, .rows 2 1 (getL [b.c]) false)] (.bool (lightB b)) [(.o 0, .rows 2 1 (getL [b.c]) false)] := by
 obtain ⟨m, h1, h2, h3⟩ := exists_stop (fun k => lightR 5 b.req k ≤ 4000) b.n
 refine T.bool (T_al (bdLight_p1100 b m) Tryz.func26 ?_) ?_
 ·simp only [All]
  and_intros
  all_goals first
   | exact T_add (n := 0) (more := 5) (by decide) (by decide) (by decide)
   | exact L_li b h1 hd h2 h3 hn
   | simp [IntKind.min, IntKind.max, IntKind.signed, IntKind.bits]
 ·unfold lightB
  rw [decide_eq_decide]
  rcases h3 with rfl | h3
  ·exact Iff.rfl
  ·exact ⟨fun h => absurd h h3, fun h => lightR_over b.req b.n h1 h⟩
theorem T_light (b : SBatch) (hd : ∀ k, k < b.n → (b.req k).data.size ≤ 9223372036854775807) (hn : b.n ≤ 9223372036854775807) (a : Nat) :
  T Tryz.prog 26 [.sl (.o a) 2 0 0 0 1 (some 1)] [(.o a, .rows 2 1 (getL [b.c]) false)] (.bool (lightB b)) [(.o a, .rows 2 1 (getL [b.c]) false)] :=
 T.conv (T.swap (.o 0) (.o a) (T_light0 b hd hn)) (by simp [V.rens, V.ren, Nm.swap]) (by simp [Heap.ren, B.ren, Nm.swap]) (by simp [V.ren]) (by simp [Heap.ren, B.ren, Nm.swap])
end Go.Proofs.YthifjamdfpjilaaGreat
namespace Go.Proofs.YthifjamdfpjilaaGreat
open Go Sy Go.Proofs
/-- Is a record not too much? -/
def okR (r : SRec) : Bool := lightB r.batch && (decide (r.cert.n ≤ 100) && (decide (r.n ≤ 100) && decide (r.state.size ≤ 4000)))
def lrI (n : Nat) (r : Nat → SRec) (k : Nat) : St := ⟨mkT 39 [(8, rc n r), (9, .int .i64 n), (10, .int .i64 k)], [], 0, []⟩
def lrF : St := ⟨mkT 39 [(2, .bool false)], [], 0, []⟩
noncomputable def dbLight (x : SRec) : Nat → List V → Heap → Nat → List Cl
 | 26, [.sl a _ _ _ _ _ _], _, _ => [{ val := .bool (lightB x.batch), pre := [a], post := [(a, .rows 2 1 (getL [x.batch.c]) false)] }]
 | _, _, _, _ => []
noncomputable def pcLr (n : Nat) (r : Nat → SRec) (k : Nat) : Pc := { c := cB (cB (cR (cL (cR (cR (bodyOf Tryz.f18)))))), st := lrI n r k, kb := { db := dbLight (r k) }, k := fun e _ => match e with
 | .normal => some (wTo (lrI n r (k + 1)))
 | .ret => some (wTo lrF)
 | _ => some (wTo (lrI n r n)) }
noncomputable def bdLr (n : Nat) (r : Nat → SRec) (m : Nat) : Bd := { f := Tryz.f18, args := [rc n r], kb := { db := fun _ _ _ _ => [], lp := fun _ _ => [(True, .loop (n + 1) (wTo (lrI n r 0)) (.exit 0) (lrI n r n)), (True, .loop (m + 1) (wTo (lrI n r 0)) .ret lrF)] } }
end Go.Proofs.YthifjamdfpjilaaGreat
namespace Go.Proofs.YthifjamdfpjilaaGreat
open Go Sy Go.Proofs
theorem bdLr_p1 (n : Nat) (r : Nat → SRec) (m : Nat) :
  along Tryz.prog (bdLr n r m) [true] = some (V.bool false, [], [decide ((100 : Int) < (↑n : Int)) = true]) := by kernel_rfl
theorem bdLr_p01 (n : Nat) (r : Nat → SRec) (m : Nat) :
  along Tryz.prog (bdLr n r m) [false, true] = some (V.bool true, [], [decide ((100 : Int) < (↑n : Int)) = false, RLoop Tryz.prog none (nat_lit 0) (cB (cB (cR (cL (cR (cR (bodyOf (Bd.f (bdLr n r m))))))))) (n + (1 : Nat)) (St.mk [V.any, V.any, V.any, V.any, V.any, V.any, V.any, V.any, V.ros (45 : Nat) n (fun i => SRec.c (r i)) false, V.int IntKind.i64 (↑n : Int), V.int IntKind.i64 (0 : Int), V.any, V.any, V.any, V.any, V.any, V.any, V.any, V.any, V.any, V.any, V.any, V.any, V.any, V.any, V.any, V.any, V.any, V.any, V.any, V.any, V.any, V.any, V.any, V.any, V.any, V.any, V.any, V.any] [] (nat_lit 0) []) (Exit.exit (0 : Nat)) (St.mk [V.any, V.any, V.any, V.any, V.any, V.any, V.any, V.any, V.ros (45 : Nat) n (fun i => SRec.c (r i)) false, V.int IntKind.i64 (↑n : Int), V.int IntKind.i64 (↑n : Int), V.any, V.any, V.any, V.any, V.any, V.any, V.any, V.any, V.any, V.any, V.any, V.any, V.any, V.any, V.any, V.any, V.any, V.any, V.any, V.any, V.any, V.any, V.any, V.any, V.any, V.any, V.any, V.any] [] (0 : Nat) []), n = n, ∀ (k : Nat), k < n → SRec.c (r k) = SRec.c (r k), false = true → false = true, (↑n : Int) = (↑n : Int), (0 : Int) = (0 : Int)]) := by kernel_rfl
theorem bdLr_p00 (n : Nat) (r : Nat → SRec) (m : Nat) :
  along Tryz.prog (bdLr n r m) [false, false] = some (V.bool false, [], [decide ((100 : Int) < (↑n : Int)) = false, RLoop Tryz.prog none (nat_lit 0) (cB (cB (cR (cL (cR (cR (bodyOf (Bd.f (bdLr n r m))))))))) (m + (1 : Nat)) (St.mk [V.any, V.any, V.any, V.any, V.any, V.any, V.any, V.any, V.ros (45 : Nat) n (fun i => SRec.c (r i)) false, V.int IntKind.i64 (↑n : Int), V.int IntKind.i64 (0 : Int), V.any, V.any, V.any, V.any, V.any, V.any, V.any, V.any, V.any, V.any, V.any, V.any, V.any, V.any, V.any, V.any, V.any, V.any, V.any, V.any, V.any, V.any, V.any, V.any, V.any, V.any, V.any, V.any] [] (nat_lit 0) []) Exit.ret (St.mk [V.any, V.any, V.bool false, V.any, V.any, V.any, V.any, V.any, V.any, V.any, V.any, V.any, V.any, V.any, V.any, V.any, V.any, V.any, V.any, V.any, V.any, V.any, V.any, V.any, V.any, V.any, V.any, V.any, V.any, V.any, V.any, V.any, V.any, V.any, V.any, V.any, V.any, V.any, V.any] [] (0 : Nat) []), n = n, ∀ (k : Nat), k < n → SRec.c (r k) = SRec.c (r k), false = true → false = true, (↑n : Int) = (↑n : Int), (0 : Int) = (0 : Int)]) := by kernel_rfl

theorem pcLr_p11111 (n : Nat) (r : Nat → SRec) (k : Nat) :
  alongPc Tryz.prog (pcLr n r k) [true, true, true, true, true] = some (Exit.ret, St.mk [V.any, V.any, V.bool false, V.any, V.any, V.any, V.any, V.any, V.any, V.any, V.any, V.any, V.any, V.any, V.any, V.any, V.any, V.any, V.any, V.any, V.any, V.any, V.any, V.any, V.any, V.any, V.any, V.any, V.any, V.any, V.any, V.any, V.any, V.any, V.any, V.any, V.any, V.any, V.any] [] (nat_lit 0) [], [decide ((↑k : Int) < (↑n : Int)) = true, (0 : Int) ≤ (↑k : Int) ∧ (↑k : Int) < (↑n : Int), T Tryz.prog (26 : Nat) [V.sl (Nm.o (nat_lit 448)) (nat_lit 2) (0 : Nat) (0 : Nat) (0 : Nat) (1 : Nat) (some (1 : Nat))] [(Nm.o (nat_lit 448), B.rows (nat_lit 2) (1 : Nat) (getL [[V.bool (SBatch.noop (SRec.batch (r (Int.toNat (↑k : Int))))), rq (SBatch.n (SRec.batch (r (Int.toNat (↑k : Int))))) (SBatch.req (SRec.batch (r (Int.toNat (↑k : Int)))))]]) false)] (V.bool (lightB (SRec.batch (r k)))) [(Nm.o (nat_lit 448), B.rows (2 : Nat) (1 : Nat) (getL [SBatch.c (SRec.batch (r k))]) false)], (!lightB (SRec.batch (r k))) = true, true = true, true = true, true = true, false = false]) := by kernel_rfl
theorem pcLr_p10111 (n : Nat) (r : Nat → SRec) (k : Nat) :
  alongPc Tryz.prog (pcLr n r k) [true, false, true, true, true] = some (Exit.ret, St.mk [V.any, V.any, V.bool false, V.any, V.any, V.any, V.any, V.any, V.any, V.any, V.any, V.any, V.any, V.any, V.any, V.any, V.any, V.any, V.any, V.any, V.any, V.any, V.any, V.any, V.any, V.any, V.any, V.any, V.any, V.any, V.any, V.any, V.any, V.any, V.any, V.any, V.any, V.any, V.any] [] (nat_lit 0) [], [decide ((↑k : Int) < (↑n : Int)) = true, (0 : Int) ≤ (↑k : Int) ∧ (↑k : Int) < (↑n : Int), T Tryz.prog (26 : Nat) [V.sl (Nm.o (nat_lit 448)) (nat_lit 2) (0 : Nat) (0 : Nat) (0 : Nat) (1 : Nat) (some (1 : Nat))] [(Nm.o (nat_lit 448), B.rows (nat_lit 2) (1 : Nat) (getL [[V.bool (SBatch.noop (SRec.batch (r (Int.toNat (↑k : Int))))), rq (SBatch.n (SRec.batch (r (Int.toNat (↑k : Int))))) (SBatch.req (SRec.batch (r (Int.toNat (↑k : Int)))))]]) false)] (V.bool (lightB (SRec.batch (r k)))) [(Nm.o (nat_lit 448), B.rows (2 : Nat) (1 : Nat) (getL [SBatch.c (SRec.batch (r k))]) false)], (!lightB (SRec.batch (r k))) = false, decide ((100 : Int) < (↑(SCert.n (SRec.cert (r (Int.toNat (↑k : Int))))) : Int)) = true, true = true, true = true, false = false]) := by kernel_rfl
theorem pcLr_p10011 (n : Nat) (r : Nat → SRec) (k : Nat) :
  alongPc Tryz.prog (pcLr n r k) [true, false, false, true, true] = some (Exit.ret, St.mk [V.any, V.any, V.bool false, V.any, V.any, V.any, V.any, V.any, V.any, V.any, V.any, V.any, V.any, V.any, V.any, V.any, V.any, V.any, V.any, V.any, V.any, V.any, V.any, V.any, V.any, V.any, V.any, V.any, V.any, V.any, V.any, V.any, V.any, V.any, V.any, V.any, V.any, V.any, V.any] [] (nat_lit 0) [], [decide ((↑k : Int) < (↑n : Int)) = true, (0 : Int) ≤ (↑k : Int) ∧ (↑k : Int) < (↑n : Int), T Tryz.prog (26 : Nat) [V.sl (Nm.o (nat_lit 448)) (nat_lit 2) (0 : Nat) (0 : Nat) (0 : Nat) (1 : Nat) (some (1 : Nat))] [(Nm.o (nat_lit 448), B.rows (nat_lit 2) (1 : Nat) (getL [[V.bool (SBatch.noop (SRec.batch (r (Int.toNat (↑k : Int))))), rq (SBatch.n (SRec.batch (r (Int.toNat (↑k : Int))))) (SBatch.req (SRec.batch (r (Int.toNat (↑k : Int)))))]]) false)] (V.bool (lightB (SRec.batch (r k)))) [(Nm.o (nat_lit 448), B.rows (2 : Nat) (1 : Nat) (getL [SBatch.c (SRec.batch (r k))]) false)], (!lightB (SRec.batch (r k))) = false, decide ((100 : Int) < (↑(SCert.n (SRec.cert (r (Int.toNat (↑k : Int))))) : Int)) = false, decide ((100 : Int) < (↑(SRec.n (r (Int.toNat (↑k : Int)))) : Int)) = true, true = true, false = false]) := by kernel_rfl
theorem pcLr_p10001 (n : Nat) (r : Nat → SRec) (k : Nat) :
  alongPc Tryz.prog (pcLr n r k) [true, false, false, false, true] = some (Exit.ret, St.mk [V.any, V.any, V.bool false, V.any, V.any, V.any, V.any, V.any, V.any, V.any, V.any, V.any, V.any, V.any, V.any, V.any, V.any, V.any, V.any, V.any, V.any, V.any, V.any, V.any, V.any, V.any, V.any, V.any, V.any, V.any, V.any, V.any, V.any, V.any, V.any, V.any, V.any, V.any, V.any] [] (nat_lit 0) [], [decide ((↑k : Int) < (↑n : Int)) = true, (0 : Int) ≤ (↑k : Int) ∧ (↑k : Int) < (↑n : Int), T Tryz.prog (26 : Nat) [V.sl (Nm.o (nat_lit 448)) (nat_lit 2) (0 : Nat) (0 : Nat) (0 : Nat) (1 : Nat) (some (1 : Nat))] [(Nm.o (nat_lit 448), B.rows (nat_lit 2) (1 : Nat) (getL [[V.bool (SBatch.noop (SRec.batch (r (Int.toNat (↑k : Int))))), rq (SBatch.n (SRec.batch (r (Int.toNat (↑k : Int))))) (SBatch.req (SRec.batch (r (Int.toNat (↑k : Int)))))]]) false)] (V.bool (lightB (SRec.batch (r k)))) [(Nm.o (nat_lit 448), B.rows (2 : Nat) (1 : Nat) (getL [SBatch.c (SRec.batch (r k))]) false)], (!lightB (SRec.batch (r k))) = false, decide ((100 : Int) < (↑(SCert.n (SRec.cert (r (Int.toNat (↑k : Int))))) : Int)) = false, decide ((100 : Int) < (↑(SRec.n (r (Int.toNat (↑k : Int)))) : Int)) = false, decide ((4000 : Int) < (↑(ByteArray.size (SRec.state (r (Int.toNat (↑k : Int))))) : Int)) = true, false = false]) := by kernel_rfl
theorem pcLr_p10000 (n : Nat) (r : Nat → SRec) (k : Nat) :
  alongPc Tryz.prog (pcLr n r k) [true, false, false, false, false] = some (Exit.normal, St.mk [V.any, V.any, V.any, V.any, V.any, V.any, V.any, V.any, V.ros (45 : Nat) n (fun i => SRec.c (r i)) false, V.int IntKind.i64 (↑n : Int), V.int IntKind.i64 (↑(k + (1 : Nat)) : Int), V.any, V.any, V.any, V.any, V.any, V.any, V.any, V.any, V.any, V.any, V.any, V.any, V.any, V.any, V.any, V.any, V.any, V.any, V.any, V.any, V.any, V.any, V.any, V.any, V.any, V.any, V.any, V.any] [] (nat_lit 0) [], [decide ((↑k : Int) < (↑n : Int)) = true, (0 : Int) ≤ (↑k : Int) ∧ (↑k : Int) < (↑n : Int), T Tryz.prog (26 : Nat) [V.sl (Nm.o (nat_lit 448)) (nat_lit 2) (0 : Nat) (0 : Nat) (0 : Nat) (1 : Nat) (some (1 : Nat))] [(Nm.o (nat_lit 448), B.rows (nat_lit 2) (1 : Nat) (getL [[V.bool (SBatch.noop (SRec.batch (r (Int.toNat (↑k : Int))))), rq (SBatch.n (SRec.batch (r (Int.toNat (↑k : Int))))) (SBatch.req (SRec.batch (r (Int.toNat (↑k : Int)))))]]) false)] (V.bool (lightB (SRec.batch (r k)))) [(Nm.o (nat_lit 448), B.rows (2 : Nat) (1 : Nat) (getL [SBatch.c (SRec.batch (r k))]) false)], (!lightB (SRec.batch (r k))) = false, decide ((100 : Int) < (↑(SCert.n (SRec.cert (r (Int.toNat (↑k : Int))))) : Int)) = false, decide ((100 : Int) < (↑(SRec.n (r (Int.toNat (↑k : Int)))) : Int)) = false, decide ((4000 : Int) < (↑(ByteArray.size (SRec.state (r (Int.toNat (↑k : Int))))) : Int)) = false, InR IntKind.i64 ((↑k : Int) + (1 : Int)), n = n, ∀ (k : Nat), k < n → SRec.c (r k) = SRec.c (r k), false = true → false = true, (↑n : Int) = (↑n : Int), (↑k : Int) + (1 : Int) = (↑(k + (1 : Nat)) : Int)]) := by kernel_rfl
theorem pcLr_p0 (n : Nat) (r : Nat → SRec) (k : Nat) :
  alongPc Tryz.prog (pcLr n r k) [false] = some (Exit.exit (0 : Nat), St.mk [V.any, V.any, V.any, V.any, V.any, V.any, V.any, V.any, V.ros (45 : Nat) n (fun i => SRec.c (r i)) false, V.int IntKind.i64 (↑n : Int), V.int IntKind.i64 (↑n : Int), V.any, V.any, V.any, V.any, V.any, V.any, V.any, V.any, V.any, V.any, V.any, V.any, V.any, V.any, V.any, V.any, V.any, V.any, V.any, V.any, V.any, V.any, V.any, V.any, V.any, V.any, V.any, V.any] [] (nat_lit 0) [], [decide ((↑k : Int) < (↑n : Int)) = false, n = n, ∀ (k : Nat), k < n → SRec.c (r k) = SRec.c (r k), false = true → false = true, (↑n : Int) = (↑n : Int), (↑k : Int) = (↑n : Int)]) := by kernel_rfl

/-- What a machine can have. -/
structure FitR (r : SRec) : Prop where
 n : r.batch.n ≤ 9223372036854775807
 data : ∀ k, k < r.batch.n → (r.batch.req k).data.size ≤ 9223372036854775807
def lightAll (n : Nat) (r : Nat → SRec) : Bool := decide (n ≤ 100) && decide (∀ i, i < n → okR (r i) = true)

theorem lr_bad {n : Nat} {r : Nat → SRec} (hf : ∀ k, k < n → FitR (r k)) {k : Nat} (hk : k < n) (h : ¬ okR (r k) = true) : R Tryz.prog none 0 (cB (cB (cR (cL (cR (cR (bodyOf Tryz.f18))))))) (lrI n r k) .ret lrF := by
 have hT := T_light (r k).batch (hf k hk).data (hf k hk).n 448
 by_cases h1 : lightB (r k).batch = true
 ·by_cases h2 : (r k).cert.n ≤ 100
  ·by_cases h3 : (r k).n ≤ 100
   ·have h4 : ¬ (r k).state.size ≤ 4000 := fun h4 => h (by simp [okR, h1, h2, h3, h4])
    exact R_alongPc NG MO _ (pcLr_p10001 n r k) ⟨by simp [hk], by simp [hk], hT, by simp [h1], by simp <;> omega, by simp <;> omega, by simp <;> omega, rfl, trivial⟩ (Nat.zero_le _)
   ·exact R_alongPc NG MO _ (pcLr_p10011 n r k) ⟨by simp [hk], by simp [hk], hT, by simp [h1], by simp <;> omega, by simp <;> omega, rfl, rfl, trivial⟩ (Nat.zero_le _)
  ·exact R_alongPc NG MO _ (pcLr_p10111 n r k) ⟨by simp [hk], by simp [hk], hT, by simp [h1], by simp <;> omega, rfl, rfl, rfl, trivial⟩ (Nat.zero_le _)
 ·exact R_alongPc NG MO _ (pcLr_p11111 n r k) ⟨by simp [hk], by simp [hk], hT, by simp [h1], rfl, rfl, rfl, rfl, trivial⟩ (Nat.zero_le _)
theorem lr_good {n : Nat} {r : Nat → SRec} (hn : n ≤ 100) (hf : ∀ k, k < n → FitR (r k)) {k : Nat} (hk : k < n) (h : okR (r k) = true) : R Tryz.prog none 0 (cB (cB (cR (cL (cR (cR (bodyOf Tryz.f18))))))) (lrI n r k) .normal (lrI n r (k + 1)) := by
 have hT := T_light (r k).batch (hf k hk).data (hf k hk).n 448
 simp only [okR, Bool.and_eq_true, decide_eq_true_eq] at h
 obtain ⟨h1, h2, h3, h4⟩ := h
 refine R_alongPc NG MO _ (pcLr_p10000 n r k) ⟨by simp [hk], by simp [hk], hT, by simp [h1], by simp <;> omega, by simp <;> omega, by simp <;> omega, by rw [InR64]; omega, ?_⟩ (Nat.zero_le _)
 simp [All]
theorem T_lr {n : Nat} (r : Nat → SRec) (hf : ∀ k, k < n → FitR (r k)) : T Tryz.prog 18 [rc n r] [] (.bool (lightAll n r)) [] := by
 by_cases hn : n ≤ 100
 ·obtain ⟨m, h1, h2, h3⟩ := exists_stop (fun k => okR (r k) = true) n
  by_cases hmn : m = n
  ·subst hmn
   refine T.bool (T_al (bdLr_p01 m r m) Tryz.func18 ⟨by simp <;> omega, RLoop.inv (lrI m r) m (fun k hk => lr_good hn hf hk (h2 k hk)) (R_alongPc NG MO _ (pcLr_p0 m r m) (by simp [All]) (Nat.zero_le _)) (by simp), ?_⟩) (by simp [lightAll, hn]; exact h2)
   simp [All]
  ·have hm : m < n := by omega
   have h3 := h3.resolve_left hmn
   refine T.bool (T_al (bdLr_p00 n r m) Tryz.func18 ⟨by simp <;> omega, RLoop.inv (lrI n r) m (fun k hk => lr_good hn hf (by omega) (h2 k hk)) (lr_bad hf hm h3) (by simp), ?_⟩) (by
     have : ¬ ∀ i, i < n → okR (r i) = true := fun h => h3 (h m hm)
     simp only [lightAll, this, decide_false, Bool.and_false])
   simp [All]
 ·exact T.bool (T_al (bdLr_p1 n r 0) Tryz.func18 ⟨by simp <;> omega, trivial⟩) (by simp [lightAll, hn])
end Go.Proofs.YthifjamdfpjilaaGreat
namespace Sy
open Go
/-- What holds of what can't be turned holds of blocks that are lent: they stay as they are. -/
theorem T.lend {P : Program} {f : FuncId} {args args' : List V} {pre : Heap} {b : Bool} {cs : List Prop} (h : T P f args [] (.bool b) []) (hl : leVs pre args' args = some cs) (hc : All cs) : T P f args' pre (.bool b) pre := by
 intro U ρ w xs hh ha hf
 have hfU : ∀ n b l, (n, b) ∈ pre → ρ n = some l → l.real = true → U l.blk = none := fun n b l hm e hr => by
  obtain ⟨_, _, _, h⟩ := hh.real hm e hr; exact h
 have hU : U.le (freeze U ρ pre w) := fun k c e => by
  unfold freeze
  split
  ·rename_i hx
   obtain ⟨n, b, l, h1, h2, h3, rfl⟩ := hx
   rw [hfU n b l h1 h2 h3] at e; cases e
  ·exact e
 have hF : Frozen U (freeze U ρ pre w) ρ pre := fun n b hm l e hr => by
  have hex : ∃ n b l', (n, b) ∈ pre ∧ ρ n = some l' ∧ l'.real = true ∧ l'.blk = l.blk := ⟨n, b, l, hm, e, hr, rfl⟩
  obtain ⟨o, h1, h2, h3⟩ := hh.real hm e hr
  constructor
  ·rintro cs rfl
   obtain ⟨c, el, lo, hi, rfl, _, _, h4⟩ := h2
   exact ⟨c, by unfold freeze; rw [if_pos hex, h1], h4⟩
  ·rintro es m f g rfl
   obtain ⟨c, el, lo, hi, rfl, _, _, _, _, h4⟩ := h2
   exact ⟨c, by unfold freeze; rw [if_pos hex, h1], h4⟩
 have h0 : HRel (freeze U ρ pre w) ρ [] w := by
  refine ⟨fun n b hm => absurd hm List.not_mem_nil, fun n b n' b' l l' hm => absurd hm List.not_mem_nil, List.nodup_nil, fun k c hk => ?_⟩
  unfold freeze at hk
  split at hk
  ·split at hk
   ·rename_i c' el fr hx
    simp only [Option.some.injEq] at hk; subst hk
    exact ⟨el, fr, hx⟩
   ·cases hk
  ·exact hh.imm k c hk
 refine Calls.mono (h _ ρ w xs h0 (leVs_ok hU hF _ _ _ _ hl hc ha) fun n ⟨b, hb⟩ => absurd hb List.not_mem_nil) ?_
 rintro e w' ⟨x, U', ρ', he, L⟩
 have hx : x = .bool b := by have := L.val; rwa [VRel] at this
 have hk : ∀ k, k < w.heap.size → w'.heap[k]? = w.heap[k]? := fun k hk => L.ext.frame k hk fun n l ⟨b, hb⟩ => absurd hb List.not_mem_nil
 refine ⟨x, U, ρ, he, ⟨by rw [VRel]; exact hx, ⟨fun n b hm => ?_, hh.inj, hh.nd, fun k c e => ?_⟩, fun n l _ e => e, fun n l e => .inr e, ⟨L.ext.size, Imm.le_refl _, fun k hk' _ => hk k hk', fun n l hd e hr => .inr ⟨n, l, hd, e, hr, rfl⟩, fun b c e => .inl e, L.ext.out⟩⟩⟩
 ·obtain ⟨l, g1, g2⟩ := hh.blk n b hm
  refine ⟨l, g1, ?_⟩
  rcases g2 with ⟨hr, o, g3, g4⟩ | g2
  ·exact .inl ⟨hr, o, by rw [hk _ (lt_size g3)]; exact g3, g4⟩
  ·exact .inr g2
 ·obtain ⟨el, fr, g⟩ := hh.imm k c e
  exact ⟨el, fr, by rw [hk _ (lt_size g)]; exact g⟩
end Sy
namespace Go.Proofs.YthifjamdfpjilaaGreat
open Go Sy Go.Proofs
def cLightR (b : Bool) : List V → Heap → Nat → List Cl := fun args _ _ => match args with
 | .sl a _ _ _ _ _ _ :: _ => [{ rd := [a], val := .bool b }]
 | _ => []
noncomputable def bdEr (r o : SRec) (lt : Bool) (l : List UInt8) (e : Int) (g s : Bool) : Bd := { f := Tryz.f5, args := [.agg r.c, .agg o.c], kb := { db := fun k a h lo => match dbQ [(18, cLightR lt), (19, cVal (.bool true)), (20, cVal (.tup [roB l, .int .i64 e])), (21, cVal (.tup [roB l, .int .i64 e])), (22, cVal (.bool g)), (23, cVal (.bool g)), (25, cVal (.bool s))] k a h lo with
 | [] => dbSeqF 0 [(24, 42, cVal (.bool s)), (24, 51, cVal (.bool true))] k a h lo
 | r => r } }
def livRB : List UInt8 := [1, 3, 1, 2, 1, 1]
def livR : SRec := { rec0 3 with leader := 2, view := 1 }
noncomputable def bdLvR : Bd := { f := Tryz.f19, args := [], kb := kbT [(128, { val := .tup [roB livRB, .int .i64 0] }), (576, { val := .tup [.agg [.int .i64 3, .int .i64 2, .int .i64 1, v0, vF, .snil, v0, v0, v0, v0, .seg .u8 32 z32, .snil, .str ByteArray.empty, .snil], v0] })] }
end Go.Proofs.YthifjamdfpjilaaGreat
namespace Go.Proofs.YthifjamdfpjilaaGreat
open Go Sy Go.Proofs
theorem bdEr_p1 (r : SRec) (o : SRec) (lt : Bool) (l : List UInt8) (e : Int) (g : Bool) (s : Bool) :
  along Tryz.prog (bdEr r o lt l e g s) [true] = (some (.bool true, [], [T Tryz.prog 18 [.sl (.o 320) 45 0 0 0 2 (some 2)] [(.o 320, .rows 45 2 (getL [(SRec.c r), (SRec.c o)]) false)] (.bool lt) [(.o 320, .rows 45 2 (getL [(SRec.c r), (SRec.c o)]) false)], (!lt) = true, T Tryz.prog 19 [] [] (.bool true) []]) : Option (V × Heap × List Prop)) := by kernel_rfl

theorem bdEr_p011111 (r : SRec) (o : SRec) (lt : Bool) (l : List UInt8) (e : Int) (g : Bool) (s : Bool) :
  along Tryz.prog (bdEr r o lt l e g s) [false, true, true, true, true, true] = (some (.bool true, [], [T Tryz.prog 18 [.sl (.o 320) 45 0 0 0 2 (some 2)] [(.o 320, .rows 45 2 (getL [(SRec.c r), (SRec.c o)]) false)] (.bool lt) [(.o 320, .rows 45 2 (getL [(SRec.c r), (SRec.c o)]) false)], (!lt) = false, T Tryz.prog 20 [.agg (SRec.c r)] [] (.tup [.ros 1 (List.length l) (bl l) false, .int .i64 e]) [], T Tryz.prog 21 [.agg (SRec.c r)] [] (.tup [.ros 1 (List.length l) (bl l) false, .int .i64 e]) [], ∀ (k : Nat), k < List.length l → true = true, ∀ (k : Nat), k < List.length l → true = true, ∀ (k : Nat), k < List.length l → true = true, ∀ (k : Nat), k < List.length l → true = true, decide (bytesF (List.length l) (bl l) = bytesF (List.length l) (bl l)) = true, decide (e = e) = true, T Tryz.prog 22 [.agg (SRec.c r)] [] (.bool g) [], T Tryz.prog 23 [.agg (SRec.c r)] [] (.bool g) [], (g == g) = true, T Tryz.prog 24 [.agg (SRec.c r), .agg (SRec.c o)] [] (.bool s) [], T Tryz.prog 25 [.agg (SRec.c r), .agg (SRec.c o)] [] (.bool s) [], (s == s) = true, T Tryz.prog 24 [.agg (SRec.c r), .agg (SRec.c r)] [] (.bool true) [], q2, T Tryz.prog 19 [] [] (.bool true) []]) : Option (V × Heap × List Prop)) := by kernel_rfl

theorem bdLvR_p :
  along Tryz.prog (bdLvR) [] = (some (.bool true, [], [T Tryz.prog 20 [.agg [.int .i64 3, .int .i64 2, .int .i64 1, .int .i64 0, .bool false, .snil, .int .i64 0, .int .i64 0, .int .i64 0, .int .i64 0, .seg .u8 32 z32, .snil, .str ByteArray.empty, .snil]] [] (.tup [.ros 1 6 (bl livRB) false, .int .i64 0]) [], T Tryz.prog 73 [.ros 1 6 (bl livRB) false] [] (.tup [.agg [.int .i64 3, .int .i64 2, .int .i64 1, .int .i64 0, .bool false, .snil, .int .i64 0, .int .i64 0, .int .i64 0, .int .i64 0, .seg .u8 32 z32, .snil, .str ByteArray.empty, .snil], .int .i64 0]) [], q2, q2, ∀ (k : Nat), k < nat_lit 6 → true = true, ∀ (k : Nat), k < nat_lit 6 → true = true, q2]) : Option (V × Heap × List Prop)) := by kernel_rfl

theorem T_livesR : T Tryz.prog 19 [] [] (.bool true) [] := by
 have e1 : recE livR = 0 := by kernel_rfl
 have e2 : recT livR = livRB := by kernel_rfl
 have hE := T_recE (r := livR) ⟨Nat.zero_le _, Nat.zero_le _, Nat.zero_le _⟩ ⟨noK, ⟨seg32, noK⟩, noK⟩
 rw [e1, e2] at hE
 have hD : T Tryz.prog 73 [roB livRB] [] (.tup [.agg [.int .i64 3, .int .i64 2, .int .i64 1, v0, vF, .snil, v0, v0, v0, v0, .seg .u8 32 z32, .snil, .str ByteArray.empty, .snil], v0]) [] :=
  T.args T_lwDec rfl ⟨rfl, AllK.all (by repeat (first | exact trivial | refine ⟨?_, rfl⟩)), fun h => h, trivial⟩
 refine T_al bdLvR_p Tryz.func19 ?_
 simp only [All]; and_intros
 all_goals first
  | exact hD
  | (refine T.args hE rfl ?_; simp [All, livR, rec0, vote0]; done)
  | trivial
  | rfl
  | (intro _ _; trivial)
  | (intro _ _; rfl)
theorem T_lightTwo {r o : SRec} (hr : FitR r) (ho : FitR o) : T Tryz.prog 18 [.sl (.o 320) 45 0 0 0 2 (some 2)] [(.o 320, .rows 45 2 (getL [r.c, o.c]) false)] (.bool (okR r && okR o)) [(.o 320, .rows 45 2 (getL [r.c, o.c]) false)] := by
 have h := T_lr (n := 2) (fun i => if i = 0 then r else o) (fun k _ => by show FitR (if k = 0 then r else o); split <;> assumption)
 have e : lightAll 2 (fun i => if i = 0 then r else o) = (okR r && okR o) := by
  have : (∀ i, i < 2 → okR (if i = 0 then r else o) = true) ↔ okR r = true ∧ okR o = true := by
   constructor
   ·intro h; exact ⟨h 0 (by decide), h 1 (by decide)⟩
   ·rintro ⟨h1, h2⟩ i _; split <;> assumption
  unfold lightAll
  simp only [this]
  cases okR r <;> cases okR o <;> rfl
 rw [e] at h
 refine T.lend h rfl ?_
 simp only [All]; and_intros
 all_goals first
  | trivial
  | rfl
  | (intro k hk; obtain h | h : k = 0 ∨ k = 1 := by omega
     ·subst h; rfl
     ·subst h; rfl)
  | (simp; done)
theorem sameRec_rfl (r : SRec) : sameRecS r r = true := by simp [sameRecS, sameL, voteEq, sameBatchS, reqEq, signEq]
theorem T_encodesR {r o : SRec} (hr : FitR r) (ho : FitR o) (tr : segRec r) : T Tryz.prog 5 [.agg r.c, .agg o.c] [] (.bool true) [] := by
 have hL := T_lightTwo hr ho
 have hlv := T_livesR
 cases h0 : (okR r && okR o) with
 | false =>
  rw [h0] at hL
  refine T_al (bdEr_p1 r o false [] 0 false false) Tryz.func5 ?_
  simp only [All]; and_intros
  all_goals first
   | exact hL
   | exact hlv
   | rfl
   | trivial
 | true =>
  rw [h0] at hL
  rw [Bool.and_eq_true] at h0
  have hok := h0.1
  simp only [okR, Bool.and_eq_true, decide_eq_true_eq] at hok
  have hF : FitRec r := ⟨by have := lightB_n hok.1; omega, by have := hok.2.1; omega, by have := hok.2.2.1; omega⟩
  have hS := T_xS r r hF
  rw [sameRec_rfl] at hS
  refine T_al (bdEr_p011111 r o true (recT r) (recE r) (goodRS r) (sameRecS r o)) Tryz.func5 ?_
  simp only [All]; and_intros
  all_goals first
   | exact hL
   | exact T_recE hF tr
   | exact T_qE hF tr
   | exact T_rg hF
   | exact T_qg hF
   | exact T_xS r o hF
   | exact T_yS r o hF
   | exact hS
   | exact hlv
   | rfl
   | trivial
   | (intro _ _; trivial)
   | (intro _ _; rfl)
   | (simp; done)
end Go.Proofs.YthifjamdfpjilaaGreat
namespace Go.Proofs.YthifjamdfpjilaaGreat
open Go Sy Go.Proofs
theorem cellsSign : Tryz.prog.cellsOf 84 = 17 := by kernel_rfl
theorem cellsReq : Tryz.prog.cellsOf 121 = 19 := by kernel_rfl
theorem seg_of {n : Nat} {xs : List Int} (h : xs.length = n) (h2 : ∀ x ∈ xs, InR .u8 x) : SegOk n xs := ⟨h, fun x hx => InR8.1 (h2 x hx)⟩
theorem sg_sign {d : Nat} {cs : List V} (h : ShC Tryz.prog d 84 cs) : ∃ s : SSign, cs = s.c ∧ SegOk 16 s.tag := by
 obtain ⟨d, a, _, rfl, ha, b, _, rfl, hb, rfl⟩ := sh_struct h Tryz.underlying84
 obtain ⟨n, rfl, _⟩ := sh_int ha Tryz.underlying3
 obtain ⟨xs, rfl, h1, h2⟩ := sh_arr hb Tryz.underlying63 Tryz.underlying5
 exact ⟨⟨n, xs⟩, rfl, seg_of h1 h2⟩
theorem sg_req {d : Nat} {cs : List V} (h : ShC Tryz.prog d 121 cs) : ∃ s : SReq, cs = s.c ∧ s.data.size ≤ 9223372036854775807 ∧ SegOk 16 s.tag := by
 obtain ⟨d, a, _, rfl, ha, b, _, rfl, hb, c, _, rfl, hc, e, _, rfl, he, rfl⟩ := sh_struct h Tryz.underlying121
 obtain ⟨n, rfl, _⟩ := sh_int ha Tryz.underlying3
 obtain ⟨m, rfl, _⟩ := sh_int hb Tryz.underlying3
 obtain ⟨s, rfl, hs⟩ := sh_str hc Tryz.underlying9
 obtain ⟨xs, rfl, h1, h2⟩ := sh_arr he Tryz.underlying63 Tryz.underlying5
 exact ⟨⟨n, m, s, xs⟩, rfl, hs, seg_of h1 h2⟩
theorem sg_dig {d : Nat} {cs : List V} (h : ShC Tryz.prog d 26 cs) : ∃ xs : List Int, cs = [.seg .u8 32 xs] ∧ SegOk 32 xs := by
 obtain ⟨xs, rfl, h1, h2⟩ := sh_arr h Tryz.underlying26 Tryz.underlying5
 exact ⟨xs, rfl, seg_of h1 h2⟩
theorem sg_vote {d : Nat} {cs : List V} (h : ShC Tryz.prog d 28 cs) : ∃ s : SVote, cs = s.c ∧ SegOk 32 s.digest := by
 obtain ⟨d, a, _, rfl, ha, b, _, rfl, hb, c, _, rfl, hc, e, _, rfl, he, f, _, rfl, hf, rfl⟩ := sh_struct h Tryz.underlying28
 obtain ⟨n, rfl, _⟩ := sh_int ha Tryz.underlying3
 obtain ⟨m, rfl, _⟩ := sh_int hb Tryz.underlying3
 obtain ⟨o, rfl, _⟩ := sh_int hc Tryz.underlying3
 obtain ⟨p, rfl, _⟩ := sh_int he Tryz.underlying3
 obtain ⟨xs, rfl, h1⟩ := sg_dig hf
 exact ⟨⟨n, m, o, p, xs⟩, rfl, h1⟩
theorem sg_signs (U : Imm) {d : Nat} {cs : List V} (h : ShC Tryz.prog d 33 cs) : ∃ n s, CsLe U cs [sg n s] ∧ n ≤ 9223372036854775807 ∧ ∀ i, i < n → SegOk 16 (s i).tag := by
 obtain ⟨d, len, f, rfl, hl, hf⟩ := sh_slice h Tryz.underlying33
 obtain ⟨s, hs⟩ := choose_fn fun i hi => sg_sign (hf i hi)
 refine ⟨len, s, ?_, hl, fun i hi => (hs i hi).2⟩
 rw [cellsSign]
 exact CsLe.ros fun i hi => by rw [(hs i hi).1]; exact CsLe.refl _ _
theorem sg_batch (U : Imm) {d : Nat} {cs : List V} (h : ShC Tryz.prog d 24 cs) : ∃ b : SBatch, CsLe U cs b.c ∧ (b.n ≤ 9223372036854775807 ∧ ∀ k, k < b.n → (b.req k).data.size ≤ 9223372036854775807) ∧ segBatch b := by
 obtain ⟨d, a, _, rfl, ha, b, _, rfl, hb, rfl⟩ := sh_struct h Tryz.underlying24
 obtain ⟨n, rfl⟩ := sh_bool ha Tryz.underlying4
 obtain ⟨d, len, f, rfl, hl, hf⟩ := sh_slice hb Tryz.underlying22
 obtain ⟨s, hs⟩ := choose_fn fun i hi => sg_req (hf i hi)
 refine ⟨⟨n, len, s⟩, ?_, ⟨hl, fun k hk => (hs k hk).2.1⟩, fun k hk => (hs k hk).2.2⟩
 rw [cellsReq]
 refine CsLe.app (CsLe.refl U [.bool n]) ?_
 exact CsLe.ros fun i hi => by rw [(hs i hi).1]; exact CsLe.refl _ _
theorem sg_cert (U : Imm) {d : Nat} {cs : List V} (h : ShC Tryz.prog d 35 cs) : ∃ c : SCert, CsLe U cs c.c ∧ c.n ≤ 9223372036854775807 ∧ segCert c := by
 obtain ⟨d, a, _, rfl, ha, b, _, rfl, hb, rfl⟩ := sh_struct h Tryz.underlying35
 obtain ⟨v, rfl, hv⟩ := sg_vote ha
 obtain ⟨n, s, hs, hn, ht⟩ := sg_signs U hb
 refine ⟨⟨v, n, s⟩, ?_, hn, ⟨hv, ht⟩⟩
 refine CsLe.app (CsLe.refl U v.c) ?_
 rw [List.append_nil]; exact hs
theorem sg_rec (U : Imm) {d : Nat} {cs : List V} (h : ShC Tryz.prog d 50 cs) : ∃ r : SRec, CsLe U cs r.c ∧ FitR r ∧ segRec r := by
 obtain ⟨d, a1, _, rfl, h1, a2, _, rfl, h2, a3, _, rfl, h3, a4, _, rfl, h4, a5, _, rfl, h5, a6, _, rfl, h6, a7, _, rfl, h7, a8, _, rfl, h8, rfl⟩ := sh_struct h Tryz.underlying50
 obtain ⟨n1, rfl, _⟩ := sh_int h1 Tryz.underlying3
 obtain ⟨n2, rfl, _⟩ := sh_int h2 Tryz.underlying3
 obtain ⟨n3, rfl, _⟩ := sh_int h3 Tryz.underlying3
 obtain ⟨n4, rfl, _⟩ := sh_int h4 Tryz.underlying3
 obtain ⟨b, hb, hb1, hb2⟩ := sg_batch U h5
 obtain ⟨c, hc, _, hc2⟩ := sg_cert U h6
 obtain ⟨s, rfl, _⟩ := sh_str h7 Tryz.underlying9
 obtain ⟨n, sg, hs, _, hs2⟩ := sg_signs U h8
 refine ⟨⟨n1, n2, n3, n4, b, c, s, n, sg⟩, ?_, ⟨hb1.1, hb1.2⟩, ⟨hb2, hc2, hs2⟩⟩
 show CsLe U _ ([V.int .i64 n1] ++ ([V.int .i64 n2] ++ ([V.int .i64 n3] ++ ([V.int .i64 n4] ++ (b.c ++ (c.c ++ ([V.str s] ++ [Sy.sg n sg])))))))
 refine CsLe.app (CsLe.refl U [_]) (CsLe.app (CsLe.refl U [_]) (CsLe.app (CsLe.refl U [_]) (CsLe.app (CsLe.refl U [_]) (CsLe.app hb (CsLe.app hc (CsLe.app (CsLe.refl U [_]) ?_))))))
 rw [List.append_nil]; exact hs
end Go.Proofs.YthifjamdfpjilaaGreat
