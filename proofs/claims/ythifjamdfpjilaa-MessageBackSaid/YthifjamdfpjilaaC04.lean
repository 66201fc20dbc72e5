/-
  Contracts and laws that the claim's theorem leans on, joined out of the texts Ta3 Ta4D Ta4 Ta6D (own work of this seat): Contracts: batches, the writer's methods; Contracts: the writer's methods, continued; Contracts: the writer's methods, continued; Contracts: what may be told.
-/
import Derived.Test.YthifjamdfpjilaaC03
namespace Go.Proofs.Ythifjamdfpjilaa
open Go Sy Go.Proofs
theorem bdBp_p1 (l : List UInt8) (b : SBatch) :
  along Try.prog (bdBp l b) [true] = (some (.sl (.o 63) 1 0 0 0 (List.length (l ++ batchB b)) none, [(.o 63, .rows 1 (List.length (l ++ batchB b)) (bl (l ++ batchB b)) true)], [SBatch.noop b = true, T Try.prog 83 [.sl (.o 0) 1 0 0 0 (List.length l) none, .int .i64 0] [(.o 0, .rows 1 (List.length l) (bl l) true)] (.sl (.o 321) 1 0 0 0 (List.length (l ++ putZ (0 : Int))) none) [(.o 321, bs (l ++ putZ (0 : Int)))], List.length (l ++ putZ (0 : Int)) = List.length (l ++ batchB b), ∀ (k : Nat), k < List.length (l ++ putZ (0 : Int)) → bl (l ++ putZ (0 : Int)) k = bl (l ++ batchB b) k, true = false → true = false, q0, q0, q0, List.length (l ++ putZ (0 : Int)) = List.length (l ++ batchB b), (none : Option Nat) = none ∨ (none : Option Nat) = none]) : Option (V × Heap × List Prop)) := by kernel_rfl
theorem bdBp_p0 (l : List UInt8) (b : SBatch) :
  along Try.prog (bdBp l b) [false] = (some (.sl (.o 63) 1 0 0 0 (List.length (l ++ batchB b)) none, [(.o 63, .rows 1 (List.length (l ++ batchB b)) (bl (l ++ batchB b)) true)], [SBatch.noop b = false, InR IntKind.i64 ((↑(SBatch.n b) : Int) + (1 : Int)), T Try.prog 83 [.sl (.o 0) 1 0 0 0 (List.length l) none, .int .i64 ((↑(SBatch.n b) : Int) + (1 : Int))] [(.o 0, .rows 1 (List.length l) (bl l) true)] (.sl (.o 577) 1 0 0 0 (List.length (l ++ putZ (↑(SBatch.n b + 1) : Int))) none) [(.o 577, bs (l ++ putZ (↑(SBatch.n b + 1) : Int)))], RLoop Try.prog none 1 (cB (cB (cR (cL (cR (cR (cR (bodyOf (Bd.f (bdBp l b)))))))))) (SBatch.n b + 1) (St.mk [.sl (.o 1) 1 0 0 0 (List.length (l ++ (putZ (↑(SBatch.n b + 1) : Int) ++ reqsB (SBatch.req b) 0))) none, .any, .any, .any, .any, .any, .any, .any, .any, .any, .any, .any, .any, .any, .any, .any, .any, .any, .ros 19 (SBatch.n b) (fun i => SReq.c (SBatch.req b i)) false, .int .i64 (↑(SBatch.n b) : Int), .int .i64 0, .any, .any, .any, .any, .any, .any, .any, .any] [(.o 1, .rows 1 (List.length (l ++ (putZ (↑(SBatch.n b + 1) : Int) ++ reqsB (SBatch.req b) 0))) (bl (l ++ (putZ (↑(SBatch.n b + 1) : Int) ++ reqsB (SBatch.req b) 0))) true)] 2 []) (.exit 0) (St.mk [.sl (.o 1) 1 0 0 0 (List.length (l ++ (putZ (↑(SBatch.n b + 1) : Int) ++ reqsB (SBatch.req b) (SBatch.n b)))) none, .any, .any, .any, .any, .any, .any, .any, .any, .any, .any, .any, .any, .any, .any, .any, .any, .any, .ros 19 (SBatch.n b) (fun i => SReq.c (SBatch.req b i)) false, .int .i64 (↑(SBatch.n b) : Int), .int .i64 (↑(SBatch.n b) : Int), .any, .any, .any, .any, .any, .any, .any, .any] [(.o 1, bs (l ++ (putZ (↑(SBatch.n b + 1) : Int) ++ reqsB (SBatch.req b) (SBatch.n b))))] 2 []), List.length (l ++ putZ (↑(SBatch.n b + (1 : Nat)) : Int)) = List.length (l ++ (putZ (↑(SBatch.n b + (1 : Nat)) : Int) ++ reqsB (SBatch.req b) (0 : Nat))), ∀ (k : Nat), k < List.length (l ++ putZ (↑(SBatch.n b + (1 : Nat)) : Int)) → bl (l ++ putZ (↑(SBatch.n b + (1 : Nat)) : Int)) k = bl (l ++ (putZ (↑(SBatch.n b + (1 : Nat)) : Int) ++ reqsB (SBatch.req b) (0 : Nat))) k, true = false → true = false, q0, q0, q0, List.length (l ++ putZ (↑(SBatch.n b + (1 : Nat)) : Int)) = List.length (l ++ (putZ (↑(SBatch.n b + (1 : Nat)) : Int) ++ reqsB (SBatch.req b) (0 : Nat))), (none : Option Nat) = none ∨ (none : Option Nat) = none, q (SBatch.n b), ∀ (k : Nat), k < SBatch.n b → SReq.c (SBatch.req b k) = SReq.c (SBatch.req b k), false = true → false = true, q (↑(SBatch.n b) : Int), q1, List.length (l ++ (putZ (↑(SBatch.n b + (1 : Nat)) : Int) ++ reqsB (SBatch.req b) (SBatch.n b))) = List.length (l ++ batchB b), ∀ (k : Nat), k < List.length (l ++ (putZ (↑(SBatch.n b + (1 : Nat)) : Int) ++ reqsB (SBatch.req b) (SBatch.n b))) → bl (l ++ (putZ (↑(SBatch.n b + (1 : Nat)) : Int) ++ reqsB (SBatch.req b) (SBatch.n b))) k = bl (l ++ batchB b) k, true = false → true = false, q0, q0, q0, List.length (l ++ (putZ (↑(SBatch.n b + (1 : Nat)) : Int) ++ reqsB (SBatch.req b) (SBatch.n b))) = List.length (l ++ batchB b), (none : Option Nat) = none ∨ (none : Option Nat) = none]) : Option (V × Heap × List Prop)) := by kernel_rfl

theorem pcBp_p1 (l : List UInt8) (b : SBatch) (k : Nat) :
  alongPc Try.prog (pcBp l b k) [true] = (some (.normal, St.mk [.sl (.o 1) 1 0 0 0 (List.length (l ++ (putZ (↑(SBatch.n b + 1) : Int) ++ reqsB (SBatch.req b) (k + 1)))) none, .any, .any, .any, .any, .any, .any, .any, .any, .any, .any, .any, .any, .any, .any, .any, .any, .any, .ros 19 (SBatch.n b) (fun i => SReq.c (SBatch.req b i)) false, .int .i64 (↑(SBatch.n b) : Int), .int .i64 (↑(k + 1) : Int), .any, .any, .any, .any, .any, .any, .any, .any] [(.o 1, .rows 1 (List.length (l ++ (putZ (↑(SBatch.n b + 1) : Int) ++ reqsB (SBatch.req b) (k + 1)))) (bl (l ++ (putZ (↑(SBatch.n b + 1) : Int) ++ reqsB (SBatch.req b) (k + 1)))) true)] 2 [], [decide ((↑k : Int) < (↑(SBatch.n b) : Int)) = true, (0 : Int) ≤ (↑k : Int) ∧ (↑k : Int) < (↑(SBatch.n b) : Int), T Try.prog 123 [.sl (.o 1) 1 0 0 0 (List.length (l ++ (putZ (↑(SBatch.n b + 1) : Int) ++ reqsB (SBatch.req b) k))) none, .agg [.int .i64 (SReq.client (SBatch.req b (Int.toNat (↑k : Int)))), .int .i64 (SReq.num (SBatch.req b (Int.toNat (↑k : Int)))), .str (SReq.data (SBatch.req b (Int.toNat (↑k : Int)))), .seg .u8 16 (SReq.tag (SBatch.req b (Int.toNat (↑k : Int))))]] [(.o 1, .rows 1 (List.length (l ++ (putZ (↑(SBatch.n b + 1) : Int) ++ reqsB (SBatch.req b) k))) (bl (l ++ (putZ (↑(SBatch.n b + 1) : Int) ++ reqsB (SBatch.req b) k))) true)] (.sl (.o 450) 1 0 0 0 (List.length (l ++ (putZ (↑(SBatch.n b + 1) : Int) ++ reqsB (SBatch.req b) (k + 1)))) none) [(.o 450, bs (l ++ (putZ (↑(SBatch.n b + 1) : Int) ++ reqsB (SBatch.req b) (k + 1))))], InR IntKind.i64 ((↑k : Int) + (1 : Int)), q (List.length (l ++ (putZ (↑(SBatch.n b + (1 : Nat)) : Int) ++ reqsB (SBatch.req b) (k + (1 : Nat))))), ∀ (k_1 : Nat), k_1 < List.length (l ++ (putZ (↑(SBatch.n b + (1 : Nat)) : Int) ++ reqsB (SBatch.req b) (k + (1 : Nat)))) → bl (l ++ (putZ (↑(SBatch.n b + (1 : Nat)) : Int) ++ reqsB (SBatch.req b) (k + (1 : Nat)))) k_1 = bl (l ++ (putZ (↑(SBatch.n b + (1 : Nat)) : Int) ++ reqsB (SBatch.req b) (k + (1 : Nat)))) k_1, true = false → true = false, q0, q0, q0, q (List.length (l ++ (putZ (↑(SBatch.n b + (1 : Nat)) : Int) ++ reqsB (SBatch.req b) (k + (1 : Nat))))), (none : Option Nat) = none ∨ (none : Option Nat) = none, q (SBatch.n b), ∀ (k : Nat), k < SBatch.n b → SReq.c (SBatch.req b k) = SReq.c (SBatch.req b k), false = true → false = true, q (↑(SBatch.n b) : Int), (↑k : Int) + (1 : Int) = (↑(k + (1 : Nat)) : Int)]) : Option (Exit × St × List Prop)) := by kernel_rfl
theorem pcBp_p0 (l : List UInt8) (b : SBatch) (k : Nat) :
  alongPc Try.prog (pcBp l b k) [false] = (some (.exit 0, St.mk [.sl (.o 1) 1 0 0 0 (List.length (l ++ (putZ (↑(SBatch.n b + 1) : Int) ++ reqsB (SBatch.req b) (SBatch.n b)))) none, .any, .any, .any, .any, .any, .any, .any, .any, .any, .any, .any, .any, .any, .any, .any, .any, .any, .ros 19 (SBatch.n b) (fun i => SReq.c (SBatch.req b i)) false, .int .i64 (↑(SBatch.n b) : Int), .int .i64 (↑(SBatch.n b) : Int), .any, .any, .any, .any, .any, .any, .any, .any] [(.o 1, .rows 1 (List.length (l ++ (putZ (↑(SBatch.n b + 1) : Int) ++ reqsB (SBatch.req b) (SBatch.n b)))) (bl (l ++ (putZ (↑(SBatch.n b + 1) : Int) ++ reqsB (SBatch.req b) (SBatch.n b)))) true)] 2 [], [decide ((↑k : Int) < (↑(SBatch.n b) : Int)) = false, List.length (l ++ (putZ (↑(SBatch.n b + (1 : Nat)) : Int) ++ reqsB (SBatch.req b) k)) = List.length (l ++ (putZ (↑(SBatch.n b + (1 : Nat)) : Int) ++ reqsB (SBatch.req b) (SBatch.n b))), ∀ (k_1 : Nat), k_1 < List.length (l ++ (putZ (↑(SBatch.n b + (1 : Nat)) : Int) ++ reqsB (SBatch.req b) k)) → bl (l ++ (putZ (↑(SBatch.n b + (1 : Nat)) : Int) ++ reqsB (SBatch.req b) k)) k_1 = bl (l ++ (putZ (↑(SBatch.n b + (1 : Nat)) : Int) ++ reqsB (SBatch.req b) (SBatch.n b))) k_1, true = false → true = false, q0, q0, q0, List.length (l ++ (putZ (↑(SBatch.n b + (1 : Nat)) : Int) ++ reqsB (SBatch.req b) k)) = List.length (l ++ (putZ (↑(SBatch.n b + (1 : Nat)) : Int) ++ reqsB (SBatch.req b) (SBatch.n b))), (none : Option Nat) = none ∨ (none : Option Nat) = none, q (SBatch.n b), ∀ (k : Nat), k < SBatch.n b → SReq.c (SBatch.req b k) = SReq.c (SBatch.req b k), false = true → false = true, q (↑(SBatch.n b) : Int), (↑k : Int) = (↑(SBatch.n b) : Int)]) : Option (Exit × St × List Prop)) := by kernel_rfl

theorem bdNu1_p10 (l : List UInt8) (a : Int) :
  along Try.prog (bdNu1 l a) [true, false] = (some (.tup [], [(.o 0, .flat [sb (.o 63) (l ++ numsB [a])]), (.o 63, .rows 1 (List.length (l ++ numsB [a])) (bl (l ++ numsB [a])) true), (.o 2, .rows 1 1 (getL [[.int .i64 a]]) false)], [q2, (0 : Int) ≤ (0 : Int) ∧ (0 : Int) < (1 : Int), nat_lit 0 < nat_lit 1, T Try.prog 83 [.sl (.o 1) 1 0 0 0 (List.length l) none, .int .i64 a] [(.o 1, .rows 1 (List.length l) (bl l) true)] (.sl (.o 835) 1 0 0 0 (List.length (l ++ putZ a)) none) [(.o 835, bs (l ++ putZ a))], InR IntKind.i64 (1 : Int), q false, q0, q0, q0, List.length (l ++ putZ a) = List.length (l ++ numsB [a]), (none : Option Nat) = none ∨ (none : Option Nat) = none, List.length (l ++ putZ a) = List.length (l ++ numsB [a]), ∀ (k : Nat), k < List.length (l ++ putZ a) → bl (l ++ putZ a) k = bl (l ++ numsB [a]) k, true = false → true = false, q (nat_lit 1), ∀ (k : Nat), k < nat_lit 1 → getL [[V.int IntKind.i64 a]] k = getL [[V.int IntKind.i64 a]] k, false = false → false = false]) : Option (V × Heap × List Prop)) := by kernel_rfl

theorem bdNu2_p110 (l : List UInt8) (a : Int) (b : Int) :
  along Try.prog (bdNu2 l a b) [true, true, false] = (some (.tup [], [(.o 0, .flat [sb (.o 63) (l ++ numsB [a, b])]), (.o 63, .rows 1 (List.length (l ++ numsB [a, b])) (bl (l ++ numsB [a, b])) true), (.o 2, .rows 1 2 (getL [[.int .i64 a], [.int .i64 b]]) false)], [q2, (0 : Int) ≤ (0 : Int) ∧ (0 : Int) < (2 : Int), nat_lit 0 < nat_lit 2, T Try.prog 83 [.sl (.o 1) 1 0 0 0 (List.length l) none, .int .i64 a] [(.o 1, .rows 1 (List.length l) (bl l) true)] (.sl (.o 835) 1 0 0 0 (List.length (l ++ putZ a)) none) [(.o 835, bs (l ++ putZ a))], InR IntKind.i64 (1 : Int), q2, (0 : Int) ≤ (1 : Int) ∧ (1 : Int) < (2 : Int), nat_lit 1 < nat_lit 2, T Try.prog 83 [.sl (.o 835) 1 0 0 0 (List.length (l ++ putZ a)) none, .int .i64 b] [(.o 835, .rows 1 (List.length (l ++ putZ a)) (bl (l ++ putZ a)) true)] (.sl (.o 1859) 1 0 0 0 (List.length (l ++ putZ a ++ putZ b)) none) [(.o 1859, bs (l ++ putZ a ++ putZ b))], InR IntKind.i64 (2 : Int), q false, q0, q0, q0, List.length (l ++ putZ a ++ putZ b) = List.length (l ++ numsB [a, b]), (none : Option Nat) = none ∨ (none : Option Nat) = none, List.length (l ++ putZ a ++ putZ b) = List.length (l ++ numsB [a, b]), ∀ (k : Nat), k < List.length (l ++ putZ a ++ putZ b) → bl (l ++ putZ a ++ putZ b) k = bl (l ++ numsB [a, b]) k, true = false → true = false, q (nat_lit 2), ∀ (k : Nat), k < nat_lit 2 → getL [[V.int IntKind.i64 a], [V.int IntKind.i64 b]] k = getL [[V.int IntKind.i64 a], [V.int IntKind.i64 b]] k, false = false → false = false]) : Option (V × Heap × List Prop)) := by kernel_rfl

theorem bdNu3_p1110 (l : List UInt8) (a : Int) (b : Int) (c : Int) :
  along Try.prog (bdNu3 l a b c) [true, true, true, false] = (some (.tup [], [(.o 0, .flat [sb (.o 63) (l ++ numsB [a, b, c])]), (.o 63, .rows 1 (List.length (l ++ numsB [a, b, c])) (bl (l ++ numsB [a, b, c])) true), (.o 2, .rows 1 3 (getL [[.int .i64 a], [.int .i64 b], [.int .i64 c]]) false)], [q2, (0 : Int) ≤ (0 : Int) ∧ (0 : Int) < (3 : Int), nat_lit 0 < nat_lit 3, T Try.prog 83 [.sl (.o 1) 1 0 0 0 (List.length l) none, .int .i64 a] [(.o 1, .rows 1 (List.length l) (bl l) true)] (.sl (.o 835) 1 0 0 0 (List.length (l ++ putZ a)) none) [(.o 835, bs (l ++ putZ a))], InR IntKind.i64 (1 : Int), q2, (0 : Int) ≤ (1 : Int) ∧ (1 : Int) < (3 : Int), nat_lit 1 < nat_lit 3, T Try.prog 83 [.sl (.o 835) 1 0 0 0 (List.length (l ++ putZ a)) none, .int .i64 b] [(.o 835, .rows 1 (List.length (l ++ putZ a)) (bl (l ++ putZ a)) true)] (.sl (.o 1859) 1 0 0 0 (List.length (l ++ putZ a ++ putZ b)) none) [(.o 1859, bs (l ++ putZ a ++ putZ b))], InR IntKind.i64 (2 : Int), q2, (0 : Int) ≤ (2 : Int) ∧ (2 : Int) < (3 : Int), nat_lit 2 < nat_lit 3, T Try.prog 83 [.sl (.o 1859) 1 0 0 0 (List.length (l ++ putZ a ++ putZ b)) none, .int .i64 c] [(.o 1859, .rows 1 (List.length (l ++ putZ a ++ putZ b)) (bl (l ++ putZ a ++ putZ b)) true)] (.sl (.o 2883) 1 0 0 0 (List.length (l ++ putZ a ++ putZ b ++ putZ c)) none) [(.o 2883, bs (l ++ putZ a ++ putZ b ++ putZ c))], InR IntKind.i64 (3 : Int), q false, q0, q0, q0, List.length (l ++ putZ a ++ putZ b ++ putZ c) = List.length (l ++ numsB [a, b, c]), (none : Option Nat) = none ∨ (none : Option Nat) = none, List.length (l ++ putZ a ++ putZ b ++ putZ c) = List.length (l ++ numsB [a, b, c]), ∀ (k : Nat), k < List.length (l ++ putZ a ++ putZ b ++ putZ c) → bl (l ++ putZ a ++ putZ b ++ putZ c) k = bl (l ++ numsB [a, b, c]) k, true = false → true = false, q (nat_lit 3), ∀ (k : Nat), k < nat_lit 3 → getL [[V.int IntKind.i64 a], [V.int IntKind.i64 b], [V.int IntKind.i64 c]] k = getL [[V.int IntKind.i64 a], [V.int IntKind.i64 b], [V.int IntKind.i64 c]] k, false = false → false = false]) : Option (V × Heap × List Prop)) := by kernel_rfl

theorem bdNu4_p11110 (l : List UInt8) (a : Int) (b : Int) (c : Int) (d : Int) :
  along Try.prog (bdNu4 l a b c d) [true, true, true, true, false] = (some (.tup [], [(.o 0, .flat [sb (.o 63) (l ++ numsB [a, b, c, d])]), (.o 63, .rows 1 (List.length (l ++ numsB [a, b, c, d])) (bl (l ++ numsB [a, b, c, d])) true), (.o 2, .rows 1 4 (getL [[.int .i64 a], [.int .i64 b], [.int .i64 c], [.int .i64 d]]) false)], [q2, (0 : Int) ≤ (0 : Int) ∧ (0 : Int) < (4 : Int), nat_lit 0 < nat_lit 4, T Try.prog 83 [.sl (.o 1) 1 0 0 0 (List.length l) none, .int .i64 a] [(.o 1, .rows 1 (List.length l) (bl l) true)] (.sl (.o 835) 1 0 0 0 (List.length (l ++ putZ a)) none) [(.o 835, bs (l ++ putZ a))], InR IntKind.i64 (1 : Int), q2, (0 : Int) ≤ (1 : Int) ∧ (1 : Int) < (4 : Int), nat_lit 1 < nat_lit 4, T Try.prog 83 [.sl (.o 835) 1 0 0 0 (List.length (l ++ putZ a)) none, .int .i64 b] [(.o 835, .rows 1 (List.length (l ++ putZ a)) (bl (l ++ putZ a)) true)] (.sl (.o 1859) 1 0 0 0 (List.length (l ++ putZ a ++ putZ b)) none) [(.o 1859, bs (l ++ putZ a ++ putZ b))], InR IntKind.i64 (2 : Int), q2, (0 : Int) ≤ (2 : Int) ∧ (2 : Int) < (4 : Int), nat_lit 2 < nat_lit 4, T Try.prog 83 [.sl (.o 1859) 1 0 0 0 (List.length (l ++ putZ a ++ putZ b)) none, .int .i64 c] [(.o 1859, .rows 1 (List.length (l ++ putZ a ++ putZ b)) (bl (l ++ putZ a ++ putZ b)) true)] (.sl (.o 2883) 1 0 0 0 (List.length (l ++ putZ a ++ putZ b ++ putZ c)) none) [(.o 2883, bs (l ++ putZ a ++ putZ b ++ putZ c))], InR IntKind.i64 (3 : Int), q2, (0 : Int) ≤ (3 : Int) ∧ (3 : Int) < (4 : Int), nat_lit 3 < nat_lit 4, T Try.prog 83 [.sl (.o 2883) 1 0 0 0 (List.length (l ++ putZ a ++ putZ b ++ putZ c)) none, .int .i64 d] [(.o 2883, .rows 1 (List.length (l ++ putZ a ++ putZ b ++ putZ c)) (bl (l ++ putZ a ++ putZ b ++ putZ c)) true)] (.sl (.o 3907) 1 0 0 0 (List.length (l ++ putZ a ++ putZ b ++ putZ c ++ putZ d)) none) [(.o 3907, bs (l ++ putZ a ++ putZ b ++ putZ c ++ putZ d))], InR IntKind.i64 (4 : Int), q false, q0, q0, q0, List.length (l ++ putZ a ++ putZ b ++ putZ c ++ putZ d) = List.length (l ++ numsB [a, b, c, d]), (none : Option Nat) = none ∨ (none : Option Nat) = none, List.length (l ++ putZ a ++ putZ b ++ putZ c ++ putZ d) = List.length (l ++ numsB [a, b, c, d]), ∀ (k : Nat), k < List.length (l ++ putZ a ++ putZ b ++ putZ c ++ putZ d) → bl (l ++ putZ a ++ putZ b ++ putZ c ++ putZ d) k = bl (l ++ numsB [a, b, c, d]) k, true = false → true = false, q (nat_lit 4), ∀ (k : Nat), k < nat_lit 4 → getL [[V.int IntKind.i64 a], [V.int IntKind.i64 b], [V.int IntKind.i64 c], [V.int IntKind.i64 d]] k = getL [[V.int IntKind.i64 a], [V.int IntKind.i64 b], [V.int IntKind.i64 c], [V.int IntKind.i64 d]] k, false = false → false = false]) : Option (V × Heap × List Prop)) := by kernel_rfl

theorem bdNu0_p10 (a : Int) :
  along Try.prog (bdNu0 a) [true, false] = (some (.tup [], [(.o 0, .flat [sb (.o 63) (putZ a)]), (.o 63, .rows 1 (List.length (putZ a)) (bl (putZ a)) true), (.o 2, .rows 1 1 (getL [[.int .i64 a]]) false)], [q2, (0 : Int) ≤ (0 : Int) ∧ (0 : Int) < (1 : Int), nat_lit 0 < nat_lit 1, T Try.prog 83 [.snil, .int .i64 a] [] (.sl (.o 835) 1 0 0 0 (List.length (putZ a)) none) [(.o 835, bs (putZ a))], InR IntKind.i64 (1 : Int), q false, q0, q0, q0, q (List.length (putZ a)), (none : Option Nat) = none ∨ (none : Option Nat) = none, q (List.length (putZ a)), ∀ (k : Nat), k < List.length (putZ a) → bl (putZ a) k = bl (putZ a) k, true = false → true = false, q (nat_lit 1), ∀ (k : Nat), k < nat_lit 1 → getL [[V.int IntKind.i64 a]] k = getL [[V.int IntKind.i64 a]] k, false = false → false = false]) : Option (V × Heap × List Prop)) := by kernel_rfl

theorem bdWt_p (l : List UInt8) (s : ByteArray) :
  along Try.prog (bdWt l s) [] = (some (.tup [], [(.o 0, .flat [sb (.o 63) (l ++ textB s)]), (.o 63, .rows 1 (List.length (l ++ textB s)) (bl (l ++ textB s)) true)], [T Try.prog 86 [.sl (.o 1) 1 0 0 0 (List.length l) none, .str s] [(.o 1, .rows 1 (List.length l) (bl l) true)] (.sl (.o 386) 1 0 0 0 (List.length (l ++ textB s)) none) [(.o 386, bs (l ++ textB s))], q0, q0, q0, q (List.length (l ++ textB s)), (none : Option Nat) = none ∨ (none : Option Nat) = none, q (List.length (l ++ textB s)), ∀ (k : Nat), k < List.length (l ++ textB s) → bl (l ++ textB s) k = bl (l ++ textB s) k, true = false → true = false]) : Option (V × Heap × List Prop)) := by kernel_rfl

theorem bdWb_p (l : List UInt8) (b : SBatch) :
  along Try.prog (bdWb l b) [] = (some (.tup [], [(.o 0, .flat [sb (.o 63) (l ++ batchB b)]), (.o 63, .rows 1 (List.length (l ++ batchB b)) (bl (l ++ batchB b)) true)], [T Try.prog 84 [.sl (.o 1) 1 0 0 0 (List.length l) none, .agg (SBatch.c b)] [(.o 1, .rows 1 (List.length l) (bl l) true)] (.sl (.o 450) 1 0 0 0 (List.length (l ++ batchB b)) none) [(.o 450, bs (l ++ batchB b))], q0, q0, q0, q (List.length (l ++ batchB b)), (none : Option Nat) = none ∨ (none : Option Nat) = none, q (List.length (l ++ batchB b)), ∀ (k : Nat), k < List.length (l ++ batchB b) → bl (l ++ batchB b) k = bl (l ++ batchB b) k, true = false → true = false]) : Option (V × Heap × List Prop)) := by kernel_rfl

theorem bdRawD_p (l : List UInt8) (d : List Int) :
  along Try.prog (bdRawD l d) [] = (some (.tup [], [(.o 0, .flat [sb (.o 63) (l ++ segB d)]), (.o 63, .rows 1 (List.length (l ++ segB d)) (bl (l ++ segB d)) true), (.o 2, .flat [.seg .u8 32 d])], [q (List.length l), nat_lit 32 ≤ (32 : Nat), (List.length l + (32 : Nat)) * nat_lit 1 ≤ (140737488355328 : Nat), q0, q0, q0, List.length l + (32 : Nat) = List.length (l ++ segB d), (none : Option Nat) = none ∨ (none : Option Nat) = none, List.length l + (32 : Nat) = List.length (l ++ segB d), ∀ (k : Nat), k < List.length l + (32 : Nat) → catF (List.length l) (bl l) (fun q => [V.int IntKind.u8 (List.getD d ((0 : Nat) + q) (0 : Int))]) k = bl (l ++ segB d) k, true = false → true = false, q (32 : Nat), q d]) : Option (V × Heap × List Prop)) := by kernel_rfl

theorem bdRawS_p (l : List UInt8) (s : SSign) :
  along Try.prog (bdRawS l s) [] = (some (.tup [], [(.o 0, .flat [sb (.o 63) (l ++ segB (SSign.tag s))]), (.o 63, .rows 1 (List.length (l ++ segB (SSign.tag s))) (bl (l ++ segB (SSign.tag s))) true), (.o 2, .flat (SSign.c s))], [q (List.length l), nat_lit 16 ≤ (16 : Nat), (List.length l + (16 : Nat)) * nat_lit 1 ≤ (140737488355328 : Nat), q0, q0, q0, List.length l + (16 : Nat) = List.length (l ++ segB (SSign.tag s)), (none : Option Nat) = none ∨ (none : Option Nat) = none, List.length l + (16 : Nat) = List.length (l ++ segB (SSign.tag s)), ∀ (k : Nat), k < List.length l + (16 : Nat) → catF (List.length l) (bl l) (fun q => [V.int IntKind.u8 (List.getD (SSign.tag s) ((0 : Nat) + q) (0 : Int))]) k = bl (l ++ segB (SSign.tag s)) k, true = false → true = false, q (SSign.node s), q (16 : Nat), q (SSign.tag s)]) : Option (V × Heap × List Prop)) := by kernel_rfl

theorem bdRawE_p (l : List UInt8) (e : SEnv) :
  along Try.prog (bdRawE l e) [] = (some (.tup [], [(.o 0, .flat [sb (.o 63) (l ++ segB (SEnv.tag e))]), (.o 63, .rows 1 (List.length (l ++ segB (SEnv.tag e))) (bl (l ++ segB (SEnv.tag e))) true), (.o 2, .flat (SEnv.c e))], [q (List.length l), nat_lit 16 ≤ (16 : Nat), (List.length l + (16 : Nat)) * nat_lit 1 ≤ (140737488355328 : Nat), q0, q0, q0, List.length l + (16 : Nat) = List.length (l ++ segB (SEnv.tag e)), (none : Option Nat) = none ∨ (none : Option Nat) = none, List.length l + (16 : Nat) = List.length (l ++ segB (SEnv.tag e)), ∀ (k : Nat), k < List.length l + (16 : Nat) → catF (List.length l) (bl l) (fun q => [V.int IntKind.u8 (List.getD (SEnv.tag e) ((0 : Nat) + q) (0 : Int))]) k = bl (l ++ segB (SEnv.tag e)) k, true = false → true = false, q (SEnv.src e), q (SEnv.body e), q (16 : Nat), q (SEnv.tag e)]) : Option (V × Heap × List Prop)) := by kernel_rfl

structure BatchOk (b : SBatch) : Prop where
 n : b.n ≤ 100000
 noop : b.noop = true → b.n = 0
 req : ∀ k, k < b.n → ReqOk (b.req k)
 data : ∀ k, k < b.n → (b.req k).data.size ≤ 10000
theorem reqsB_len {b : SBatch} (h : BatchOk b) : ∀ k, k ≤ b.n → (reqsB b.req k).length ≤ k * 20000
 | 0, _ => by simp [reqsB]
 | k + 1, hk => by
  have ih := reqsB_len h k (by omega)
  have h1 := reqB_len (h.req k (by omega))
  have h2 := h.data k (by omega)
  rw [reqsB, List.length_append]; omega
theorem batchB_len {b : SBatch} (h : BatchOk b) : (batchB b).length ≤ 2000000009 := by
 unfold batchB
 have h1 := reqsB_len h b.n (Nat.le_refl _)
 have h2 := h.n
 have h3 := putZ_len (num63_nat (n := b.n + 1) (by omega))
 have h4 := putZ_len (num63_nat (n := 0) (by omega))
 split
 ·have : putZ 0 = putZ ((0 : Nat) : Int) := rfl
  rw [this]; omega
 ·rw [List.length_append]; omega
theorem T_bp1 {l : List UInt8} {b : SBatch} (hl : l.length ≤ 1099511627776) (h : BatchOk b) : T Try.prog 84 [sb (.o 0) l, .agg b.c] [(.o 0, bs l)] (sb (.o 63) (l ++ batchB b)) [(.o 63, bs (l ++ batchB b))] := by
 have hn := h.n
 have hz := num63_nat (n := b.n + 1) (by omega)
 by_cases hno : b.noop = true
 ·have e : batchB b = putZ 0 := by simp [batchB, hno]
  refine T_along NG MO _ (bdBp_p1 l b) Try.func84 (by kernel_rfl) ?_ (pinH_ok (by kernel_rfl)) (by kernel_rfl)
  rw [e]
  simp only [All]
  and_intros
  all_goals first
   | exact T_put (z := 0) ⟨by decide, by decide⟩ (by omega) (by decide)
   | simp [hno]
 ·have e : batchB b = putZ ((b.n + 1 : Nat) : Int) ++ reqsB b.req b.n := by simp [batchB, hno]
  have hlen : ∀ k, k ≤ b.n → (l ++ (putZ ((b.n + 1 : Nat) : Int) ++ reqsB b.req k)).length ≤ 8796093022208 := fun k hk => by
   have h1 := reqsB_len h k hk
   have h2 := putZ_len hz
   rw [List.length_append, List.length_append]; omega
  have hL : RLoop Try.prog none 1 (cB (cB (cR (cL (cR (cR (cR (bodyOf Try.f84)))))))) (b.n + 1) (bpI l b 0) (.exit 0) (bpI l b b.n) :=
   RLoop.inv (bpI l b) b.n (fun k hk => by
    have hT := T_req (hlen k (by omega)) (h.req k hk) (a := 1) (m := 450) (by decide)
    have e1 : l ++ (putZ ((b.n + 1 : Nat) : Int) ++ reqsB b.req k) ++ reqB (b.req k) = l ++ (putZ ((b.n + 1 : Nat) : Int) ++ reqsB b.req (k + 1)) := by simp [reqsB]
    rw [e1] at hT
    refine R_alongPc NG MO _ (pcBp_p1 l b k) ?_ (show 1 ≤ 2 by decide)
    simp only [All, Int.toNat_natCast]
    and_intros
    all_goals first
     | exact hT
     | (simp [hk, IntKind.min, IntKind.max, IntKind.signed, IntKind.bits] <;> omega))
    (R_alongPc NG MO _ (pcBp_p0 l b b.n) (by simp [All]) (show 1 ≤ 2 by decide)) (by simp)
  refine T_along NG MO _ (bdBp_p0 l b) Try.func84 (by kernel_rfl) ?_ (pinH_ok (by kernel_rfl)) (by kernel_rfl)
  rw [e]
  simp only [All]
  and_intros
  all_goals first
   | exact T_put hz (by omega) (by decide)
   | exact hL
   | omega
   | (simp [hno, reqsB, IntKind.min, IntKind.max, IntKind.signed, IntKind.bits] <;> omega)
theorem T_bp {l : List UInt8} {b : SBatch} (hl : l.length ≤ 1099511627776) (h : BatchOk b) {a m : Nat} (hne : a ≠ m) : T Try.prog 84 [sb (.o a) l, .agg b.c] [(.o a, bs l)] (sb (.o m) (l ++ batchB b)) [(.o m, bs (l ++ batchB b))] := by
 obtain ⟨σ, hσ, h1⟩ := T.at (T_bp1 hl h) [.o 0, .o 63] [.o a, .o m] (by simp) (by simp [hne]) rfl
 simp only [List.map_cons, List.map_nil, List.cons.injEq, and_true] at hσ
 simpa [V.rens, V.ren, SBatch.c, rq, sb, bs, Heap.ren, B.ren, hσ.1, hσ.2] using h1
def nsHq (q : Nat) (ns : List Int) : Heap := [(.o q, .rows 1 ns.length (getL (nsV ns)) false)]
theorem T_nu1' {l : List UInt8} {a : Int} (hl : l.length ≤ 17592186044416) (ha : num63 a) : T Try.prog 49 [.ptr (.o 0) 0 0 0 0, nsA 2 [a]] (wr 0 1 l ++ nsHq 2 [a]) (.tup []) (wr 0 63 (l ++ numsB [a]) ++ nsHq 2 [a]) := by
 have la := putZ_len ha
 refine T_along NG MO _ (bdNu1_p10 l a) Try.func49 (by kernel_rfl) ?_ (pinH_ok (by kernel_rfl)) (by kernel_rfl)
 simp only [All]
 and_intros
 all_goals first
  | exact T_put ha (by first | omega | (simp only [List.length_append]; omega)) (by decide)
  | (simp [numsB, IntKind.min, IntKind.max, IntKind.signed, IntKind.bits]; done)
theorem T_nu1 {l : List UInt8} {a : Int} (hl : l.length ≤ 17592186044416) (ha : num63 a) {w x q m : Nat} (hn : [Nm.o w, Nm.o x, Nm.o q, Nm.o m].Nodup) : T Try.prog 49 [.ptr (.o w) 0 0 0 0, nsA q [a]] (wr w x l ++ nsHq q [a]) (.tup []) (wr w m (l ++ numsB [a]) ++ nsHq q [a]) := by
 obtain ⟨σ, hσ, h1⟩ := T.at (T_nu1' hl ha) [.o 0, .o 1, .o 2, .o 63] [.o w, .o x, .o q, .o m] (by simp) hn rfl
 simp only [List.map_cons, List.map_nil, List.cons.injEq, and_true] at hσ
 simpa [V.rens, V.ren, sb, bs, wr, nsA, nsHq, Heap.ren, B.ren, hσ.1, hσ.2.1, hσ.2.2.1, hσ.2.2.2] using h1
theorem T_nu2' {l : List UInt8} {a : Int} {b : Int} (hl : l.length ≤ 17592186044416) (ha : num63 a) (hb : num63 b) : T Try.prog 49 [.ptr (.o 0) 0 0 0 0, nsA 2 [a, b]] (wr 0 1 l ++ nsHq 2 [a, b]) (.tup []) (wr 0 63 (l ++ numsB [a, b]) ++ nsHq 2 [a, b]) := by
 have la := putZ_len ha
 have lb := putZ_len hb
 refine T_along NG MO _ (bdNu2_p110 l a b) Try.func49 (by kernel_rfl) ?_ (pinH_ok (by kernel_rfl)) (by kernel_rfl)
 simp only [All]
 and_intros
 all_goals first
  | exact T_put ha (by first | omega | (simp only [List.length_append]; omega)) (by decide)
  | exact T_put hb (by first | omega | (simp only [List.length_append]; omega)) (by decide)
  | (simp [numsB, IntKind.min, IntKind.max, IntKind.signed, IntKind.bits]; done)
theorem T_nu2 {l : List UInt8} {a : Int} {b : Int} (hl : l.length ≤ 17592186044416) (ha : num63 a) (hb : num63 b) {w x q m : Nat} (hn : [Nm.o w, Nm.o x, Nm.o q, Nm.o m].Nodup) : T Try.prog 49 [.ptr (.o w) 0 0 0 0, nsA q [a, b]] (wr w x l ++ nsHq q [a, b]) (.tup []) (wr w m (l ++ numsB [a, b]) ++ nsHq q [a, b]) := by
 obtain ⟨σ, hσ, h1⟩ := T.at (T_nu2' hl ha hb) [.o 0, .o 1, .o 2, .o 63] [.o w, .o x, .o q, .o m] (by simp) hn rfl
 simp only [List.map_cons, List.map_nil, List.cons.injEq, and_true] at hσ
 simpa [V.rens, V.ren, sb, bs, wr, nsA, nsHq, Heap.ren, B.ren, hσ.1, hσ.2.1, hσ.2.2.1, hσ.2.2.2] using h1
theorem T_nu3' {l : List UInt8} {a : Int} {b : Int} {c : Int} (hl : l.length ≤ 17592186044416) (ha : num63 a) (hb : num63 b) (hc : num63 c) : T Try.prog 49 [.ptr (.o 0) 0 0 0 0, nsA 2 [a, b, c]] (wr 0 1 l ++ nsHq 2 [a, b, c]) (.tup []) (wr 0 63 (l ++ numsB [a, b, c]) ++ nsHq 2 [a, b, c]) := by
 have la := putZ_len ha
 have lb := putZ_len hb
 have lc := putZ_len hc
 refine T_along NG MO _ (bdNu3_p1110 l a b c) Try.func49 (by kernel_rfl) ?_ (pinH_ok (by kernel_rfl)) (by kernel_rfl)
 simp only [All]
 and_intros
 all_goals first
  | exact T_put ha (by first | omega | (simp only [List.length_append]; omega)) (by decide)
  | exact T_put hb (by first | omega | (simp only [List.length_append]; omega)) (by decide)
  | exact T_put hc (by first | omega | (simp only [List.length_append]; omega)) (by decide)
  | (simp [numsB, IntKind.min, IntKind.max, IntKind.signed, IntKind.bits]; done)
theorem T_nu3 {l : List UInt8} {a : Int} {b : Int} {c : Int} (hl : l.length ≤ 17592186044416) (ha : num63 a) (hb : num63 b) (hc : num63 c) {w x q m : Nat} (hn : [Nm.o w, Nm.o x, Nm.o q, Nm.o m].Nodup) : T Try.prog 49 [.ptr (.o w) 0 0 0 0, nsA q [a, b, c]] (wr w x l ++ nsHq q [a, b, c]) (.tup []) (wr w m (l ++ numsB [a, b, c]) ++ nsHq q [a, b, c]) := by
 obtain ⟨σ, hσ, h1⟩ := T.at (T_nu3' hl ha hb hc) [.o 0, .o 1, .o 2, .o 63] [.o w, .o x, .o q, .o m] (by simp) hn rfl
 simp only [List.map_cons, List.map_nil, List.cons.injEq, and_true] at hσ
 simpa [V.rens, V.ren, sb, bs, wr, nsA, nsHq, Heap.ren, B.ren, hσ.1, hσ.2.1, hσ.2.2.1, hσ.2.2.2] using h1
theorem T_nu4' {l : List UInt8} {a : Int} {b : Int} {c : Int} {d : Int} (hl : l.length ≤ 17592186044416) (ha : num63 a) (hb : num63 b) (hc : num63 c) (hd : num63 d) : T Try.prog 49 [.ptr (.o 0) 0 0 0 0, nsA 2 [a, b, c, d]] (wr 0 1 l ++ nsHq 2 [a, b, c, d]) (.tup []) (wr 0 63 (l ++ numsB [a, b, c, d]) ++ nsHq 2 [a, b, c, d]) := by
 have la := putZ_len ha
 have lb := putZ_len hb
 have lc := putZ_len hc
 have ld := putZ_len hd
 refine T_along NG MO _ (bdNu4_p11110 l a b c d) Try.func49 (by kernel_rfl) ?_ (pinH_ok (by kernel_rfl)) (by kernel_rfl)
 simp only [All]
 and_intros
 all_goals first
  | exact T_put ha (by first | omega | (simp only [List.length_append]; omega)) (by decide)
  | exact T_put hb (by first | omega | (simp only [List.length_append]; omega)) (by decide)
  | exact T_put hc (by first | omega | (simp only [List.length_append]; omega)) (by decide)
  | exact T_put hd (by first | omega | (simp only [List.length_append]; omega)) (by decide)
  | (simp [numsB, IntKind.min, IntKind.max, IntKind.signed, IntKind.bits]; done)
theorem T_nu4 {l : List UInt8} {a : Int} {b : Int} {c : Int} {d : Int} (hl : l.length ≤ 17592186044416) (ha : num63 a) (hb : num63 b) (hc : num63 c) (hd : num63 d) {w x q m : Nat} (hn : [Nm.o w, Nm.o x, Nm.o q, Nm.o m].Nodup) : T Try.prog 49 [.ptr (.o w) 0 0 0 0, nsA q [a, b, c, d]] (wr w x l ++ nsHq q [a, b, c, d]) (.tup []) (wr w m (l ++ numsB [a, b, c, d]) ++ nsHq q [a, b, c, d]) := by
 obtain ⟨σ, hσ, h1⟩ := T.at (T_nu4' hl ha hb hc hd) [.o 0, .o 1, .o 2, .o 63] [.o w, .o x, .o q, .o m] (by simp) hn rfl
 simp only [List.map_cons, List.map_nil, List.cons.injEq, and_true] at hσ
 simpa [V.rens, V.ren, sb, bs, wr, nsA, nsHq, Heap.ren, B.ren, hσ.1, hσ.2.1, hσ.2.2.1, hσ.2.2.2] using h1
theorem T_nu0' {a : Int} (ha : num63 a) : T Try.prog 49 [.ptr (.o 0) 0 0 0 0, nsA 2 [a]] ([(.o 0, .flat [.snil])] ++ nsHq 2 [a]) (.tup []) (wr 0 63 (putZ a) ++ nsHq 2 [a]) := by
 refine T_along NG MO _ (bdNu0_p10 a) Try.func49 (by kernel_rfl) ?_ (pinH_ok (by kernel_rfl)) (by kernel_rfl)
 simp only [All]
 and_intros
 all_goals first
  | exact T_putNil ha
  | (simp [numsB, IntKind.min, IntKind.max, IntKind.signed, IntKind.bits]; done)
theorem T_nu0 {a : Int} (ha : num63 a) {w q m : Nat} (hn : [Nm.o w, Nm.o q, Nm.o m].Nodup) : T Try.prog 49 [.ptr (.o w) 0 0 0 0, nsA q [a]] ([(.o w, .flat [.snil])] ++ nsHq q [a]) (.tup []) (wr w m (putZ a) ++ nsHq q [a]) := by
 obtain ⟨σ, hσ, h1⟩ := T.at (T_nu0' ha) [.o 0, .o 2, .o 63] [.o w, .o q, .o m] (by simp) hn rfl
 simp only [List.map_cons, List.map_nil, List.cons.injEq, and_true] at hσ
 simpa [V.rens, V.ren, sb, bs, wr, nsA, nsHq, Heap.ren, B.ren, hσ.1, hσ.2.1, hσ.2.2] using h1
theorem T_wt {l : List UInt8} {s : ByteArray} (hl : l.length ≤ 17592186044416) (hs : s.size ≤ 1099511627776) {w x m : Nat} (hn : [Nm.o w, Nm.o x, Nm.o m].Nodup) : T Try.prog 58 [.ptr (.o w) 0 0 0 0, .str s] (wr w x l) (.tup []) (wr w m (l ++ textB s)) := by
 have h0 : T Try.prog 58 [.ptr (.o 0) 0 0 0 0, .str s] (wr 0 1 l) (.tup []) (wr 0 63 (l ++ textB s)) := by
  refine T_along NG MO _ (bdWt_p l s) Try.func58 (by kernel_rfl) ?_ (pinH_ok (by kernel_rfl)) (by kernel_rfl)
  simp only [All]
  and_intros
  all_goals first
   | exact T_text hl hs (by decide)
   | simp
 obtain ⟨σ, hσ, h1⟩ := T.at h0 [.o 0, .o 1, .o 63] [.o w, .o x, .o m] (by simp) hn rfl
 simp only [List.map_cons, List.map_nil, List.cons.injEq, and_true] at hσ
 simpa [V.rens, V.ren, sb, bs, wr, Heap.ren, B.ren, hσ.1, hσ.2.1, hσ.2.2] using h1
theorem T_wb {l : List UInt8} {b : SBatch} (hl : l.length ≤ 1099511627776) (hb : BatchOk b) {w x m : Nat} (hn : [Nm.o w, Nm.o x, Nm.o m].Nodup) : T Try.prog 50 [.ptr (.o w) 0 0 0 0, .agg b.c] (wr w x l) (.tup []) (wr w m (l ++ batchB b)) := by
 have h0 : T Try.prog 50 [.ptr (.o 0) 0 0 0 0, .agg b.c] (wr 0 1 l) (.tup []) (wr 0 63 (l ++ batchB b)) := by
  refine T_along NG MO _ (bdWb_p l b) Try.func50 (by kernel_rfl) ?_ (pinH_ok (by kernel_rfl)) (by kernel_rfl)
  simp only [All]
  and_intros
  all_goals first
   | exact T_bp hl hb (by decide)
   | simp
 obtain ⟨σ, hσ, h1⟩ := T.at h0 [.o 0, .o 1, .o 63] [.o w, .o x, .o m] (by simp) hn rfl
 simp only [List.map_cons, List.map_nil, List.cons.injEq, and_true] at hσ
 simpa [V.rens, V.ren, SBatch.c, rq, sb, bs, wr, Heap.ren, B.ren, hσ.1, hσ.2.1, hσ.2.2] using h1
theorem T_rawD {l : List UInt8} {d : List Int} (hl : l.length ≤ 17592186044416) (hs : SegOk 32 d) {w x q m : Nat} (hn : [Nm.o w, Nm.o x, Nm.o q, Nm.o m].Nodup) : T Try.prog 94 [.ptr (.o w) 0 0 0 0, .sl (.o q) 0 0 0 0 32 (some 32)] (wr w x l ++ [(.o q, .flat [V.seg .u8 32 d])]) (.tup []) (wr w m (l ++ segB d) ++ [(.o q, .flat [V.seg .u8 32 d])]) := by
 have h0 : T Try.prog 94 [.ptr (.o 0) 0 0 0 0, .sl (.o 2) 0 0 0 0 32 (some 32)] (wr 0 1 l ++ [(.o 2, .flat [V.seg .u8 32 d])]) (.tup []) (wr 0 63 (l ++ segB d) ++ [(.o 2, .flat [V.seg .u8 32 d])]) := by
  have h4 := hs.len
  have hlen : l.length + 32 = (l ++ segB d).length := by rw [List.length_append, segB_len, h4]
  refine T_along NG MO _ (bdRawD_p l d) Try.func94 (by kernel_rfl) ?_ (pinH_ok (by kernel_rfl)) (by kernel_rfl)
  simp only [All]
  and_intros
  all_goals first
   | exact hlen
   | omega
   | (rw [bl_append l (segB d), segB_fn hs]; intro k _; rfl)
   | simp
 obtain ⟨σ, hσ, h1⟩ := T.at h0 [.o 0, .o 1, .o 2, .o 63] [.o w, .o x, .o q, .o m] (by simp) hn rfl
 simp only [List.map_cons, List.map_nil, List.cons.injEq, and_true] at hσ
 simpa [V.rens, V.ren, sb, bs, wr, Heap.ren, B.ren, hσ.1, hσ.2.1, hσ.2.2.1, hσ.2.2.2] using h1
theorem T_rawS {l : List UInt8} {s : SSign} (hl : l.length ≤ 17592186044416) (hs : SegOk 16 s.tag) {w x q m : Nat} (hn : [Nm.o w, Nm.o x, Nm.o q, Nm.o m].Nodup) : T Try.prog 94 [.ptr (.o w) 0 0 0 0, .sl (.o q) 0 0 1 0 16 (some 16)] (wr w x l ++ [(.o q, .flat s.c)]) (.tup []) (wr w m (l ++ segB s.tag) ++ [(.o q, .flat s.c)]) := by
 have h0 : T Try.prog 94 [.ptr (.o 0) 0 0 0 0, .sl (.o 2) 0 0 1 0 16 (some 16)] (wr 0 1 l ++ [(.o 2, .flat s.c)]) (.tup []) (wr 0 63 (l ++ segB s.tag) ++ [(.o 2, .flat s.c)]) := by
  have h4 := hs.len
  have hlen : l.length + 16 = (l ++ segB s.tag).length := by rw [List.length_append, segB_len, h4]
  refine T_along NG MO _ (bdRawS_p l s) Try.func94 (by kernel_rfl) ?_ (pinH_ok (by kernel_rfl)) (by kernel_rfl)
  simp only [All]
  and_intros
  all_goals first
   | exact hlen
   | omega
   | (rw [bl_append l (segB s.tag), segB_fn hs]; intro k _; rfl)
   | simp
 obtain ⟨σ, hσ, h1⟩ := T.at h0 [.o 0, .o 1, .o 2, .o 63] [.o w, .o x, .o q, .o m] (by simp) hn rfl
 simp only [List.map_cons, List.map_nil, List.cons.injEq, and_true] at hσ
 simpa [V.rens, V.ren, SSign.c, sb, bs, wr, Heap.ren, B.ren, hσ.1, hσ.2.1, hσ.2.2.1, hσ.2.2.2] using h1
theorem T_rawE {l : List UInt8} {e : SEnv} (hl : l.length ≤ 17592186044416) (hs : SegOk 16 e.tag) {w x q m : Nat} (hn : [Nm.o w, Nm.o x, Nm.o q, Nm.o m].Nodup) : T Try.prog 94 [.ptr (.o w) 0 0 0 0, .sl (.o q) 0 0 2 0 16 (some 16)] (wr w x l ++ [(.o q, .flat e.c)]) (.tup []) (wr w m (l ++ segB e.tag) ++ [(.o q, .flat e.c)]) := by
 have h0 : T Try.prog 94 [.ptr (.o 0) 0 0 0 0, .sl (.o 2) 0 0 2 0 16 (some 16)] (wr 0 1 l ++ [(.o 2, .flat e.c)]) (.tup []) (wr 0 63 (l ++ segB e.tag) ++ [(.o 2, .flat e.c)]) := by
  have h4 := hs.len
  have hlen : l.length + 16 = (l ++ segB e.tag).length := by rw [List.length_append, segB_len, h4]
  refine T_along NG MO _ (bdRawE_p l e) Try.func94 (by kernel_rfl) ?_ (pinH_ok (by kernel_rfl)) (by kernel_rfl)
  simp only [All]
  and_intros
  all_goals first
   | exact hlen
   | omega
   | (rw [bl_append l (segB e.tag), segB_fn hs]; intro k _; rfl)
   | simp
 obtain ⟨σ, hσ, h1⟩ := T.at h0 [.o 0, .o 1, .o 2, .o 63] [.o w, .o x, .o q, .o m] (by simp) hn rfl
 simp only [List.map_cons, List.map_nil, List.cons.injEq, and_true] at hσ
 simpa [V.rens, V.ren, SEnv.c, sb, bs, wr, Heap.ren, B.ren, hσ.1, hσ.2.1, hσ.2.2.1, hσ.2.2.2] using h1
end Go.Proofs.Ythifjamdfpjilaa
namespace Go.Proofs.Ythifjamdfpjilaa
open Go Sy Go.Proofs
def signB (s : SSign) : List UInt8 := numsB [s.node] ++ segB s.tag
def signsB (s : Nat → SSign) : Nat → List UInt8
 | 0 => []
 | k + 1 => signsB s k ++ signB (s k)
def voteB (v : SVote) : List UInt8 := numsB [v.kind, v.epoch, v.view, v.slot] ++ segB v.digest
def certB (c : SCert) : List UInt8 := voteB c.vote ++ (numsB [(c.n : Int)] ++ signsB c.sig c.n)
def heldB (h : SHeld) : List UInt8 := batchB h.batch ++ certB h.cert
def heldsB (h : Nat → SHeld) : Nat → List UInt8
 | 0 => []
 | k + 1 => heldsB h k ++ heldB (h k)
def envB (e : SEnv) : List UInt8 := numsB [e.src] ++ (textB e.body ++ segB e.tag)
def envsB (e : Nat → SEnv) : Nat → List UInt8
 | 0 => []
 | k + 1 => envsB e k ++ envB (e k)
noncomputable def bdW (f : Func) (l s : List UInt8) (x : List V) (steps : List (Nat × (List V → Heap → Nat → List Cl))) : Bd := { f := f, args := .ptr (.o 0) 0 0 0 0 :: x, pre := wr 0 1 l, base := 2, kb := { db := dbSeqH 2 steps }, k := kWr (l ++ s) [], names := fun _ => [.o 0, .o 63] }
noncomputable def bdDig (l : List UInt8) (d : List Int) : Bd := bdW Try.f56 l (segB d) [.agg [.seg .u8 32 d]] [(3, cW (l ++ segB d))]
noncomputable def bdSgn (l : List UInt8) (s : SSign) : Bd := bdW Try.f60 l (signB s) [.agg s.c] [(5, cW (l ++ numsB [s.node])), (9, cW (l ++ numsB [s.node] ++ segB s.tag))]
noncomputable def bdEnv (l : List UInt8) (e : SEnv) : Bd := bdW Try.f55 l (envB e) [.agg e.c] [(5, cW (l ++ numsB [e.src])), (9, cW (l ++ numsB [e.src] ++ textB e.body)), (13, cW (l ++ numsB [e.src] ++ textB e.body ++ segB e.tag))]
noncomputable def bdVot (l : List UInt8) (v : SVote) : Bd := bdW Try.f51 l (voteB v) [.agg v.c] [(11, cW (l ++ numsB [v.kind, v.epoch, v.view, v.slot])), (15, cW (l ++ voteB v))]
noncomputable def bdCrt (l : List UInt8) (c : SCert) : Bd := bdW Try.f57 l (certB c) [.agg c.c] [(4, cW (l ++ voteB c.vote)), (10, cW (l ++ voteB c.vote ++ (numsB [(c.n : Int)] ++ signsB c.sig c.n)))]
noncomputable def bdHld (l : List UInt8) (h : SHeld) : Bd := bdW Try.f53 l (heldB h) [.agg h.c] [(4, cW (l ++ batchB h.batch)), (8, cW (l ++ batchB h.batch ++ certB h.cert))]
def pjSg (l : List UInt8) (n : Nat) (s : Nat → SSign) (k : Nat) : St := ⟨mkT 23 [(2, .fn (.func 60) [.ptr (.o 0) 0 0 0 0] []), (13, sg n s), (14, .int .i64 n), (15, .int .i64 k)], wr 0 63 (l ++ (numsB [(n : Int)] ++ signsB s k)), 64, []⟩
def lpSg (l : List UInt8) (n : Nat) (s : Nat → SSign) : Nat → St → List (Prop × Hint) := fun _ st => match pull (.o 0) st.heap with
 | some (.flat (.sl a _ _ _ _ _ _ :: _), _) => [(True, .loop (n + 1) (wToS [(.o 63, a)] ⟨mkT 23 [(2, .fn (.func 60) [.ptr (.o 0) 0 0 0 0] []), (13, sg n s), (14, .int .i64 n), (15, .int .i64 (0 : Nat))], wr 0 63 (l ++ (numsB [(n : Int)] ++ signsB s 0)), 64, []⟩) (.exit 0) (pjSg l n s n))]
 | _ => []
def kpSg (l : List UInt8) (n : Nat) (s : Nat → SSign) (k : Nat) : Exit → St → Option W := fun e st => match e with
 | .normal => match pull (.o 0) st.heap with
  | some (.flat (.sl a _ _ _ _ _ _ :: _), _) => some (wToS [(.o 63, a)] (pjSg l n s (k + 1)))
  | _ => none
 | _ => some (wTo (pjSg l n s n))
noncomputable def bdPSg (l : List UInt8) (n : Nat) (s : Nat → SSign) : Bd := { f := Try.f59, args := [.ptr (.o 0) 0 0 0 0, sg n s, .fn (.func 60) [.ptr (.o 0) 0 0 0 0] []], pre := wr 0 1 l, base := 2, kb := { db := dbSeqH 2 [(4, cW (l ++ numsB [(n : Int)]))], lp := lpSg l n s }, k := kWr (l ++ (numsB [(n : Int)] ++ signsB s n)) [], names := fun _ => [.o 0, .o 63] }
noncomputable def pcPSg (l : List UInt8) (n : Nat) (s : Nat → SSign) (k : Nat) : Pc := { c := cB (cB (cR (cR (bodyOf Try.f59)))), st := pjSg l n s k, p := 2, kb := { db := dbSeqH 64 [(7, cW (l ++ (numsB [(n : Int)] ++ signsB s (k + 1))))] }, k := kpSg l n s k }
def pjHl (l : List UInt8) (n : Nat) (s : Nat → SHeld) (k : Nat) : St := ⟨mkT 23 [(2, .fn (.func 53) [.ptr (.o 0) 0 0 0 0] []), (13, hl n s), (14, .int .i64 n), (15, .int .i64 k)], wr 0 63 (l ++ (numsB [(n : Int)] ++ heldsB s k)), 64, []⟩
def lpHl (l : List UInt8) (n : Nat) (s : Nat → SHeld) : Nat → St → List (Prop × Hint) := fun _ st => match pull (.o 0) st.heap with
 | some (.flat (.sl a _ _ _ _ _ _ :: _), _) => [(True, .loop (n + 1) (wToS [(.o 63, a)] ⟨mkT 23 [(2, .fn (.func 53) [.ptr (.o 0) 0 0 0 0] []), (13, hl n s), (14, .int .i64 n), (15, .int .i64 (0 : Nat))], wr 0 63 (l ++ (numsB [(n : Int)] ++ heldsB s 0)), 64, []⟩) (.exit 0) (pjHl l n s n))]
 | _ => []
def kpHl (l : List UInt8) (n : Nat) (s : Nat → SHeld) (k : Nat) : Exit → St → Option W := fun e st => match e with
 | .normal => match pull (.o 0) st.heap with
  | some (.flat (.sl a _ _ _ _ _ _ :: _), _) => some (wToS [(.o 63, a)] (pjHl l n s (k + 1)))
  | _ => none
 | _ => some (wTo (pjHl l n s n))
noncomputable def bdPHl (l : List UInt8) (n : Nat) (s : Nat → SHeld) : Bd := { f := Try.f52, args := [.ptr (.o 0) 0 0 0 0, hl n s, .fn (.func 53) [.ptr (.o 0) 0 0 0 0] []], pre := wr 0 1 l, base := 2, kb := { db := dbSeqH 2 [(4, cW (l ++ numsB [(n : Int)]))], lp := lpHl l n s }, k := kWr (l ++ (numsB [(n : Int)] ++ heldsB s n)) [], names := fun _ => [.o 0, .o 63] }
noncomputable def pcPHl (l : List UInt8) (n : Nat) (s : Nat → SHeld) (k : Nat) : Pc := { c := cB (cB (cR (cR (bodyOf Try.f52)))), st := pjHl l n s k, p := 2, kb := { db := dbSeqH 64 [(7, cW (l ++ (numsB [(n : Int)] ++ heldsB s (k + 1))))] }, k := kpHl l n s k }
def pjNw (l : List UInt8) (n : Nat) (s : Nat → SEnv) (k : Nat) : St := ⟨mkT 23 [(2, .fn (.func 55) [.ptr (.o 0) 0 0 0 0] []), (13, nw n s), (14, .int .i64 n), (15, .int .i64 k)], wr 0 63 (l ++ (numsB [(n : Int)] ++ envsB s k)), 64, []⟩
def lpNw (l : List UInt8) (n : Nat) (s : Nat → SEnv) : Nat → St → List (Prop × Hint) := fun _ st => match pull (.o 0) st.heap with
 | some (.flat (.sl a _ _ _ _ _ _ :: _), _) => [(True, .loop (n + 1) (wToS [(.o 63, a)] ⟨mkT 23 [(2, .fn (.func 55) [.ptr (.o 0) 0 0 0 0] []), (13, nw n s), (14, .int .i64 n), (15, .int .i64 (0 : Nat))], wr 0 63 (l ++ (numsB [(n : Int)] ++ envsB s 0)), 64, []⟩) (.exit 0) (pjNw l n s n))]
 | _ => []
def kpNw (l : List UInt8) (n : Nat) (s : Nat → SEnv) (k : Nat) : Exit → St → Option W := fun e st => match e with
 | .normal => match pull (.o 0) st.heap with
  | some (.flat (.sl a _ _ _ _ _ _ :: _), _) => some (wToS [(.o 63, a)] (pjNw l n s (k + 1)))
  | _ => none
 | _ => some (wTo (pjNw l n s n))
noncomputable def bdPNw (l : List UInt8) (n : Nat) (s : Nat → SEnv) : Bd := { f := Try.f54, args := [.ptr (.o 0) 0 0 0 0, nw n s, .fn (.func 55) [.ptr (.o 0) 0 0 0 0] []], pre := wr 0 1 l, base := 2, kb := { db := dbSeqH 2 [(4, cW (l ++ numsB [(n : Int)]))], lp := lpNw l n s }, k := kWr (l ++ (numsB [(n : Int)] ++ envsB s n)) [], names := fun _ => [.o 0, .o 63] }
noncomputable def pcPNw (l : List UInt8) (n : Nat) (s : Nat → SEnv) (k : Nat) : Pc := { c := cB (cB (cR (cR (bodyOf Try.f54)))), st := pjNw l n s k, p := 2, kb := { db := dbSeqH 64 [(7, cW (l ++ (numsB [(n : Int)] ++ envsB s (k + 1))))] }, k := kpNw l n s k }
end Go.Proofs.Ythifjamdfpjilaa
namespace Go.Proofs.Ythifjamdfpjilaa
open Go Sy Go.Proofs
theorem bdDig_p (l : List UInt8) (d : List Int) :
  along Try.prog (bdDig l d) [] = (some (.tup [], [(.o 0, .flat [sb (.o 63) (l ++ segB d)]), (.o 63, .rows 1 (List.length (l ++ segB d)) (bl (l ++ segB d)) true)], [T Try.prog 94 [.ptr (.o 0) 0 0 0 0, .sl (.o 2) 0 0 0 0 32 (some 32)] [(.o 0, .flat [sb (.o 1) l]), (.o 1, .rows 1 (List.length l) (bl l) true), (.o 2, .flat [.seg .u8 32 d])] (.tup []) [(.o 0, .flat [sb (.o 194) (l ++ segB d)]), (.o 194, bs (l ++ segB d)), (.o 2, .flat [.seg .u8 32 d])], q0, q0, q0, q (List.length (l ++ segB d)), (none : Option Nat) = none ∨ (none : Option Nat) = none, q (List.length (l ++ segB d)), ∀ (k : Nat), k < List.length (l ++ segB d) → bl (l ++ segB d) k = bl (l ++ segB d) k, true = false → true = false]) : Option (V × Heap × List Prop)) := by kernel_rfl

theorem bdSgn_p (l : List UInt8) (s : SSign) :
  along Try.prog (bdSgn l s) [] = (some (.tup [], [(.o 0, .flat [sb (.o 63) (l ++ signB s)]), (.o 63, .rows 1 (List.length (l ++ signB s)) (bl (l ++ signB s)) true)], [T Try.prog 49 [.ptr (.o 0) 0 0 0 0, .sl (.o 258) 1 0 0 0 1 (some 1)] [(.o 0, .flat [sb (.o 1) l]), (.o 1, .rows 1 (List.length l) (bl l) true), (.o 258, .rows 1 1 (getL [[.int .i64 (SSign.node s)]]) false)] (.tup []) [(.o 0, .flat [sb (.o 322) (l ++ numsB [SSign.node s])]), (.o 322, bs (l ++ numsB [SSign.node s])), (.o 258, .rows 1 1 (getL [[.int .i64 (SSign.node s)]]) false)], T Try.prog 94 [.ptr (.o 0) 0 0 0 0, .sl (.o 2) 0 0 1 0 16 (some 16)] [(.o 0, .flat [sb (.o 322) (l ++ numsB [SSign.node s])]), (.o 322, .rows 1 (List.length (l ++ numsB [SSign.node s])) (bl (l ++ numsB [SSign.node s])) true), (.o 2, .flat [.int .i64 (SSign.node s), .seg .u8 16 (SSign.tag s)])] (.tup []) [(.o 0, .flat [sb (.o 578) (l ++ numsB [SSign.node s] ++ segB (SSign.tag s))]), (.o 578, bs (l ++ numsB [SSign.node s] ++ segB (SSign.tag s))), (.o 2, .flat [.int .i64 (SSign.node s), .seg .u8 16 (SSign.tag s)])], q0, q0, q0, List.length (l ++ numsB [SSign.node s] ++ segB (SSign.tag s)) = List.length (l ++ signB s), (none : Option Nat) = none ∨ (none : Option Nat) = none, List.length (l ++ numsB [SSign.node s] ++ segB (SSign.tag s)) = List.length (l ++ signB s), ∀ (k : Nat), k < List.length (l ++ numsB [SSign.node s] ++ segB (SSign.tag s)) → bl (l ++ numsB [SSign.node s] ++ segB (SSign.tag s)) k = bl (l ++ signB s) k, true = false → true = false]) : Option (V × Heap × List Prop)) := by kernel_rfl

theorem bdEnv_p (l : List UInt8) (e : SEnv) :
  along Try.prog (bdEnv l e) [] = (some (.tup [], [(.o 0, .flat [sb (.o 63) (l ++ envB e)]), (.o 63, .rows 1 (List.length (l ++ envB e)) (bl (l ++ envB e)) true)], [T Try.prog 49 [.ptr (.o 0) 0 0 0 0, .sl (.o 258) 1 0 0 0 1 (some 1)] [(.o 0, .flat [sb (.o 1) l]), (.o 1, .rows 1 (List.length l) (bl l) true), (.o 258, .rows 1 1 (getL [[.int .i64 (SEnv.src e)]]) false)] (.tup []) [(.o 0, .flat [sb (.o 322) (l ++ numsB [SEnv.src e])]), (.o 322, bs (l ++ numsB [SEnv.src e])), (.o 258, .rows 1 1 (getL [[.int .i64 (SEnv.src e)]]) false)], T Try.prog 58 [.ptr (.o 0) 0 0 0 0, .str (SEnv.body e)] [(.o 0, .flat [sb (.o 322) (l ++ numsB [SEnv.src e])]), (.o 322, .rows 1 (List.length (l ++ numsB [SEnv.src e])) (bl (l ++ numsB [SEnv.src e])) true)] (.tup []) [(.o 0, .flat [sb (.o 578) (l ++ numsB [SEnv.src e] ++ textB (SEnv.body e))]), (.o 578, bs (l ++ numsB [SEnv.src e] ++ textB (SEnv.body e)))], T Try.prog 94 [.ptr (.o 0) 0 0 0 0, .sl (.o 2) 0 0 2 0 16 (some 16)] [(.o 0, .flat [sb (.o 578) (l ++ numsB [SEnv.src e] ++ textB (SEnv.body e))]), (.o 578, .rows 1 (List.length (l ++ numsB [SEnv.src e] ++ textB (SEnv.body e))) (bl (l ++ numsB [SEnv.src e] ++ textB (SEnv.body e))) true), (.o 2, .flat [.int .i64 (SEnv.src e), .str (SEnv.body e), .seg .u8 16 (SEnv.tag e)])] (.tup []) [(.o 0, .flat [sb (.o 834) (l ++ numsB [SEnv.src e] ++ textB (SEnv.body e) ++ segB (SEnv.tag e))]), (.o 834, bs (l ++ numsB [SEnv.src e] ++ textB (SEnv.body e) ++ segB (SEnv.tag e))), (.o 2, .flat [.int .i64 (SEnv.src e), .str (SEnv.body e), .seg .u8 16 (SEnv.tag e)])], q0, q0, q0, List.length (l ++ numsB [SEnv.src e] ++ textB (SEnv.body e) ++ segB (SEnv.tag e)) = List.length (l ++ envB e), (none : Option Nat) = none ∨ (none : Option Nat) = none, List.length (l ++ numsB [SEnv.src e] ++ textB (SEnv.body e) ++ segB (SEnv.tag e)) = List.length (l ++ envB e), ∀ (k : Nat), k < List.length (l ++ numsB [SEnv.src e] ++ textB (SEnv.body e) ++ segB (SEnv.tag e)) → bl (l ++ numsB [SEnv.src e] ++ textB (SEnv.body e) ++ segB (SEnv.tag e)) k = bl (l ++ envB e) k, true = false → true = false]) : Option (V × Heap × List Prop)) := by kernel_rfl

theorem bdVot_p (l : List UInt8) (v : SVote) :
  along Try.prog (bdVot l v) [] = (some (.tup [], [(.o 0, .flat [sb (.o 63) (l ++ voteB v)]), (.o 63, .rows 1 (List.length (l ++ voteB v)) (bl (l ++ voteB v)) true)], [T Try.prog 49 [.ptr (.o 0) 0 0 0 0, .sl (.o 642) 1 0 0 0 4 (some 4)] [(.o 0, .flat [sb (.o 1) l]), (.o 1, .rows 1 (List.length l) (bl l) true), (.o 642, .rows 1 4 (getL [[.int .i64 (SVote.kind v)], [.int .i64 (SVote.epoch v)], [.int .i64 (SVote.view v)], [.int .i64 (SVote.slot v)]]) false)] (.tup []) [(.o 0, .flat [sb (.o 706) (l ++ numsB [SVote.kind v, SVote.epoch v, SVote.view v, SVote.slot v])]), (.o 706, bs (l ++ numsB [SVote.kind v, SVote.epoch v, SVote.view v, SVote.slot v])), (.o 642, .rows 1 4 (getL [[.int .i64 (SVote.kind v)], [.int .i64 (SVote.epoch v)], [.int .i64 (SVote.view v)], [.int .i64 (SVote.slot v)]]) false)], T Try.prog 56 [.ptr (.o 0) 0 0 0 0, .agg [.seg .u8 32 (SVote.digest v)]] [(.o 0, .flat [sb (.o 706) (l ++ numsB [SVote.kind v, SVote.epoch v, SVote.view v, SVote.slot v])]), (.o 706, .rows 1 (List.length (l ++ numsB [SVote.kind v, SVote.epoch v, SVote.view v, SVote.slot v])) (bl (l ++ numsB [SVote.kind v, SVote.epoch v, SVote.view v, SVote.slot v])) true)] (.tup []) [(.o 0, .flat [sb (.o 962) (l ++ voteB v)]), (.o 962, bs (l ++ voteB v))], q0, q0, q0, q (List.length (l ++ voteB v)), (none : Option Nat) = none ∨ (none : Option Nat) = none, q (List.length (l ++ voteB v)), ∀ (k : Nat), k < List.length (l ++ voteB v) → bl (l ++ voteB v) k = bl (l ++ voteB v) k, true = false → true = false]) : Option (V × Heap × List Prop)) := by kernel_rfl

theorem bdCrt_p (l : List UInt8) (c : SCert) :
  along Try.prog (bdCrt l c) [] = (some (.tup [], [(.o 0, .flat [sb (.o 63) (l ++ certB c)]), (.o 63, .rows 1 (List.length (l ++ certB c)) (bl (l ++ certB c)) true)], [T Try.prog 51 [.ptr (.o 0) 0 0 0 0, .agg (SVote.c (SCert.vote c))] [(.o 0, .flat [sb (.o 1) l]), (.o 1, .rows 1 (List.length l) (bl l) true)] (.tup []) [(.o 0, .flat [sb (.o 258) (l ++ voteB (SCert.vote c))]), (.o 258, bs (l ++ voteB (SCert.vote c)))], T Try.prog 59 [.ptr (.o 0) 0 0 0 0, .ros 17 (SCert.n c) (fun i => SSign.c (SCert.sig c i)) false, .fn (.func 60) [.ptr (.o 0) 0 0 0 0] []] [(.o 0, .flat [sb (.o 258) (l ++ voteB (SCert.vote c))]), (.o 258, .rows 1 (List.length (l ++ voteB (SCert.vote c))) (bl (l ++ voteB (SCert.vote c))) true)] (.tup []) [(.o 0, .flat [sb (.o 642) (l ++ voteB (SCert.vote c) ++ (numsB [(↑(SCert.n c) : Int)] ++ signsB (SCert.sig c) (SCert.n c)))]), (.o 642, bs (l ++ voteB (SCert.vote c) ++ (numsB [(↑(SCert.n c) : Int)] ++ signsB (SCert.sig c) (SCert.n c))))], q0, q0, q0, List.length (l ++ voteB (SCert.vote c) ++ (numsB [(↑(SCert.n c) : Int)] ++ signsB (SCert.sig c) (SCert.n c))) = List.length (l ++ certB c), (none : Option Nat) = none ∨ (none : Option Nat) = none, List.length (l ++ voteB (SCert.vote c) ++ (numsB [(↑(SCert.n c) : Int)] ++ signsB (SCert.sig c) (SCert.n c))) = List.length (l ++ certB c), ∀ (k : Nat), k < List.length (l ++ voteB (SCert.vote c) ++ (numsB [(↑(SCert.n c) : Int)] ++ signsB (SCert.sig c) (SCert.n c))) → bl (l ++ voteB (SCert.vote c) ++ (numsB [(↑(SCert.n c) : Int)] ++ signsB (SCert.sig c) (SCert.n c))) k = bl (l ++ certB c) k, true = false → true = false]) : Option (V × Heap × List Prop)) := by kernel_rfl

theorem bdHld_p (l : List UInt8) (h : SHeld) :
  along Try.prog (bdHld l h) [] = (some (.tup [], [(.o 0, .flat [sb (.o 63) (l ++ heldB h)]), (.o 63, .rows 1 (List.length (l ++ heldB h)) (bl (l ++ heldB h)) true)], [T Try.prog 50 [.ptr (.o 0) 0 0 0 0, .agg (SBatch.c (SHeld.batch h))] [(.o 0, .flat [sb (.o 1) l]), (.o 1, .rows 1 (List.length l) (bl l) true)] (.tup []) [(.o 0, .flat [sb (.o 258) (l ++ batchB (SHeld.batch h))]), (.o 258, bs (l ++ batchB (SHeld.batch h)))], T Try.prog 57 [.ptr (.o 0) 0 0 0 0, .agg [.int .i64 (SVote.kind (SCert.vote (SHeld.cert h))), .int .i64 (SVote.epoch (SCert.vote (SHeld.cert h))), .int .i64 (SVote.view (SCert.vote (SHeld.cert h))), .int .i64 (SVote.slot (SCert.vote (SHeld.cert h))), .seg .u8 32 (SVote.digest (SCert.vote (SHeld.cert h))), sg (SCert.n (SHeld.cert h)) (SCert.sig (SHeld.cert h))]] [(.o 0, .flat [sb (.o 258) (l ++ batchB (SHeld.batch h))]), (.o 258, .rows 1 (List.length (l ++ batchB (SHeld.batch h))) (bl (l ++ batchB (SHeld.batch h))) true)] (.tup []) [(.o 0, .flat [sb (.o 514) (l ++ batchB (SHeld.batch h) ++ certB (SHeld.cert h))]), (.o 514, bs (l ++ batchB (SHeld.batch h) ++ certB (SHeld.cert h)))], q0, q0, q0, List.length (l ++ batchB (SHeld.batch h) ++ certB (SHeld.cert h)) = List.length (l ++ heldB h), (none : Option Nat) = none ∨ (none : Option Nat) = none, List.length (l ++ batchB (SHeld.batch h) ++ certB (SHeld.cert h)) = List.length (l ++ heldB h), ∀ (k : Nat), k < List.length (l ++ batchB (SHeld.batch h) ++ certB (SHeld.cert h)) → bl (l ++ batchB (SHeld.batch h) ++ certB (SHeld.cert h)) k = bl (l ++ heldB h) k, true = false → true = false]) : Option (V × Heap × List Prop)) := by kernel_rfl

theorem bdPSg_p (l : List UInt8) (n : Nat) (s : Nat → SSign) :
  along Try.prog (bdPSg l n s) [] = (some (.tup [], [(.o 0, .flat [sb (.o 63) (l ++ (numsB [(↑n : Int)] ++ signsB s n))]), (.o 63, .rows 1 (List.length (l ++ (numsB [(↑n : Int)] ++ signsB s n))) (bl (l ++ (numsB [(↑n : Int)] ++ signsB s n))) true)], [T Try.prog 49 [.ptr (.o 0) 0 0 0 0, .sl (.o 194) 1 0 0 0 1 (some 1)] [(.o 0, .flat [sb (.o 1) l]), (.o 1, .rows 1 (List.length l) (bl l) true), (.o 194, .rows 1 1 (getL [[.int .i64 ↑n]]) false)] (.tup []) [(.o 0, .flat [sb (.o 258) (l ++ numsB [(↑n : Int)])]), (.o 258, bs (l ++ numsB [(↑n : Int)])), (.o 194, .rows 1 1 (getL [[.int .i64 ↑n]]) false)], RLoop Try.prog none 2 (cB (cB (cR (cR (bodyOf (Bd.f (bdPSg l n s))))))) (n + 1) (St.mk [.any, .any, .fn (.func (60 : FuncId)) [.ptr (.o 0) 0 0 0 0] [], .any, .any, .any, .any, .any, .any, .any, .any, .any, .any, .ros 17 n (fun i => SSign.c (s i)) false, .int .i64 ↑n, .int .i64 0, .any, .any, .any, .any, .any, .any, .any] [(.o 0, .flat [sb (.o 63) (l ++ (numsB [(↑n : Int)] ++ signsB s 0))]), (.o 63, .rows 1 (List.length (l ++ (numsB [(↑n : Int)] ++ signsB s 0))) (bl (l ++ (numsB [(↑n : Int)] ++ signsB s 0))) true)] 64 []) (.exit 0) (St.mk [.any, .any, .fn (.func (60 : FuncId)) [.ptr (.o 0) 0 0 0 0] [], .any, .any, .any, .any, .any, .any, .any, .any, .any, .any, .ros 17 n (fun i => SSign.c (s i)) false, .int .i64 ↑n, .int .i64 ↑n, .any, .any, .any, .any, .any, .any, .any] [(.o 0, .flat [sb (.o 63) (l ++ (numsB [(↑n : Int)] ++ signsB s n))]), (.o 63, bs (l ++ (numsB [(↑n : Int)] ++ signsB s n)))] 64 []), q0, q0, q0, List.length (l ++ numsB [(↑n : Int)]) = List.length (l ++ (numsB [(↑n : Int)] ++ signsB s (0 : Nat))), (none : Option Nat) = none ∨ (none : Option Nat) = none, List.length (l ++ numsB [(↑n : Int)]) = List.length (l ++ (numsB [(↑n : Int)] ++ signsB s (0 : Nat))), ∀ (k : Nat), k < List.length (l ++ numsB [(↑n : Int)]) → bl (l ++ numsB [(↑n : Int)]) k = bl (l ++ (numsB [(↑n : Int)] ++ signsB s (0 : Nat))) k, true = false → true = false, q0, q0, q0, q n, ∀ (k : Nat), k < n → SSign.c (s k) = SSign.c (s k), false = true → false = true, q (↑n : Int), q1, q0, q0, q0, q (List.length (l ++ (numsB [(↑n : Int)] ++ signsB s n))), (none : Option Nat) = none ∨ (none : Option Nat) = none, q (List.length (l ++ (numsB [(↑n : Int)] ++ signsB s n))), ∀ (k : Nat), k < List.length (l ++ (numsB [(↑n : Int)] ++ signsB s n)) → bl (l ++ (numsB [(↑n : Int)] ++ signsB s n)) k = bl (l ++ (numsB [(↑n : Int)] ++ signsB s n)) k, true = false → true = false]) : Option (V × Heap × List Prop)) := by kernel_rfl

theorem pcPSg_p1 (l : List UInt8) (n : Nat) (s : Nat → SSign) (k : Nat) :
  alongPc Try.prog (pcPSg l n s k) [true] = (some (.normal, St.mk [.any, .any, .fn (.func (60 : FuncId)) [.ptr (.o 0) 0 0 0 0] [], .any, .any, .any, .any, .any, .any, .any, .any, .any, .any, .ros 17 n (fun i => SSign.c (s i)) false, .int .i64 ↑n, .int .i64 (↑(k + 1) : Int), .any, .any, .any, .any, .any, .any, .any] [(.o 0, .flat [sb (.o 63) (l ++ (numsB [(↑n : Int)] ++ signsB s (k + 1)))]), (.o 63, .rows 1 (List.length (l ++ (numsB [(↑n : Int)] ++ signsB s (k + 1)))) (bl (l ++ (numsB [(↑n : Int)] ++ signsB s (k + 1)))) true)] 64 [], [decide ((↑k : Int) < (↑n : Int)) = true, (0 : Int) ≤ (↑k : Int) ∧ (↑k : Int) < (↑n : Int), T Try.prog (60 : FuncId) [.ptr (.o 0) 0 0 0 0, .agg [.int .i64 (SSign.node (s (Int.toNat (↑k : Int)))), .seg .u8 16 (SSign.tag (s (Int.toNat (↑k : Int))))]] [(.o 0, .flat [sb (.o 63) (l ++ (numsB [(↑n : Int)] ++ signsB s k))]), (.o 63, .rows 1 (List.length (l ++ (numsB [(↑n : Int)] ++ signsB s k))) (bl (l ++ (numsB [(↑n : Int)] ++ signsB s k))) true)] (.tup []) [(.o 0, .flat [sb (.o 512) (l ++ (numsB [(↑n : Int)] ++ signsB s (k + 1)))]), (.o 512, bs (l ++ (numsB [(↑n : Int)] ++ signsB s (k + 1))))], InR IntKind.i64 ((↑k : Int) + (1 : Int)), q0, q0, q0, q (List.length (l ++ (numsB [(↑n : Int)] ++ signsB s (k + (1 : Nat))))), (none : Option Nat) = none ∨ (none : Option Nat) = none, q (List.length (l ++ (numsB [(↑n : Int)] ++ signsB s (k + (1 : Nat))))), ∀ (k_1 : Nat), k_1 < List.length (l ++ (numsB [(↑n : Int)] ++ signsB s (k + (1 : Nat)))) → bl (l ++ (numsB [(↑n : Int)] ++ signsB s (k + (1 : Nat)))) k_1 = bl (l ++ (numsB [(↑n : Int)] ++ signsB s (k + (1 : Nat)))) k_1, true = false → true = false, q0, q0, q0, q n, ∀ (k : Nat), k < n → SSign.c (s k) = SSign.c (s k), false = true → false = true, q (↑n : Int), (↑k : Int) + (1 : Int) = (↑(k + (1 : Nat)) : Int)]) : Option (Exit × St × List Prop)) := by kernel_rfl
theorem pcPSg_p0 (l : List UInt8) (n : Nat) (s : Nat → SSign) (k : Nat) :
  alongPc Try.prog (pcPSg l n s k) [false] = (some (.exit 0, St.mk [.any, .any, .fn (.func (60 : FuncId)) [.ptr (.o 0) 0 0 0 0] [], .any, .any, .any, .any, .any, .any, .any, .any, .any, .any, .ros 17 n (fun i => SSign.c (s i)) false, .int .i64 ↑n, .int .i64 ↑n, .any, .any, .any, .any, .any, .any, .any] [(.o 0, .flat [sb (.o 63) (l ++ (numsB [(↑n : Int)] ++ signsB s n))]), (.o 63, .rows 1 (List.length (l ++ (numsB [(↑n : Int)] ++ signsB s n))) (bl (l ++ (numsB [(↑n : Int)] ++ signsB s n))) true)] 64 [], [decide ((↑k : Int) < (↑n : Int)) = false, q0, q0, q0, List.length (l ++ (numsB [(↑n : Int)] ++ signsB s k)) = List.length (l ++ (numsB [(↑n : Int)] ++ signsB s n)), (none : Option Nat) = none ∨ (none : Option Nat) = none, List.length (l ++ (numsB [(↑n : Int)] ++ signsB s k)) = List.length (l ++ (numsB [(↑n : Int)] ++ signsB s n)), ∀ (k_1 : Nat), k_1 < List.length (l ++ (numsB [(↑n : Int)] ++ signsB s k)) → bl (l ++ (numsB [(↑n : Int)] ++ signsB s k)) k_1 = bl (l ++ (numsB [(↑n : Int)] ++ signsB s n)) k_1, true = false → true = false, q0, q0, q0, q n, ∀ (k : Nat), k < n → SSign.c (s k) = SSign.c (s k), false = true → false = true, q (↑n : Int), (↑k : Int) = (↑n : Int)]) : Option (Exit × St × List Prop)) := by kernel_rfl

theorem bdPHl_p (l : List UInt8) (n : Nat) (s : Nat → SHeld) :
  along Try.prog (bdPHl l n s) [] = (some (.tup [], [(.o 0, .flat [sb (.o 63) (l ++ (numsB [(↑n : Int)] ++ heldsB s n))]), (.o 63, .rows 1 (List.length (l ++ (numsB [(↑n : Int)] ++ heldsB s n))) (bl (l ++ (numsB [(↑n : Int)] ++ heldsB s n))) true)], [T Try.prog 49 [.ptr (.o 0) 0 0 0 0, .sl (.o 194) 1 0 0 0 1 (some 1)] [(.o 0, .flat [sb (.o 1) l]), (.o 1, .rows 1 (List.length l) (bl l) true), (.o 194, .rows 1 1 (getL [[.int .i64 ↑n]]) false)] (.tup []) [(.o 0, .flat [sb (.o 258) (l ++ numsB [(↑n : Int)])]), (.o 258, bs (l ++ numsB [(↑n : Int)])), (.o 194, .rows 1 1 (getL [[.int .i64 ↑n]]) false)], RLoop Try.prog none 2 (cB (cB (cR (cR (bodyOf (Bd.f (bdPHl l n s))))))) (n + 1) (St.mk [.any, .any, .fn (.func (53 : FuncId)) [.ptr (.o 0) 0 0 0 0] [], .any, .any, .any, .any, .any, .any, .any, .any, .any, .any, .ros 39 n (fun i => SHeld.c (s i)) false, .int .i64 ↑n, .int .i64 0, .any, .any, .any, .any, .any, .any, .any] [(.o 0, .flat [sb (.o 63) (l ++ (numsB [(↑n : Int)] ++ heldsB s 0))]), (.o 63, .rows 1 (List.length (l ++ (numsB [(↑n : Int)] ++ heldsB s 0))) (bl (l ++ (numsB [(↑n : Int)] ++ heldsB s 0))) true)] 64 []) (.exit 0) (St.mk [.any, .any, .fn (.func (53 : FuncId)) [.ptr (.o 0) 0 0 0 0] [], .any, .any, .any, .any, .any, .any, .any, .any, .any, .any, .ros 39 n (fun i => SHeld.c (s i)) false, .int .i64 ↑n, .int .i64 ↑n, .any, .any, .any, .any, .any, .any, .any] [(.o 0, .flat [sb (.o 63) (l ++ (numsB [(↑n : Int)] ++ heldsB s n))]), (.o 63, bs (l ++ (numsB [(↑n : Int)] ++ heldsB s n)))] 64 []), q0, q0, q0, List.length (l ++ numsB [(↑n : Int)]) = List.length (l ++ (numsB [(↑n : Int)] ++ heldsB s (0 : Nat))), (none : Option Nat) = none ∨ (none : Option Nat) = none, List.length (l ++ numsB [(↑n : Int)]) = List.length (l ++ (numsB [(↑n : Int)] ++ heldsB s (0 : Nat))), ∀ (k : Nat), k < List.length (l ++ numsB [(↑n : Int)]) → bl (l ++ numsB [(↑n : Int)]) k = bl (l ++ (numsB [(↑n : Int)] ++ heldsB s (0 : Nat))) k, true = false → true = false, q0, q0, q0, q n, ∀ (k : Nat), k < n → SHeld.c (s k) = SHeld.c (s k), false = true → false = true, q (↑n : Int), q1, q0, q0, q0, q (List.length (l ++ (numsB [(↑n : Int)] ++ heldsB s n))), (none : Option Nat) = none ∨ (none : Option Nat) = none, q (List.length (l ++ (numsB [(↑n : Int)] ++ heldsB s n))), ∀ (k : Nat), k < List.length (l ++ (numsB [(↑n : Int)] ++ heldsB s n)) → bl (l ++ (numsB [(↑n : Int)] ++ heldsB s n)) k = bl (l ++ (numsB [(↑n : Int)] ++ heldsB s n)) k, true = false → true = false]) : Option (V × Heap × List Prop)) := by kernel_rfl

theorem pcPHl_p1 (l : List UInt8) (n : Nat) (s : Nat → SHeld) (k : Nat) :
  alongPc Try.prog (pcPHl l n s k) [true] = (some (.normal, St.mk [.any, .any, .fn (.func (53 : FuncId)) [.ptr (.o 0) 0 0 0 0] [], .any, .any, .any, .any, .any, .any, .any, .any, .any, .any, .ros 39 n (fun i => SHeld.c (s i)) false, .int .i64 ↑n, .int .i64 (↑(k + 1) : Int), .any, .any, .any, .any, .any, .any, .any] [(.o 0, .flat [sb (.o 63) (l ++ (numsB [(↑n : Int)] ++ heldsB s (k + 1)))]), (.o 63, .rows 1 (List.length (l ++ (numsB [(↑n : Int)] ++ heldsB s (k + 1)))) (bl (l ++ (numsB [(↑n : Int)] ++ heldsB s (k + 1)))) true)] 64 [], [decide ((↑k : Int) < (↑n : Int)) = true, (0 : Int) ≤ (↑k : Int) ∧ (↑k : Int) < (↑n : Int), T Try.prog (53 : FuncId) [.ptr (.o 0) 0 0 0 0, .agg [.bool (SBatch.noop (SHeld.batch (s (Int.toNat (↑k : Int))))), rq (SBatch.n (SHeld.batch (s (Int.toNat (↑k : Int))))) (SBatch.req (SHeld.batch (s (Int.toNat (↑k : Int))))), .int .i64 (SVote.kind (SCert.vote (SHeld.cert (s (Int.toNat (↑k : Int)))))), .int .i64 (SVote.epoch (SCert.vote (SHeld.cert (s (Int.toNat (↑k : Int)))))), .int .i64 (SVote.view (SCert.vote (SHeld.cert (s (Int.toNat (↑k : Int)))))), .int .i64 (SVote.slot (SCert.vote (SHeld.cert (s (Int.toNat (↑k : Int)))))), .seg .u8 32 (SVote.digest (SCert.vote (SHeld.cert (s (Int.toNat (↑k : Int)))))), sg (SCert.n (SHeld.cert (s (Int.toNat (↑k : Int))))) (SCert.sig (SHeld.cert (s (Int.toNat (↑k : Int)))))]] [(.o 0, .flat [sb (.o 63) (l ++ (numsB [(↑n : Int)] ++ heldsB s k))]), (.o 63, .rows 1 (List.length (l ++ (numsB [(↑n : Int)] ++ heldsB s k))) (bl (l ++ (numsB [(↑n : Int)] ++ heldsB s k))) true)] (.tup []) [(.o 0, .flat [sb (.o 512) (l ++ (numsB [(↑n : Int)] ++ heldsB s (k + 1)))]), (.o 512, bs (l ++ (numsB [(↑n : Int)] ++ heldsB s (k + 1))))], InR IntKind.i64 ((↑k : Int) + (1 : Int)), q0, q0, q0, q (List.length (l ++ (numsB [(↑n : Int)] ++ heldsB s (k + (1 : Nat))))), (none : Option Nat) = none ∨ (none : Option Nat) = none, q (List.length (l ++ (numsB [(↑n : Int)] ++ heldsB s (k + (1 : Nat))))), ∀ (k_1 : Nat), k_1 < List.length (l ++ (numsB [(↑n : Int)] ++ heldsB s (k + (1 : Nat)))) → bl (l ++ (numsB [(↑n : Int)] ++ heldsB s (k + (1 : Nat)))) k_1 = bl (l ++ (numsB [(↑n : Int)] ++ heldsB s (k + (1 : Nat)))) k_1, true = false → true = false, q0, q0, q0, q n, ∀ (k : Nat), k < n → SHeld.c (s k) = SHeld.c (s k), false = true → false = true, q (↑n : Int), (↑k : Int) + (1 : Int) = (↑(k + (1 : Nat)) : Int)]) : Option (Exit × St × List Prop)) := by kernel_rfl
theorem pcPHl_p0 (l : List UInt8) (n : Nat) (s : Nat → SHeld) (k : Nat) :
  alongPc Try.prog (pcPHl l n s k) [false] = (some (.exit 0, St.mk [.any, .any, .fn (.func (53 : FuncId)) [.ptr (.o 0) 0 0 0 0] [], .any, .any, .any, .any, .any, .any, .any, .any, .any, .any, .ros 39 n (fun i => SHeld.c (s i)) false, .int .i64 ↑n, .int .i64 ↑n, .any, .any, .any, .any, .any, .any, .any] [(.o 0, .flat [sb (.o 63) (l ++ (numsB [(↑n : Int)] ++ heldsB s n))]), (.o 63, .rows 1 (List.length (l ++ (numsB [(↑n : Int)] ++ heldsB s n))) (bl (l ++ (numsB [(↑n : Int)] ++ heldsB s n))) true)] 64 [], [decide ((↑k : Int) < (↑n : Int)) = false, q0, q0, q0, List.length (l ++ (numsB [(↑n : Int)] ++ heldsB s k)) = List.length (l ++ (numsB [(↑n : Int)] ++ heldsB s n)), (none : Option Nat) = none ∨ (none : Option Nat) = none, List.length (l ++ (numsB [(↑n : Int)] ++ heldsB s k)) = List.length (l ++ (numsB [(↑n : Int)] ++ heldsB s n)), ∀ (k_1 : Nat), k_1 < List.length (l ++ (numsB [(↑n : Int)] ++ heldsB s k)) → bl (l ++ (numsB [(↑n : Int)] ++ heldsB s k)) k_1 = bl (l ++ (numsB [(↑n : Int)] ++ heldsB s n)) k_1, true = false → true = false, q0, q0, q0, q n, ∀ (k : Nat), k < n → SHeld.c (s k) = SHeld.c (s k), false = true → false = true, q (↑n : Int), (↑k : Int) = (↑n : Int)]) : Option (Exit × St × List Prop)) := by kernel_rfl

theorem bdPNw_p (l : List UInt8) (n : Nat) (s : Nat → SEnv) :
  along Try.prog (bdPNw l n s) [] = (some (.tup [], [(.o 0, .flat [sb (.o 63) (l ++ (numsB [(↑n : Int)] ++ envsB s n))]), (.o 63, .rows 1 (List.length (l ++ (numsB [(↑n : Int)] ++ envsB s n))) (bl (l ++ (numsB [(↑n : Int)] ++ envsB s n))) true)], [T Try.prog 49 [.ptr (.o 0) 0 0 0 0, .sl (.o 194) 1 0 0 0 1 (some 1)] [(.o 0, .flat [sb (.o 1) l]), (.o 1, .rows 1 (List.length l) (bl l) true), (.o 194, .rows 1 1 (getL [[.int .i64 ↑n]]) false)] (.tup []) [(.o 0, .flat [sb (.o 258) (l ++ numsB [(↑n : Int)])]), (.o 258, bs (l ++ numsB [(↑n : Int)])), (.o 194, .rows 1 1 (getL [[.int .i64 ↑n]]) false)], RLoop Try.prog none 2 (cB (cB (cR (cR (bodyOf (Bd.f (bdPNw l n s))))))) (n + 1) (St.mk [.any, .any, .fn (.func (55 : FuncId)) [.ptr (.o 0) 0 0 0 0] [], .any, .any, .any, .any, .any, .any, .any, .any, .any, .any, .ros 18 n (fun i => SEnv.c (s i)) false, .int .i64 ↑n, .int .i64 0, .any, .any, .any, .any, .any, .any, .any] [(.o 0, .flat [sb (.o 63) (l ++ (numsB [(↑n : Int)] ++ envsB s 0))]), (.o 63, .rows 1 (List.length (l ++ (numsB [(↑n : Int)] ++ envsB s 0))) (bl (l ++ (numsB [(↑n : Int)] ++ envsB s 0))) true)] 64 []) (.exit 0) (St.mk [.any, .any, .fn (.func (55 : FuncId)) [.ptr (.o 0) 0 0 0 0] [], .any, .any, .any, .any, .any, .any, .any, .any, .any, .any, .ros 18 n (fun i => SEnv.c (s i)) false, .int .i64 ↑n, .int .i64 ↑n, .any, .any, .any, .any, .any, .any, .any] [(.o 0, .flat [sb (.o 63) (l ++ (numsB [(↑n : Int)] ++ envsB s n))]), (.o 63, bs (l ++ (numsB [(↑n : Int)] ++ envsB s n)))] 64 []), q0, q0, q0, List.length (l ++ numsB [(↑n : Int)]) = List.length (l ++ (numsB [(↑n : Int)] ++ envsB s (0 : Nat))), (none : Option Nat) = none ∨ (none : Option Nat) = none, List.length (l ++ numsB [(↑n : Int)]) = List.length (l ++ (numsB [(↑n : Int)] ++ envsB s (0 : Nat))), ∀ (k : Nat), k < List.length (l ++ numsB [(↑n : Int)]) → bl (l ++ numsB [(↑n : Int)]) k = bl (l ++ (numsB [(↑n : Int)] ++ envsB s (0 : Nat))) k, true = false → true = false, q0, q0, q0, q n, ∀ (k : Nat), k < n → SEnv.c (s k) = SEnv.c (s k), false = true → false = true, q (↑n : Int), q1, q0, q0, q0, q (List.length (l ++ (numsB [(↑n : Int)] ++ envsB s n))), (none : Option Nat) = none ∨ (none : Option Nat) = none, q (List.length (l ++ (numsB [(↑n : Int)] ++ envsB s n))), ∀ (k : Nat), k < List.length (l ++ (numsB [(↑n : Int)] ++ envsB s n)) → bl (l ++ (numsB [(↑n : Int)] ++ envsB s n)) k = bl (l ++ (numsB [(↑n : Int)] ++ envsB s n)) k, true = false → true = false]) : Option (V × Heap × List Prop)) := by kernel_rfl

theorem pcPNw_p1 (l : List UInt8) (n : Nat) (s : Nat → SEnv) (k : Nat) :
  alongPc Try.prog (pcPNw l n s k) [true] = (some (.normal, St.mk [.any, .any, .fn (.func (55 : FuncId)) [.ptr (.o 0) 0 0 0 0] [], .any, .any, .any, .any, .any, .any, .any, .any, .any, .any, .ros 18 n (fun i => SEnv.c (s i)) false, .int .i64 ↑n, .int .i64 (↑(k + 1) : Int), .any, .any, .any, .any, .any, .any, .any] [(.o 0, .flat [sb (.o 63) (l ++ (numsB [(↑n : Int)] ++ envsB s (k + 1)))]), (.o 63, .rows 1 (List.length (l ++ (numsB [(↑n : Int)] ++ envsB s (k + 1)))) (bl (l ++ (numsB [(↑n : Int)] ++ envsB s (k + 1)))) true)] 64 [], [decide ((↑k : Int) < (↑n : Int)) = true, (0 : Int) ≤ (↑k : Int) ∧ (↑k : Int) < (↑n : Int), T Try.prog (55 : FuncId) [.ptr (.o 0) 0 0 0 0, .agg [.int .i64 (SEnv.src (s (Int.toNat (↑k : Int)))), .str (SEnv.body (s (Int.toNat (↑k : Int)))), .seg .u8 16 (SEnv.tag (s (Int.toNat (↑k : Int))))]] [(.o 0, .flat [sb (.o 63) (l ++ (numsB [(↑n : Int)] ++ envsB s k))]), (.o 63, .rows 1 (List.length (l ++ (numsB [(↑n : Int)] ++ envsB s k))) (bl (l ++ (numsB [(↑n : Int)] ++ envsB s k))) true)] (.tup []) [(.o 0, .flat [sb (.o 512) (l ++ (numsB [(↑n : Int)] ++ envsB s (k + 1)))]), (.o 512, bs (l ++ (numsB [(↑n : Int)] ++ envsB s (k + 1))))], InR IntKind.i64 ((↑k : Int) + (1 : Int)), q0, q0, q0, q (List.length (l ++ (numsB [(↑n : Int)] ++ envsB s (k + (1 : Nat))))), (none : Option Nat) = none ∨ (none : Option Nat) = none, q (List.length (l ++ (numsB [(↑n : Int)] ++ envsB s (k + (1 : Nat))))), ∀ (k_1 : Nat), k_1 < List.length (l ++ (numsB [(↑n : Int)] ++ envsB s (k + (1 : Nat)))) → bl (l ++ (numsB [(↑n : Int)] ++ envsB s (k + (1 : Nat)))) k_1 = bl (l ++ (numsB [(↑n : Int)] ++ envsB s (k + (1 : Nat)))) k_1, true = false → true = false, q0, q0, q0, q n, ∀ (k : Nat), k < n → SEnv.c (s k) = SEnv.c (s k), false = true → false = true, q (↑n : Int), (↑k : Int) + (1 : Int) = (↑(k + (1 : Nat)) : Int)]) : Option (Exit × St × List Prop)) := by kernel_rfl
theorem pcPNw_p0 (l : List UInt8) (n : Nat) (s : Nat → SEnv) (k : Nat) :
  alongPc Try.prog (pcPNw l n s k) [false] = (some (.exit 0, St.mk [.any, .any, .fn (.func (55 : FuncId)) [.ptr (.o 0) 0 0 0 0] [], .any, .any, .any, .any, .any, .any, .any, .any, .any, .any, .ros 18 n (fun i => SEnv.c (s i)) false, .int .i64 ↑n, .int .i64 ↑n, .any, .any, .any, .any, .any, .any, .any] [(.o 0, .flat [sb (.o 63) (l ++ (numsB [(↑n : Int)] ++ envsB s n))]), (.o 63, .rows 1 (List.length (l ++ (numsB [(↑n : Int)] ++ envsB s n))) (bl (l ++ (numsB [(↑n : Int)] ++ envsB s n))) true)] 64 [], [decide ((↑k : Int) < (↑n : Int)) = false, q0, q0, q0, List.length (l ++ (numsB [(↑n : Int)] ++ envsB s k)) = List.length (l ++ (numsB [(↑n : Int)] ++ envsB s n)), (none : Option Nat) = none ∨ (none : Option Nat) = none, List.length (l ++ (numsB [(↑n : Int)] ++ envsB s k)) = List.length (l ++ (numsB [(↑n : Int)] ++ envsB s n)), ∀ (k_1 : Nat), k_1 < List.length (l ++ (numsB [(↑n : Int)] ++ envsB s k)) → bl (l ++ (numsB [(↑n : Int)] ++ envsB s k)) k_1 = bl (l ++ (numsB [(↑n : Int)] ++ envsB s n)) k_1, true = false → true = false, q0, q0, q0, q n, ∀ (k : Nat), k < n → SEnv.c (s k) = SEnv.c (s k), false = true → false = true, q (↑n : Int), (↑k : Int) = (↑n : Int)]) : Option (Exit × St × List Prop)) := by kernel_rfl

structure SignOk (s : SSign) : Prop where
 node : num63 s.node
 tag : SegOk 16 s.tag
structure VoteOk (v : SVote) : Prop where
 kind : num63 v.kind
 epoch : num63 v.epoch
 view : num63 v.view
 slot : num63 v.slot
 digest : SegOk 32 v.digest
structure CertOk (c : SCert) : Prop where
 vote : VoteOk c.vote
 n : c.n ≤ 1000
 sig : ∀ k, k < c.n → SignOk (c.sig k)
structure HeldOk (h : SHeld) : Prop where
 batch : BatchOk h.batch
 cert : CertOk h.cert
structure EnvOk (e : SEnv) : Prop where
 src : num63 e.src
 body : e.body.size ≤ 10000000
 tag : SegOk 16 e.tag
theorem numsB1_len {a : Int} (h : num63 a) : (numsB [a]).length ≤ 9 := by simpa [numsB] using putZ_len h
theorem segB_le {n : Nat} {xs : List Int} (h : SegOk n xs) : (segB xs).length = n := by rw [segB_len, h.len]
theorem signB_len {s : SSign} (h : SignOk s) : (signB s).length ≤ 25 := by
 have h1 := numsB1_len h.node
 have h2 := segB_le h.tag
 rw [signB, List.length_append]; omega
theorem signsB_len {s : Nat → SSign} : ∀ {n : Nat}, (∀ k, k < n → SignOk (s k)) → (signsB s n).length ≤ 25 * n
 | 0, _ => by simp [signsB]
 | n + 1, h => by
  have := signsB_len (n := n) fun k hk => h k (by omega)
  have := signB_len (h n (by omega))
  rw [signsB, List.length_append]; omega
theorem voteB_len {v : SVote} (h : VoteOk v) : (voteB v).length ≤ 68 := by
 have h1 := putZ_len h.kind
 have h2 := putZ_len h.epoch
 have h3 := putZ_len h.view
 have h4 := putZ_len h.slot
 have h5 := segB_le h.digest
 simp only [voteB, numsB, List.length_append, List.length_nil]; omega
theorem certB_len {c : SCert} (h : CertOk c) : (certB c).length ≤ 26000 := by
 have h1 := voteB_len h.vote
 have h2 := signsB_len h.sig
 have h3 := h.n
 have h4 := numsB1_len (num63_nat (n := c.n) (by omega))
 simp only [certB, List.length_append]; omega
theorem heldB_len {x : SHeld} (h : HeldOk x) : (heldB x).length ≤ 2000100000 := by
 have h1 := batchB_len h.batch
 have h2 := certB_len h.cert
 rw [heldB, List.length_append]; omega
theorem heldsB_len {s : Nat → SHeld} : ∀ {n : Nat}, (∀ k, k < n → HeldOk (s k)) → (heldsB s n).length ≤ 2000100000 * n
 | 0, _ => by simp [heldsB]
 | n + 1, h => by
  have := heldsB_len (n := n) fun k hk => h k (by omega)
  have := heldB_len (h n (by omega))
  rw [heldsB, List.length_append]; omega
theorem envB_len {e : SEnv} (h : EnvOk e) : (envB e).length ≤ 10000100 := by
 have h1 := numsB1_len h.src
 have h2 := textB_len (s := e.body) (by have := h.body; omega)
 have h3 := segB_le h.tag
 have h4 := h.body
 simp only [envB, List.length_append]; omega
theorem envsB_len {s : Nat → SEnv} : ∀ {n : Nat}, (∀ k, k < n → EnvOk (s k)) → (envsB s n).length ≤ 10000100 * n
 | 0, _ => by simp [envsB]
 | n + 1, h => by
  have := envsB_len (n := n) fun k hk => h k (by omega)
  have := envB_len (h n (by omega))
  rw [envsB, List.length_append]; omega
theorem T_dig {l : List UInt8} {d : List Int} (hl : l.length ≤ 10000000000000) (h : SegOk 32 d) {w x m : Nat} (hn : [Nm.o w, Nm.o x, Nm.o m].Nodup) : T Try.prog 56 [.ptr (.o w) 0 0 0 0, .agg [.seg .u8 32 d]] (wr w x l) (.tup []) (wr w m (l ++ segB d)) := by
 have h0 : T Try.prog 56 [.ptr (.o 0) 0 0 0 0, .agg [.seg .u8 32 d]] (wr 0 1 l) (.tup []) (wr 0 63 (l ++ segB d)) := by
  refine T_along NG MO _ (bdDig_p l d) Try.func56 (by kernel_rfl) ?_ (pinH_ok (by kernel_rfl)) (by kernel_rfl)
  simp only [All]
  and_intros
  all_goals first
   | exact T_rawD (by omega) h (by decide)
   | (simp [signB, voteB, certB, heldB, envB, List.append_assoc]; done)
 obtain ⟨σ, hσ, h1⟩ := T.at h0 [.o 0, .o 1, .o 63] [.o w, .o x, .o m] (by simp) hn rfl
 simp only [List.map_cons, List.map_nil, List.cons.injEq, and_true] at hσ
 simpa [V.rens, V.ren, sb, bs, wr, Heap.ren, B.ren, hσ.1, hσ.2.1, hσ.2.2] using h1
theorem T_sgn {l : List UInt8} {s : SSign} (hl : l.length ≤ 10000000000000) (h : SignOk s) {w x m : Nat} (hn : [Nm.o w, Nm.o x, Nm.o m].Nodup) : T Try.prog 60 [.ptr (.o w) 0 0 0 0, .agg s.c] (wr w x l) (.tup []) (wr w m (l ++ signB s)) := by
 have h2 := numsB1_len h.node
 have h0 : T Try.prog 60 [.ptr (.o 0) 0 0 0 0, .agg s.c] (wr 0 1 l) (.tup []) (wr 0 63 (l ++ signB s)) := by
  refine T_along NG MO _ (bdSgn_p l s) Try.func60 (by kernel_rfl) ?_ (pinH_ok (by kernel_rfl)) (by kernel_rfl)
  simp only [All]
  and_intros
  all_goals first
   | exact T_nu1 (by omega) h.node (by decide)
   | exact T_rawS (by first | omega | (simp only [List.length_append]; omega)) h.tag (by decide)
   | (simp [signB, voteB, certB, heldB, envB, List.append_assoc]; done)
 obtain ⟨σ, hσ, h1⟩ := T.at h0 [.o 0, .o 1, .o 63] [.o w, .o x, .o m] (by simp) hn rfl
 simp only [List.map_cons, List.map_nil, List.cons.injEq, and_true] at hσ
 simpa [V.rens, V.ren, SSign.c, sb, bs, wr, Heap.ren, B.ren, hσ.1, hσ.2.1, hσ.2.2] using h1
theorem T_env {l : List UInt8} {e : SEnv} (hl : l.length ≤ 10000000000000) (h : EnvOk e) {w x m : Nat} (hn : [Nm.o w, Nm.o x, Nm.o m].Nodup) : T Try.prog 55 [.ptr (.o w) 0 0 0 0, .agg e.c] (wr w x l) (.tup []) (wr w m (l ++ envB e)) := by
 have h2 := numsB1_len h.src
 have h3 := textB_len (s := e.body) (by have := h.body; omega)
 have h4 := h.body
 have h0 : T Try.prog 55 [.ptr (.o 0) 0 0 0 0, .agg e.c] (wr 0 1 l) (.tup []) (wr 0 63 (l ++ envB e)) := by
  refine T_along NG MO _ (bdEnv_p l e) Try.func55 (by kernel_rfl) ?_ (pinH_ok (by kernel_rfl)) (by kernel_rfl)
  simp only [All]
  and_intros
  all_goals first
   | exact T_nu1 (by omega) h.src (by decide)
   | exact T_wt (by first | omega | (simp only [List.length_append]; omega)) (by have := h.body; omega) (by decide)
   | exact T_rawE (by first | omega | (simp only [List.length_append]; omega)) h.tag (by decide)
   | (simp [signB, voteB, certB, heldB, envB, List.append_assoc]; done)
 obtain ⟨σ, hσ, h1⟩ := T.at h0 [.o 0, .o 1, .o 63] [.o w, .o x, .o m] (by simp) hn rfl
 simp only [List.map_cons, List.map_nil, List.cons.injEq, and_true] at hσ
 simpa [V.rens, V.ren, SEnv.c, sb, bs, wr, Heap.ren, B.ren, hσ.1, hσ.2.1, hσ.2.2] using h1
theorem nums4_len {v : SVote} (h : VoteOk v) : (numsB [v.kind, v.epoch, v.view, v.slot]).length ≤ 36 := by
 have h1 := putZ_len h.kind
 have h2 := putZ_len h.epoch
 have h3 := putZ_len h.view
 have h4 := putZ_len h.slot
 simp only [numsB, List.length_append, List.length_nil]; omega
theorem T_vot {l : List UInt8} {v : SVote} (hl : l.length ≤ 9000000000000) (h : VoteOk v) {w x m : Nat} (hn : [Nm.o w, Nm.o x, Nm.o m].Nodup) : T Try.prog 51 [.ptr (.o w) 0 0 0 0, .agg v.c] (wr w x l) (.tup []) (wr w m (l ++ voteB v)) := by
 have e : l ++ voteB v = (l ++ numsB [v.kind, v.epoch, v.view, v.slot]) ++ segB v.digest := by simp [voteB]
 have h9 := nums4_len h
 have hT := T_dig (l := l ++ numsB [v.kind, v.epoch, v.view, v.slot]) (by rw [List.length_append]; omega) h.digest (w := 0) (x := 706) (m := 962) (by decide)
 rw [← e] at hT
 have h0 : T Try.prog 51 [.ptr (.o 0) 0 0 0 0, .agg v.c] (wr 0 1 l) (.tup []) (wr 0 63 (l ++ voteB v)) := by
  refine T_along NG MO _ (bdVot_p l v) Try.func51 (by kernel_rfl) ?_ (pinH_ok (by kernel_rfl)) (by kernel_rfl)
  simp only [All]
  and_intros
  all_goals first
   | exact T_nu4 (by omega) h.kind h.epoch h.view h.slot (by decide)
   | exact hT
   | (simp [signB, voteB, certB, heldB, envB, List.append_assoc]; done)
 obtain ⟨σ, hσ, h1⟩ := T.at h0 [.o 0, .o 1, .o 63] [.o w, .o x, .o m] (by simp) hn rfl
 simp only [List.map_cons, List.map_nil, List.cons.injEq, and_true] at hσ
 simpa [V.rens, V.ren, SVote.c, sb, bs, wr, Heap.ren, B.ren, hσ.1, hσ.2.1, hσ.2.2] using h1
theorem L_pSg {l : List UInt8} {n : Nat} {s : Nat → SSign} (hl : l.length ≤ 5000000000000) (hn : n ≤ 1000) (h : ∀ k, k < n → SignOk (s k)) : RLoop Try.prog none 2 (cB (cB (cR (cR (bodyOf Try.f59))))) (n + 1) (pjSg l n s 0) (.exit 0) (pjSg l n s n) :=
 RLoop.inv (pjSg l n s) n (fun k hk => by
  have h1 := signsB_len (n := k) fun j hj => h j (by omega)
  have h2 := numsB1_len (num63_nat (n := n) (by omega))
  have hT := T_sgn (l := l ++ (numsB [(n : Int)] ++ signsB s k)) (by simp only [List.length_append]; omega) (h k hk) (w := 0) (x := 63) (m := 512) (by decide)
  have e1 : l ++ (numsB [(n : Int)] ++ signsB s k) ++ signB (s k) = l ++ (numsB [(n : Int)] ++ signsB s (k + 1)) := by simp [signsB]
  rw [e1] at hT
  refine R_alongPc NG MO _ (pcPSg_p1 l n s k) ?_ (show 2 ≤ 64 by decide)
  simp only [All, Int.toNat_natCast]
  and_intros
  all_goals first
   | exact hT
   | (simp [hk, IntKind.min, IntKind.max, IntKind.signed, IntKind.bits] <;> omega))
  (R_alongPc NG MO _ (pcPSg_p0 l n s n) (by simp [All]) (show 2 ≤ 64 by decide)) (by simp)
theorem T_pSg {l : List UInt8} {n : Nat} {s : Nat → SSign} (hl : l.length ≤ 5000000000000) (hnn : n ≤ 1000) (h : ∀ k, k < n → SignOk (s k)) {w x m : Nat} (hn : [Nm.o w, Nm.o x, Nm.o m].Nodup) : T Try.prog 59 [.ptr (.o w) 0 0 0 0, sg n s, .fn (.func 60) [.ptr (.o w) 0 0 0 0] []] (wr w x l) (.tup []) (wr w m (l ++ (numsB [(n : Int)] ++ signsB s n))) := by
 have h0 : T Try.prog 59 [.ptr (.o 0) 0 0 0 0, sg n s, .fn (.func 60) [.ptr (.o 0) 0 0 0 0] []] (wr 0 1 l) (.tup []) (wr 0 63 (l ++ (numsB [(n : Int)] ++ signsB s n))) := by
  refine T_along NG MO _ (bdPSg_p l n s) Try.func59 (by kernel_rfl) ?_ (pinH_ok (by kernel_rfl)) (by kernel_rfl)
  simp only [All]
  and_intros
  all_goals first
   | exact T_nu1 (by omega) (num63_nat (n := n) (by omega)) (by decide)
   | exact L_pSg hl hnn h
   | (simp [signsB]; done)
 obtain ⟨σ, hσ, h1⟩ := T.at h0 [.o 0, .o 1, .o 63] [.o w, .o x, .o m] (by simp) hn rfl
 simp only [List.map_cons, List.map_nil, List.cons.injEq, and_true] at hσ
 simpa [V.rens, V.ren, sg, sb, bs, wr, Heap.ren, B.ren, hσ.1, hσ.2.1, hσ.2.2] using h1
theorem T_crt {l : List UInt8} {c : SCert} (hl : l.length ≤ 4000000000000) (h : CertOk c) {w x m : Nat} (hn : [Nm.o w, Nm.o x, Nm.o m].Nodup) : T Try.prog 57 [.ptr (.o w) 0 0 0 0, .agg c.c] (wr w x l) (.tup []) (wr w m (l ++ certB c)) := by
 have h2 := voteB_len h.vote
 have h0 : T Try.prog 57 [.ptr (.o 0) 0 0 0 0, .agg c.c] (wr 0 1 l) (.tup []) (wr 0 63 (l ++ certB c)) := by
  refine T_along NG MO _ (bdCrt_p l c) Try.func57 (by kernel_rfl) ?_ (pinH_ok (by kernel_rfl)) (by kernel_rfl)
  simp only [All]
  and_intros
  all_goals first
   | exact T_vot (by omega) h.vote (by decide)
   | exact T_pSg (by first | omega | (simp only [List.length_append]; omega)) h.n h.sig (by decide)
   | (simp [signB, voteB, certB, heldB, envB, List.append_assoc]; done)
 obtain ⟨σ, hσ, h1⟩ := T.at h0 [.o 0, .o 1, .o 63] [.o w, .o x, .o m] (by simp) hn rfl
 simp only [List.map_cons, List.map_nil, List.cons.injEq, and_true] at hσ
 simpa [V.rens, V.ren, SCert.c, SVote.c, sg, sb, bs, wr, Heap.ren, B.ren, hσ.1, hσ.2.1, hσ.2.2] using h1
theorem T_hld {l : List UInt8} {h : SHeld} (hl : l.length ≤ 1000000000000) (hh : HeldOk h) {w x m : Nat} (hn : [Nm.o w, Nm.o x, Nm.o m].Nodup) : T Try.prog 53 [.ptr (.o w) 0 0 0 0, .agg h.c] (wr w x l) (.tup []) (wr w m (l ++ heldB h)) := by
 have h2 := batchB_len hh.batch
 have h0 : T Try.prog 53 [.ptr (.o 0) 0 0 0 0, .agg h.c] (wr 0 1 l) (.tup []) (wr 0 63 (l ++ heldB h)) := by
  refine T_along NG MO _ (bdHld_p l h) Try.func53 (by kernel_rfl) ?_ (pinH_ok (by kernel_rfl)) (by kernel_rfl)
  simp only [All]
  and_intros
  all_goals first
   | exact T_wb (by omega) hh.batch (by decide)
   | exact T_crt (by first | omega | (simp only [List.length_append]; omega)) hh.cert (by decide)
   | (simp [signB, voteB, certB, heldB, envB, List.append_assoc]; done)
 obtain ⟨σ, hσ, h1⟩ := T.at h0 [.o 0, .o 1, .o 63] [.o w, .o x, .o m] (by simp) hn rfl
 simp only [List.map_cons, List.map_nil, List.cons.injEq, and_true] at hσ
 simpa [V.rens, V.ren, SHeld.c, SBatch.c, SCert.c, SVote.c, rq, sg, sb, bs, wr, Heap.ren, B.ren, hσ.1, hσ.2.1, hσ.2.2] using h1
theorem L_pHl {l : List UInt8} {n : Nat} {s : Nat → SHeld} (hlen : l.length ≤ 500000000000) (hn : n ≤ 100) (h : ∀ k, k < n → HeldOk (s k)) : RLoop Try.prog none 2 (cB (cB (cR (cR (bodyOf Try.f52))))) (n + 1) (pjHl l n s 0) (.exit 0) (pjHl l n s n) :=
 RLoop.inv (pjHl l n s) n (fun k hk => by
  have h1 := heldsB_len (n := k) fun j hj => h j (by omega)
  have h2 := numsB1_len (num63_nat (n := n) (by omega))
  have hT := T_hld (l := l ++ (numsB [(n : Int)] ++ heldsB s k)) (by simp only [List.length_append]; omega) (h k hk) (w := 0) (x := 63) (m := 512) (by decide)
  have e1 : l ++ (numsB [(n : Int)] ++ heldsB s k) ++ heldB (s k) = l ++ (numsB [(n : Int)] ++ heldsB s (k + 1)) := by simp [heldsB]
  rw [e1] at hT
  refine R_alongPc NG MO _ (pcPHl_p1 l n s k) ?_ (show 2 ≤ 64 by decide)
  simp only [All, Int.toNat_natCast]
  and_intros
  all_goals first
   | exact hT
   | (simp [hk, IntKind.min, IntKind.max, IntKind.signed, IntKind.bits] <;> omega))
  (R_alongPc NG MO _ (pcPHl_p0 l n s n) (by simp [All]) (show 2 ≤ 64 by decide)) (by simp)
theorem T_pHl {l : List UInt8} {n : Nat} {s : Nat → SHeld} (hlen : l.length ≤ 500000000000) (hnn : n ≤ 100) (h : ∀ k, k < n → HeldOk (s k)) {w x m : Nat} (hn : [Nm.o w, Nm.o x, Nm.o m].Nodup) : T Try.prog 52 [.ptr (.o w) 0 0 0 0, hl n s, .fn (.func 53) [.ptr (.o w) 0 0 0 0] []] (wr w x l) (.tup []) (wr w m (l ++ (numsB [(n : Int)] ++ heldsB s n))) := by
 have h0 : T Try.prog 52 [.ptr (.o 0) 0 0 0 0, hl n s, .fn (.func 53) [.ptr (.o 0) 0 0 0 0] []] (wr 0 1 l) (.tup []) (wr 0 63 (l ++ (numsB [(n : Int)] ++ heldsB s n))) := by
  refine T_along NG MO _ (bdPHl_p l n s) Try.func52 (by kernel_rfl) ?_ (pinH_ok (by kernel_rfl)) (by kernel_rfl)
  simp only [All]
  and_intros
  all_goals first
   | exact T_nu1 (by omega) (num63_nat (n := n) (by omega)) (by decide)
   | exact L_pHl hlen hnn h
   | (simp [heldsB]; done)
 obtain ⟨σ, hσ, h1⟩ := T.at h0 [.o 0, .o 1, .o 63] [.o w, .o x, .o m] (by simp) hn rfl
 simp only [List.map_cons, List.map_nil, List.cons.injEq, and_true] at hσ
 simpa [V.rens, V.ren, hl, sb, bs, wr, Heap.ren, B.ren, hσ.1, hσ.2.1, hσ.2.2] using h1
theorem L_pNw {l : List UInt8} {n : Nat} {s : Nat → SEnv} (hl : l.length ≤ 500000000000) (hn : n ≤ 1000) (h : ∀ k, k < n → EnvOk (s k)) : RLoop Try.prog none 2 (cB (cB (cR (cR (bodyOf Try.f54))))) (n + 1) (pjNw l n s 0) (.exit 0) (pjNw l n s n) :=
 RLoop.inv (pjNw l n s) n (fun k hk => by
  have h1 := envsB_len (n := k) fun j hj => h j (by omega)
  have h2 := numsB1_len (num63_nat (n := n) (by omega))
  have hT := T_env (l := l ++ (numsB [(n : Int)] ++ envsB s k)) (by simp only [List.length_append]; omega) (h k hk) (w := 0) (x := 63) (m := 512) (by decide)
  have e1 : l ++ (numsB [(n : Int)] ++ envsB s k) ++ envB (s k) = l ++ (numsB [(n : Int)] ++ envsB s (k + 1)) := by simp [envsB]
  rw [e1] at hT
  refine R_alongPc NG MO _ (pcPNw_p1 l n s k) ?_ (show 2 ≤ 64 by decide)
  simp only [All, Int.toNat_natCast]
  and_intros
  all_goals first
   | exact hT
   | (simp [hk, IntKind.min, IntKind.max, IntKind.signed, IntKind.bits] <;> omega))
  (R_alongPc NG MO _ (pcPNw_p0 l n s n) (by simp [All]) (show 2 ≤ 64 by decide)) (by simp)
theorem T_pNw {l : List UInt8} {n : Nat} {s : Nat → SEnv} (hl : l.length ≤ 500000000000) (hnn : n ≤ 1000) (h : ∀ k, k < n → EnvOk (s k)) {w x m : Nat} (hn : [Nm.o w, Nm.o x, Nm.o m].Nodup) : T Try.prog 54 [.ptr (.o w) 0 0 0 0, nw n s, .fn (.func 55) [.ptr (.o w) 0 0 0 0] []] (wr w x l) (.tup []) (wr w m (l ++ (numsB [(n : Int)] ++ envsB s n))) := by
 have h0 : T Try.prog 54 [.ptr (.o 0) 0 0 0 0, nw n s, .fn (.func 55) [.ptr (.o 0) 0 0 0 0] []] (wr 0 1 l) (.tup []) (wr 0 63 (l ++ (numsB [(n : Int)] ++ envsB s n))) := by
  refine T_along NG MO _ (bdPNw_p l n s) Try.func54 (by kernel_rfl) ?_ (pinH_ok (by kernel_rfl)) (by kernel_rfl)
  simp only [All]
  and_intros
  all_goals first
   | exact T_nu1 (by omega) (num63_nat (n := n) (by omega)) (by decide)
   | exact L_pNw hl hnn h
   | (simp [envsB]; done)
 obtain ⟨σ, hσ, h1⟩ := T.at h0 [.o 0, .o 1, .o 63] [.o w, .o x, .o m] (by simp) hn rfl
 simp only [List.map_cons, List.map_nil, List.cons.injEq, and_true] at hσ
 simpa [V.rens, V.ren, nw, sb, bs, wr, Heap.ren, B.ren, hσ.1, hσ.2.1, hσ.2.2] using h1
end Go.Proofs.Ythifjamdfpjilaa
namespace Go.Proofs.Ythifjamdfpjilaa
open Go Sy Go.Proofs
def uptoS (n m : Int) : Bool := decide (0 ≤ n) && decide (n ≤ m)
def mayReqS (r : SReq) : Bool := uptoS r.client 8 && (uptoS r.num 1099511627776 && decide (r.data.size ≤ 64))
def mayVoteS (v : SVote) : Bool := (decide (v.kind = 1) || decide (v.kind = 2)) && (uptoS v.epoch 1048576 && (uptoS v.view 1099511627776 && uptoS v.slot 1099511627776))
def maySignS (s : SSign) : Bool := uptoS s.node 64
def allS (n most : Nat) (p : Nat → Bool) : Bool := decide (n ≤ most) && decide (∀ i, i < n → p i = true)
def mayCertS (c : SCert) : Bool := mayVoteS c.vote && allS c.n 64 (fun i => maySignS (c.sig i))
def mayBatchS (b : SBatch) : Bool := !(b.noop && decide (0 < b.n)) && allS b.n 4 (fun i => mayReqS (b.req i))
def mayHeldS (h : SHeld) : Bool := mayBatchS h.batch && mayCertS h.cert
def mayEnvS (e : SEnv) : Bool := uptoS e.src 64 && decide (e.body.size ≤ 4194304)
def mayChangeS (m : SMsg) : Bool := uptoS m.cepoch 1048576 && (uptoS m.cleader 64 && (uptoS m.cview 1099511627776 && allS m.nheld 4 (fun i => mayHeldS (m.held i))))
def dbUpto : Nat → List V → Heap → Nat → List Cl
 | 75, [.int _ n, .int _ m], _, _ => [{ val := .bool (uptoS n m) }]
 | _, _, _, _ => []
def dbV (l : List (Nat × V)) : Nat → List V → Heap → Nat → List Cl := fun k args h lo => match dbUpto k args h lo with
 | [] => match lookS l k with
  | some v => [{ val := v }]
  | none => []
 | r => r
noncomputable def bdUpto (n m : Int) : Bd := { f := Try.f75, args := [.int .i64 n, .int .i64 m], kb := kb0 }
noncomputable def bdMR (r : SReq) : Bd := { f := Try.f117, args := [.agg r.c], kb := { db := dbUpto } }
noncomputable def bdMV (v : SVote) : Bd := { f := Try.f73, args := [.agg v.c], kb := { db := dbUpto } }
noncomputable def bdMS (s : SSign) : Bd := { f := Try.f81, args := [.agg s.c], kb := { db := dbUpto } }
noncomputable def bdME (e : SEnv) : Bd := { f := Try.f79, args := [.agg e.c], kb := { db := dbUpto } }
noncomputable def bdMC (c : SCert) : Bd := { f := Try.f74, args := [.agg c.c], kb := { db := dbV [(73, .bool (mayVoteS c.vote)), (80, .bool (allS c.n 64 (fun i => maySignS (c.sig i))))] } }
noncomputable def bdMB (b : SBatch) : Bd := { f := Try.f76, args := [.agg b.c], kb := { db := dbV [(116, .bool (allS b.n 4 (fun i => mayReqS (b.req i))))] } }
noncomputable def bdMH (h : SHeld) : Bd := { f := Try.f119, args := [.agg h.c], kb := { db := dbV [(76, .bool (mayBatchS h.batch)), (74, .bool (mayCertS h.cert))] } }
def chC (m : SMsg) : List V := [.int .i64 m.cepoch, .int .i64 m.cleader, .int .i64 m.cview, hl m.nheld m.held]
noncomputable def bdMG (m : SMsg) : Bd := { f := Try.f77, args := [.agg (chC m)], kb := { db := dbV [(118, .bool (allS m.nheld 4 (fun i => mayHeldS (m.held i))))] } }
def alI (v : V) (n : Nat) (isf k : Nat) : St := ⟨mkT 24 [(2, .fn (.func isf) [] []), (13, v), (14, .int .i64 n), (15, .int .i64 k)], [], 0, []⟩
def alF : St := ⟨mkT 24 [(6, .bool false)], [], 0, []⟩
noncomputable def bdAl (f : Func) (v : V) (n : Nat) (most : Int) (isf m : Nat) : Bd := { f := f, args := [v, .int .i64 most, .fn (.func isf) [] []], kb := { db := fun _ _ _ _ => [], lp := fun _ _ => [(True, .loop (n + 1) (wTo (alI v n isf 0)) (.exit 0) (alI v n isf n)), (True, .loop (m + 1) (wTo (alI v n isf 0)) .ret alF)] } }
noncomputable def pcAl (f : Func) (v : V) (n isf k : Nat) (p : Bool) : Pc := { c := cB (cB (cR (cL (cR (cR (bodyOf f)))))), st := alI v n isf k, kb := { db := fun _ _ _ _ => [{ val := .bool p }] }, k := fun e _ => match e with
 | .normal => some (wTo (alI v n isf (k + 1)))
 | .ret => some (wTo alF)
 | _ => some (wTo (alI v n isf n)) }
noncomputable def bdAlR (n : Nat) (r : Nat → SReq) (most : Int) (m : Nat) : Bd := bdAl Try.f116 (rq n r) n most 117 m
noncomputable def pcAlR (n : Nat) (r : Nat → SReq) (k : Nat) : Pc := pcAl Try.f116 (rq n r) n 117 k (mayReqS (r k))
noncomputable def bdAlS (n : Nat) (r : Nat → SSign) (most : Int) (m : Nat) : Bd := bdAl Try.f80 (sg n r) n most 81 m
noncomputable def pcAlS (n : Nat) (r : Nat → SSign) (k : Nat) : Pc := pcAl Try.f80 (sg n r) n 81 k (maySignS (r k))
noncomputable def bdAlH (n : Nat) (r : Nat → SHeld) (most : Int) (m : Nat) : Bd := bdAl Try.f118 (hl n r) n most 119 m
noncomputable def pcAlH (n : Nat) (r : Nat → SHeld) (k : Nat) : Pc := pcAl Try.f118 (hl n r) n 119 k (mayHeldS (r k))
noncomputable def bdAlE (n : Nat) (r : Nat → SEnv) (most : Int) (m : Nat) : Bd := bdAl Try.f78 (nw n r) n most 79 m
noncomputable def pcAlE (n : Nat) (r : Nat → SEnv) (k : Nat) : Pc := pcAl Try.f78 (nw n r) n 79 k (mayEnvS (r k))
end Go.Proofs.Ythifjamdfpjilaa
