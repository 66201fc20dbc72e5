/-
  Contracts and laws that the claim's theorem leans on, joined out of the texts Qj1 Qb2 Qk0D Qk0 Qk1D Qk1 Qk2D Qk2 Qk3D (own work of this seat): Contracts: the document's reader of bytes, with its place: numbers, texts, raw bytes; The plain law: what reading never does; Contracts: digests, tags, requests and votes that the document's answer reads; Contracts: digests, tags, requests and votes that the document's answer reads; Contracts: signs, certs, envelopes, batches, changes that the document's answer reads; Contracts: signs, certs, envelopes, batches, changes that the document's answer reads; Contracts: batches and changes that the document's answer reads; Contracts: batches and changes that the document's answer reads; Contracts: changes, the fields of a message that the document's answer reads.
-/
import Derived.Test.YtnmccoincblecaaGreatC09
set_option linter.unusedVariables false
set_option linter.unusedSimpArgs false
set_option maxHeartbeats 1000000
namespace Go.Proofs.YtnmccoincblecaaGreat
open Go Sy Go.Proofs
theorem bV8 (L : List UInt8) :
  e9 zp (bdXr L) [] = some (V.ptr (Nm.o (63 : Nat)) (0 : Nat) (0 : Nat) (0 : Nat) (0 : Nat), [(Nm.o (63 : Nat), B.flat [V.ros (1 : Nat) (List.length L) (bl L) false, V.int .i64 (0 : Int), V.int .i64 (0 : Int)])], [(0 : Nat) = (0 : Nat), ∀ (k : Nat), k < List.length L → true = true, ((0 : Nat) + List.length L) * (1 : Nat) ≤ (140737488355328 : Nat), (0 : Nat) + List.length L = List.length L, (0 : Nat) + ((0 : Nat) + List.length L) ≤ (0 : Nat) + List.length L, ∀ (k : Nat), k < (0 : Nat) + List.length L → [V.int .u8 (↑(UInt8.toNat (List.getD L ((0 : Nat) + k - (0 : Nat)) (0 : UInt8))) : Int)] = bl L k, false = true → none = some ((0 : Nat) + List.length L), (0 : Int) = (0 : Int), (0 : Int) = (0 : Int), (0 : Nat) = (0 : Nat), (0 : Nat) = (0 : Nat), (0 : Nat) = (0 : Nat)]) := by kernel_rfl
noncomputable def n6 (L : List UInt8) (l : List UInt8) (p : Nat) : Nat → List Prop
 | 0 => [(0 : Int) ≤ (↑p : Int) ∧ (↑p : Int) ≤ (↑(f2 none (List.length L)) : Int)]
 | 1 => [decide ((↑(f2 none (List.length L) - f2 (some (↑p : Int)) (0 : Nat)) : Int) = (0 : Int)) = false, (0 : Int) ≤ (0 : Int) ∧ (0 : Int) < (↑(f2 none (List.length L) - f2 (some (↑p : Int)) (0 : Nat)) : Int), InR .i64 (↑(UInt8.toNat (List.getD L (Int.toNat (↑p : Int) + 0) (0 : UInt8))) : Int)]
 | 2 => [decide ((8 : Int) < (↑(UInt8.toNat (List.getD L (Int.toNat (↑p : Int) + 0) (0 : UInt8))) : Int)) = false, InR .i64 ((1 : Int) + (↑(UInt8.toNat (List.getD L (Int.toNat (↑p : Int) + 0) (0 : UInt8))) : Int))]
 | 3 => [decide ((↑(f2 none (List.length L) - f2 (some (↑p : Int)) (0 : Nat)) : Int) < (1 : Int) + (↑(UInt8.toNat (List.getD L (Int.toNat (↑p : Int) + 0) (0 : UInt8))) : Int)) = false]
 | 4 => [decide ((0 : Int) < (↑(UInt8.toNat (List.getD L (Int.toNat (↑p : Int) + 0) (0 : UInt8))) : Int)) = true, (0 : Int) ≤ (1 : Int) ∧ (1 : Int) < (↑(f2 none (List.length L) - f2 (some (↑p : Int)) (0 : Nat)) : Int)]
 | 5 => [decide ((↑(UInt8.toNat (List.getD L (Int.toNat (↑p : Int) + 1) (0 : UInt8))) : Int) = (0 : Int)) = false]
 | 6 => [decide ((↑(UInt8.toNat (List.getD L (Int.toNat (↑p : Int) + 0) (0 : UInt8))) : Int) = (8 : Int)) = true, (0 : Int) ≤ (1 : Int) ∧ (1 : Int) < (↑(f2 none (List.length L) - f2 (some (↑p : Int)) (0 : Nat)) : Int)]
 | _ => []
theorem bE2 (L : List UInt8) (l : List UInt8) (p : Nat) :
 e9 zp (V5 L l p) [true] = (some (.tup [.int .i64 0, .int .i64 0, .int .i64 10], [(.o 0, .flat [.ros 1 (List.length L) (bl L) false, .int .i64 ↑p, .int .i64 0])], n6 L l p 0 ++ [decide ((↑(f2 none (List.length L) - f2 (some (↑p : Int)) (0 : Nat)) : Int) = (0 : Int)) = true]) : Option (V × c5 × List Prop)) := by kernel_rfl
theorem bl7 (L : List UInt8) (l : List UInt8) (p : Nat) :
 e9 zp (V5 L l p) [false, true] = (some (.tup [.int .i64 0, .int .i64 0, .int .i64 11], [(.o 0, .flat [.ros 1 (List.length L) (bl L) false, .int .i64 ↑p, .int .i64 0])], n6 L l p 0 ++ (n6 L l p 1 ++ [decide ((8 : Int) < (↑(UInt8.toNat (List.getD L (Int.toNat (↑p : Int) + 0) (0 : UInt8))) : Int)) = true])) : Option (V × c5 × List Prop)) := by kernel_rfl
theorem a8_ (L : List UInt8) (l : List UInt8) (p : Nat) :
 e9 zp (V5 L l p) [false, false, true] = (some (.tup [.int .i64 0, .int .i64 0, .int .i64 10], [(.o 0, .flat [.ros 1 (List.length L) (bl L) false, .int .i64 ↑p, .int .i64 0])], n6 L l p 0 ++ (n6 L l p 1 ++ (n6 L l p 2 ++ [decide ((↑(f2 none (List.length L) - f2 (some (↑p : Int)) (0 : Nat)) : Int) < (1 : Int) + (↑(UInt8.toNat (List.getD L (Int.toNat (↑p : Int) + 0) (0 : UInt8))) : Int)) = true]))) : Option (V × c5 × List Prop)) := by kernel_rfl
theorem aC2 (L : List UInt8) (l : List UInt8) (p : Nat) :
 e9 zp (V5 L l p) [false, false, false, true, true, true] = (some (.tup [.int .i64 0, .int .i64 0, .int .i64 11], [(.o 0, .flat [.ros 1 (List.length L) (bl L) false, .int .i64 ↑p, .int .i64 0])], n6 L l p 0 ++ (n6 L l p 1 ++ (n6 L l p 2 ++ (n6 L l p 3 ++ (n6 L l p 4 ++ [decide ((↑(UInt8.toNat (List.getD L (Int.toNat (↑p : Int) + 1) (0 : UInt8))) : Int) = (0 : Int)) = true, q2]))))) : Option (V × c5 × List Prop)) := by kernel_rfl
theorem ay1 (L : List UInt8) (l : List UInt8) (p : Nat) :
 e9 zp (V5 L l p) [false, false, false, true, false, true, true] = (some (.tup [.int .i64 0, .int .i64 0, .int .i64 11], [(.o 0, .flat [.ros 1 (List.length L) (bl L) false, .int .i64 ↑p, .int .i64 0])], n6 L l p 0 ++ (n6 L l p 1 ++ (n6 L l p 2 ++ (n6 L l p 3 ++ (n6 L l p 4 ++ (n6 L l p 5 ++ (n6 L l p 6 ++ [decide ((127 : Int) < (↑(UInt8.toNat (List.getD L (Int.toNat (↑p : Int) + 1) (0 : UInt8))) : Int)) = true]))))))) : Option (V × c5 × List Prop)) := by kernel_rfl
theorem ay0 (L : List UInt8) (l : List UInt8) (p : Nat) :
 e9 zp (V5 L l p) [false, false, false, true, false, true, false] = (some (.tup [.int .i64 (↑(beN (List.take (kOf l) (List.drop 1 l))) : Int), .int .i64 ((1 : Int) + (↑(kOf l) : Int)), .int .i64 0], [(.o 0, .flat [.ros 1 (List.length L) (bl L) false, .int .i64 ↑p, .int .i64 0])], n6 L l p 0 ++ (n6 L l p 1 ++ (n6 L l p 2 ++ (n6 L l p 3 ++ (n6 L l p 4 ++ (n6 L l p 5 ++ (n6 L l p 6 ++ [decide ((127 : Int) < (↑(UInt8.toNat (List.getD L (Int.toNat (↑p : Int) + 1) (0 : UInt8))) : Int)) = false, f9 zp none 1 (cB (cB (cR (cL (cR (cR (cR (cR (cR (cR (cR (cR (f1 (Bd.f (V5 L l p))))))))))))))) (kOf l + 1) (St.mk (mkT 66 [(2, .int .i64 0), (3, .int .i64 0), (4, .int .i64 0), (5, .ros 1 (List.length l) (bl l) false), (6, .int .i64 (↑(kOf l) : Int)), (7, .int .i64 0), (8, .int .i64 1)]) [(.o 0, .flat [.ros 1 (List.length L) (bl L) false, .int .i64 ↑p, .int .i64 0])] 1 []) (.exit 0) (St.mk (mkT 66 [(2, .int .i64 0), (3, .int .i64 0), (4, .int .i64 0), (5, .ros 1 (List.length l) (bl l) false), (6, .int .i64 (↑(kOf l) : Int)), (7, .int .i64 (↑(beN (List.take (kOf l) (List.drop 1 l))) : Int)), (8, .int .i64 (↑(kOf l + 1) : Int))]) [(.o 0, .flat [.ros 1 (List.length L) (bl L) false, .int .i64 ↑p, .int .i64 0])] 1 []), q (List.length L), ∀ (k : Nat), k < List.length L → bl L k = bl L k, false = true → false = true, q (↑p : Int), q1, q1, q1, q1, f2 none (List.length L) - f2 (some (↑p : Int)) (0 : Nat) = List.length l, ∀ (k : Nat), k < f2 none (List.length L) - f2 (some (↑p : Int)) (0 : Nat) → [V.int .u8 (↑(UInt8.toNat (List.getD L (Int.toNat (↑p : Int) + k) (0 : UInt8))) : Int)] = bl l k, false = true → false = true, (↑(UInt8.toNat (List.getD L (Int.toNat (↑p : Int) + 0) (0 : UInt8))) : Int) = (↑(kOf l) : Int), q1, q (1 : Int), InR .i64 ((1 : Int) + (↑(kOf l) : Int))]))))))) : Option (V × c5 × List Prop)) := by kernel_rfl
theorem ax_ (L : List UInt8) (l : List UInt8) (p : Nat) :
 e9 zp (V5 L l p) [false, false, false, true, false, false, false] = (some (.tup [.int .i64 (↑(beN (List.take (kOf l) (List.drop 1 l))) : Int), .int .i64 ((1 : Int) + (↑(kOf l) : Int)), .int .i64 0], [(.o 0, .flat [.ros 1 (List.length L) (bl L) false, .int .i64 ↑p, .int .i64 0])], n6 L l p 0 ++ (n6 L l p 1 ++ (n6 L l p 2 ++ (n6 L l p 3 ++ (n6 L l p 4 ++ (n6 L l p 5 ++ [decide ((↑(UInt8.toNat (List.getD L (Int.toNat (↑p : Int) + 0) (0 : UInt8))) : Int) = (8 : Int)) = false, q false, f9 zp none 1 (cB (cB (cR (cL (cR (cR (cR (cR (cR (cR (cR (cR (f1 (Bd.f (V5 L l p))))))))))))))) (kOf l + 1) (St.mk (mkT 66 [(2, .int .i64 0), (3, .int .i64 0), (4, .int .i64 0), (5, .ros 1 (List.length l) (bl l) false), (6, .int .i64 (↑(kOf l) : Int)), (7, .int .i64 0), (8, .int .i64 1)]) [(.o 0, .flat [.ros 1 (List.length L) (bl L) false, .int .i64 ↑p, .int .i64 0])] 1 []) (.exit 0) (St.mk (mkT 66 [(2, .int .i64 0), (3, .int .i64 0), (4, .int .i64 0), (5, .ros 1 (List.length l) (bl l) false), (6, .int .i64 (↑(kOf l) : Int)), (7, .int .i64 (↑(beN (List.take (kOf l) (List.drop 1 l))) : Int)), (8, .int .i64 (↑(kOf l + 1) : Int))]) [(.o 0, .flat [.ros 1 (List.length L) (bl L) false, .int .i64 ↑p, .int .i64 0])] 1 []), q (List.length L), ∀ (k : Nat), k < List.length L → bl L k = bl L k, false = true → false = true, q (↑p : Int), q1, q1, q1, q1, f2 none (List.length L) - f2 (some (↑p : Int)) (0 : Nat) = List.length l, ∀ (k : Nat), k < f2 none (List.length L) - f2 (some (↑p : Int)) (0 : Nat) → [V.int .u8 (↑(UInt8.toNat (List.getD L (Int.toNat (↑p : Int) + k) (0 : UInt8))) : Int)] = bl l k, false = true → false = true, (↑(UInt8.toNat (List.getD L (Int.toNat (↑p : Int) + 0) (0 : UInt8))) : Int) = (↑(kOf l) : Int), q1, q (1 : Int), InR .i64 ((1 : Int) + (↑(kOf l) : Int))])))))) : Option (V × c5 × List Prop)) := by kernel_rfl
theorem ax9 (L : List UInt8) (l : List UInt8) (p : Nat) :
 e9 zp (V5 L l p) [false, false, false, false, false, false, false] = (some (.tup [.int .i64 (↑(beN (List.take (kOf l) (List.drop 1 l))) : Int), .int .i64 ((1 : Int) + (↑(kOf l) : Int)), .int .i64 0], [(.o 0, .flat [.ros 1 (List.length L) (bl L) false, .int .i64 ↑p, .int .i64 0])], n6 L l p 0 ++ (n6 L l p 1 ++ (n6 L l p 2 ++ (n6 L l p 3 ++ [decide ((0 : Int) < (↑(UInt8.toNat (List.getD L (Int.toNat (↑p : Int) + 0) (0 : UInt8))) : Int)) = false, q false, decide ((↑(UInt8.toNat (List.getD L (Int.toNat (↑p : Int) + 0) (0 : UInt8))) : Int) = (8 : Int)) = false, q false, f9 zp none 1 (cB (cB (cR (cL (cR (cR (cR (cR (cR (cR (cR (cR (f1 (Bd.f (V5 L l p))))))))))))))) (kOf l + 1) (St.mk (mkT 66 [(2, .int .i64 0), (3, .int .i64 0), (4, .int .i64 0), (5, .ros 1 (List.length l) (bl l) false), (6, .int .i64 (↑(kOf l) : Int)), (7, .int .i64 0), (8, .int .i64 1)]) [(.o 0, .flat [.ros 1 (List.length L) (bl L) false, .int .i64 ↑p, .int .i64 0])] 1 []) (.exit 0) (St.mk (mkT 66 [(2, .int .i64 0), (3, .int .i64 0), (4, .int .i64 0), (5, .ros 1 (List.length l) (bl l) false), (6, .int .i64 (↑(kOf l) : Int)), (7, .int .i64 (↑(beN (List.take (kOf l) (List.drop 1 l))) : Int)), (8, .int .i64 (↑(kOf l + 1) : Int))]) [(.o 0, .flat [.ros 1 (List.length L) (bl L) false, .int .i64 ↑p, .int .i64 0])] 1 []), q (List.length L), ∀ (k : Nat), k < List.length L → bl L k = bl L k, false = true → false = true, q (↑p : Int), q1, q1, q1, q1, f2 none (List.length L) - f2 (some (↑p : Int)) (0 : Nat) = List.length l, ∀ (k : Nat), k < f2 none (List.length L) - f2 (some (↑p : Int)) (0 : Nat) → [V.int .u8 (↑(UInt8.toNat (List.getD L (Int.toNat (↑p : Int) + k) (0 : UInt8))) : Int)] = bl l k, false = true → false = true, (↑(UInt8.toNat (List.getD L (Int.toNat (↑p : Int) + 0) (0 : UInt8))) : Int) = (↑(kOf l) : Int), q1, q (1 : Int), InR .i64 ((1 : Int) + (↑(kOf l) : Int))])))) : Option (V × c5 × List Prop)) := by kernel_rfl
theorem bK3 (L : List UInt8) (l : List UInt8) (p : Nat) (k : Nat) :
  i5 zp (aT8 L l p k) [true] = (some (.normal, St.mk (mkT 66 [(2, .int .i64 0), (3, .int .i64 0), (4, .int .i64 0), (5, .ros 1 (List.length l) (bl l) false), (6, .int .i64 (↑(kOf l) : Int)), (7, .int .i64 (↑(beN (List.take (k + 1) (List.drop 1 l))) : Int)), (8, .int .i64 (↑(k + 1 + 1) : Int))]) [(.o 0, .flat [.ros 1 (List.length L) (bl L) false, .int .i64 ↑p, .int .i64 0])] 1 [], [decide ((↑(k + (1 : Nat)) : Int) ≤ (↑(kOf l) : Int)) = true, InR .i64 ((256 : Int) * (↑(beN (List.take k (List.drop (1 : Nat) l))) : Int)), (0 : Int) ≤ (↑(k + (1 : Nat)) : Int) ∧ (↑(k + (1 : Nat)) : Int) < (↑(List.length l) : Int), InR .i64 (↑(UInt8.toNat (List.getD l (Int.toNat (↑(k + (1 : Nat)) : Int)) (0 : UInt8))) : Int), InR .i64 ((256 : Int) * (↑(beN (List.take k (List.drop (1 : Nat) l))) : Int) + (↑(UInt8.toNat (List.getD l (Int.toNat (↑(k + (1 : Nat)) : Int)) (0 : UInt8))) : Int)), InR .i64 ((↑(k + (1 : Nat)) : Int) + (1 : Int)), q (List.length L), ∀ (k : Nat), k < List.length L → bl L k = bl L k, false = true → false = true, q (↑p : Int), q1, q1, q1, q1, q (List.length l), ∀ (k : Nat), k < List.length l → bl l k = bl l k, false = true → false = true, q (↑(kOf l) : Int), (256 : Int) * (↑(beN (List.take k (List.drop (1 : Nat) l))) : Int) + (↑(UInt8.toNat (List.getD l (Int.toNat (↑(k + (1 : Nat)) : Int)) (0 : UInt8))) : Int) = (↑(beN (List.take (k + (1 : Nat)) (List.drop (1 : Nat) l))) : Int), (↑(k + (1 : Nat)) : Int) + (1 : Int) = (↑(k + (1 : Nat) + (1 : Nat)) : Int)]) : Option (Exit × St × List Prop)) := by kernel_rfl
theorem bK2 (L : List UInt8) (l : List UInt8) (p : Nat) (k : Nat) :
  i5 zp (aT8 L l p k) [false] = (some (.exit 0, St.mk (mkT 66 [(2, .int .i64 0), (3, .int .i64 0), (4, .int .i64 0), (5, .ros 1 (List.length l) (bl l) false), (6, .int .i64 (↑(kOf l) : Int)), (7, .int .i64 (↑(beN (List.take (kOf l) (List.drop 1 l))) : Int)), (8, .int .i64 (↑(kOf l + 1) : Int))]) [(.o 0, .flat [.ros 1 (List.length L) (bl L) false, .int .i64 ↑p, .int .i64 0])] 1 [], [decide ((↑(k + (1 : Nat)) : Int) ≤ (↑(kOf l) : Int)) = false, q (List.length L), ∀ (k : Nat), k < List.length L → bl L k = bl L k, false = true → false = true, q (↑p : Int), q1, q1, q1, q1, q (List.length l), ∀ (k : Nat), k < List.length l → bl l k = bl l k, false = true → false = true, q (↑(kOf l) : Int), (↑(beN (List.take k (List.drop (1 : Nat) l))) : Int) = (↑(beN (List.take (kOf l) (List.drop (1 : Nat) l))) : Int), (↑(k + (1 : Nat)) : Int) = (↑(kOf l + (1 : Nat)) : Int)]) : Option (Exit × St × List Prop)) := by kernel_rfl
theorem bl6 (most : Int) (L : List UInt8) (p : Int) (e : Int) :
  e9 zp (cf7 most L p e) [true] = (some (.int .i64 0, [(.o 0, .flat [.ros 1 (List.length L) (bl L) false, .int .i64 p, .int .i64 e])], [(!decide (e = (0 : Int))) = true]) : Option (V × c5 × List Prop)) := by kernel_rfl
theorem aK0 (most : Int) (L : List UInt8) (p : Nat) (n : Int) (sz : Int) (e : Int) (e' : Int) :
  e9 zp (bw5 most L p n sz e e') [false, true, true, true] = (some (.int .i64 0, [(.o 0, .flat [.ros 1 (List.length L) (bl L) false, .int .i64 ↑p, .int .i64 e'])], [q false, T zp 79 [.ptr (.o 0) 0 0 0 0] [(.o 0, .flat [.ros 1 (List.length L) (bl L) false, .int .i64 ↑p, .int .i64 0])] (.tup [.int .i64 n, .int .i64 sz, .int .i64 e]) [(.o 0, .flat [.ros 1 (List.length L) (bl L) false, .int .i64 ↑p, .int .i64 0])], decide (e = (0 : Int)) = true, decide (most < n) = true, q2, q (List.length L), ∀ (k : Nat), k < List.length L → bl L k = bl L k, false = true → false = true, q (↑p : Int), (3 : Int) = e', q1]) : Option (V × c5 × List Prop)) := by kernel_rfl
theorem aJ_ (most : Int) (L : List UInt8) (p : Nat) (n : Int) (sz : Int) (e : Int) (e' : Int) :
  e9 zp (bw5 most L p n sz e e') [false, false, false, true] = (some (.int .i64 0, [(.o 0, .flat [.ros 1 (List.length L) (bl L) false, .int .i64 ↑p, .int .i64 e'])], [q false, T zp 79 [.ptr (.o 0) 0 0 0 0] [(.o 0, .flat [.ros 1 (List.length L) (bl L) false, .int .i64 ↑p, .int .i64 0])] (.tup [.int .i64 n, .int .i64 sz, .int .i64 e]) [(.o 0, .flat [.ros 1 (List.length L) (bl L) false, .int .i64 ↑p, .int .i64 0])], decide (e = (0 : Int)) = false, q false, (!decide (e = (0 : Int))) = true, q (List.length L), ∀ (k : Nat), k < List.length L → bl L k = bl L k, false = true → false = true, q (↑p : Int), e = e', q1]) : Option (V × c5 × List Prop)) := by kernel_rfl
theorem aK1 (most : Int) (L : List UInt8) (p : Nat) (n : Int) (sz : Int) (p' : Nat) :
  e9 zp (cf8 most L p n sz p') [false, true, false, false] = (some (.int .i64 n, [(.o 0, .flat [.ros 1 (List.length L) (bl L) false, .int .i64 (↑p' : Int), .int .i64 0])], [q false, T zp 79 [.ptr (.o 0) 0 0 0 0] [(.o 0, .flat [.ros 1 (List.length L) (bl L) false, .int .i64 ↑p, .int .i64 0])] (.tup [.int .i64 n, .int .i64 sz, .int .i64 0]) [(.o 0, .flat [.ros 1 (List.length L) (bl L) false, .int .i64 ↑p, .int .i64 0])], q2, decide (most < n) = false, q false, InR .i64 ((↑p : Int) + sz), q (List.length L), ∀ (k : Nat), k < List.length L → bl L k = bl L k, false = true → false = true, (↑p : Int) + sz = (↑p' : Int), q1, q n]) : Option (V × c5 × List Prop)) := by kernel_rfl
theorem bl_ (most : Int) (L : List UInt8) (p : Int) (e : Int) :
  e9 zp (cf_ most L p e) [true] = (some (.str (ByteArray.mk (Array.mk [])), [(.o 0, .flat [.ros 1 (List.length L) (bl L) false, .int .i64 p, .int .i64 e])], [(!decide (e = (0 : Int))) = true]) : Option (V × c5 × List Prop)) := by kernel_rfl
theorem ay4 (most : Int) (L : List UInt8) (p : Nat) (n : Int) (sz : Int) (e : Int) (e' : Int) :
  e9 zp (aQ8 most L p n sz e e') [false, true, true, false, false, true] = (some (.str (ByteArray.mk (Array.mk [])), [(.o 0, .flat [.ros 1 (List.length L) (bl L) false, .int .i64 ↑p, .int .i64 e'])], [q false, T zp 79 [.ptr (.o 0) 0 0 0 0] [(.o 0, .flat [.ros 1 (List.length L) (bl L) false, .int .i64 ↑p, .int .i64 0])] (.tup [.int .i64 n, .int .i64 sz, .int .i64 e]) [(.o 0, .flat [.ros 1 (List.length L) (bl L) false, .int .i64 ↑p, .int .i64 0])], decide (e = (0 : Int)) = true, decide (most < n) = true, q false, q false, q2, q (List.length L), ∀ (k : Nat), k < List.length L → bl L k = bl L k, false = true → false = true, q (↑p : Int), (3 : Int) = e', q (ByteArray.mk (Array.mk []))]) : Option (V × c5 × List Prop)) := by kernel_rfl
theorem ay3 (most : Int) (L : List UInt8) (p : Nat) (n : Int) (sz : Int) (e : Int) (e' : Int) :
  e9 zp (aQ8 most L p n sz e e') [false, true, false, true, true, true] = (some (.str (ByteArray.mk (Array.mk [])), [(.o 0, .flat [.ros 1 (List.length L) (bl L) false, .int .i64 ↑p, .int .i64 e'])], [q false, T zp 79 [.ptr (.o 0) 0 0 0 0] [(.o 0, .flat [.ros 1 (List.length L) (bl L) false, .int .i64 ↑p, .int .i64 0])] (.tup [.int .i64 n, .int .i64 sz, .int .i64 e]) [(.o 0, .flat [.ros 1 (List.length L) (bl L) false, .int .i64 ↑p, .int .i64 0])], decide (e = (0 : Int)) = true, decide (most < n) = false, decide (e = (0 : Int)) = true, InR .i64 ((↑(List.length L) : Int) - (↑p : Int)), InR .i64 ((↑(List.length L) : Int) - (↑p : Int) - sz), decide ((↑(List.length L) : Int) - (↑p : Int) - sz < n) = true, q2, q (List.length L), ∀ (k : Nat), k < List.length L → bl L k = bl L k, false = true → false = true, q (↑p : Int), (10 : Int) = e', q (ByteArray.mk (Array.mk []))]) : Option (V × c5 × List Prop)) := by kernel_rfl
theorem ay2 (most : Int) (L : List UInt8) (p : Nat) (n : Int) (sz : Int) (e : Int) (e' : Int) :
  e9 zp (aQ8 most L p n sz e e') [false, false, false, false, false, true] = (some (.str (ByteArray.mk (Array.mk [])), [(.o 0, .flat [.ros 1 (List.length L) (bl L) false, .int .i64 ↑p, .int .i64 e'])], [q false, T zp 79 [.ptr (.o 0) 0 0 0 0] [(.o 0, .flat [.ros 1 (List.length L) (bl L) false, .int .i64 ↑p, .int .i64 0])] (.tup [.int .i64 n, .int .i64 sz, .int .i64 e]) [(.o 0, .flat [.ros 1 (List.length L) (bl L) false, .int .i64 ↑p, .int .i64 0])], decide (e = (0 : Int)) = false, q false, decide (e = (0 : Int)) = false, q false, (!decide (e = (0 : Int))) = true, q (List.length L), ∀ (k : Nat), k < List.length L → bl L k = bl L k, false = true → false = true, q (↑p : Int), e = e', q (ByteArray.mk (Array.mk []))]) : Option (V × c5 × List Prop)) := by kernel_rfl
theorem ay5 (most : Int) (L : List UInt8) (p : Nat) (n : Int) (sz : Int) (p' : Nat) (s : ByteArray) :
  e9 zp (cg0 most L p n sz p' s) [false, true, false, true, false, false] = (some (.str s, [(.o 0, .flat [.ros 1 (List.length L) (bl L) false, .int .i64 (↑p' : Int), .int .i64 0])], [q false, T zp 79 [.ptr (.o 0) 0 0 0 0] [(.o 0, .flat [.ros 1 (List.length L) (bl L) false, .int .i64 ↑p, .int .i64 0])] (.tup [.int .i64 n, .int .i64 sz, .int .i64 0]) [(.o 0, .flat [.ros 1 (List.length L) (bl L) false, .int .i64 ↑p, .int .i64 0])], q2, decide (most < n) = false, q2, InR .i64 ((↑(List.length L) : Int) - (↑p : Int)), InR .i64 ((↑(List.length L) : Int) - (↑p : Int) - sz), decide ((↑(List.length L) : Int) - (↑p : Int) - sz < n) = false, q false, InR .i64 ((↑p : Int) + sz), InR .i64 ((↑p : Int) + sz + n), InR .i64 ((↑p : Int) + sz + n - n), (0 : Int) ≤ (↑p : Int) + sz + n ∧ (↑p : Int) + sz + n ≤ (↑(f2 none (List.length L)) : Int), (0 : Int) ≤ (↑p : Int) + sz + n - n ∧ (↑p : Int) + sz + n - n ≤ (↑(f2 (some ((↑p : Int) + sz + n)) (List.length L)) : Int), ∀ (k : Nat), k < f2 (some ((↑p : Int) + sz + n)) (List.length L) - f2 (some ((↑p : Int) + sz + n - n)) (0 : Nat) → true = true, ∀ (k : Nat), k < f2 (some ((↑p : Int) + sz + n)) (List.length L) - f2 (some ((↑p : Int) + sz + n - n)) (0 : Nat) → true = true, q (List.length L), ∀ (k : Nat), k < List.length L → bl L k = bl L k, false = true → false = true, (↑p : Int) + sz + n = (↑p' : Int), q1, E5 (f2 (some ((↑p : Int) + sz + n)) (List.length L) - f2 (some ((↑p : Int) + sz + n - n)) (0 : Nat)) (ag5 (bl L) (some ((↑p : Int) + sz + n - n))) = s]) : Option (V × c5 × List Prop)) := by kernel_rfl
theorem bm0 (n : Int) (L : List UInt8) (p : Int) (e : Int) :
  e9 zp (cg2 n L p e) [true] = (some (.ros 1 0 (bl []) false, [(.o 0, .flat [.ros 1 (List.length L) (bl L) false, .int .i64 p, .int .i64 e])], [(!decide (e = (0 : Int))) = true, q (List.length L), ∀ (k : Nat), k < List.length L → bl L k = bl L k, false = true → false = true, q p, q e, 0 = (0 : Nat)]) : Option (V × c5 × List Prop)) := by kernel_rfl
theorem a_1 (n : Int) (L : List UInt8) (p : Nat) (e' : Int) :
  e9 zp (bw8 n L p e') [false, true] = (some (.ros 1 0 (bl []) false, [(.o 0, .flat [.ros 1 (List.length L) (bl L) false, .int .i64 ↑p, .int .i64 e'])], [q false, decide (n < (0 : Int)) = true, q (List.length L), ∀ (k : Nat), k < List.length L → bl L k = bl L k, false = true → false = true, q (↑p : Int), (2 : Int) = e', 0 = (0 : Nat)]) : Option (V × c5 × List Prop)) := by kernel_rfl
theorem aQ9 (n : Int) (L : List UInt8) (p : Nat) (e' : Int) :
  e9 zp (bw8 n L p e') [false, false, true] = (some (.ros 1 0 (bl []) false, [(.o 0, .flat [.ros 1 (List.length L) (bl L) false, .int .i64 ↑p, .int .i64 e'])], [q false, decide (n < (0 : Int)) = false, InR .i64 ((↑(List.length L) : Int) - (↑p : Int)), decide ((↑(List.length L) : Int) - (↑p : Int) < n) = true, q (List.length L), ∀ (k : Nat), k < List.length L → bl L k = bl L k, false = true → false = true, q (↑p : Int), (10 : Int) = e', 0 = (0 : Nat)]) : Option (V × c5 × List Prop)) := by kernel_rfl
theorem aQ_ (n : Int) (L : List UInt8) (l : List UInt8) (p : Nat) (p' : Nat) :
  e9 zp (cg3 n L l p p') [false, false, false] = some (V.ros (1 : Nat) (List.length l) (bl l) false, [(Nm.o (0 : Nat), B.flat [V.ros (1 : Nat) (List.length L) (bl L) false, V.int .i64 (↑p' : Int), V.int .i64 (0 : Int)])], [false = false, decide (n < (0 : Int)) = false, InR .i64 ((↑(List.length L) : Int) - (↑p : Int)), decide ((↑(List.length L) : Int) - (↑p : Int) < n) = false, InR .i64 ((↑p : Int) + n), InR .i64 ((↑p : Int) + n - n), (0 : Int) ≤ (↑p : Int) + n ∧ (↑p : Int) + n ≤ (↑(f2 none (List.length L)) : Int), (0 : Int) ≤ (↑p : Int) + n - n ∧ (↑p : Int) + n - n ≤ (↑(f2 (some ((↑p : Int) + n)) (List.length L)) : Int), (0 : Nat) = (0 : Nat), ∀ (k : Nat), k < f2 (some ((↑p : Int) + n)) (List.length L) - f2 (some ((↑p : Int) + n - n)) (0 : Nat) → true = true, ((0 : Nat) + (f2 (some ((↑p : Int) + n)) (List.length L) - f2 (some ((↑p : Int) + n - n)) (0 : Nat))) * (1 : Nat) ≤ (140737488355328 : Nat), List.length L = List.length L, ∀ (k : Nat), k < List.length L → bl L k = bl L k, false = true → false = true, (↑p : Int) + n = (↑p' : Int), (0 : Int) = (0 : Int), (0 : Nat) + (f2 (some ((↑p : Int) + n)) (List.length L) - f2 (some ((↑p : Int) + n - n)) (0 : Nat)) = List.length l, (0 : Nat) + ((0 : Nat) + (f2 (some ((↑p : Int) + n)) (List.length L) - f2 (some ((↑p : Int) + n - n)) (0 : Nat))) ≤ (0 : Nat) + (f2 (some ((↑p : Int) + n)) (List.length L) - f2 (some ((↑p : Int) + n - n)) (0 : Nat)), ∀ (k : Nat), k < (0 : Nat) + (f2 (some ((↑p : Int) + n)) (List.length L) - f2 (some ((↑p : Int) + n - n)) (0 : Nat)) → [V.int .u8 (↑(UInt8.toNat (List.getD L (Int.toNat ((↑p : Int) + n - n) + ((0 : Nat) + k - (0 : Nat))) (0 : UInt8))) : Int)] = bl l k, false = true → none = some ((0 : Nat) + (f2 (some ((↑p : Int) + n)) (List.length L) - f2 (some ((↑p : Int) + n - n)) (0 : Nat)))]) := by kernel_rfl
theorem bl3 (L : List UInt8) (p : Int) (e : Int) :
  e9 zp (cf6 L p e) [true] = (some (.int .i64 e, [(.o 0, .flat [.ros 1 (List.length L) (bl L) false, .int .i64 p, .int .i64 e])], [(!decide (e = (0 : Int))) = true]) : Option (V × c5 × List Prop)) := by kernel_rfl
theorem bl5 (L : List UInt8) (p : Nat) :
  e9 zp (bV3 L p) [false, true] = (some (.int .i64 12, [(.o 0, .flat [.ros 1 (List.length L) (bl L) false, .int .i64 ↑p, .int .i64 0])], [q false, decide ((↑p : Int) < (↑(List.length L) : Int)) = true]) : Option (V × c5 × List Prop)) := by kernel_rfl
theorem bl4 (L : List UInt8) (p : Nat) :
  e9 zp (bV3 L p) [false, false] = (some (.int .i64 0, [(.o 0, .flat [.ros 1 (List.length L) (bl L) false, .int .i64 ↑p, .int .i64 0])], [q false, decide ((↑p : Int) < (↑(List.length L) : Int)) = false]) : Option (V × c5 × List Prop)) := by kernel_rfl
theorem cd6 {L : List UInt8} (hl : L.length ≤ 1000000000) : T Tryz.prog 29 [roB L] [] (.ptr (.o 63) 0 0 0 0) [(.o 63, rp L 0 0)] := by
 refine f3 (bV8 L) Tryz.func29 ?_
 simp only [All]; and_intros
 all_goals first | trivial | omega | (intro k _; simp [bl]; done) | simp
theorem T_xr (m : Nat) {L : List UInt8} (hl : L.length ≤ 1000000000) : T Tryz.prog 29 [roB L] [] (.ptr (.o m) 0 0 0 0) [(.o m, rp L 0 0)] := by
 obtain ⟨σ, hσ, h1⟩ := T.at (cd6 hl) [.o 63] [.o m] (by simp) (by simp) rfl
 simp only [List.map_cons, List.map_nil, List.cons.injEq, and_true] at hσ
 simpa [V.rens, V.ren, roB, rp, c5.ren, B.ren, hσ] using h1
theorem bo9 {L l : List UInt8} {p : Nat} (h : NumOk l) (k : Nat) (hk : k < kOf l) : R Tryz.prog none 1 (aT8 L l p 0).c (nbX L l p k) .normal (nbX L l p (k + 1)) := by
 have hl := h.len
 have h8 := h.k
 have hd : k < (l.drop 1).length := by rw [List.length_drop]; omega
 have e := ag_ hd
 have hx := ((l.drop 1).getD k 0).toNat_lt
 have hm := ak5 (d := l.drop 1) (j := k + 1) (k := kOf l) (by omega) (by rw [List.length_drop]; omega)
 have hlt := h.lt
 have e2 := ak6 ((l.drop 1).take k) ((l.drop 1).getD k 0)
 rw [← e] at e2
 have e3 : l.getD (k + 1) 0 = (l.drop 1).getD k 0 := by simp [List.getD_eq_getElem?_getD, Nat.add_comm]
 refine f4 NG MO _ (bK3 L l p k) ?_ (Nat.le_refl _)
 simp only [All, Int.toNat_natCast, e3]
 and_intros
 all_goals first | exact True.intro | (intro _ _; trivial) | (rw [decide_eq_true_eq]; omega) | (simp only [IntKind.min, IntKind.max, IntKind.signed, IntKind.bits, if_true]; omega) | omega | (intro h; exact h)
theorem am1 {L l : List UInt8} {p : Nat} (h : NumOk l) : f9 Tryz.prog none 1 (aT8 L l p 0).c (kOf l + 1) (nbX L l p 0) (.exit 0) (nbX L l p (kOf l)) :=
 f9.inv (nbX L l p) (kOf l) (fun k hk => bo9 h k hk) (f4 NG MO _ (bK2 L l p (kOf l)) (by simp only [All]; and_intros; all_goals first | exact True.intro | (rw [decide_eq_false_iff_not]; omega) | (simp; done)) (Nat.le_refl _)) (by simp)
theorem bP5 {L : List UInt8} {p : Nat} (hp : p ≤ L.length) (hL : L.length ≤ 1000000000) : T Tryz.prog 79 [p0] [(.o 0, rp L (p : Nat) 0)] (z9 (L.drop p)) [(.o 0, rp L (p : Nat) 0)] := by
 have e0 : L.getD p 0 = (L.drop p).getD 0 0 := by simp [List.getD_eq_getElem?_getD]
 have e1 : L.getD (p + 1) 0 = (L.drop p).getD 1 0 := by simp [List.getD_eq_getElem?_getD]
 have e2 : L.length - p = (L.drop p).length := by rw [List.length_drop]
 have e3 : ∀ k, [V.int .u8 ((L.getD (p + k) 0).toNat : Int)] = bl (L.drop p) k := fun k => by simp [bl, List.getD_eq_getElem?_getD]
 have hlp : (L.drop p).length ≤ L.length := by rw [List.length_drop]; omega
 have hlq : p + (L.drop p).length = L.length := by rw [List.length_drop]; omega
 generalize L.drop p = l at *
 have hk := aE8 l
 have hkk : (l.getD 0 0).toNat = kOf l := rfl
 by_cases h1 : l.length = 0
 ·refine T.conv (f3 (bE2 L l p) Tryz.func79 ?_) rfl rfl (by simp [z9, nV, nS, nE, h1]) rfl
  simp only [All, f6, n6, f2, Int.toNat_natCast, Nat.add_zero, e0, e1, e2, hkk]; and_intros
  all_goals first | trivial | omega | (rw [decide_eq_true_eq]; omega)
 by_cases h2 : 8 < kOf l
 ·refine T.conv (f3 (bl7 L l p) Tryz.func79 ?_) rfl rfl (by simp [z9, nV, nS, nE, h1, h2]) rfl
  simp only [All, f6, n6, f2, Int.toNat_natCast, Nat.add_zero, e0, e1, e2, hkk]; and_intros
  all_goals first | (rw [decide_eq_false_iff_not]; omega) | (rw [decide_eq_true_eq]; omega) | omega | exact C5 (by omega) (by omega) | exact C6 (by omega) (by omega) | trivial
 by_cases h3 : l.length ≤ kOf l
 ·refine T.conv (f3 (a8_ L l p) Tryz.func79 ?_) rfl rfl (by simp [z9, nV, nS, nE, h1, h2, h3]) rfl
  simp only [All, f6, n6, f2, Int.toNat_natCast, Nat.add_zero, e0, e1, e2, hkk]; and_intros
  all_goals first | (rw [decide_eq_false_iff_not]; omega) | (rw [decide_eq_true_eq]; omega) | omega | exact C5 (by omega) (by omega) | exact C6 (by omega) (by omega) | trivial
 by_cases h4 : 0 < kOf l ∧ (l.getD 1 0).toNat = 0
 ·refine T.conv (f3 (aC2 L l p) Tryz.func79 ?_) rfl rfl (by simp only [z9, nV, nS, nE, if_neg h1, if_neg h2, if_neg h3, if_pos h4]; rfl) rfl
  simp only [All, f6, n6, f2, Int.toNat_natCast, Nat.add_zero, e0, e1, e2, hkk]; and_intros
  all_goals first | (rw [decide_eq_false_iff_not]; omega) | (rw [decide_eq_true_eq]; omega) | omega | exact C5 (by omega) (by omega) | exact C6 (by omega) (by omega) | trivial
 by_cases h5 : kOf l = 8 ∧ 127 < (l.getD 1 0).toNat
 ·refine T.conv (f3 (ay1 L l p) Tryz.func79 ?_) rfl rfl (by simp only [z9, nV, nS, nE, if_neg h1, if_neg h2, if_neg h3, if_neg h4, if_pos h5]; rfl) rfl
  simp only [All, f6, n6, f2, Int.toNat_natCast, Nat.add_zero, e0, e1, e2, hkk]; and_intros
  all_goals first | (rw [decide_eq_false_iff_not]; omega) | (rw [decide_eq_true_eq]; omega) | omega | exact C5 (by omega) (by omega) | exact C6 (by omega) (by omega) | trivial
 have hok : NumOk l := ⟨by omega, by omega, fun h => by omega⟩
 have hv : z9 l = .tup [.int .i64 (beN ((l.drop 1).take (kOf l)) : Nat), .int .i64 (1 + (kOf l : Int)), .int .i64 0] := by
  simp only [z9, nV, nS, nE, if_neg h1, if_neg h2, if_neg h3, if_neg h4, if_neg h5, if_true]
  rw [Int.add_comm]; rfl
 by_cases h6 : 0 < kOf l
 ·by_cases h7 : kOf l = 8
  ·refine T.conv (f3 (ay0 L l p) Tryz.func79 ?_) rfl rfl hv.symm rfl
   simp only [All, f6, n6, f2, Int.toNat_natCast, Nat.add_zero, e0, e1, e2, hkk, e3]; and_intros
   all_goals first | exact am1 hok | exact fun _ _ => trivial | (rw [decide_eq_false_iff_not]; omega) | (rw [decide_eq_true_eq]; omega) | omega | exact C5 (by omega) (by omega) | exact C6 (by omega) (by omega) | trivial
  ·refine T.conv (f3 (ax_ L l p) Tryz.func79 ?_) rfl rfl hv.symm rfl
   simp only [All, f6, n6, f2, Int.toNat_natCast, Nat.add_zero, e0, e1, e2, hkk, e3]; and_intros
   all_goals first | exact am1 hok | exact fun _ _ => trivial | (rw [decide_eq_false_iff_not]; omega) | (rw [decide_eq_true_eq]; omega) | omega | exact C5 (by omega) (by omega) | exact C6 (by omega) (by omega) | trivial
 ·refine T.conv (f3 (ax9 L l p) Tryz.func79 ?_) rfl rfl hv.symm rfl
  simp only [All, f6, n6, f2, Int.toNat_natCast, Nat.add_zero, e0, e1, e2, hkk, e3]; and_intros
  all_goals first | exact am1 hok | exact fun _ _ => trivial | (rw [decide_eq_false_iff_not]; omega) | omega | exact C5 (by omega) (by omega) | exact C6 (by omega) (by omega) | trivial
theorem az7 {s : RS} (he : s.e ≠ 0) : eV s ≠ 0 := by
 unfold eV
 split
 ·decide
 ·exact he
theorem XOk.ok {L : List UInt8} {s : RS} {p : Int} (h : XOk L s p) : Ok L s := h.1
theorem XOk.bad {L : List UInt8} {s : RS} {p : Int} (h : s.e ≠ 0) : XOk L s p := ⟨Ok.bad h, fun h' => absurd h' h⟩
theorem XOk.e0 {L : List UInt8} {s : RS} {p : Int} (h : XOk L s p) (he : s.e = 0) : rpB L s p = rp L (L.length - s.l.length : Nat) 0 := by
 rw [rpB, h.2 he, eV, (h.1 he).1, if_neg (by simp), he]
theorem M5 {L : List UInt8} {s : RS} (hb : s.bad = false) {e : Int} (p : Int) : rpB L (s.fail e) p = rp L p e := by
 rw [rpB, eV, show (s.fail e).bad = false from hb, if_neg (by simp)]; rfl
theorem XOk.drop {L : List UInt8} {s : RS} {p : Int} (h : XOk L s p) (he : s.e = 0) {n : Nat} (hn : n ≤ s.l.length) : XOk L (s.drop n) (L.length - s.l.length + n : Nat) ∧ rpB L (s.drop n) (L.length - s.l.length + n : Nat) = rp L (L.length - s.l.length + n : Nat) 0 := by
 have h2 := (h.1 he).2.1
 have hl : (s.drop n).l.length = s.l.length - n := by rw [RS.drop, List.length_drop]
 refine ⟨⟨h.1.drop n, fun _ => ?_⟩, ?_⟩
 ·rw [hl]; congr 1; omega
 ·rw [rpB, eV, show (s.drop n).bad = false from (h.1 he).1, if_neg (by simp), show (s.drop n).e = 0 from he]
theorem B2 {most : Int} {L : List UInt8} {s : RS} {p : Int} (h : XOk L s p) (hL : L.length ≤ 1000000000) : ∃ p', XOk L (c6 most s).2 p' ∧ T Tryz.prog 30 [p0, .int .i64 most] [(.o 0, rpB L s p)] (.int .i64 (c6 most s).1) [(.o 0, rpB L (c6 most s).2 p')] := by
 have hS := @az_ s.l
 by_cases h1 : s.e = 0
 ·obtain ⟨hb, hlen, hl⟩ := h.1 h1
  have hN := bP5 (L := L) (p := L.length - s.l.length) (by omega) hL
  rw [← hl] at hN
  rw [h.e0 h1]
  by_cases h2 : nE s.l = 0
  ·by_cases h3 : most < nV s.l
   ·have e1 : nE1 most s.l = 3 := by simp [nE1, h2, h3]
    have e : c6 most s = (0, s.fail 3) := by simp [c6, h1, e1]
    rw [e]
    refine ⟨((L.length - s.l.length : Nat) : Int), XOk.bad (show (3 : Int) ≠ 0 by decide), ?_⟩
    rw [M5 hb]
    refine f3 (aK0 most L (L.length - s.l.length) (nV s.l) (nS s.l) (nE s.l) 3) Tryz.func30 ?_
    simp only [All]; and_intros
    all_goals first | exact True.intro | exact hN | (rw [decide_eq_true_eq]; omega) | (intro _ _; exact True.intro) | (intro h; exact h)
   ·have e1 : nE1 most s.l = 0 := by simp [nE1, h2, h3]
    have e : c6 most s = (nV s.l, s.drop (nS s.l).toNat) := by simp [c6, h1, e1]
    obtain ⟨x1, x2⟩ := h.drop h1 (n := (nS s.l).toNat) (by omega)
    rw [e]
    refine ⟨_, x1, ?_⟩
    rw [x2]
    rw [z9, h2] at hN
    refine f3 (aK1 most L (L.length - s.l.length) (nV s.l) (nS s.l) (L.length - s.l.length + (nS s.l).toNat)) Tryz.func30 ?_
    simp only [All]; and_intros
    all_goals first | exact True.intro | exact hN | (rw [decide_eq_false_iff_not]; omega) | (intro _ _; exact True.intro) | (simp only [IntKind.min, IntKind.max, IntKind.signed, IntKind.bits, if_true]; omega) | omega | (intro h; exact h)
  ·have e1 : nE1 most s.l = nE s.l := by simp [nE1, h2]
   have e : c6 most s = (0, s.fail (nE s.l)) := by simp [c6, h1, e1, h2]
   rw [e]
   refine ⟨((L.length - s.l.length : Nat) : Int), XOk.bad (show nE s.l ≠ 0 from h2), ?_⟩
   rw [M5 hb]
   refine f3 (aJ_ most L (L.length - s.l.length) (nV s.l) (nS s.l) (nE s.l) (nE s.l)) Tryz.func30 ?_
   simp only [All]; and_intros
   all_goals first | exact True.intro | exact hN | (simp [h2]; done)
 ·have e : c6 most s = (0, s) := by simp [c6, h1]
  rw [e]
  refine ⟨p, h, ?_⟩
  refine f3 (bl6 most L p (eV s)) Tryz.func30 ?_
  simp only [All]; and_intros
  all_goals first | exact True.intro | (simp [az7 h1]; done)
theorem txX {L l : List UInt8} {p a n : Nat} (hl : l = L.drop p) (h : a + n ≤ l.length) : E5 n (fun k => [V.int .u8 ((L.getD (p + a + k) 0).toNat : Int)]) = baL ((l.drop a).take n) := by
 subst hl
 have hlen : (((L.drop p).drop a).take n).length = n := by rw [List.length_take, List.length_drop]; omega
 have h0 := X6 (((L.drop p).drop a).take n)
 rw [hlen] at h0
 rw [← h0]
 unfold E5
 congr 2
 apply List.map_congr_left
 intro i hi
 have hi := List.mem_range.1 hi
 have e : bl (((L.drop p).drop a).take n) (0 + i) = [V.int .u8 ((L.getD (p + a + i) 0).toNat : Int)] := by
  rw [Nat.zero_add, as9 _ hi, ah8, ah8, ← Nat.add_assoc]; rfl
 show UInt8.ofNat (l9 [V.int .u8 ((L.getD (p + a + i) 0).toNat : Int)]).toNat = UInt8.ofNat (l9 (bl (((L.drop p).drop a).take n) (0 + i))).toNat
 rw [e]
theorem aM_ {most : Int} {L : List UInt8} {s : RS} {p : Int} (h : XOk L s p) (hL : L.length ≤ 1000000000) : ∃ p', XOk L (r6 most s).2 p' ∧ T Tryz.prog 31 [p0, .int .i64 most] [(.o 0, rpB L s p)] (.str (r6 most s).1) [(.o 0, rpB L (r6 most s).2 p')] := by
 have hS := @az_ s.l
 have hV := @aS3 s.l
 by_cases h1 : s.e = 0
 ·obtain ⟨hb, hlen, hl⟩ := h.1 h1
  have hN := bP5 (L := L) (p := L.length - s.l.length) (by omega) hL
  rw [← hl] at hN
  rw [h.e0 h1]
  by_cases h2 : nE s.l = 0
  ·by_cases h3 : most < nV s.l
   ·have e1 : tE most s.l = 3 := by simp [tE, h2, h3]
    have e : r6 most s = (baL [], s.fail 3) := by simp [r6, h1, e1]
    rw [e]
    refine ⟨((L.length - s.l.length : Nat) : Int), XOk.bad (by show (_ : Int) ≠ 0; first | exact (by decide : (3 : Int) ≠ 0) | exact (by decide : (10 : Int) ≠ 0) | exact (by decide : (2 : Int) ≠ 0)), ?_⟩
    rw [M5 hb]
    refine f3 (ay4 most L (L.length - s.l.length) (nV s.l) (nS s.l) (nE s.l) 3) Tryz.func31 ?_
    simp only [All]; and_intros
    all_goals first | exact True.intro | exact hN | (rw [decide_eq_true_eq]; omega) | (intro _ _; exact True.intro) | (intro h; exact h)
   ·by_cases h4 : (s.l.length : Int) - nS s.l < nV s.l
    ·have e1 : tE most s.l = 10 := by simp [tE, h2, h3, h4]
     have e : r6 most s = (baL [], s.fail 10) := by simp [r6, h1, e1]
     rw [e]
     refine ⟨((L.length - s.l.length : Nat) : Int), XOk.bad (by show (_ : Int) ≠ 0; first | exact (by decide : (3 : Int) ≠ 0) | exact (by decide : (10 : Int) ≠ 0) | exact (by decide : (2 : Int) ≠ 0)), ?_⟩
     rw [M5 hb]
     refine f3 (ay3 most L (L.length - s.l.length) (nV s.l) (nS s.l) (nE s.l) 10) Tryz.func31 ?_
     simp only [All]; and_intros
     all_goals first | exact True.intro | exact hN | (rw [decide_eq_true_eq]; omega) | (rw [decide_eq_false_iff_not]; omega) | (intro _ _; exact True.intro) | (simp only [IntKind.min, IntKind.max, IntKind.signed, IntKind.bits, if_true]; omega) | (intro h; exact h)
    ·have e1 : tE most s.l = 0 := by simp [tE, h2, h3, h4]
     have e : r6 most s = (baL ((s.l.drop (nS s.l).toNat).take (nV s.l).toNat), s.drop ((nS s.l).toNat + (nV s.l).toNat)) := by
      simp [r6, h1, e1, RS.drop, List.drop_drop]
     obtain ⟨x1, x2⟩ := h.drop h1 (n := (nS s.l).toNat + (nV s.l).toNat) (by omega)
     rw [e]
     refine ⟨_, x1, ?_⟩
     rw [x2]
     rw [z9, h2] at hN
     have hb := txX hl (a := (nS s.l).toNat) (n := (nV s.l).toNat) (by omega)
     refine f3 (ay5 most L (L.length - s.l.length) (nV s.l) (nS s.l) (L.length - s.l.length + ((nS s.l).toNat + (nV s.l).toNat)) (baL ((s.l.drop (nS s.l).toNat).take (nV s.l).toNat))) Tryz.func31 ?_
     have q1 : (((L.length - s.l.length : Nat) : Int) + nS s.l + nV s.l).toNat = L.length - s.l.length + (nS s.l).toNat + (nV s.l).toNat := by omega
     have q2 : (((L.length - s.l.length : Nat) : Int) + nS s.l + nV s.l - nV s.l).toNat = L.length - s.l.length + (nS s.l).toNat := by omega
     have q3 : L.length - s.l.length + (nS s.l).toNat + (nV s.l).toNat - (L.length - s.l.length + (nS s.l).toNat) = (nV s.l).toNat := by omega
     have q4 : (((L.length - s.l.length : Nat) : Int) + nS s.l).toNat = L.length - s.l.length + (nS s.l).toNat := by omega
     simp only [All, f2, q1, q2, q3]; and_intros
     all_goals first | exact True.intro | exact hN | (refine Eq.trans ?_ hb; refine congrArg (E5 _) ?_; funext k; rw [aw7]; simp only [f2, q2]; rfl) | (rw [decide_eq_false_iff_not]; omega) | (intro _ _; exact True.intro) | (simp only [IntKind.min, IntKind.max, IntKind.signed, IntKind.bits, if_true]; omega) | omega | (intro h; exact h)
  ·have e1 : tE most s.l = nE s.l := by simp [tE, h2]
   have e : r6 most s = (baL [], s.fail (nE s.l)) := by simp [r6, h1, e1, h2]
   rw [e]
   refine ⟨((L.length - s.l.length : Nat) : Int), XOk.bad (show nE s.l ≠ 0 from h2), ?_⟩
   rw [M5 hb]
   refine f3 (ay2 most L (L.length - s.l.length) (nV s.l) (nS s.l) (nE s.l) (nE s.l)) Tryz.func31 ?_
   simp only [All]; and_intros
   all_goals first | exact True.intro | exact hN | (simp [h2]; done)
 ·have e : r6 most s = (baL [], s) := by simp [r6, h1]
  rw [e]
  refine ⟨p, h, ?_⟩
  refine f3 (bl_ most L p (eV s)) Tryz.func31 ?_
  simp only [All]; and_intros
  all_goals first | exact True.intro | (simp [az7 h1]; done)
theorem aN0 {n : Int} {L : List UInt8} {s : RS} {p : Int} (h : XOk L s p) (hL : L.length ≤ 1000000000) : ∃ p', XOk L (j1 n s).2 p' ∧ T Tryz.prog 32 [p0, .int .i64 n] [(.o 0, rpB L s p)] (roB (j1 n s).1) [(.o 0, rpB L (j1 n s).2 p')] := by
 by_cases h1 : s.e = 0
 ·obtain ⟨hb, hlen, hl⟩ := h.1 h1
  rw [h.e0 h1]
  by_cases h2 : n < 0
  ·have e : j1 n s = ([], s.fail 2) := by simp [j1, h1, h2]
   rw [e]
   refine ⟨((L.length - s.l.length : Nat) : Int), XOk.bad (by show (_ : Int) ≠ 0; first | exact (by decide : (3 : Int) ≠ 0) | exact (by decide : (10 : Int) ≠ 0) | exact (by decide : (2 : Int) ≠ 0)), ?_⟩
   rw [M5 hb]
   refine f3 (a_1 n L (L.length - s.l.length) 2) Tryz.func32 ?_
   simp only [All]; and_intros
   all_goals first | exact True.intro | (rw [decide_eq_true_eq]; omega) | (intro _ _; exact True.intro) | (intro h; exact h)
  ·by_cases h3 : (s.l.length : Int) < n
   ·have e : j1 n s = ([], s.fail 10) := by simp [j1, h1, h2, h3]
    rw [e]
    refine ⟨((L.length - s.l.length : Nat) : Int), XOk.bad (by show (_ : Int) ≠ 0; first | exact (by decide : (3 : Int) ≠ 0) | exact (by decide : (10 : Int) ≠ 0) | exact (by decide : (2 : Int) ≠ 0)), ?_⟩
    rw [M5 hb]
    refine f3 (aQ9 n L (L.length - s.l.length) 10) Tryz.func32 ?_
    simp only [All]; and_intros
    all_goals first | exact True.intro | (rw [decide_eq_true_eq]; omega) | (rw [decide_eq_false_iff_not]; omega) | (intro _ _; exact True.intro) | (simp only [IntKind.min, IntKind.max, IntKind.signed, IntKind.bits, if_true]; omega) | (intro h; exact h)
   ·have e : j1 n s = (s.l.take n.toNat, s.drop n.toNat) := by simp [j1, h1, h2, h3]
    have hln : (s.l.take n.toNat).length = n.toNat := by rw [List.length_take]; omega
    obtain ⟨x1, x2⟩ := h.drop h1 (n := n.toNat) (by omega)
    rw [e]
    refine ⟨_, x1, ?_⟩
    rw [x2]
    have q1 : (((L.length - s.l.length : Nat) : Int) + n).toNat = L.length - s.l.length + n.toNat := by omega
    have q2 : (((L.length - s.l.length : Nat) : Int) + n - n).toNat = L.length - s.l.length := by omega
    have q3 : L.length - s.l.length + n.toNat - (L.length - s.l.length) = n.toNat := by omega
    have q5 : ∀ k, k < n.toNat → bl L (L.length - s.l.length + k) = bl (s.l.take n.toNat) k := fun k hk => by
     have : bl (L.drop (L.length - s.l.length)) k = bl L (L.length - s.l.length + k) := ah8 _ _ _
     rw [as9 _ hk, ← this, ← hl]
    refine f3 (aQ_ n L (s.l.take n.toNat) (L.length - s.l.length) (L.length - s.l.length + n.toNat)) Tryz.func32 ?_
    simp only [All, f2, q1, q2, q3, hln, Nat.zero_add]; and_intros
    all_goals first | exact True.intro | (intro k hk; rw [Nat.sub_zero]; exact q5 k hk) | (rw [decide_eq_false_iff_not]; omega) | (intro _ _; exact True.intro) | (simp only [IntKind.min, IntKind.max, IntKind.signed, IntKind.bits, if_true]; omega) | omega | (intro h; exact h) | (intro h; cases h; done)
 ·have e : j1 n s = ([], s) := by simp [j1, h1]
  rw [e]
  refine ⟨p, h, ?_⟩
  refine f3 (bm0 n L p (eV s)) Tryz.func32 ?_
  simp only [All]; and_intros
  all_goals first | exact True.intro | (simp [az7 h1]; done)
def G9 (s : RS) : Int := if s.bad then 130 else B0 s
theorem cd5 {L : List UInt8} {s : RS} {p : Int} (h : XOk L s p) : T Tryz.prog 33 [p0] [(.o 0, rpB L s p)] (.int .i64 (G9 s)) [(.o 0, rpB L s p)] := by
 by_cases h1 : s.e = 0
 ·obtain ⟨hb, hlen, hl⟩ := h.1 h1
  rw [h.e0 h1]
  by_cases h2 : 0 < s.l.length
  ·refine T.val (f3 (bl5 L (L.length - s.l.length)) Tryz.func33 ?_) (by simp [G9, hb, B0, h1, h2])
   simp only [All]; and_intros
   all_goals first | exact True.intro | (rw [decide_eq_true_eq]; omega)
  ·refine T.val (f3 (bl4 L (L.length - s.l.length)) Tryz.func33 ?_) (by simp [G9, hb, B0, h1, h2])
   simp only [All]; and_intros
   all_goals first | exact True.intro | (rw [decide_eq_false_iff_not]; omega)
 ·refine T.val (f3 (bl3 L p (eV s)) Tryz.func33 ?_) (by unfold G9 eV B0; split <;> simp [h1])
  simp only [All]; and_intros
  all_goals first | exact True.intro | (simp [az7 h1]; done)
def Ev (s s' : RS) : Prop := (s.e ≠ 140 → s'.e ≠ 140) ∧ ∀ L, Ok L s → Ok L s'
theorem Ev.refl (s : RS) : Ev s s := ⟨id, fun _ h => h⟩
theorem Ev.trans {a b c : RS} (h : Ev a b) (h' : Ev b c) : Ev a c := ⟨fun e => h'.1 (h.1 e), fun L o => h'.2 L (h.2 L o)⟩
def arJ (n : Nat) (d : List Int) (j : Nat) : List Int := (List.range n).map fun i => if i < j then d.getD i 0 else 0
def DgS (nt n m : Nat) (L : List UInt8) (p e : Int) (z : List Int) (xs : List UInt8) (w : List Int) (j : Nat) : St := ⟨mkT nt [(2, .ptr (.o 1) 0 0 0 0), (3, .ptr (.o 2) 0 0 0 0), (4, .ros 1 m (bl xs) false), (5, .int .i64 (j : Nat))], [(.o 0, rp L p e), (.o 1, .flat [.seg .u8 n z]), (.o 2, .flat [.seg .u8 n w])], 3, []⟩
def cg9 (nt n m : Nat) (L : List UInt8) (p e : Int) (z : List Int) (xs : List UInt8) (w : List Int) : Nat → St → List (Prop × Hint) := fun _ t => match m6 t.tmps 3 with
 | .ptr b _ _ _ _ => [(True, .loop (m + 1) (w6 [(.o 2, b)] (DgS nt n m L p e z xs z 0)) (.exit 0) (DgS nt n m L p e z xs w m))]
 | _ => []
noncomputable def bv9 (f : Func) (n m : Nat) (L : List UInt8) (p0' e0 p e : Int) (z : List Int) (xs : List UInt8) (w : List Int) : Bd := { f := f, args := [p0], pre := [(.o 0, rp L p0' e0)], base := 1, kb := { db := dbF [(32, cX (.ros 1 m (bl xs) false) (rp L p e))], lp := cg9 21 n m L p e z xs w }, names := n0 }
noncomputable def bx6 (f : Func) (n m : Nat) (L : List UInt8) (p e : Int) (z : List Int) (xs : List UInt8) (w : List Int) (j : Nat) (w' : List Int) : Pc := { c := cB (cB (cR (cL (cR (cR (cR (f1 f))))))), st := DgS 21 n m L p e z xs w j, p := 1, kb := kb0, k := fun x _ => match x with
 | .normal => some (wTo (DgS 21 n m L p e z xs w' (j + 1)))
 | _ => some (wTo (DgS 21 n m L p e z xs w j)) }
noncomputable def bV4 (m : Nat) (L : List UInt8) (p0' e0 p e : Int) (xs : List UInt8) (w : List Int) : Bd := bv9 Tryz.f121 32 m L p0' e0 p e z32 xs w
noncomputable def b1_ (m : Nat) (L : List UInt8) (p e : Int) (xs : List UInt8) (w : List Int) (j : Nat) (w' : List Int) : Pc := bx6 Tryz.f121 32 m L p e z32 xs w j w'
noncomputable def bV5 (m : Nat) (L : List UInt8) (p0' e0 p e : Int) (xs : List UInt8) (w : List Int) : Bd := bv9 Tryz.f142 16 m L p0' e0 p e z16 xs w
noncomputable def b2_ (m : Nat) (L : List UInt8) (p e : Int) (xs : List UInt8) (w : List Int) (j : Nat) (w' : List Int) : Pc := bx6 Tryz.f142 16 m L p e z16 xs w j w'
def RqS (L : List UInt8) (p e : Int) (r : SReq) (xs : List UInt8) (w : List Int) (j : Nat) : St := ⟨mkT 35 [(2, .ptr (.o 1) 0 0 0 0), (3, .ptr (.o 2) 0 0 0 0), (4, .ros 1 16 (bl xs) false), (5, .int .i64 (j : Nat))], [(.o 0, rp L p e), (.o 1, .flat K8.c), (.o 2, .flat [.int .i64 r.client, .int .i64 r.num, .str r.data, .seg .u8 16 w])], 3, []⟩
def lpRq (L : List UInt8) (p e : Int) (r : SReq) (xs : List UInt8) (w : List Int) : Nat → St → List (Prop × Hint) := fun _ t => match m6 t.tmps 3 with
 | .ptr b _ _ _ _ => [(True, .loop 17 (w6 [(.o 2, b)] (RqS L p e r xs z16 0)) (.exit 0) (RqS L p e r xs w 16))]
 | _ => []
noncomputable def bV7 (L : List UInt8) (a0 e0 a1 e1 a2 e2 a3 e3 a4 e4 : Int) (r : SReq) (v : V) (xs : List UInt8) : Bd := { f := Tryz.f141, args := [p0], pre := [(.o 0, rp L a0 e0)], base := 1, kb := { db := dbG [(31, cX (.str r.data) (rp L a3 e3)), (32, cX v (rp L a4 e4))] [(3, cX (.int .i64 r.client) (rp L a1 e1)), (7, cX (.int .i64 r.num) (rp L a2 e2))], lp := lpRq L a4 e4 r xs r.tag }, names := n0 }
noncomputable def bw6 (L : List UInt8) (a0 e0 a1 e1 a2 e2 a3 e3 a4 e4 : Int) (r : SReq) (xs : List UInt8) : Bd := bV7 L a0 e0 a1 e1 a2 e2 a3 e3 a4 e4 r (.ros 1 16 (bl xs) false) xs
noncomputable def cf9 (L : List UInt8) (a0 e0 a1 e1 a2 e2 a3 e3 a4 e4 : Int) (r : SReq) (xs : List UInt8) : Bd := bV7 L a0 e0 a1 e1 a2 e2 a3 e3 a4 e4 r (roB xs) xs
noncomputable def b3_ (L : List UInt8) (p e : Int) (r : SReq) (xs : List UInt8) (w : List Int) (j : Nat) (w' : List Int) : Pc := { c := cB (cB (cR (cL (cR (cR (cR (cR (cR (cR (cR (f1 Tryz.f141))))))))))), st := RqS L p e r xs w j, p := 1, kb := kb0, k := fun x _ => match x with
 | .normal => some (wTo (RqS L p e r xs w' (j + 1)))
 | _ => some (wTo (RqS L p e r xs w j)) }
noncomputable def bV_ (L : List UInt8) (a0 e0 a1 e1 a2 e2 a3 e3 a4 e4 a5 e5 : Int) (o : Nat) (v : SVote) : Bd := { f := Tryz.f118, args := [p0], pre := [(.o 0, rp L a0 e0)], base := 1, kb := { db := aa7 1 [(30, 3, cX (.int .i64 v.kind) (rp L a1 e1)), (30, o, cX (.int .i64 v.epoch) (rp L a2 e2)), (30, o + 4, cX (.int .i64 v.view) (rp L a3 e3)), (30, o + 8, cX (.int .i64 v.slot) (rp L a4 e4)), (121, o + 12, cX (.agg [.seg .u8 32 v.digest]) (rp L a5 e5))] }, names := n0 }
noncomputable def bw7 (L : List UInt8) (a0 e0 a1 e1 a2 e2 a3 e3 a4 e4 a5 e5 : Int) (v : SVote) : Bd := bV_ L a0 e0 a1 e1 a2 e2 a3 e3 a4 e4 a5 e5 17 v
noncomputable def cg1 (L : List UInt8) (a0 e0 a1 e1 a2 e2 a3 e3 a4 e4 a5 e5 : Int) (v : SVote) : Bd := bV_ L a0 e0 a1 e1 a2 e2 a3 e3 a4 e4 a5 e5 21 v
theorem a6_ (m : Nat) (L : List UInt8) (p0' : Int) (e0 : Int) (p : Int) (e : Int) (xs : List UInt8) (w : List Int) :
  e9 zp (bV4 m L p0' e0 p e xs w) [] = (some (.agg [.seg .u8 32 w], [(.o 0, .flat [.ros 1 (List.length L) (bl L) false, .int .i64 p, .int .i64 e])], [T zp 32 [.ptr (.o 0) 0 0 0 0, .int .i64 32] [(.o 0, .flat [.ros 1 (List.length L) (bl L) false, .int .i64 p0', .int .i64 e0])] (.ros 1 m (bl xs) false) [(.o 0, .flat [.ros 1 (List.length L) (bl L) false, .int .i64 p, .int .i64 e])], f9 zp none 1 (cB (cB (cR (cL (cR (cR (cR (f1 (Bd.f (bV4 m L p0' e0 p e xs w)))))))))) (m + 1) (St.mk (mkT 21 [(2, .ptr (.o 1) 0 0 0 0), (3, .ptr (.o 2) 0 0 0 0), (4, .ros 1 m (bl xs) false), (5, .int .i64 0)]) [(.o 0, .flat [.ros 1 (List.length L) (bl L) false, .int .i64 p, .int .i64 e]), (.o 1, .flat [.seg .u8 32 z32]), (.o 2, .flat [.seg .u8 32 z32])] 3 []) (.exit 0) (St.mk (mkT 21 [(2, .ptr (.o 1) 0 0 0 0), (3, .ptr (.o 2) 0 0 0 0), (4, .ros 1 m (bl xs) false), (5, .int .i64 ↑m)]) [(.o 0, .flat [.ros 1 (List.length L) (bl L) false, .int .i64 p, .int .i64 e]), (.o 1, .flat [.seg .u8 32 z32]), (.o 2, .flat [.seg .u8 32 w])] 3 []), q (List.length L), ∀ (k : Nat), k < List.length L → bl L k = bl L k, false = true → false = true, q p, q e, q (32 : Nat), q z32, q (32 : Nat), q z32, q0, q0, q0, q0, q0, q0, q m, ∀ (k : Nat), k < m → bl xs k = bl xs k, false = true → false = true, q1]) : Option (V × c5 × List Prop)) := by kernel_rfl
theorem bJ_ (m : Nat) (L : List UInt8) (p : Int) (e : Int) (xs : List UInt8) (w : List Int) (j : Nat) (w' : List Int) :
  i5 zp (b1_ m L p e xs w j w') [true] = (some (.normal, St.mk (mkT 21 [(2, .ptr (.o 1) 0 0 0 0), (3, .ptr (.o 2) 0 0 0 0), (4, .ros 1 m (bl xs) false), (5, .int .i64 (↑(j + 1) : Int))]) [(.o 0, .flat [.ros 1 (List.length L) (bl L) false, .int .i64 p, .int .i64 e]), (.o 1, .flat [.seg .u8 32 z32]), (.o 2, .flat [.seg .u8 32 w'])] 3 [], [decide ((↑j : Int) < (↑m : Int)) = true, (0 : Int) ≤ (↑j : Int) ∧ (↑j : Int) < (↑m : Int), (0 : Int) ≤ (↑j : Int) ∧ (↑j : Int) < (32 : Int), (0 : Nat) + Int.toNat (↑j : Int) < (32 : Nat), InR .i64 ((↑j : Int) + (1 : Int)), q (List.length L), ∀ (k : Nat), k < List.length L → bl L k = bl L k, false = true → false = true, q p, q e, q (32 : Nat), q z32, q (32 : Nat), List.set w ((0 : Nat) + Int.toNat (↑j : Int)) (↑(UInt8.toNat (List.getD xs (Int.toNat (↑j : Int)) (0 : UInt8))) : Int) = w', q0, q0, q0, q0, q0, q0, q m, ∀ (k : Nat), k < m → bl xs k = bl xs k, false = true → false = true, (↑j : Int) + (1 : Int) = (↑(j + (1 : Nat)) : Int)]) : Option (Exit × St × List Prop)) := by kernel_rfl
theorem bJ9 (m : Nat) (L : List UInt8) (p : Int) (e : Int) (xs : List UInt8) (w : List Int) (j : Nat) (w' : List Int) :
  i5 zp (b1_ m L p e xs w j w') [false] = (some (.exit 0, St.mk (mkT 21 [(2, .ptr (.o 1) 0 0 0 0), (3, .ptr (.o 2) 0 0 0 0), (4, .ros 1 m (bl xs) false), (5, .int .i64 ↑j)]) [(.o 0, .flat [.ros 1 (List.length L) (bl L) false, .int .i64 p, .int .i64 e]), (.o 1, .flat [.seg .u8 32 z32]), (.o 2, .flat [.seg .u8 32 w])] 3 [], [decide ((↑j : Int) < (↑m : Int)) = false, q (List.length L), ∀ (k : Nat), k < List.length L → bl L k = bl L k, false = true → false = true, q p, q e, q (32 : Nat), q z32, q (32 : Nat), q w, q0, q0, q0, q0, q0, q0, q m, ∀ (k : Nat), k < m → bl xs k = bl xs k, false = true → false = true, q (↑j : Int)]) : Option (Exit × St × List Prop)) := by kernel_rfl
theorem a7_ (m : Nat) (L : List UInt8) (p0' : Int) (e0 : Int) (p : Int) (e : Int) (xs : List UInt8) (w : List Int) :
  e9 zp (bV5 m L p0' e0 p e xs w) [] = (some (.agg [.seg .u8 16 w], [(.o 0, .flat [.ros 1 (List.length L) (bl L) false, .int .i64 p, .int .i64 e])], [T zp 32 [.ptr (.o 0) 0 0 0 0, .int .i64 16] [(.o 0, .flat [.ros 1 (List.length L) (bl L) false, .int .i64 p0', .int .i64 e0])] (.ros 1 m (bl xs) false) [(.o 0, .flat [.ros 1 (List.length L) (bl L) false, .int .i64 p, .int .i64 e])], f9 zp none 1 (cB (cB (cR (cL (cR (cR (cR (f1 (Bd.f (bV5 m L p0' e0 p e xs w)))))))))) (m + 1) (St.mk (mkT 21 [(2, .ptr (.o 1) 0 0 0 0), (3, .ptr (.o 2) 0 0 0 0), (4, .ros 1 m (bl xs) false), (5, .int .i64 0)]) [(.o 0, .flat [.ros 1 (List.length L) (bl L) false, .int .i64 p, .int .i64 e]), (.o 1, .flat [.seg .u8 16 z16]), (.o 2, .flat [.seg .u8 16 z16])] 3 []) (.exit 0) (St.mk (mkT 21 [(2, .ptr (.o 1) 0 0 0 0), (3, .ptr (.o 2) 0 0 0 0), (4, .ros 1 m (bl xs) false), (5, .int .i64 ↑m)]) [(.o 0, .flat [.ros 1 (List.length L) (bl L) false, .int .i64 p, .int .i64 e]), (.o 1, .flat [.seg .u8 16 z16]), (.o 2, .flat [.seg .u8 16 w])] 3 []), q (List.length L), ∀ (k : Nat), k < List.length L → bl L k = bl L k, false = true → false = true, q p, q e, q (16 : Nat), q z16, q (16 : Nat), q z16, q0, q0, q0, q0, q0, q0, q m, ∀ (k : Nat), k < m → bl xs k = bl xs k, false = true → false = true, q1]) : Option (V × c5 × List Prop)) := by kernel_rfl
theorem bK1 (m : Nat) (L : List UInt8) (p : Int) (e : Int) (xs : List UInt8) (w : List Int) (j : Nat) (w' : List Int) :
  i5 zp (b2_ m L p e xs w j w') [true] = (some (.normal, St.mk (mkT 21 [(2, .ptr (.o 1) 0 0 0 0), (3, .ptr (.o 2) 0 0 0 0), (4, .ros 1 m (bl xs) false), (5, .int .i64 (↑(j + 1) : Int))]) [(.o 0, .flat [.ros 1 (List.length L) (bl L) false, .int .i64 p, .int .i64 e]), (.o 1, .flat [.seg .u8 16 z16]), (.o 2, .flat [.seg .u8 16 w'])] 3 [], [decide ((↑j : Int) < (↑m : Int)) = true, (0 : Int) ≤ (↑j : Int) ∧ (↑j : Int) < (↑m : Int), (0 : Int) ≤ (↑j : Int) ∧ (↑j : Int) < (16 : Int), (0 : Nat) + Int.toNat (↑j : Int) < (16 : Nat), InR .i64 ((↑j : Int) + (1 : Int)), q (List.length L), ∀ (k : Nat), k < List.length L → bl L k = bl L k, false = true → false = true, q p, q e, q (16 : Nat), q z16, q (16 : Nat), List.set w ((0 : Nat) + Int.toNat (↑j : Int)) (↑(UInt8.toNat (List.getD xs (Int.toNat (↑j : Int)) (0 : UInt8))) : Int) = w', q0, q0, q0, q0, q0, q0, q m, ∀ (k : Nat), k < m → bl xs k = bl xs k, false = true → false = true, (↑j : Int) + (1 : Int) = (↑(j + (1 : Nat)) : Int)]) : Option (Exit × St × List Prop)) := by kernel_rfl
theorem bK0 (m : Nat) (L : List UInt8) (p : Int) (e : Int) (xs : List UInt8) (w : List Int) (j : Nat) (w' : List Int) :
  i5 zp (b2_ m L p e xs w j w') [false] = (some (.exit 0, St.mk (mkT 21 [(2, .ptr (.o 1) 0 0 0 0), (3, .ptr (.o 2) 0 0 0 0), (4, .ros 1 m (bl xs) false), (5, .int .i64 ↑j)]) [(.o 0, .flat [.ros 1 (List.length L) (bl L) false, .int .i64 p, .int .i64 e]), (.o 1, .flat [.seg .u8 16 z16]), (.o 2, .flat [.seg .u8 16 w])] 3 [], [decide ((↑j : Int) < (↑m : Int)) = false, q (List.length L), ∀ (k : Nat), k < List.length L → bl L k = bl L k, false = true → false = true, q p, q e, q (16 : Nat), q z16, q (16 : Nat), q w, q0, q0, q0, q0, q0, q0, q m, ∀ (k : Nat), k < m → bl xs k = bl xs k, false = true → false = true, q (↑j : Int)]) : Option (Exit × St × List Prop)) := by kernel_rfl
theorem bl9 (L : List UInt8) (a0 : Int) (e0 : Int) (a1 : Int) (e1 : Int) (a2 : Int) (e2 : Int) (a3 : Int) (e3 : Int) (a4 : Int) (e4 : Int) (r : SReq) (xs : List UInt8) :
  e9 zp (bw6 L a0 e0 a1 e1 a2 e2 a3 e3 a4 e4 r xs) [false] = (some (.agg (SReq.c r), [(.o 0, .flat [.ros 1 (List.length L) (bl L) false, .int .i64 a4, .int .i64 e4])], [T zp 30 [.ptr (.o 0) 0 0 0 0, .int .i64 8] [(.o 0, .flat [.ros 1 (List.length L) (bl L) false, .int .i64 a0, .int .i64 e0])] (.int .i64 (SReq.client r)) [(.o 0, .flat [.ros 1 (List.length L) (bl L) false, .int .i64 a1, .int .i64 e1])], T zp 30 [.ptr (.o 0) 0 0 0 0, .int .i64 1099511627776] [(.o 0, .flat [.ros 1 (List.length L) (bl L) false, .int .i64 a1, .int .i64 e1])] (.int .i64 (SReq.num r)) [(.o 0, .flat [.ros 1 (List.length L) (bl L) false, .int .i64 a2, .int .i64 e2])], T zp 31 [.ptr (.o 0) 0 0 0 0, .int .i64 64] [(.o 0, .flat [.ros 1 (List.length L) (bl L) false, .int .i64 a2, .int .i64 e2])] (.str (SReq.data r)) [(.o 0, .flat [.ros 1 (List.length L) (bl L) false, .int .i64 a3, .int .i64 e3])], T zp 32 [.ptr (.o 0) 0 0 0 0, .int .i64 16] [(.o 0, .flat [.ros 1 (List.length L) (bl L) false, .int .i64 a3, .int .i64 e3])] (.ros 1 16 (bl xs) false) [(.o 0, .flat [.ros 1 (List.length L) (bl L) false, .int .i64 a4, .int .i64 e4])], (!decide (e4 = (0 : Int))) = false, f9 zp none 1 (cB (cB (cR (cL (cR (cR (cR (cR (cR (cR (cR (f1 (Bd.f (bw6 L a0 e0 a1 e1 a2 e2 a3 e3 a4 e4 r xs)))))))))))))) 17 (St.mk (mkT 35 [(2, .ptr (.o 1) 0 0 0 0), (3, .ptr (.o 2) 0 0 0 0), (4, .ros 1 16 (bl xs) false), (5, .int .i64 0)]) [(.o 0, .flat [.ros 1 (List.length L) (bl L) false, .int .i64 a4, .int .i64 e4]), (.o 1, .flat (SReq.c (SReq.mk (0 : Int) (0 : Int) (baL []) z16))), (.o 2, .flat [.int .i64 (SReq.client r), .int .i64 (SReq.num r), .str (SReq.data r), .seg .u8 16 z16])] 3 []) (.exit 0) (St.mk (mkT 35 [(2, .ptr (.o 1) 0 0 0 0), (3, .ptr (.o 2) 0 0 0 0), (4, .ros 1 16 (bl xs) false), (5, .int .i64 16)]) [(.o 0, .flat [.ros 1 (List.length L) (bl L) false, .int .i64 a4, .int .i64 e4]), (.o 1, .flat (SReq.c (SReq.mk (0 : Int) (0 : Int) (baL []) z16))), (.o 2, .flat (SReq.c r))] 3 []), q (List.length L), ∀ (k : Nat), k < List.length L → bl L k = bl L k, false = true → false = true, q a4, q e4, q1, q1, ByteArray.empty = baL [], q (16 : Nat), q z16, q (SReq.client r), q (SReq.num r), q (SReq.data r), q (16 : Nat), q z16, q0, q0, q0, q0, q0, q0, q (16 : Nat), ∀ (k : Nat), k < (16 : Nat) → bl xs k = bl xs k, false = true → false = true, q1]) : Option (V × c5 × List Prop)) := by kernel_rfl
theorem bl8 (L : List UInt8) (a0 : Int) (e0 : Int) (a1 : Int) (e1 : Int) (a2 : Int) (e2 : Int) (a3 : Int) (e3 : Int) (a4 : Int) (e4 : Int) (r : SReq) (xs : List UInt8) :
  e9 zp (cf9 L a0 e0 a1 e1 a2 e2 a3 e3 a4 e4 r xs) [true] = (some (.agg [.int .i64 0, .int .i64 0, .str ByteArray.empty, .seg .u8 16 z16], [(.o 0, .flat [.ros 1 (List.length L) (bl L) false, .int .i64 a4, .int .i64 e4])], [T zp 30 [.ptr (.o 0) 0 0 0 0, .int .i64 8] [(.o 0, .flat [.ros 1 (List.length L) (bl L) false, .int .i64 a0, .int .i64 e0])] (.int .i64 (SReq.client r)) [(.o 0, .flat [.ros 1 (List.length L) (bl L) false, .int .i64 a1, .int .i64 e1])], T zp 30 [.ptr (.o 0) 0 0 0 0, .int .i64 1099511627776] [(.o 0, .flat [.ros 1 (List.length L) (bl L) false, .int .i64 a1, .int .i64 e1])] (.int .i64 (SReq.num r)) [(.o 0, .flat [.ros 1 (List.length L) (bl L) false, .int .i64 a2, .int .i64 e2])], T zp 31 [.ptr (.o 0) 0 0 0 0, .int .i64 64] [(.o 0, .flat [.ros 1 (List.length L) (bl L) false, .int .i64 a2, .int .i64 e2])] (.str (SReq.data r)) [(.o 0, .flat [.ros 1 (List.length L) (bl L) false, .int .i64 a3, .int .i64 e3])], T zp 32 [.ptr (.o 0) 0 0 0 0, .int .i64 16] [(.o 0, .flat [.ros 1 (List.length L) (bl L) false, .int .i64 a3, .int .i64 e3])] (.ros 1 (List.length xs) (bl xs) false) [(.o 0, .flat [.ros 1 (List.length L) (bl L) false, .int .i64 a4, .int .i64 e4])], (!decide (e4 = (0 : Int))) = true]) : Option (V × c5 × List Prop)) := by kernel_rfl
theorem bK5 (L : List UInt8) (p : Int) (e : Int) (r : SReq) (xs : List UInt8) (w : List Int) (j : Nat) (w' : List Int) :
  i5 zp (b3_ L p e r xs w j w') [true] = (some (.normal, St.mk (mkT 35 [(2, .ptr (.o 1) 0 0 0 0), (3, .ptr (.o 2) 0 0 0 0), (4, .ros 1 16 (bl xs) false), (5, .int .i64 (↑(j + 1) : Int))]) [(.o 0, .flat [.ros 1 (List.length L) (bl L) false, .int .i64 p, .int .i64 e]), (.o 1, .flat (SReq.c (SReq.mk (0 : Int) (0 : Int) (baL []) z16))), (.o 2, .flat [.int .i64 (SReq.client r), .int .i64 (SReq.num r), .str (SReq.data r), .seg .u8 16 w'])] 3 [], [decide ((↑j : Int) < (16 : Int)) = true, (0 : Int) ≤ (↑j : Int) ∧ (↑j : Int) < (16 : Int), (0 : Int) ≤ (↑j : Int) ∧ (↑j : Int) < (16 : Int), (0 : Nat) + Int.toNat (↑j : Int) < (16 : Nat), InR .i64 ((↑j : Int) + (1 : Int)), q (List.length L), ∀ (k : Nat), k < List.length L → bl L k = bl L k, false = true → false = true, q p, q e, q1, q1, q (baL []), q (16 : Nat), q z16, q (SReq.client r), q (SReq.num r), q (SReq.data r), q (16 : Nat), List.set w ((0 : Nat) + Int.toNat (↑j : Int)) (↑(UInt8.toNat (List.getD xs (Int.toNat (↑j : Int)) (0 : UInt8))) : Int) = w', q0, q0, q0, q0, q0, q0, q (16 : Nat), ∀ (k : Nat), k < (16 : Nat) → bl xs k = bl xs k, false = true → false = true, (↑j : Int) + (1 : Int) = (↑(j + (1 : Nat)) : Int)]) : Option (Exit × St × List Prop)) := by kernel_rfl
theorem bK4 (L : List UInt8) (p : Int) (e : Int) (r : SReq) (xs : List UInt8) (w : List Int) (j : Nat) (w' : List Int) :
  i5 zp (b3_ L p e r xs w j w') [false] = (some (.exit 0, St.mk (mkT 35 [(2, .ptr (.o 1) 0 0 0 0), (3, .ptr (.o 2) 0 0 0 0), (4, .ros 1 16 (bl xs) false), (5, .int .i64 ↑j)]) [(.o 0, .flat [.ros 1 (List.length L) (bl L) false, .int .i64 p, .int .i64 e]), (.o 1, .flat (SReq.c (SReq.mk (0 : Int) (0 : Int) (baL []) z16))), (.o 2, .flat [.int .i64 (SReq.client r), .int .i64 (SReq.num r), .str (SReq.data r), .seg .u8 16 w])] 3 [], [decide ((↑j : Int) < (16 : Int)) = false, q (List.length L), ∀ (k : Nat), k < List.length L → bl L k = bl L k, false = true → false = true, q p, q e, q1, q1, q (baL []), q (16 : Nat), q z16, q (SReq.client r), q (SReq.num r), q (SReq.data r), q (16 : Nat), q w, q0, q0, q0, q0, q0, q0, q (16 : Nat), ∀ (k : Nat), k < (16 : Nat) → bl xs k = bl xs k, false = true → false = true, q (↑j : Int)]) : Option (Exit × St × List Prop)) := by kernel_rfl
theorem a9_ (L : List UInt8) (a0 : Int) (e0 : Int) (a1 : Int) (e1 : Int) (a2 : Int) (e2 : Int) (a3 : Int) (e3 : Int) (a4 : Int) (e4 : Int) (a5 : Int) (e5 : Int) (v : SVote) :
  e9 zp (bw7 L a0 e0 a1 e1 a2 e2 a3 e3 a4 e4 a5 e5 v) [true, false] = (some (.agg (SVote.c v), [(.o 0, .flat [.ros 1 (List.length L) (bl L) false, .int .i64 a5, .int .i64 e5])], [T zp 30 [.ptr (.o 0) 0 0 0 0, .int .i64 2] [(.o 0, .flat [.ros 1 (List.length L) (bl L) false, .int .i64 a0, .int .i64 e0])] (.int .i64 (SVote.kind v)) [(.o 0, .flat [.ros 1 (List.length L) (bl L) false, .int .i64 a1, .int .i64 e1])], decide (e1 = (0 : Int)) = true, decide (SVote.kind v = (0 : Int)) = false, T zp 30 [.ptr (.o 0) 0 0 0 0, .int .i64 1048576] [(.o 0, .flat [.ros 1 (List.length L) (bl L) false, .int .i64 a1, .int .i64 e1])] (.int .i64 (SVote.epoch v)) [(.o 0, .flat [.ros 1 (List.length L) (bl L) false, .int .i64 a2, .int .i64 e2])], T zp 30 [.ptr (.o 0) 0 0 0 0, .int .i64 1099511627776] [(.o 0, .flat [.ros 1 (List.length L) (bl L) false, .int .i64 a2, .int .i64 e2])] (.int .i64 (SVote.view v)) [(.o 0, .flat [.ros 1 (List.length L) (bl L) false, .int .i64 a3, .int .i64 e3])], T zp 30 [.ptr (.o 0) 0 0 0 0, .int .i64 1099511627776] [(.o 0, .flat [.ros 1 (List.length L) (bl L) false, .int .i64 a3, .int .i64 e3])] (.int .i64 (SVote.slot v)) [(.o 0, .flat [.ros 1 (List.length L) (bl L) false, .int .i64 a4, .int .i64 e4])], T zp 121 [.ptr (.o 0) 0 0 0 0] [(.o 0, .flat [.ros 1 (List.length L) (bl L) false, .int .i64 a4, .int .i64 e4])] (.agg [.seg .u8 32 (SVote.digest v)]) [(.o 0, .flat [.ros 1 (List.length L) (bl L) false, .int .i64 a5, .int .i64 e5])]]) : Option (V × c5 × List Prop)) := by kernel_rfl
theorem av0 (L : List UInt8) (a0 : Int) (e0 : Int) (a1 : Int) (e1 : Int) (a2 : Int) (e2 : Int) (a3 : Int) (e3 : Int) (a4 : Int) (e4 : Int) (a5 : Int) (e5 : Int) (v : SVote) :
  e9 zp (bw7 L a0 e0 a1 e1 a2 e2 a3 e3 a4 e4 a5 e5 v) [false, false] = (some (.agg (SVote.c v), [(.o 0, .flat [.ros 1 (List.length L) (bl L) false, .int .i64 a5, .int .i64 e5])], [T zp 30 [.ptr (.o 0) 0 0 0 0, .int .i64 2] [(.o 0, .flat [.ros 1 (List.length L) (bl L) false, .int .i64 a0, .int .i64 e0])] (.int .i64 (SVote.kind v)) [(.o 0, .flat [.ros 1 (List.length L) (bl L) false, .int .i64 a1, .int .i64 e1])], decide (e1 = (0 : Int)) = false, q false, T zp 30 [.ptr (.o 0) 0 0 0 0, .int .i64 1048576] [(.o 0, .flat [.ros 1 (List.length L) (bl L) false, .int .i64 a1, .int .i64 e1])] (.int .i64 (SVote.epoch v)) [(.o 0, .flat [.ros 1 (List.length L) (bl L) false, .int .i64 a2, .int .i64 e2])], T zp 30 [.ptr (.o 0) 0 0 0 0, .int .i64 1099511627776] [(.o 0, .flat [.ros 1 (List.length L) (bl L) false, .int .i64 a2, .int .i64 e2])] (.int .i64 (SVote.view v)) [(.o 0, .flat [.ros 1 (List.length L) (bl L) false, .int .i64 a3, .int .i64 e3])], T zp 30 [.ptr (.o 0) 0 0 0 0, .int .i64 1099511627776] [(.o 0, .flat [.ros 1 (List.length L) (bl L) false, .int .i64 a3, .int .i64 e3])] (.int .i64 (SVote.slot v)) [(.o 0, .flat [.ros 1 (List.length L) (bl L) false, .int .i64 a4, .int .i64 e4])], T zp 121 [.ptr (.o 0) 0 0 0 0] [(.o 0, .flat [.ros 1 (List.length L) (bl L) false, .int .i64 a4, .int .i64 e4])] (.agg [.seg .u8 32 (SVote.digest v)]) [(.o 0, .flat [.ros 1 (List.length L) (bl L) false, .int .i64 a5, .int .i64 e5])]]) : Option (V × c5 × List Prop)) := by kernel_rfl
theorem a_0 (L : List UInt8) (a0 : Int) (e0 : Int) (a1 : Int) (e1 : Int) (a2 : Int) (e2 : Int) (a3 : Int) (e3 : Int) (a4 : Int) (e4 : Int) (a5 : Int) (e5 : Int) (v : SVote) :
  e9 zp (cg1 L a0 e0 a1 e1 a2 e2 a3 e3 a4 e4 a5 e5 v) [true, true] = (some (.agg (SVote.c v), [(.o 0, .flat [.ros 1 (List.length L) (bl L) false, .int .i64 a5, .int .i64 e5])], [T zp 30 [.ptr (.o 0) 0 0 0 0, .int .i64 2] [(.o 0, .flat [.ros 1 (List.length L) (bl L) false, .int .i64 a0, .int .i64 e0])] (.int .i64 (SVote.kind v)) [(.o 0, .flat [.ros 1 (List.length L) (bl L) false, .int .i64 a1, .int .i64 e1])], decide (e1 = (0 : Int)) = true, decide (SVote.kind v = (0 : Int)) = true, T zp 30 [.ptr (.o 0) 0 0 0 0, .int .i64 1048576] [(.o 0, .flat [.ros 1 (List.length L) (bl L) false, .int .i64 a1, .int .i64 130])] (.int .i64 (SVote.epoch v)) [(.o 0, .flat [.ros 1 (List.length L) (bl L) false, .int .i64 a2, .int .i64 e2])], T zp 30 [.ptr (.o 0) 0 0 0 0, .int .i64 1099511627776] [(.o 0, .flat [.ros 1 (List.length L) (bl L) false, .int .i64 a2, .int .i64 e2])] (.int .i64 (SVote.view v)) [(.o 0, .flat [.ros 1 (List.length L) (bl L) false, .int .i64 a3, .int .i64 e3])], T zp 30 [.ptr (.o 0) 0 0 0 0, .int .i64 1099511627776] [(.o 0, .flat [.ros 1 (List.length L) (bl L) false, .int .i64 a3, .int .i64 e3])] (.int .i64 (SVote.slot v)) [(.o 0, .flat [.ros 1 (List.length L) (bl L) false, .int .i64 a4, .int .i64 e4])], T zp 121 [.ptr (.o 0) 0 0 0 0] [(.o 0, .flat [.ros 1 (List.length L) (bl L) false, .int .i64 a4, .int .i64 e4])] (.agg [.seg .u8 32 (SVote.digest v)]) [(.o 0, .flat [.ros 1 (List.length L) (bl L) false, .int .i64 a5, .int .i64 e5])]]) : Option (V × c5 × List Prop)) := by kernel_rfl
theorem aa4 (n : Nat) (d : List Int) (j : Nat) : (arJ n d j).length = n := by simp [arJ]
theorem ak0 (n : Nat) (d : List Int) : arJ n d 0 = List.replicate n 0 := by simp [arJ, List.map_const']
theorem ar8 {n : Nat} (d : List Int) (j : Nat) {i : Nat} (h : i < n) : (arJ n d j)[i]? = some (if i < j then d.getD i 0 else 0) := by
 rw [arJ, List.getElem?_map, List.getElem?_range h]; rfl
theorem ar7 {n : Nat} {d : List Int} (h : d.length = n) : arJ n d n = d := by
 apply List.ext_getElem?
 intro i
 by_cases hi : i < n
 ·rw [ar8 d n hi, if_pos hi, List.getD_eq_getElem?_getD, List.getElem?_eq_getElem (by omega)]; rfl
 ·rw [List.getElem?_eq_none (by rw [aa4]; omega), List.getElem?_eq_none (by omega)]
theorem ar9 {n : Nat} (d : List Int) {j : Nat} (h : j < n) : (arJ n d j).set j (d.getD j 0) = arJ n d (j + 1) := by
 apply List.ext_getElem?
 intro i
 rw [List.getElem?_set]
 by_cases hi : i < n
 ·rw [ar8 d j hi, ar8 d (j + 1) hi]
  by_cases h1 : j = i
  ·subst h1
   rw [if_pos rfl, if_pos (by rw [aa4]; exact h), if_pos (Nat.lt_succ_self j)]
  ·rw [if_neg h1]
   by_cases h2 : i < j
   ·rw [if_pos h2, if_pos (by omega)]
   ·rw [if_neg h2, if_neg (by omega)]
 ·rw [List.getElem?_eq_none (l := arJ n d j) (by rw [aa4]; omega), List.getElem?_eq_none (l := arJ n d (j + 1)) (by rw [aa4]; omega), aa4]
  by_cases h1 : j = i
  ·subst h1; rw [if_pos rfl, if_neg (by omega)]
  ·rw [if_neg h1]
theorem bL6 {L : List UInt8} {p e : Int} {xs : List UInt8} {m : Nat} (hm : xs.length = m) (h : m = 32 ∨ m = 0) : f9 Tryz.prog none 1 (cB (cB (cR (cL (cR (cR (cR (f1 Tryz.f121)))))))) (m + 1) (DgS 21 32 m L p e z32 xs z32 0) (.exit 0) (DgS 21 32 m L p e z32 xs (if m = 32 then A1 xs else z32) m) := by
 have e0 : z32 = arJ 32 (uI xs) 0 := (ak0 32 (uI xs)).symm
 have e1 : (if m = 32 then A1 xs else z32) = arJ 32 (uI xs) m := by
  rcases h with h | h
  ·rw [if_pos h, h, ar7 (by rw [L4]; omega)]; rfl
  ·rw [if_neg (by omega), h]; exact e0
 rw [e1]
 have hstep : ∀ j, j < m → R Tryz.prog none 1 (cB (cB (cR (cL (cR (cR (cR (f1 Tryz.f121)))))))) (DgS 21 32 m L p e z32 xs (arJ 32 (uI xs) j) j) .normal (DgS 21 32 m L p e z32 xs (arJ 32 (uI xs) (j + 1)) (j + 1)) := by
  intro j hj
  have e := ar9 (n := 32) (uI xs) (j := j) (by omega)
  rw [ah1] at e
  generalize arJ 32 (uI xs) j = w at *
  generalize arJ 32 (uI xs) (j + 1) = w' at *
  refine f4 NG MO _ (bJ_ m L p _ xs w j w') ?_ (show 1 ≤ 3 by decide)
  simp only [All, Int.toNat_natCast, Nat.zero_add]; and_intros
  all_goals first | exact True.intro | exact e | (rw [decide_eq_true_eq]; omega) | (intro _ _; exact True.intro) | (simp only [IntKind.min, IntKind.max, IntKind.signed, IntKind.bits, if_true]; omega) | omega | (intro h; exact h)
 have hend : R Tryz.prog none 1 (cB (cB (cR (cL (cR (cR (cR (f1 Tryz.f121)))))))) (DgS 21 32 m L p e z32 xs (arJ 32 (uI xs) m) m) (.exit 0) (DgS 21 32 m L p e z32 xs (arJ 32 (uI xs) m) m) := by
  generalize arJ 32 (uI xs) m = w at *
  refine f4 NG MO _ (bJ9 m L p e xs w m []) ?_ (show 1 ≤ 3 by decide)
  simp only [All]; and_intros
  all_goals first | exact True.intro | (rw [decide_eq_false_iff_not]; omega) | (intro _ _; exact True.intro) | (intro h; exact h)
 have h0 := f9.inv (fun j => DgS 21 32 m L p e z32 xs (arJ 32 (uI xs) j) j) m hstep hend (by simp)
 rw [← e0] at h0
 exact h0
theorem bP3 {L : List UInt8} {s : RS} {p : Int} (h : XOk L s p) (hL : L.length ≤ 1000000000) : ∃ p', XOk L (F6 s).2 p' ∧ T Tryz.prog 121 [p0] [(.o 0, rpB L s p)] (.agg [.seg .u8 32 (F6 s).1]) [(.o 0, rpB L (F6 s).2 p')] := by
 obtain ⟨p', x1, hW⟩ := aN0 (n := 32) h hL
 have e2 : (F6 s).2 = (j1 32 s).2 := rfl
 refine ⟨p', x1, ?_⟩
 by_cases he : (j1 32 s).2.e = 0
 ·have hn : (j1 32 s).1.length = 32 := U8 (n := 32) he
  have e : (F6 s).1 = A1 (j1 32 s).1 := by simp [F6, Z3, he]
  have hl := bL6 (L := L) (p := p') (e := eV (j1 32 s).2) hn (.inl rfl)
  rw [roB, hn] at hW
  rw [e2, e]
  rw [if_pos rfl] at hl
  generalize j1 32 s = r at *
  refine f3 (a6_ 32 L p (eV s) p' (eV r.2) r.1 (A1 r.1)) Tryz.func121 ?_
  simp only [All]; and_intros
  all_goals first | exact True.intro | exact hW | exact hl | (intro _ _; exact True.intro) | (intro h; exact h)
 ·have hn : (j1 32 s).1 = [] := W5 (n := 32) he
  have e : (F6 s).1 = z32 := by simp [F6, Z3, he]
  have hl := bL6 (L := L) (p := p') (e := eV (j1 32 s).2) (xs := []) rfl (.inr rfl)
  rw [hn] at hW
  rw [e2, e]
  rw [if_neg (by decide)] at hl
  generalize j1 32 s = r at *
  refine f3 (a6_ 0 L p (eV s) p' (eV r.2) [] z32) Tryz.func121 ?_
  simp only [All]; and_intros
  all_goals first | exact True.intro | exact hW | exact hl | (intro _ _; exact True.intro) | (intro h; exact h)
theorem bL7 {L : List UInt8} {p e : Int} {xs : List UInt8} {m : Nat} (hm : xs.length = m) (h : m = 16 ∨ m = 0) : f9 Tryz.prog none 1 (cB (cB (cR (cL (cR (cR (cR (f1 Tryz.f142)))))))) (m + 1) (DgS 21 16 m L p e z16 xs z16 0) (.exit 0) (DgS 21 16 m L p e z16 xs (if m = 16 then A1 xs else z16) m) := by
 have e0 : z16 = arJ 16 (uI xs) 0 := (ak0 16 (uI xs)).symm
 have e1 : (if m = 16 then A1 xs else z16) = arJ 16 (uI xs) m := by
  rcases h with h | h
  ·rw [if_pos h, h, ar7 (by rw [L4]; omega)]; rfl
  ·rw [if_neg (by omega), h]; exact e0
 rw [e1]
 have hstep : ∀ j, j < m → R Tryz.prog none 1 (cB (cB (cR (cL (cR (cR (cR (f1 Tryz.f142)))))))) (DgS 21 16 m L p e z16 xs (arJ 16 (uI xs) j) j) .normal (DgS 21 16 m L p e z16 xs (arJ 16 (uI xs) (j + 1)) (j + 1)) := by
  intro j hj
  have e := ar9 (n := 16) (uI xs) (j := j) (by omega)
  rw [ah1] at e
  generalize arJ 16 (uI xs) j = w at *
  generalize arJ 16 (uI xs) (j + 1) = w' at *
  refine f4 NG MO _ (bK1 m L p _ xs w j w') ?_ (show 1 ≤ 3 by decide)
  simp only [All, Int.toNat_natCast, Nat.zero_add]; and_intros
  all_goals first | exact True.intro | exact e | (rw [decide_eq_true_eq]; omega) | (intro _ _; exact True.intro) | (simp only [IntKind.min, IntKind.max, IntKind.signed, IntKind.bits, if_true]; omega) | omega | (intro h; exact h)
 have hend : R Tryz.prog none 1 (cB (cB (cR (cL (cR (cR (cR (f1 Tryz.f142)))))))) (DgS 21 16 m L p e z16 xs (arJ 16 (uI xs) m) m) (.exit 0) (DgS 21 16 m L p e z16 xs (arJ 16 (uI xs) m) m) := by
  generalize arJ 16 (uI xs) m = w at *
  refine f4 NG MO _ (bK0 m L p e xs w m []) ?_ (show 1 ≤ 3 by decide)
  simp only [All]; and_intros
  all_goals first | exact True.intro | (rw [decide_eq_false_iff_not]; omega) | (intro _ _; exact True.intro) | (intro h; exact h)
 have h0 := f9.inv (fun j => DgS 21 16 m L p e z16 xs (arJ 16 (uI xs) j) j) m hstep hend (by simp)
 rw [← e0] at h0
 exact h0
theorem bP4 {L : List UInt8} {s : RS} {p : Int} (h : XOk L s p) (hL : L.length ≤ 1000000000) : ∃ p', XOk L (H6 s).2 p' ∧ T Tryz.prog 142 [p0] [(.o 0, rpB L s p)] (.agg [.seg .u8 16 (H6 s).1]) [(.o 0, rpB L (H6 s).2 p')] := by
 obtain ⟨p', x1, hW⟩ := aN0 (n := 16) h hL
 have e2 : (H6 s).2 = (j1 16 s).2 := rfl
 refine ⟨p', x1, ?_⟩
 by_cases he : (j1 16 s).2.e = 0
 ·have hn : (j1 16 s).1.length = 16 := U8 (n := 16) he
  have e : (H6 s).1 = A1 (j1 16 s).1 := by simp [H6, Z3, he]
  have hl := bL7 (L := L) (p := p') (e := eV (j1 16 s).2) hn (.inl rfl)
  rw [roB, hn] at hW
  rw [e2, e]
  rw [if_pos rfl] at hl
  generalize j1 16 s = r at *
  refine f3 (a7_ 16 L p (eV s) p' (eV r.2) r.1 (A1 r.1)) Tryz.func142 ?_
  simp only [All]; and_intros
  all_goals first | exact True.intro | exact hW | exact hl | (intro _ _; exact True.intro) | (intro h; exact h)
 ·have hn : (j1 16 s).1 = [] := W5 (n := 16) he
  have e : (H6 s).1 = z16 := by simp [H6, Z3, he]
  have hl := bL7 (L := L) (p := p') (e := eV (j1 16 s).2) (xs := []) rfl (.inr rfl)
  rw [hn] at hW
  rw [e2, e]
  rw [if_neg (by decide)] at hl
  generalize j1 16 s = r at *
  refine f3 (a7_ 0 L p (eV s) p' (eV r.2) [] z16) Tryz.func142 ?_
  simp only [All]; and_intros
  all_goals first | exact True.intro | exact hW | exact hl | (intro _ _; exact True.intro) | (intro h; exact h)
theorem L_xq {L : List UInt8} {p e : Int} {r : SReq} {xs : List UInt8} (hm : xs.length = 16) (ht : r.tag = A1 xs) : f9 Tryz.prog none 1 (cB (cB (cR (cL (cR (cR (cR (cR (cR (cR (cR (f1 Tryz.f141)))))))))))) 17 (RqS L p e r xs z16 0) (.exit 0) (RqS L p e r xs r.tag 16) := by
 have e0 : z16 = arJ 16 (uI xs) 0 := (ak0 16 (uI xs)).symm
 have e1 : r.tag = arJ 16 (uI xs) 16 := by rw [ht, ar7 (by rw [L4]; omega)]; rfl
 have hstep : ∀ j, j < 16 → R Tryz.prog none 1 (cB (cB (cR (cL (cR (cR (cR (cR (cR (cR (cR (f1 Tryz.f141)))))))))))) (RqS L p e r xs (arJ 16 (uI xs) j) j) .normal (RqS L p e r xs (arJ 16 (uI xs) (j + 1)) (j + 1)) := by
  intro j hj
  have e := ar9 (n := 16) (uI xs) (j := j) (by omega)
  rw [ah1] at e
  generalize arJ 16 (uI xs) j = w at *
  generalize arJ 16 (uI xs) (j + 1) = w' at *
  refine f4 NG MO _ (bK5 L p _ r xs w j w') ?_ (show 1 ≤ 3 by decide)
  simp only [All, Int.toNat_natCast, Nat.zero_add]; and_intros
  all_goals first | exact True.intro | exact e | (with_reducible assumption) | (rw [decide_eq_true_eq]; omega) | (intro _ _; exact True.intro) | (simp only [IntKind.min, IntKind.max, IntKind.signed, IntKind.bits, if_true]; omega) | omega | (intro h; exact h)
 have hend : R Tryz.prog none 1 (cB (cB (cR (cL (cR (cR (cR (cR (cR (cR (cR (f1 Tryz.f141)))))))))))) (RqS L p e r xs (arJ 16 (uI xs) 16) 16) (.exit 0) (RqS L p e r xs (arJ 16 (uI xs) 16) 16) := by
  generalize arJ 16 (uI xs) 16 = w at *
  refine f4 NG MO _ (bK4 L p e r xs w 16 []) ?_ (show 1 ≤ 3 by decide)
  simp only [All]; and_intros
  all_goals first | exact True.intro | (rw [decide_eq_false_iff_not]; omega) | (intro _ _; exact True.intro) | (intro h; exact h)
 have h0 := f9.inv (fun j => RqS L p e r xs (arJ 16 (uI xs) j) j) 16 hstep hend (by simp)
 rw [← e0, ← e1] at h0
 exact h0
theorem T_xq {L : List UInt8} {s : RS} {p : Int} (h : XOk L s p) (hL : L.length ≤ 1000000000) : ∃ p', XOk L (i3 s).2 p' ∧ T Tryz.prog 141 [p0] [(.o 0, rpB L s p)] (.agg (i3 s).1.c) [(.o 0, rpB L (i3 s).2 p')] := by
 obtain ⟨p1, x1, h1⟩ := B2 (most := 8) h hL
 obtain ⟨p2, x2, h2⟩ := B2 (s := Q6 s) (most := 1099511627776) x1 hL
 obtain ⟨p3, x3, h3⟩ := aM_ (s := Q7 s) (most := 64) x2 hL
 obtain ⟨p4, x4, h4⟩ := aN0 (s := F5 s) (n := 16) x3 hL
 have e4 : eV (H4 s) = 0 ↔ (H4 s).e = 0 := G4 x4.1
 refine ⟨p4, x4, ?_⟩
 by_cases he : (H4 s).e = 0
 ·have hn : (j1 16 (F5 s)).1.length = 16 := U8 (n := 16) he
  have e : i3 s = (au5 s, H4 s) := by rw [i3, if_pos he]
  have hl := L_xq (L := L) (p := p4) (e := eV (H4 s)) (r := au5 s) hn rfl
  rw [roB, hn] at h4
  rw [e]
  refine f3 (bl9 L p (eV s) p1 (eV (Q6 s)) p2 (eV (Q7 s)) p3 (eV (F5 s)) p4 (eV (H4 s)) (au5 s) (j1 16 (F5 s)).1) Tryz.func141 ?_
  simp only [All]; and_intros
  all_goals first | exact True.intro | exact h1 | exact h2 | exact h3 | exact h4 | exact hl | (simp [e4.2 he]; done) | (show ByteArray.empty = baL []; rfl)
 ·have e : i3 s = (K8, H4 s) := by rw [i3, if_neg he]
  rw [e]
  refine T.val (f3 (bl8 L p (eV s) p1 (eV (Q6 s)) p2 (eV (Q7 s)) p3 (eV (F5 s)) p4 (eV (H4 s)) (au5 s) (j1 16 (F5 s)).1) Tryz.func141 ?_) rfl
  simp only [All]; and_intros
  all_goals first | exact True.intro | exact h1 | exact h2 | exact h3 | exact h4 | (simp [mt e4.1 he]; done)
theorem bP6 {L : List UInt8} {s : RS} {p : Int} (h : XOk L s p) (hL : L.length ≤ 1000000000) : ∃ p', XOk L (u6 s).2 p' ∧ T Tryz.prog 118 [p0] [(.o 0, rpB L s p)] (.agg (u6 s).1.c) [(.o 0, rpB L (u6 s).2 p')] := by
 obtain ⟨p1, x1, h1⟩ := B2 (most := 2) h hL
 have e1 : eV (c6 2 s).2 = 0 ↔ (c6 2 s).2.e = 0 := G4 x1.1
 have x1' : XOk L (s7 s) p1 := by
  unfold s7
  split
  ·exact XOk.bad (by show (2 : Int) ≠ 0; decide)
  ·exact x1
 obtain ⟨p2, x2, h2⟩ := B2 (s := s7 s) (most := 1048576) x1' hL
 obtain ⟨p3, x3, h3⟩ := B2 (s := J9 s) (most := 1099511627776) x2 hL
 obtain ⟨p4, x4, h4⟩ := B2 (s := K0 s) (most := 1099511627776) x3 hL
 obtain ⟨p5, x5, h5⟩ := bP3 (s := E7 s) x4 hL
 refine ⟨p5, x5, ?_⟩
 by_cases hk : (c6 2 s).1 = 0
 ·by_cases he : (c6 2 s).2.e = 0
  ·have e0 : s7 s = (c6 2 s).2.spoil := by simp [s7, hk, he]
   have e3 : eV (s7 s) = 130 := by rw [e0]; rfl
   rw [rpB, e3] at h2
   refine f3 (a_0 L p (eV s) p1 (eV (c6 2 s).2) p2 (eV (J9 s)) p3 (eV (K0 s)) p4 (eV (E7 s)) p5 (eV (u6 s).2) (u6 s).1) Tryz.func118 ?_
   simp only [All]; and_intros
   all_goals first | exact True.intro | exact h1 | exact h2 | exact h3 | exact h4 | exact h5 | (simp [e1.2 he]; done) | exact decide_eq_true hk
  ·have e0 : s7 s = (c6 2 s).2 := by simp [s7, he]
   have hf : decide (eV (s7 s) = 0) = false := by rw [e0]; exact decide_eq_false (mt e1.1 he)
   rw [← e0] at h1
   refine f3 (av0 L p (eV s) p1 (eV (s7 s)) p2 (eV (J9 s)) p3 (eV (K0 s)) p4 (eV (E7 s)) p5 (eV (u6 s).2) (u6 s).1) Tryz.func118 ?_
   simp only [All]; and_intros
   all_goals first | exact True.intro | exact h1 | exact h2 | exact h3 | exact h4 | exact h5 | exact hf
 ·have e0 : s7 s = (c6 2 s).2 := by simp [s7, hk]
  by_cases he : (c6 2 s).2.e = 0
  ·have hf : decide (eV (s7 s) = 0) = true := by rw [e0]; exact decide_eq_true (e1.2 he)
   rw [← e0] at h1
   refine f3 (a9_ L p (eV s) p1 (eV (s7 s)) p2 (eV (J9 s)) p3 (eV (K0 s)) p4 (eV (E7 s)) p5 (eV (u6 s).2) (u6 s).1) Tryz.func118 ?_
   simp only [All]; and_intros
   all_goals first | exact True.intro | exact h1 | exact h2 | exact h3 | exact h4 | exact h5 | exact hf | exact decide_eq_false hk
  ·have hf : decide (eV (s7 s) = 0) = false := by rw [e0]; exact decide_eq_false (mt e1.1 he)
   rw [← e0] at h1
   refine f3 (av0 L p (eV s) p1 (eV (s7 s)) p2 (eV (J9 s)) p3 (eV (K0 s)) p4 (eV (E7 s)) p5 (eV (u6 s).2) (u6 s).1) Tryz.func118 ?_
   simp only [All]; and_intros
   all_goals first | exact True.intro | exact h1 | exact h2 | exact h3 | exact h4 | exact h5 | exact hf
def GsS (L : List UInt8) (n : Nat) (el : Nat → SSign) (pf ef : Nat → Int) (k : Nat) : St := ⟨mkT 31 [(0, p0), (3, .int .i64 n), (4, .sl (.o 1) 17 0 0 0 k none), (5, .int .i64 (k : Nat))], [(.o 0, rp L (pf k) (ef k)), (.o 1, .rows 17 k (fun i => (el i).c) true)], 2, []⟩
def bX0 (m : Nat) (s0 s1 : St) : Nat → St → List (Prop × Hint) := fun _ t => match m6 t.tmps 4 with
 | .sl a _ _ _ _ _ _ => [(True, .loop (m + 1) (w6 [(.o 1, a)] s0) (.exit 0) s1)]
 | _ => []
def fxV (id t es : Nat) : Nat → St → List Hint := fun i _ => bif Nat.beq i id then [.virt t es] else []
noncomputable def bR_ (L : List UInt8) (a0 e0 : Int) (n m : Nat) (el : Nat → SSign) (pf ef : Nat → Int) : Bd := { f := Tryz.f123, args := [p0], pre := [(.o 0, rp L a0 e0)], base := 1, kb := { db := dbF [(30, cX (.int .i64 n) (rp L (pf 0) (ef 0)))], lp := bX0 m (GsS L n el pf ef 0) (GsS L n el pf ef m), fx := fxV 3 4 17 }, names := n0, k := kX (rp L (pf m) (ef m)) [(2, sg m el)] }
def kX1 (s0 s1 : St) : Exit → St → Option W := fun e t => match e with
 | .normal => match m6 t.tmps 4 with
  | .sl a _ _ _ _ _ _ => some (w6 [(.o 1, a)] s1)
  | _ => none
 | _ => some (wTo s0)
noncomputable def bq3 (L : List UInt8) (n : Nat) (el : Nat → SSign) (pf ef : Nat → Int) (a1 e1 : Int) (k : Nat) : Pc := { c := cB (cB (cR (cL (cR (cR (cR (f1 Tryz.f123))))))), st := GsS L n el pf ef k, p := 1, kb := { db := dbF [(30, cX (.int .i64 (el k).node) (rp L a1 e1)), (142, cX (.agg [.seg .u8 16 (el k).tag]) (rp L (pf (k + 1)) (ef (k + 1))))] }, k := kX1 (GsS L n el pf ef k) (GsS L n el pf ef (k + 1)) }
def GnS (L : List UInt8) (n : Nat) (el : Nat → SEnv) (pf ef : Nat → Int) (k : Nat) : St := ⟨mkT 35 [(0, p0), (3, .int .i64 n), (4, .sl (.o 1) 18 0 0 0 k none), (5, .int .i64 (k : Nat))], [(.o 0, rp L (pf k) (ef k)), (.o 1, .rows 18 k (fun i => (el i).c) true)], 2, []⟩
noncomputable def bR8 (L : List UInt8) (a0 e0 : Int) (n m : Nat) (el : Nat → SEnv) (pf ef : Nat → Int) : Bd := { f := Tryz.f120, args := [p0], pre := [(.o 0, rp L a0 e0)], base := 1, kb := { db := dbF [(30, cX (.int .i64 n) (rp L (pf 0) (ef 0)))], lp := bX0 m (GnS L n el pf ef 0) (GnS L n el pf ef m), fx := fxV 3 4 18 }, names := n0, k := kX (rp L (pf m) (ef m)) [(2, nw m el)] }
noncomputable def bp_ (L : List UInt8) (n : Nat) (el : Nat → SEnv) (pf ef : Nat → Int) (a1 e1 a2 e2 : Int) (k : Nat) : Pc := { c := cB (cB (cR (cL (cR (cR (cR (f1 Tryz.f120))))))), st := GnS L n el pf ef k, p := 1, kb := { db := dbF [(30, cX (.int .i64 (el k).src) (rp L a1 e1)), (31, cX (.str (el k).body) (rp L a2 e2)), (142, cX (.agg [.seg .u8 16 (el k).tag]) (rp L (pf (k + 1)) (ef (k + 1))))] }, k := kX1 (GnS L n el pf ef k) (GnS L n el pf ef (k + 1)) }
noncomputable def bdGc (L : List UInt8) (a0 e0 a1 e1 a2 e2 : Int) (c : SCert) : Bd := { f := Tryz.f122, args := [p0], pre := [(.o 0, rp L a0 e0)], base := 1, kb := { db := dbF [(118, cX (.agg c.vote.c) (rp L a1 e1)), (123, cX (sg c.n c.sig) (rp L a2 e2))] }, names := n0 }
theorem bS0 (L : List UInt8) (a0 : Int) (e0 : Int) (n : Nat) (m : Nat) (el : Nat → SSign) (pf : Nat → Int) (ef : Nat → Int) :
  e9 zp (bR_ L a0 e0 n m el pf ef) [] = (some (.ros 17 m (fun i => SSign.c (el i)) false, [(.o 0, .flat [.ros 1 (List.length L) (bl L) false, .int .i64 (pf m), .int .i64 (ef m)])], [T zp 30 [.ptr (.o 0) 0 0 0 0, .int .i64 64] [(.o 0, .flat [.ros 1 (List.length L) (bl L) false, .int .i64 a0, .int .i64 e0])] (.int .i64 ↑n) [(.o 0, .flat [.ros 1 (List.length L) (bl L) false, .int .i64 (pf 0), .int .i64 (ef 0)])], f9 zp none 1 (cB (cB (cR (cL (cR (cR (cR (f1 (Bd.f (bR_ L a0 e0 n m el pf ef)))))))))) (m + 1) (St.mk (mkT 31 [(0, .ptr (.o 0) 0 0 0 0), (3, .int .i64 ↑n), (4, .sl (.o 1) 17 0 0 0 0 none), (5, .int .i64 0)]) [(.o 0, .flat [.ros 1 (List.length L) (bl L) false, .int .i64 (pf 0), .int .i64 (ef 0)]), (.o 1, .rows 17 0 (fun i => SSign.c (el i)) true)] 2 []) (.exit 0) (St.mk (mkT 31 [(0, .ptr (.o 0) 0 0 0 0), (3, .int .i64 ↑n), (4, .sl (.o 1) 17 0 0 0 m none), (5, .int .i64 ↑m)]) [(.o 0, .flat [.ros 1 (List.length L) (bl L) false, .int .i64 (pf m), .int .i64 (ef m)]), (.o 1, .rows 17 m (fun i => SSign.c (el i)) true)] 2 []), q (List.length L), ∀ (k : Nat), k < List.length L → bl L k = bl L k, false = true → false = true, q (pf (0 : Nat)), q (ef (0 : Nat)), q0, ∀ (k : Nat), k < (0 : Nat) → [] = SSign.c (el k), true = false → true = false, q0, q0, q0, q (↑n : Int), q0, q0, q0, q0, (none : Option Nat) = none ∨ (none : Option Nat) = none, q1, q (List.length L), ∀ (k : Nat), k < List.length L → bl L k = bl L k, false = true → false = true, q (pf m), q (ef m), q m, (0 : Nat) + m ≤ m, ∀ (k : Nat), k < m → SSign.c (el ((0 : Nat) + k)) = SSign.c (el k), false = true → none = some m]) : Option (V × c5 × List Prop)) := by kernel_rfl
theorem bq6 (L : List UInt8) (n : Nat) (el : Nat → SSign) (pf : Nat → Int) (ef : Nat → Int) (a1 : Int) (e1 : Int) (k : Nat) :
  i5 zp (bq3 L n el pf ef a1 e1 k) [true, true] = (some (.normal, St.mk (mkT 31 [(0, .ptr (.o 0) 0 0 0 0), (3, .int .i64 ↑n), (4, .sl (.o 1) 17 0 0 0 (k + 1) none), (5, .int .i64 (↑(k + 1) : Int))]) [(.o 0, .flat [.ros 1 (List.length L) (bl L) false, .int .i64 (pf (k + 1)), .int .i64 (ef (k + 1))]), (.o 1, .rows 17 (k + 1) (fun i => SSign.c (el i)) true)] 2 [], [decide ((↑k : Int) < (↑n : Int)) = true, decide (ef k = (0 : Int)) = true, T zp 30 [.ptr (.o 0) 0 0 0 0, .int .i64 64] [(.o 0, .flat [.ros 1 (List.length L) (bl L) false, .int .i64 (pf k), .int .i64 (ef k)])] (.int .i64 (SSign.node (el k))) [(.o 0, .flat [.ros 1 (List.length L) (bl L) false, .int .i64 a1, .int .i64 e1])], T zp 142 [.ptr (.o 0) 0 0 0 0] [(.o 0, .flat [.ros 1 (List.length L) (bl L) false, .int .i64 a1, .int .i64 e1])] (.agg [.seg .u8 16 (SSign.tag (el k))]) [(.o 0, .flat [.ros 1 (List.length L) (bl L) false, .int .i64 (pf (k + 1)), .int .i64 (ef (k + 1))])], q k, 1 ≤ (1 : Nat), ∀ (k_1 : Nat), k_1 < (1 : Nat) → m8 (j3 [(SSign.c (el k))] ((0 : Nat) + k_1)) = true, (k + (1 : Nat)) * (24 : Nat) ≤ (140737488355328 : Nat), InR .i64 ((↑k : Int) + (1 : Int)), q (List.length L), ∀ (k : Nat), k < List.length L → bl L k = bl L k, false = true → false = true, q (pf (k + (1 : Nat))), q (ef (k + (1 : Nat))), q (k + (1 : Nat)), ∀ (k_1 : Nat), k_1 < k + (1 : Nat) → m5 k (fun i => SSign.c (el i)) (fun k_2 => j3 [(SSign.c (el k))] ((0 : Nat) + k_2)) k_1 = SSign.c (el k_1), true = false → true = false, q0, q0, q0, q (↑n : Int), q0, q0, q0, q (k + (1 : Nat)), (none : Option Nat) = none ∨ (none : Option Nat) = none, (↑k : Int) + (1 : Int) = (↑(k + (1 : Nat)) : Int)]) : Option (Exit × St × List Prop)) := by kernel_rfl
theorem bq5 (L : List UInt8) (n : Nat) (el : Nat → SSign) (pf : Nat → Int) (ef : Nat → Int) (a1 : Int) (e1 : Int) (k : Nat) :
  i5 zp (bq3 L n el pf ef a1 e1 k) [true, false] = (some (.exit 0, St.mk (mkT 31 [(0, .ptr (.o 0) 0 0 0 0), (3, .int .i64 ↑n), (4, .sl (.o 1) 17 0 0 0 k none), (5, .int .i64 ↑k)]) [(.o 0, .flat [.ros 1 (List.length L) (bl L) false, .int .i64 (pf k), .int .i64 (ef k)]), (.o 1, .rows 17 k (fun i => SSign.c (el i)) true)] 2 [], [decide ((↑k : Int) < (↑n : Int)) = true, decide (ef k = (0 : Int)) = false, q (List.length L), ∀ (k : Nat), k < List.length L → bl L k = bl L k, false = true → false = true, q (pf k), q (ef k), q k, ∀ (k_1 : Nat), k_1 < k → SSign.c (el k_1) = SSign.c (el k_1), true = false → true = false, q0, q0, q0, q (↑n : Int), q0, q0, q0, q k, (none : Option Nat) = none ∨ (none : Option Nat) = none, q (↑k : Int)]) : Option (Exit × St × List Prop)) := by kernel_rfl
theorem bq4 (L : List UInt8) (n : Nat) (el : Nat → SSign) (pf : Nat → Int) (ef : Nat → Int) (a1 : Int) (e1 : Int) (k : Nat) :
  i5 zp (bq3 L n el pf ef a1 e1 k) [false, false] = (some (.exit 0, St.mk (mkT 31 [(0, .ptr (.o 0) 0 0 0 0), (3, .int .i64 ↑n), (4, .sl (.o 1) 17 0 0 0 k none), (5, .int .i64 ↑k)]) [(.o 0, .flat [.ros 1 (List.length L) (bl L) false, .int .i64 (pf k), .int .i64 (ef k)]), (.o 1, .rows 17 k (fun i => SSign.c (el i)) true)] 2 [], [decide ((↑k : Int) < (↑n : Int)) = false, q false, q (List.length L), ∀ (k : Nat), k < List.length L → bl L k = bl L k, false = true → false = true, q (pf k), q (ef k), q k, ∀ (k_1 : Nat), k_1 < k → SSign.c (el k_1) = SSign.c (el k_1), true = false → true = false, q0, q0, q0, q (↑n : Int), q0, q0, q0, q k, (none : Option Nat) = none ∨ (none : Option Nat) = none, q (↑k : Int)]) : Option (Exit × St × List Prop)) := by kernel_rfl
theorem bR9 (L : List UInt8) (a0 : Int) (e0 : Int) (n : Nat) (m : Nat) (el : Nat → SEnv) (pf : Nat → Int) (ef : Nat → Int) :
  e9 zp (bR8 L a0 e0 n m el pf ef) [] = (some (.ros 18 m (fun i => SEnv.c (el i)) false, [(.o 0, .flat [.ros 1 (List.length L) (bl L) false, .int .i64 (pf m), .int .i64 (ef m)])], [T zp 30 [.ptr (.o 0) 0 0 0 0, .int .i64 64] [(.o 0, .flat [.ros 1 (List.length L) (bl L) false, .int .i64 a0, .int .i64 e0])] (.int .i64 ↑n) [(.o 0, .flat [.ros 1 (List.length L) (bl L) false, .int .i64 (pf 0), .int .i64 (ef 0)])], f9 zp none 1 (cB (cB (cR (cL (cR (cR (cR (f1 (Bd.f (bR8 L a0 e0 n m el pf ef)))))))))) (m + 1) (St.mk (mkT 35 [(0, .ptr (.o 0) 0 0 0 0), (3, .int .i64 ↑n), (4, .sl (.o 1) 18 0 0 0 0 none), (5, .int .i64 0)]) [(.o 0, .flat [.ros 1 (List.length L) (bl L) false, .int .i64 (pf 0), .int .i64 (ef 0)]), (.o 1, .rows 18 0 (fun i => SEnv.c (el i)) true)] 2 []) (.exit 0) (St.mk (mkT 35 [(0, .ptr (.o 0) 0 0 0 0), (3, .int .i64 ↑n), (4, .sl (.o 1) 18 0 0 0 m none), (5, .int .i64 ↑m)]) [(.o 0, .flat [.ros 1 (List.length L) (bl L) false, .int .i64 (pf m), .int .i64 (ef m)]), (.o 1, .rows 18 m (fun i => SEnv.c (el i)) true)] 2 []), q (List.length L), ∀ (k : Nat), k < List.length L → bl L k = bl L k, false = true → false = true, q (pf (0 : Nat)), q (ef (0 : Nat)), q0, ∀ (k : Nat), k < (0 : Nat) → [] = SEnv.c (el k), true = false → true = false, q0, q0, q0, q (↑n : Int), q0, q0, q0, q0, (none : Option Nat) = none ∨ (none : Option Nat) = none, q1, q (List.length L), ∀ (k : Nat), k < List.length L → bl L k = bl L k, false = true → false = true, q (pf m), q (ef m), q m, (0 : Nat) + m ≤ m, ∀ (k : Nat), k < m → SEnv.c (el ((0 : Nat) + k)) = SEnv.c (el k), false = true → none = some m]) : Option (V × c5 × List Prop)) := by kernel_rfl
theorem bq2 (L : List UInt8) (n : Nat) (el : Nat → SEnv) (pf : Nat → Int) (ef : Nat → Int) (a1 : Int) (e1 : Int) (a2 : Int) (e2 : Int) (k : Nat) :
  i5 zp (bp_ L n el pf ef a1 e1 a2 e2 k) [true, true] = (some (.normal, St.mk (mkT 35 [(0, .ptr (.o 0) 0 0 0 0), (3, .int .i64 ↑n), (4, .sl (.o 1) 18 0 0 0 (k + 1) none), (5, .int .i64 (↑(k + 1) : Int))]) [(.o 0, .flat [.ros 1 (List.length L) (bl L) false, .int .i64 (pf (k + 1)), .int .i64 (ef (k + 1))]), (.o 1, .rows 18 (k + 1) (fun i => SEnv.c (el i)) true)] 2 [], [decide ((↑k : Int) < (↑n : Int)) = true, decide (ef k = (0 : Int)) = true, T zp 30 [.ptr (.o 0) 0 0 0 0, .int .i64 64] [(.o 0, .flat [.ros 1 (List.length L) (bl L) false, .int .i64 (pf k), .int .i64 (ef k)])] (.int .i64 (SEnv.src (el k))) [(.o 0, .flat [.ros 1 (List.length L) (bl L) false, .int .i64 a1, .int .i64 e1])], T zp 31 [.ptr (.o 0) 0 0 0 0, .int .i64 4194304] [(.o 0, .flat [.ros 1 (List.length L) (bl L) false, .int .i64 a1, .int .i64 e1])] (.str (SEnv.body (el k))) [(.o 0, .flat [.ros 1 (List.length L) (bl L) false, .int .i64 a2, .int .i64 e2])], T zp 142 [.ptr (.o 0) 0 0 0 0] [(.o 0, .flat [.ros 1 (List.length L) (bl L) false, .int .i64 a2, .int .i64 e2])] (.agg [.seg .u8 16 (SEnv.tag (el k))]) [(.o 0, .flat [.ros 1 (List.length L) (bl L) false, .int .i64 (pf (k + 1)), .int .i64 (ef (k + 1))])], q k, 1 ≤ (1 : Nat), ∀ (k_1 : Nat), k_1 < (1 : Nat) → m8 (j3 [(SEnv.c (el k))] ((0 : Nat) + k_1)) = true, (k + (1 : Nat)) * (40 : Nat) ≤ (140737488355328 : Nat), InR .i64 ((↑k : Int) + (1 : Int)), q (List.length L), ∀ (k : Nat), k < List.length L → bl L k = bl L k, false = true → false = true, q (pf (k + (1 : Nat))), q (ef (k + (1 : Nat))), q (k + (1 : Nat)), ∀ (k_1 : Nat), k_1 < k + (1 : Nat) → m5 k (fun i => SEnv.c (el i)) (fun k_2 => j3 [(SEnv.c (el k))] ((0 : Nat) + k_2)) k_1 = SEnv.c (el k_1), true = false → true = false, q0, q0, q0, q (↑n : Int), q0, q0, q0, q (k + (1 : Nat)), (none : Option Nat) = none ∨ (none : Option Nat) = none, (↑k : Int) + (1 : Int) = (↑(k + (1 : Nat)) : Int)]) : Option (Exit × St × List Prop)) := by kernel_rfl
theorem bq1 (L : List UInt8) (n : Nat) (el : Nat → SEnv) (pf : Nat → Int) (ef : Nat → Int) (a1 : Int) (e1 : Int) (a2 : Int) (e2 : Int) (k : Nat) :
  i5 zp (bp_ L n el pf ef a1 e1 a2 e2 k) [true, false] = (some (.exit 0, St.mk (mkT 35 [(0, .ptr (.o 0) 0 0 0 0), (3, .int .i64 ↑n), (4, .sl (.o 1) 18 0 0 0 k none), (5, .int .i64 ↑k)]) [(.o 0, .flat [.ros 1 (List.length L) (bl L) false, .int .i64 (pf k), .int .i64 (ef k)]), (.o 1, .rows 18 k (fun i => SEnv.c (el i)) true)] 2 [], [decide ((↑k : Int) < (↑n : Int)) = true, decide (ef k = (0 : Int)) = false, q (List.length L), ∀ (k : Nat), k < List.length L → bl L k = bl L k, false = true → false = true, q (pf k), q (ef k), q k, ∀ (k_1 : Nat), k_1 < k → SEnv.c (el k_1) = SEnv.c (el k_1), true = false → true = false, q0, q0, q0, q (↑n : Int), q0, q0, q0, q k, (none : Option Nat) = none ∨ (none : Option Nat) = none, q (↑k : Int)]) : Option (Exit × St × List Prop)) := by kernel_rfl
theorem bq0 (L : List UInt8) (n : Nat) (el : Nat → SEnv) (pf : Nat → Int) (ef : Nat → Int) (a1 : Int) (e1 : Int) (a2 : Int) (e2 : Int) (k : Nat) :
  i5 zp (bp_ L n el pf ef a1 e1 a2 e2 k) [false, false] = (some (.exit 0, St.mk (mkT 35 [(0, .ptr (.o 0) 0 0 0 0), (3, .int .i64 ↑n), (4, .sl (.o 1) 18 0 0 0 k none), (5, .int .i64 ↑k)]) [(.o 0, .flat [.ros 1 (List.length L) (bl L) false, .int .i64 (pf k), .int .i64 (ef k)]), (.o 1, .rows 18 k (fun i => SEnv.c (el i)) true)] 2 [], [decide ((↑k : Int) < (↑n : Int)) = false, q false, q (List.length L), ∀ (k : Nat), k < List.length L → bl L k = bl L k, false = true → false = true, q (pf k), q (ef k), q k, ∀ (k_1 : Nat), k_1 < k → SEnv.c (el k_1) = SEnv.c (el k_1), true = false → true = false, q0, q0, q0, q (↑n : Int), q0, q0, q0, q k, (none : Option Nat) = none ∨ (none : Option Nat) = none, q (↑k : Int)]) : Option (Exit × St × List Prop)) := by kernel_rfl
theorem bR7 (L : List UInt8) (a0 : Int) (e0 : Int) (a1 : Int) (e1 : Int) (a2 : Int) (e2 : Int) (c : SCert) :
  e9 zp (bdGc L a0 e0 a1 e1 a2 e2 c) [] = (some (.agg [.int .i64 (SVote.kind (SCert.vote c)), .int .i64 (SVote.epoch (SCert.vote c)), .int .i64 (SVote.view (SCert.vote c)), .int .i64 (SVote.slot (SCert.vote c)), .seg .u8 32 (SVote.digest (SCert.vote c)), .ros 17 (SCert.n c) (fun i => SSign.c (SCert.sig c i)) false], [(.o 0, .flat [.ros 1 (List.length L) (bl L) false, .int .i64 a2, .int .i64 e2])], [T zp 118 [.ptr (.o 0) 0 0 0 0] [(.o 0, .flat [.ros 1 (List.length L) (bl L) false, .int .i64 a0, .int .i64 e0])] (.agg (SVote.c (SCert.vote c))) [(.o 0, .flat [.ros 1 (List.length L) (bl L) false, .int .i64 a1, .int .i64 e1])], T zp 123 [.ptr (.o 0) 0 0 0 0] [(.o 0, .flat [.ros 1 (List.length L) (bl L) false, .int .i64 a1, .int .i64 e1])] (sg (SCert.n c) (SCert.sig c)) [(.o 0, .flat [.ros 1 (List.length L) (bl L) false, .int .i64 a2, .int .i64 e2])]]) : Option (V × c5 × List Prop)) := by kernel_rfl
theorem aU3 {Q : Nat → Int → Prop} {S : Nat → Int → Int → Prop} {p : Int} (h0 : Q 0 p) (step : ∀ k x, Q k x → ∃ y, Q (k + 1) y ∧ S k x y) : ∃ f : Nat → Int, f 0 = p ∧ (∀ k, Q k (f k)) ∧ ∀ k, S k (f k) (f (k + 1)) := by
 let F : (k : Nat) → { x : Int // Q k x } := fun k => Nat.rec (motive := fun k => { x : Int // Q k x }) ⟨p, h0⟩ (fun k v => ⟨Classical.choose (step k v.1 v.2), (Classical.choose_spec (step k v.1 v.2)).1⟩) k
 exact ⟨fun k => (F k).1, rfl, fun k => (F k).2, fun k => (Classical.choose_spec (step k (F k).1 (F k).2)).2⟩
theorem bM9 {L : List UInt8} {s : RS} {p : Int} (h : XOk L s p) (hL : L.length ≤ 1000000000) : ∃ p', XOk L (S4 l8 64 s) p' ∧ T Tryz.prog 123 [p0] [(.o 0, rpB L s p)] (sg (n8 l8 64 s) (q9 l8 64 s)) [(.o 0, rpB L (S4 l8 64 s) p')] := by
 have hr := v9 (m := 64) (by decide) s
 have hn := at_ hr.1
 obtain ⟨p1, x1, hT⟩ := B2 (most := 64) h hL
 obtain ⟨pf, f0, hQ, hS⟩ := aU3 (Q := fun k x => XOk L (stR l8 (c6 64 s).2 k) x) (S := fun k x y => ∃ m1, T Tryz.prog 30 [p0, .int .i64 64] [(.o 0, rpB L (stR l8 (c6 64 s).2 k) x)] (.int .i64 (q9 l8 64 s k).node) [(.o 0, rpB L (c6 64 (stR l8 (c6 64 s).2 k)).2 m1)] ∧ T Tryz.prog 142 [p0] [(.o 0, rpB L (c6 64 (stR l8 (c6 64 s).2 k)).2 m1)] (.agg [.seg .u8 16 (q9 l8 64 s k).tag]) [(.o 0, rpB L (stR l8 (c6 64 s).2 (k + 1)) y)]) (p := p1) x1 (fun k x hx => by
   obtain ⟨m1, y1, g1⟩ := B2 (most := 64) hx hL
   obtain ⟨y, y2, g2⟩ := bP4 y1 hL
   exact ⟨y, y2, m1, g1, g2⟩
 )
 rw [← hn, ← f0] at hT
 have hmn : n8 l8 64 s ≤ (c6 64 s).1.toNat := N0 _ _ _
 have hz : ∀ k, k < n8 l8 64 s → eV (stR l8 (c6 64 s).2 k) = 0 := fun k hk => (G4 (hQ k).1).2 (O9 _ _ _ k hk)
 have hend : n8 l8 64 s = (c6 64 s).1.toNat ∨ (stR l8 (c6 64 s).2 (n8 l8 64 s)).e ≠ 0 := M0 _ _ _
 refine ⟨pf (n8 l8 64 s), hQ _, ?_⟩
 have hLo : f9 Tryz.prog none 1 (cB (cB (cR (cL (cR (cR (cR (f1 Tryz.f123)))))))) (n8 l8 64 s + 1) (GsS L (c6 64 s).1.toNat (q9 l8 64 s) pf (fun k => eV (stR l8 (c6 64 s).2 k)) 0) (.exit 0) (GsS L (c6 64 s).1.toNat (q9 l8 64 s) pf (fun k => eV (stR l8 (c6 64 s).2 k)) (n8 l8 64 s)) := by
  refine f9.inv (GsS L (c6 64 s).1.toNat (q9 l8 64 s) pf (fun k => eV (stR l8 (c6 64 s).2 k))) (n8 l8 64 s) (fun k hk => ?_) ?_ (by simp)
  ·have hzk := hz k hk
   obtain ⟨m1, g1, g2⟩ := hS k
   refine f4 NG MO _ (bq6 L (c6 64 s).1.toNat (q9 l8 64 s) pf (fun k => eV (stR l8 (c6 64 s).2 k)) m1 (eV (c6 64 (stR l8 (c6 64 s).2 k)).2) k) ?_ (show 1 ≤ 2 by decide)
   simp only [All, Int.toNat_natCast]; and_intros
   all_goals first | exact True.intro | exact g1 | exact g2 | exact O8 | (simp [hzk]; done) | (intro j hj; rw [show j = 0 by omega]; rfl) | (rw [decide_eq_true_eq]; omega) | (simp only [IntKind.min, IntKind.max, IntKind.signed, IntKind.bits, if_true]; omega) | omega
  ·by_cases he : n8 l8 64 s = (c6 64 s).1.toNat
   ·generalize n8 l8 64 s = m at *
    refine f4 NG MO _ (bq4 L (c6 64 s).1.toNat (q9 l8 64 s) pf (fun k => eV (stR l8 (c6 64 s).2 k)) 0 0 m) ?_ (show 1 ≤ 2 by decide)
    simp only [All, Int.toNat_natCast]; and_intros
    all_goals first | exact True.intro | (rw [decide_eq_false_iff_not]; omega) | (intro _ _; exact True.intro) | (intro h; exact h) | exact .inl True.intro
   ·have h0 := mt (G4 (hQ (n8 l8 64 s)).1).1 (hend.resolve_left he)
    generalize n8 l8 64 s = m at *
    refine f4 NG MO _ (bq5 L (c6 64 s).1.toNat (q9 l8 64 s) pf (fun k => eV (stR l8 (c6 64 s).2 k)) 0 0 m) ?_ (show 1 ≤ 2 by decide)
    simp only [All, Int.toNat_natCast]; and_intros
    all_goals first | exact True.intro | (simp [h0]; done) | (rw [decide_eq_true_eq]; omega)
 refine f3 (bS0 L p (eV s) (c6 64 s).1.toNat (n8 l8 64 s) (q9 l8 64 s) pf (fun k => eV (stR l8 (c6 64 s).2 k))) Tryz.func123 ?_
 simp only [All, Int.toNat_natCast]; and_intros
 all_goals first | exact True.intro | exact hT | exact hLo | (intro j hj; exact absurd hj (Nat.not_lt_zero j)) | (intro _ _; exact True.intro) | omega | (intro h; exact h) | (intro h; cases h; done) | exact .inl True.intro | (simp; done)
theorem T_gn {L : List UInt8} {s : RS} {p : Int} (h : XOk L s p) (hL : L.length ≤ 1000000000) : ∃ p', XOk L (S4 n4 64 s) p' ∧ T Tryz.prog 120 [p0] [(.o 0, rpB L s p)] (nw (n8 n4 64 s) (q9 n4 64 s)) [(.o 0, rpB L (S4 n4 64 s) p')] := by
 have hr := v9 (m := 64) (by decide) s
 have hn := at_ hr.1
 obtain ⟨p1, x1, hT⟩ := B2 (most := 64) h hL
 obtain ⟨pf, f0, hQ, hS⟩ := aU3 (Q := fun k x => XOk L (stR n4 (c6 64 s).2 k) x) (S := fun k x y => ∃ m1 m2, T Tryz.prog 30 [p0, .int .i64 64] [(.o 0, rpB L (stR n4 (c6 64 s).2 k) x)] (.int .i64 (q9 n4 64 s k).src) [(.o 0, rpB L (X8 (stR n4 (c6 64 s).2 k)) m1)] ∧ T Tryz.prog 31 [p0, .int .i64 4194304] [(.o 0, rpB L (X8 (stR n4 (c6 64 s).2 k)) m1)] (.str (q9 n4 64 s k).body) [(.o 0, rpB L (T3 (stR n4 (c6 64 s).2 k)) m2)] ∧ T Tryz.prog 142 [p0] [(.o 0, rpB L (T3 (stR n4 (c6 64 s).2 k)) m2)] (.agg [.seg .u8 16 (q9 n4 64 s k).tag]) [(.o 0, rpB L (stR n4 (c6 64 s).2 (k + 1)) y)]) (p := p1) x1 (fun k x hx => by
   obtain ⟨m1, y1, g1⟩ := B2 (most := 64) hx hL
   obtain ⟨m2, y2, g2⟩ := aM_ (s := X8 (stR n4 (c6 64 s).2 k)) (most := 4194304) y1 hL
   obtain ⟨y, y3, g3⟩ := bP4 (s := T3 (stR n4 (c6 64 s).2 k)) y2 hL
   exact ⟨y, y3, m1, m2, g1, g2, g3⟩
 )
 rw [← hn, ← f0] at hT
 have hmn : n8 n4 64 s ≤ (c6 64 s).1.toNat := N0 _ _ _
 have hz : ∀ k, k < n8 n4 64 s → eV (stR n4 (c6 64 s).2 k) = 0 := fun k hk => (G4 (hQ k).1).2 (O9 _ _ _ k hk)
 have hend : n8 n4 64 s = (c6 64 s).1.toNat ∨ (stR n4 (c6 64 s).2 (n8 n4 64 s)).e ≠ 0 := M0 _ _ _
 refine ⟨pf (n8 n4 64 s), hQ _, ?_⟩
 have hLo : f9 Tryz.prog none 1 (cB (cB (cR (cL (cR (cR (cR (f1 Tryz.f120)))))))) (n8 n4 64 s + 1) (GnS L (c6 64 s).1.toNat (q9 n4 64 s) pf (fun k => eV (stR n4 (c6 64 s).2 k)) 0) (.exit 0) (GnS L (c6 64 s).1.toNat (q9 n4 64 s) pf (fun k => eV (stR n4 (c6 64 s).2 k)) (n8 n4 64 s)) := by
  refine f9.inv (GnS L (c6 64 s).1.toNat (q9 n4 64 s) pf (fun k => eV (stR n4 (c6 64 s).2 k))) (n8 n4 64 s) (fun k hk => ?_) ?_ (by simp)
  ·have hzk := hz k hk
   obtain ⟨m1, m2, g1, g2, g3⟩ := hS k
   refine f4 NG MO _ (bq2 L (c6 64 s).1.toNat (q9 n4 64 s) pf (fun k => eV (stR n4 (c6 64 s).2 k)) m1 (eV (X8 (stR n4 (c6 64 s).2 k))) m2 (eV (T3 (stR n4 (c6 64 s).2 k))) k) ?_ (show 1 ≤ 2 by decide)
   simp only [All, Int.toNat_natCast]; and_intros
   all_goals first | exact True.intro | exact g1 | exact g2 | exact g3 | exact O8 | (simp [hzk]; done) | (intro j hj; rw [show j = 0 by omega]; rfl) | (rw [decide_eq_true_eq]; omega) | (simp only [IntKind.min, IntKind.max, IntKind.signed, IntKind.bits, if_true]; omega) | omega
  ·by_cases he : n8 n4 64 s = (c6 64 s).1.toNat
   ·generalize n8 n4 64 s = m at *
    refine f4 NG MO _ (bq0 L (c6 64 s).1.toNat (q9 n4 64 s) pf (fun k => eV (stR n4 (c6 64 s).2 k)) 0 0 0 0 m) ?_ (show 1 ≤ 2 by decide)
    simp only [All, Int.toNat_natCast]; and_intros
    all_goals first | exact True.intro | (rw [decide_eq_false_iff_not]; omega) | (intro _ _; exact True.intro) | (intro h; exact h) | exact .inl True.intro
   ·have h0 := mt (G4 (hQ (n8 n4 64 s)).1).1 (hend.resolve_left he)
    generalize n8 n4 64 s = m at *
    refine f4 NG MO _ (bq1 L (c6 64 s).1.toNat (q9 n4 64 s) pf (fun k => eV (stR n4 (c6 64 s).2 k)) 0 0 0 0 m) ?_ (show 1 ≤ 2 by decide)
    simp only [All, Int.toNat_natCast]; and_intros
    all_goals first | exact True.intro | (simp [h0]; done) | (rw [decide_eq_true_eq]; omega)
 refine f3 (bR9 L p (eV s) (c6 64 s).1.toNat (n8 n4 64 s) (q9 n4 64 s) pf (fun k => eV (stR n4 (c6 64 s).2 k))) Tryz.func120 ?_
 simp only [All, Int.toNat_natCast]; and_intros
 all_goals first | exact True.intro | exact hT | exact hLo | (intro j hj; exact absurd hj (Nat.not_lt_zero j)) | (intro _ _; exact True.intro) | omega | (intro h; exact h) | (intro h; cases h; done) | exact .inl True.intro | (simp; done)
theorem bM6 {L : List UInt8} {s : RS} {p : Int} (h : XOk L s p) (hL : L.length ≤ 1000000000) : ∃ p', XOk L (F2 s).2 p' ∧ T Tryz.prog 122 [p0] [(.o 0, rpB L s p)] (.agg (F2 s).1.c) [(.o 0, rpB L (F2 s).2 p')] := by
 obtain ⟨p1, x1, h1⟩ := bP6 h hL
 obtain ⟨p2, x2, h2⟩ := bM9 x1 hL
 refine ⟨p2, x2, ?_⟩
 refine f3 (bR7 L p (eV s) p1 (eV (u6 s).2) p2 (eV (F2 s).2) (F2 s).1) Tryz.func122 ?_
 simp only [All]; and_intros
 all_goals first | exact True.intro | exact h1 | exact h2
def BtZ (L : List UInt8) (n : Nat) (pf ef : Nat → Int) : St := ⟨mkT 36 [(0, p0), (2, .ptr (.o 1) 0 0 0 0), (3, .int .i64 n), (4, .ptr (.o 2) 0 0 0 0), (5, .int .i64 1)], [(.o 0, rp L (pf 0) (ef 0)), (.o 1, .flat [.bool false, .snil]), (.o 2, .flat [.bool false, .snil])], 4, []⟩
def BtP (L : List UInt8) (n : Nat) (el : Nat → SReq) (pf ef : Nat → Int) (k : Nat) : St := ⟨mkT 36 [(0, p0), (2, .ptr (.o 1) 0 0 0 0), (3, .int .i64 n), (4, .ptr (.o 2) 0 0 0 0), (5, .int .i64 (k + 2 : Nat))], [(.o 0, rp L (pf (k + 1)) (ef (k + 1))), (.o 1, .flat [.bool false, .snil]), (.o 2, .flat [.bool false, .sl (.o 3) 19 0 0 0 (k + 1) none]), (.o 3, .rows 19 (k + 1) (fun i => (el i).c) true)], 4, []⟩
def lpB (m : Nat) (s0 s1 : St) : Nat → St → List (Prop × Hint) := fun _ t => match m6 t.tmps 4 with
 | .ptr b _ _ _ _ => [(True, .loop (m + 1) (w6 [(.o 2, b)] s0) (.exit 0) s1)]
 | _ => []
noncomputable def bl1 (L : List UInt8) (a0 e0 : Int) (n : Int) (pf ef : Nat → Int) (m : Nat) (s0 s1 : St) (r : SBatch) (k : Nat) : Bd := { f := Tryz.f117, args := [p0], pre := [(.o 0, rp L a0 e0)], base := 1, kb := { db := dbF [(30, cX (.int .i64 n) (rp L (pf 0) (ef 0)))], lp := lpB m s0 s1 }, names := n0, k := ap9 r.c [(.o 0, rp L (pf k) (ef k))] }
noncomputable def bw3 (L : List UInt8) (a0 e0 : Int) (n : Int) (pf ef : Nat → Int) (r : SBatch) : Bd := bl1 L a0 e0 n pf ef 0 ⟨[], [], 0, []⟩ ⟨[], [], 0, []⟩ r 0
noncomputable def bw4 (L : List UInt8) (a0 e0 : Int) (n : Nat) (pf ef : Nat → Int) (r : SBatch) : Bd := bl1 L a0 e0 n pf ef 0 (BtZ L n pf ef) (BtZ L n pf ef) r 0
noncomputable def az4 (L : List UInt8) (a0 e0 : Int) (n : Nat) (el : Nat → SReq) (pf ef : Nat → Int) (m : Nat) (r : SBatch) : Bd := bl1 L a0 e0 n pf ef (m + 1) (BtZ L n pf ef) (BtP L n el pf ef m) r (m + 1)
def kB2 (s0 s1 : St) : Exit → St → Option W := fun e t => match e with
 | .normal => match A4 (.o 2) t.heap with
  | some (.flat [_, .sl a _ _ _ _ _ _], _) => some (w6 [(.o 3, a)] s1)
  | _ => none
 | _ => some (wTo s0)
noncomputable def b0_ (L : List UInt8) (el : Nat → SReq) (pf ef : Nat → Int) (s0 s1 : St) (k : Nat) : Pc := { c := cB (cB (cR (cL (cR (cR (cR (cR (cR (f1 Tryz.f117))))))))), st := s0, p := 1, kb := { db := dbF [(141, cX (.agg (el k).c) (rp L (pf (k + 1)) (ef (k + 1))))] }, k := kB2 s0 s1 }
noncomputable def bx8 (L : List UInt8) (n : Nat) (el : Nat → SReq) (pf ef : Nat → Int) : Pc := b0_ L el pf ef (BtZ L n pf ef) (BtP L n el pf ef 0) 0
noncomputable def bx7 (L : List UInt8) (n : Nat) (el : Nat → SReq) (pf ef : Nat → Int) (k : Nat) : Pc := b0_ L el pf ef (BtP L n el pf ef k) (BtP L n el pf ef (k + 1)) (k + 1)
def BtI (L : List UInt8) (n : Nat) (el : Nat → SReq) (pf ef : Nat → Int) : Nat → St
 | 0 => BtZ L n pf ef
 | k + 1 => BtP L n el pf ef k
theorem bl2 (L : List UInt8) (a0 : Int) (e0 : Int) (n : Int) (pf : Nat → Int) (ef : Nat → Int) (r : SBatch) :
  e9 zp (bw3 L a0 e0 n pf ef r) [true] = (some (.agg (SBatch.c r), [(.o 0, .flat [.ros 1 (List.length L) (bl L) false, .int .i64 (pf 0), .int .i64 (ef 0)])], [T zp 30 [.ptr (.o 0) 0 0 0 0, .int .i64 5] [(.o 0, .flat [.ros 1 (List.length L) (bl L) false, .int .i64 a0, .int .i64 e0])] (.int .i64 n) [(.o 0, .flat [.ros 1 (List.length L) (bl L) false, .int .i64 (pf 0), .int .i64 (ef 0)])], (!decide (ef (0 : Nat) = (0 : Int))) = true, q (List.length L), ∀ (k : Nat), k < List.length L → bl L k = bl L k, false = true → false = true, q (pf (0 : Nat)), q (ef (0 : Nat)), false = SBatch.noop r, SBatch.n r = (0 : Nat), q0, q0, q0]) : Option (V × c5 × List Prop)) := by kernel_rfl
theorem a5_ (L : List UInt8) (a0 : Int) (e0 : Int) (n : Int) (pf : Nat → Int) (ef : Nat → Int) (r : SBatch) :
  e9 zp (bw3 L a0 e0 n pf ef r) [false, true] = (some (.agg (SBatch.c r), [(.o 0, .flat [.ros 1 (List.length L) (bl L) false, .int .i64 (pf 0), .int .i64 (ef 0)])], [T zp 30 [.ptr (.o 0) 0 0 0 0, .int .i64 5] [(.o 0, .flat [.ros 1 (List.length L) (bl L) false, .int .i64 a0, .int .i64 e0])] (.int .i64 n) [(.o 0, .flat [.ros 1 (List.length L) (bl L) false, .int .i64 (pf 0), .int .i64 (ef 0)])], (!decide (ef (0 : Nat) = (0 : Int))) = false, decide (n = (0 : Int)) = true, q (List.length L), ∀ (k : Nat), k < List.length L → bl L k = bl L k, false = true → false = true, q (pf (0 : Nat)), q (ef (0 : Nat)), true = SBatch.noop r, SBatch.n r = (0 : Nat), q0, q0, q0]) : Option (V × c5 × List Prop)) := by kernel_rfl
theorem aQ7 (L : List UInt8) (a0 : Int) (e0 : Int) (n : Nat) (pf : Nat → Int) (ef : Nat → Int) (r : SBatch) :
  e9 zp (bw4 L a0 e0 n pf ef r) [false, false, false] = (some (.agg (SBatch.c r), [(.o 0, .flat [.ros 1 (List.length L) (bl L) false, .int .i64 (pf 0), .int .i64 (ef 0)])], [T zp 30 [.ptr (.o 0) 0 0 0 0, .int .i64 5] [(.o 0, .flat [.ros 1 (List.length L) (bl L) false, .int .i64 a0, .int .i64 e0])] (.int .i64 ↑n) [(.o 0, .flat [.ros 1 (List.length L) (bl L) false, .int .i64 (pf 0), .int .i64 (ef 0)])], (!decide (ef (0 : Nat) = (0 : Int))) = false, decide ((↑n : Int) = (0 : Int)) = false, f9 zp none 1 (cB (cB (cR (cL (cR (cR (cR (cR (cR (f1 (Bd.f (bw4 L a0 e0 n pf ef r)))))))))))) 1 (St.mk (mkT 36 [(0, .ptr (.o 0) 0 0 0 0), (2, .ptr (.o 1) 0 0 0 0), (3, .int .i64 ↑n), (4, .ptr (.o 2) 0 0 0 0), (5, .int .i64 1)]) [(.o 0, .flat [.ros 1 (List.length L) (bl L) false, .int .i64 (pf 0), .int .i64 (ef 0)]), (.o 1, .flat [.bool false, .snil]), (.o 2, .flat [.bool false, .snil])] 4 []) (.exit 0) (St.mk (mkT 36 [(0, .ptr (.o 0) 0 0 0 0), (2, .ptr (.o 1) 0 0 0 0), (3, .int .i64 ↑n), (4, .ptr (.o 2) 0 0 0 0), (5, .int .i64 1)]) [(.o 0, .flat [.ros 1 (List.length L) (bl L) false, .int .i64 (pf 0), .int .i64 (ef 0)]), (.o 1, .flat [.bool false, .snil]), (.o 2, .flat [.bool false, .snil])] 4 []), q (List.length L), ∀ (k : Nat), k < List.length L → bl L k = bl L k, false = true → false = true, q (pf (0 : Nat)), q (ef (0 : Nat)), q false, q false, q0, q0, q0, q0, q0, q0, q (↑n : Int), q0, q0, q0, q (1 : Int), (!decide (ef (0 : Nat) = (0 : Int))) = false, q (List.length L), ∀ (k : Nat), k < List.length L → bl L k = bl L k, false = true → false = true, q (pf (0 : Nat)), q (ef (0 : Nat)), false = SBatch.noop r, SBatch.n r = (0 : Nat), q0, q0, q0]) : Option (V × c5 × List Prop)) := by kernel_rfl
theorem aQ6 (L : List UInt8) (a0 : Int) (e0 : Int) (n : Nat) (el : Nat → SReq) (pf : Nat → Int) (ef : Nat → Int) (m : Nat) (r : SBatch) :
  e9 zp (az4 L a0 e0 n el pf ef m r) [false, false, true] = (some (.agg (SBatch.c r), [(.o 0, .flat [.ros 1 (List.length L) (bl L) false, .int .i64 (pf (m + 1)), .int .i64 (ef (m + 1))])], [T zp 30 [.ptr (.o 0) 0 0 0 0, .int .i64 5] [(.o 0, .flat [.ros 1 (List.length L) (bl L) false, .int .i64 a0, .int .i64 e0])] (.int .i64 ↑n) [(.o 0, .flat [.ros 1 (List.length L) (bl L) false, .int .i64 (pf 0), .int .i64 (ef 0)])], (!decide (ef (0 : Nat) = (0 : Int))) = false, decide ((↑n : Int) = (0 : Int)) = false, f9 zp none 1 (cB (cB (cR (cL (cR (cR (cR (cR (cR (f1 (Bd.f (az4 L a0 e0 n el pf ef m r)))))))))))) (m + 1 + 1) (St.mk (mkT 36 [(0, .ptr (.o 0) 0 0 0 0), (2, .ptr (.o 1) 0 0 0 0), (3, .int .i64 ↑n), (4, .ptr (.o 2) 0 0 0 0), (5, .int .i64 1)]) [(.o 0, .flat [.ros 1 (List.length L) (bl L) false, .int .i64 (pf 0), .int .i64 (ef 0)]), (.o 1, .flat [.bool false, .snil]), (.o 2, .flat [.bool false, .snil])] 4 []) (.exit 0) (St.mk (mkT 36 [(0, .ptr (.o 0) 0 0 0 0), (2, .ptr (.o 1) 0 0 0 0), (3, .int .i64 ↑n), (4, .ptr (.o 2) 0 0 0 0), (5, .int .i64 (↑(m + 2) : Int))]) [(.o 0, .flat [.ros 1 (List.length L) (bl L) false, .int .i64 (pf (m + 1)), .int .i64 (ef (m + 1))]), (.o 1, .flat [.bool false, .snil]), (.o 2, .flat [.bool false, .sl (.o 3) 19 0 0 0 (m + 1) none]), (.o 3, .rows 19 (m + 1) (fun i => SReq.c (el i)) true)] 4 []), q (List.length L), ∀ (k : Nat), k < List.length L → bl L k = bl L k, false = true → false = true, q (pf (0 : Nat)), q (ef (0 : Nat)), q false, q false, q0, q0, q0, q0, q0, q0, q (↑n : Int), q0, q0, q0, q (1 : Int), (!decide (ef (m + (1 : Nat)) = (0 : Int))) = true, q (List.length L), ∀ (k : Nat), k < List.length L → bl L k = bl L k, false = true → false = true, q (pf (m + (1 : Nat))), q (ef (m + (1 : Nat))), false = SBatch.noop r, SBatch.n r = (0 : Nat), q0, q0, q0]) : Option (V × c5 × List Prop)) := by kernel_rfl
theorem aQ5 (L : List UInt8) (a0 : Int) (e0 : Int) (n : Nat) (el : Nat → SReq) (pf : Nat → Int) (ef : Nat → Int) (m : Nat) (r : SBatch) :
  e9 zp (az4 L a0 e0 n el pf ef m r) [false, false, false] = some (V.agg (SBatch.c r), [(Nm.o (0 : Nat), B.flat [V.ros (1 : Nat) (List.length L) (bl L) false, V.int .i64 (pf (m + (1 : Nat))), V.int .i64 (ef (m + (1 : Nat)))])], [T zp (30 : Nat) [V.ptr (Nm.o (0 : Nat)) (0 : Nat) (0 : Nat) (0 : Nat) (0 : Nat), V.int .i64 (5 : Int)] [(Nm.o (0 : Nat), B.flat [V.ros (1 : Nat) (List.length L) (bl L) false, V.int .i64 a0, V.int .i64 e0])] (V.int .i64 (↑n : Int)) [(Nm.o (0 : Nat), B.flat [V.ros (1 : Nat) (List.length L) (bl L) false, V.int .i64 (pf (0 : Nat)), V.int .i64 (ef (0 : Nat))])], (!decide (ef (0 : Nat) = (0 : Int))) = false, decide ((↑n : Int) = (0 : Int)) = false, f9 zp none (1 : Nat) (cB (cB (cR (cL (cR (cR (cR (cR (cR (f1 (Bd.f (az4 L a0 e0 n el pf ef m r)))))))))))) (m + (1 : Nat) + (1 : Nat)) (St.mk (mkT 36 [(0, V.ptr (Nm.o (0 : Nat)) (0 : Nat) (0 : Nat) (0 : Nat) (0 : Nat)), (2, V.ptr (Nm.o (1 : Nat)) (0 : Nat) (0 : Nat) (0 : Nat) (0 : Nat)), (3, V.int .i64 (↑n : Int)), (4, V.ptr (Nm.o (2 : Nat)) (0 : Nat) (0 : Nat) (0 : Nat) (0 : Nat)), (5, V.int .i64 (1 : Int))]) [(Nm.o (0 : Nat), B.flat [V.ros (1 : Nat) (List.length L) (bl L) false, V.int .i64 (pf (0 : Nat)), V.int .i64 (ef (0 : Nat))]), (Nm.o (1 : Nat), B.flat [V.bool false, V.snil]), (Nm.o (2 : Nat), B.flat [V.bool false, V.snil])] (4 : Nat) []) (Exit.exit (0 : Nat)) (St.mk (mkT 36 [(0, V.ptr (Nm.o (0 : Nat)) (0 : Nat) (0 : Nat) (0 : Nat) (0 : Nat)), (2, V.ptr (Nm.o (1 : Nat)) (0 : Nat) (0 : Nat) (0 : Nat) (0 : Nat)), (3, V.int .i64 (↑n : Int)), (4, V.ptr (Nm.o (2 : Nat)) (0 : Nat) (0 : Nat) (0 : Nat) (0 : Nat)), (5, V.int .i64 (↑(m + (2 : Nat)) : Int))]) [(Nm.o (0 : Nat), B.flat [V.ros (1 : Nat) (List.length L) (bl L) false, V.int .i64 (pf (m + (1 : Nat))), V.int .i64 (ef (m + (1 : Nat)))]), (Nm.o (1 : Nat), B.flat [V.bool false, V.snil]), (Nm.o (2 : Nat), B.flat [V.bool false, V.sl (Nm.o (3 : Nat)) (19 : Nat) (0 : Nat) (0 : Nat) (0 : Nat) (m + (1 : Nat)) none]), (Nm.o (3 : Nat), B.rows (19 : Nat) (m + (1 : Nat)) (fun i => SReq.c (el i)) true)] (4 : Nat) []), List.length L = List.length L, ∀ (k : Nat), k < List.length L → bl L k = bl L k, false = true → false = true, pf (0 : Nat) = pf (0 : Nat), ef (0 : Nat) = ef (0 : Nat), false = false, false = false, (0 : Nat) = (0 : Nat), (0 : Nat) = (0 : Nat), (0 : Nat) = (0 : Nat), (0 : Nat) = (0 : Nat), (0 : Nat) = (0 : Nat), (0 : Nat) = (0 : Nat), (↑n : Int) = (↑n : Int), (0 : Nat) = (0 : Nat), (0 : Nat) = (0 : Nat), (0 : Nat) = (0 : Nat), (1 : Int) = (1 : Int), (!decide (ef (m + (1 : Nat)) = (0 : Int))) = false, List.length L = List.length L, ∀ (k : Nat), k < List.length L → bl L k = bl L k, false = true → false = true, pf (m + (1 : Nat)) = pf (m + (1 : Nat)), ef (m + (1 : Nat)) = ef (m + (1 : Nat)), false = SBatch.noop r, m + (1 : Nat) = SBatch.n r, (0 : Nat) + (m + (1 : Nat)) ≤ m + (1 : Nat), ∀ (k : Nat), k < m + (1 : Nat) → SReq.c (el ((0 : Nat) + k)) = SReq.c (SBatch.req r k), false = true → none = some (m + (1 : Nat)), (0 : Nat) = (0 : Nat), (0 : Nat) = (0 : Nat), (0 : Nat) = (0 : Nat)]) := by kernel_rfl
theorem bs6 (L : List UInt8) (n : Nat) (el : Nat → SReq) (pf : Nat → Int) (ef : Nat → Int) :
  i5 zp (bx8 L n el pf ef) [true] = (some (.normal, St.mk (mkT 36 [(0, .ptr (.o 0) 0 0 0 0), (2, .ptr (.o 1) 0 0 0 0), (3, .int .i64 ↑n), (4, .ptr (.o 2) 0 0 0 0), (5, .int .i64 2)]) [(.o 0, .flat [.ros 1 (List.length L) (bl L) false, .int .i64 (pf 1), .int .i64 (ef 1)]), (.o 1, .flat [.bool false, .snil]), (.o 2, .flat [.bool false, .sl (.o 3) 19 0 0 0 1 none]), (.o 3, .rows 19 1 (fun i => SReq.c (el i)) true)] 4 [], [decide ((1 : Int) < (↑n : Int)) = true, T zp 141 [.ptr (.o 0) 0 0 0 0] [(.o 0, .flat [.ros 1 (List.length L) (bl L) false, .int .i64 (pf 0), .int .i64 (ef 0)])] (.agg (SReq.c (el 0))) [(.o 0, .flat [.ros 1 (List.length L) (bl L) false, .int .i64 (pf 1), .int .i64 (ef 1)])], 1 ≤ (1 : Nat), ∀ (k : Nat), k < (1 : Nat) → m8 (j3 [(SReq.c (el (0 : Nat)))] ((0 : Nat) + k)) = true, 48 ≤ (140737488355328 : Nat), InR .i64 (2 : Int), q (List.length L), ∀ (k : Nat), k < List.length L → bl L k = bl L k, false = true → false = true, q (pf 1), q (ef 1), q false, q false, q0, q0, q0, q 1, (none : Option Nat) = none ∨ (none : Option Nat) = none, q 1, ∀ (k : Nat), k < 1 → m5 (0 : Nat) (fun x => []) (fun k => j3 [(SReq.c (el (0 : Nat)))] ((0 : Nat) + k)) k = SReq.c (el k), true = false → true = false, q0, q0, q0, q0, q0, q0, q (↑n : Int), q0, q0, q0, q (2 : Int)]) : Option (Exit × St × List Prop)) := by kernel_rfl
theorem bs5 (L : List UInt8) (n : Nat) (el : Nat → SReq) (pf : Nat → Int) (ef : Nat → Int) :
  i5 zp (bx8 L n el pf ef) [false] = (some (.exit 0, St.mk (mkT 36 [(0, .ptr (.o 0) 0 0 0 0), (2, .ptr (.o 1) 0 0 0 0), (3, .int .i64 ↑n), (4, .ptr (.o 2) 0 0 0 0), (5, .int .i64 1)]) [(.o 0, .flat [.ros 1 (List.length L) (bl L) false, .int .i64 (pf 0), .int .i64 (ef 0)]), (.o 1, .flat [.bool false, .snil]), (.o 2, .flat [.bool false, .snil])] 4 [], [decide ((1 : Int) < (↑n : Int)) = false, q (List.length L), ∀ (k : Nat), k < List.length L → bl L k = bl L k, false = true → false = true, q (pf (0 : Nat)), q (ef (0 : Nat)), q false, q false, q0, q0, q0, q0, q0, q0, q (↑n : Int), q0, q0, q0, q (1 : Int)]) : Option (Exit × St × List Prop)) := by kernel_rfl
theorem bs4 (L : List UInt8) (n : Nat) (el : Nat → SReq) (pf : Nat → Int) (ef : Nat → Int) (k : Nat) :
  i5 zp (bx7 L n el pf ef k) [true] = (some (.normal, St.mk (mkT 36 [(0, .ptr (.o 0) 0 0 0 0), (2, .ptr (.o 1) 0 0 0 0), (3, .int .i64 ↑n), (4, .ptr (.o 2) 0 0 0 0), (5, .int .i64 (↑(k + 1 + 2) : Int))]) [(.o 0, .flat [.ros 1 (List.length L) (bl L) false, .int .i64 (pf (k + 1 + 1)), .int .i64 (ef (k + 1 + 1))]), (.o 1, .flat [.bool false, .snil]), (.o 2, .flat [.bool false, .sl (.o 3) 19 0 0 0 (k + 1 + 1) none]), (.o 3, .rows 19 (k + 1 + 1) (fun i => SReq.c (el i)) true)] 4 [], [decide ((↑(k + (2 : Nat)) : Int) < (↑n : Int)) = true, T zp 141 [.ptr (.o 0) 0 0 0 0] [(.o 0, .flat [.ros 1 (List.length L) (bl L) false, .int .i64 (pf (k + 1)), .int .i64 (ef (k + 1))])] (.agg (SReq.c (el (k + 1)))) [(.o 0, .flat [.ros 1 (List.length L) (bl L) false, .int .i64 (pf (k + 1 + 1)), .int .i64 (ef (k + 1 + 1))])], q (k + (1 : Nat)), 1 ≤ (1 : Nat), ∀ (k_1 : Nat), k_1 < (1 : Nat) → m8 (j3 [(SReq.c (el (k + (1 : Nat))))] ((0 : Nat) + k_1)) = true, (k + (1 : Nat) + (1 : Nat)) * (48 : Nat) ≤ (140737488355328 : Nat), InR .i64 ((↑(k + (2 : Nat)) : Int) + (1 : Int)), q (List.length L), ∀ (k : Nat), k < List.length L → bl L k = bl L k, false = true → false = true, q (pf (k + (1 : Nat) + (1 : Nat))), q (ef (k + (1 : Nat) + (1 : Nat))), q false, q false, q0, q0, q0, q (k + (1 : Nat) + (1 : Nat)), (none : Option Nat) = none ∨ (none : Option Nat) = none, q (k + (1 : Nat) + (1 : Nat)), ∀ (k_1 : Nat), k_1 < k + (1 : Nat) + (1 : Nat) → m5 (k + (1 : Nat)) (fun i => SReq.c (el i)) (fun k_2 => j3 [(SReq.c (el (k + (1 : Nat))))] ((0 : Nat) + k_2)) k_1 = SReq.c (el k_1), true = false → true = false, q0, q0, q0, q0, q0, q0, q (↑n : Int), q0, q0, q0, (↑(k + (2 : Nat)) : Int) + (1 : Int) = (↑(k + (1 : Nat) + (2 : Nat)) : Int)]) : Option (Exit × St × List Prop)) := by kernel_rfl
theorem bs3 (L : List UInt8) (n : Nat) (el : Nat → SReq) (pf : Nat → Int) (ef : Nat → Int) (k : Nat) :
  i5 zp (bx7 L n el pf ef k) [false] = (some (.exit 0, St.mk (mkT 36 [(0, .ptr (.o 0) 0 0 0 0), (2, .ptr (.o 1) 0 0 0 0), (3, .int .i64 ↑n), (4, .ptr (.o 2) 0 0 0 0), (5, .int .i64 (↑(k + 2) : Int))]) [(.o 0, .flat [.ros 1 (List.length L) (bl L) false, .int .i64 (pf (k + 1)), .int .i64 (ef (k + 1))]), (.o 1, .flat [.bool false, .snil]), (.o 2, .flat [.bool false, .sl (.o 3) 19 0 0 0 (k + 1) none]), (.o 3, .rows 19 (k + 1) (fun i => SReq.c (el i)) true)] 4 [], [decide ((↑(k + (2 : Nat)) : Int) < (↑n : Int)) = false, q (List.length L), ∀ (k : Nat), k < List.length L → bl L k = bl L k, false = true → false = true, q (pf (k + (1 : Nat))), q (ef (k + (1 : Nat))), q false, q false, q0, q0, q0, q (k + (1 : Nat)), (none : Option Nat) = none ∨ (none : Option Nat) = none, q (k + (1 : Nat)), ∀ (k_1 : Nat), k_1 < k + (1 : Nat) → SReq.c (el k_1) = SReq.c (el k_1), true = false → true = false, q0, q0, q0, q0, q0, q0, q (↑n : Int), q0, q0, q0, q (↑(k + (2 : Nat)) : Int)]) : Option (Exit × St × List Prop)) := by kernel_rfl
theorem ag7 {α : Type} {one : RS → α × RS} (s : RS) : ∀ k, stR one (one s).2 k = stR one s (k + 1)
 | 0 => rfl
 | k + 1 => by show (one (stR one (one s).2 k)).2 = (one (stR one s (k + 1))).2; rw [ag7 s k]
theorem aE7 {α : Type} {one : RS → α × RS} : ∀ k s, (itR one k s).2 = stR one s k
 | 0, s => rfl
 | k + 1, s => by show (itR one k (one s).2).2 = _; rw [aE7 k, ag7]
theorem al6 {α : Type} {one : RS → α × RS} : ∀ k s, (itR one k s).1.length = k
 | 0, s => rfl
 | k + 1, s => by show (itR one k (one s).2).1.length + 1 = _; rw [al6 k]
theorem bb3 {α : Type} {one : RS → α × RS} (d : α) : ∀ k s i, i < k → (itR one k s).1.getD i d = (one (stR one s i)).1
 | 0, s, i, h => absurd h (Nat.not_lt_zero i)
 | k + 1, s, 0, h => rfl
 | k + 1, s, i + 1, h => by show (itR one k (one s).2).1.getD i d = _; rw [bb3 d k _ i (by omega), ag7]
theorem bo8 {m : Int} {s : RS} (h : (c6 m s).2.e ≠ 0) : (c6 m s).1 = 0 := by
 unfold c6 at h ⊢
 split
 ·rfl
 ·rename_i h1
  split
  ·rfl
  ·rename_i h2
   rw [if_neg h1, if_neg h2] at h
   exact absurd h h1
theorem bg0 {L : List UInt8} {s : RS} {p : Int} (h : XOk L s p) (hL : L.length ≤ 1000000000) : ∃ p', XOk L (j5 s).2 p' ∧ T Tryz.prog 117 [p0] [(.o 0, rpB L s p)] (.agg (j5 s).1.c) [(.o 0, rpB L (j5 s).2 p')] := by
 have hr := v9 (m := 5) (by decide) s
 obtain ⟨p1, x1, hT⟩ := B2 (most := 5) h hL
 obtain ⟨pf, f0, hQ, hS⟩ := aU3 (Q := fun k x => XOk L (stR i3 (c6 5 s).2 k) x) (S := fun k x y => T Tryz.prog 141 [p0] [(.o 0, rpB L (stR i3 (c6 5 s).2 k) x)] (.agg (i3 (stR i3 (c6 5 s).2 k)).1.c) [(.o 0, rpB L (stR i3 (c6 5 s).2 (k + 1)) y)]) (p := p1) x1 (fun k x hx => T_xq hx hL)
 have e2 : (j5 s).2 = stR i3 (c6 5 s).2 ((c6 5 s).1.toNat - 1) := by show (itR i3 _ _).2 = _; rw [aE7]
 have e1 : (j5 s).1 = if (stR i3 (c6 5 s).2 ((c6 5 s).1.toNat - 1)).e = 0 then B8 (decide ((c6 5 s).1 = 0)) (itR i3 ((c6 5 s).1.toNat - 1) (c6 5 s).2).1 else {} := by
  show (if (itR i3 _ _).2.e = 0 then _ else _) = _
  rw [aE7]; rfl
 rw [← f0] at hT
 refine ⟨pf ((c6 5 s).1.toNat - 1), by rw [e2]; exact hQ _, ?_⟩
 rw [e1, e2]
 have z0 : eV (c6 5 s).2 = 0 ↔ (c6 5 s).2.e = 0 := G4 x1.1
 by_cases h1 : (c6 5 s).2.e = 0
 ·by_cases h2 : (c6 5 s).1 = 0
  ·rw [h2] at hT ⊢
   rw [if_pos (by show (c6 5 s).2.e = 0; exact h1)]
   refine f3 (a5_ L p (eV s) 0 pf (fun k => eV (stR i3 (c6 5 s).2 k)) (B8 true [])) Tryz.func117 ?_
   simp only [All]; and_intros
   all_goals first | exact True.intro | exact hT | (show (!decide (eV (c6 5 s).2 = 0)) = false; simp [z0.2 h1]; done) | exact rfl | (intro _ _; exact True.intro) | (intro h; exact h)
  ·have hn : ((c6 5 s).1.toNat : Int) = (c6 5 s).1 := Int.toNat_of_nonneg hr.1
   rw [← hn] at hT
   rw [show decide ((c6 5 s).1 = 0) = false from decide_eq_false h2]
   have hnp : 1 ≤ (c6 5 s).1.toNat := by omega
   have hF0 : (!decide (eV (c6 5 s).2 = 0)) = false := by simp [z0.2 h1]
   cases hm : (c6 5 s).1.toNat - 1 with
   | zero =>
    have hn1 : (c6 5 s).1.toNat = 1 := by omega
    rw [hn1] at hT
    rw [if_pos (by show (c6 5 s).2.e = 0; exact h1)]
    have hLo : f9 Tryz.prog none 1 (cB (cB (cR (cL (cR (cR (cR (cR (cR (f1 Tryz.f117)))))))))) (0 + 1) (BtZ L 1 pf (fun k => eV (stR i3 (c6 5 s).2 k))) (.exit 0) (BtZ L 1 pf (fun k => eV (stR i3 (c6 5 s).2 k))) := by
     refine f9.inv (fun _ => BtZ L 1 pf (fun k => eV (stR i3 (c6 5 s).2 k))) 0 (fun k hk => absurd hk (Nat.not_lt_zero k)) ?_ (by simp)
     refine f4 NG MO _ (bs5 L 1 (fun _ => K8) pf (fun k => eV (stR i3 (c6 5 s).2 k))) ?_ (show 1 ≤ 4 by decide)
     simp only [All]; and_intros
     all_goals first | exact True.intro | (rw [decide_eq_false_iff_not]; omega) | (intro _ _; exact True.intro) | (intro h; exact h)
    refine f3 (aQ7 L p (eV s) 1 pf (fun k => eV (stR i3 (c6 5 s).2 k)) (B8 false [])) Tryz.func117 ?_
    simp only [All]; and_intros
    all_goals first | exact True.intro | exact hT | exact hF0 | exact hLo | exact rfl | (intro _ _; exact True.intro) | (intro h; exact h)
   | succ m =>
    have hnm : (c6 5 s).1.toNat = m + 2 := by omega
    have hm5 : m ≤ 5 := by omega
    rw [hnm] at hT
    have hlen := al6 (one := i3) (m + 1) (c6 5 s).2
    have hel := fun i hi => bb3 (one := i3) K8 (m + 1) (c6 5 s).2 i hi
    generalize (itR i3 (m + 1) (c6 5 s).2).1 = l at *
    have hG : ∀ k, k < m + 1 → T Tryz.prog 141 [p0] [(.o 0, rpB L (stR i3 (c6 5 s).2 k) (pf k))] (.agg (l.getD k K8).c) [(.o 0, rpB L (stR i3 (c6 5 s).2 (k + 1)) (pf (k + 1)))] := fun k hk => by rw [hel k hk]; exact hS k
    have hLo : f9 Tryz.prog none 1 (cB (cB (cR (cL (cR (cR (cR (cR (cR (f1 Tryz.f117)))))))))) (m + 1 + 1) (BtZ L (m + 2) pf (fun k => eV (stR i3 (c6 5 s).2 k))) (.exit 0) (BtP L (m + 2) (fun i => l.getD i K8) pf (fun k => eV (stR i3 (c6 5 s).2 k)) m) := by
     refine f9.inv (BtI L (m + 2) (fun i => l.getD i K8) pf (fun k => eV (stR i3 (c6 5 s).2 k))) (m + 1) (fun k hk => ?_) ?_ (by simp)
     ·cases k with
      | zero =>
       have g := hG 0 (by omega)
       refine f4 NG MO _ (bs6 L (m + 2) (fun i => l.getD i K8) pf (fun k => eV (stR i3 (c6 5 s).2 k))) ?_ (show 1 ≤ 4 by decide)
       simp only [All, Int.toNat_natCast]; and_intros
       all_goals first | exact True.intro | exact g | (intro j hj; rw [show j = 0 by omega]; rfl) | (rw [decide_eq_true_eq]; omega) | (intro _ _; exact True.intro) | (simp only [IntKind.min, IntKind.max, IntKind.signed, IntKind.bits, if_true]; omega) | omega | (intro h; exact h) | exact .inl True.intro
      | succ k =>
       have g := hG (k + 1) (by omega)
       refine f4 NG MO _ (bs4 L (m + 2) (fun i => l.getD i K8) pf (fun k => eV (stR i3 (c6 5 s).2 k)) k) ?_ (show 1 ≤ 4 by decide)
       simp only [All, Int.toNat_natCast]; and_intros
       all_goals first | exact True.intro | exact g | exact O8 | (intro j hj; rw [show j = 0 by omega]; rfl) | (rw [decide_eq_true_eq]; omega) | (intro _ _; exact True.intro) | (simp only [IntKind.min, IntKind.max, IntKind.signed, IntKind.bits, if_true]; omega) | omega | (intro h; exact h) | exact .inl True.intro
     ·refine f4 NG MO _ (bs3 L (m + 2) (fun i => l.getD i K8) pf (fun k => eV (stR i3 (c6 5 s).2 k)) m) ?_ (show 1 ≤ 4 by decide)
      simp only [All, Int.toNat_natCast]; and_intros
      all_goals first | exact True.intro | (rw [decide_eq_false_iff_not]; omega) | (intro _ _; exact True.intro) | (intro h; exact h) | exact .inl True.intro
    have zm : eV (stR i3 (c6 5 s).2 (m + 1)) = 0 ↔ (stR i3 (c6 5 s).2 (m + 1)).e = 0 := G4 (hQ (m + 1)).1
    by_cases he : (stR i3 (c6 5 s).2 (m + 1)).e = 0
    ·have hF : (!decide (eV (stR i3 (c6 5 s).2 (m + 1)) = 0)) = false := by simp [zm.2 he]
     rw [if_pos he]
     refine f3 (aQ5 L p (eV s) (m + 2) (fun i => l.getD i K8) pf (fun k => eV (stR i3 (c6 5 s).2 k)) m (B8 false l)) Tryz.func117 ?_
     simp only [All]; and_intros
     all_goals first | exact True.intro | exact hT | exact hF0 | exact hF | exact hLo | exact hlen.symm | exact rfl | (intro k hk; rw [Nat.zero_add]; exact rfl) | (intro _ _; exact True.intro) | omega | (intro h; exact h) | (intro h; cases h; done)
    ·have hF : (!decide (eV (stR i3 (c6 5 s).2 (m + 1)) = 0)) = true := by simp [mt zm.1 he]
     rw [if_neg he]
     refine f3 (aQ6 L p (eV s) (m + 2) (fun i => l.getD i K8) pf (fun k => eV (stR i3 (c6 5 s).2 k)) m {}) Tryz.func117 ?_
     simp only [All]; and_intros
     all_goals first | exact True.intro | exact hT | exact hF0 | exact hF | exact hLo | exact rfl | (intro _ _; exact True.intro) | (intro h; exact h)
 ·have h2 := bo8 h1
  have hF : (!decide (eV (c6 5 s).2 = 0)) = true := by simp [mt z0.1 h1]
  rw [h2] at hT ⊢
  rw [if_neg (by show ¬ (c6 5 s).2.e = 0; exact h1)]
  refine f3 (bl2 L p (eV s) 0 pf (fun k => eV (stR i3 (c6 5 s).2 k)) {}) Tryz.func117 ?_
  simp only [All]; and_intros
  all_goals first | exact True.intro | exact hT | exact hF | (intro _ _; exact True.intro) | (intro h; exact h)
def chL (m : SMsg) (l : V) : List V := [.int .i64 m.cepoch, .int .i64 m.cleader, .int .i64 m.cview, l]
def CgZ (L : List UInt8) (m : SMsg) (n : Nat) (pf ef : Nat → Int) : St := ⟨mkT 42 [(0, p0), (2, .ptr (.o 1) 0 0 0 0), (3, .ptr (.o 2) 0 0 0 0), (4, .int .i64 n), (5, .int .i64 0)], [(.o 0, rp L (pf 0) (ef 0)), (.o 1, .flat (chL {} .snil)), (.o 2, .flat (chL m .snil))], 4, []⟩
def CgP (L : List UInt8) (m : SMsg) (n : Nat) (el : Nat → SHeld) (pf ef : Nat → Int) (k : Nat) : St := ⟨mkT 42 [(0, p0), (2, .ptr (.o 1) 0 0 0 0), (3, .ptr (.o 2) 0 0 0 0), (4, .int .i64 n), (5, .int .i64 (k + 1 : Nat))], [(.o 0, rp L (pf (k + 1)) (ef (k + 1))), (.o 1, .flat (chL {} .snil)), (.o 2, .flat (chL m (.sl (.o 3) 39 0 0 0 (k + 1) none))), (.o 3, .rows 39 (k + 1) (fun i => (el i).c) true)], 4, []⟩
def lpC (m : Nat) (s0 s1 : St) : Nat → St → List (Prop × Hint) := fun _ t => match m6 t.tmps 3 with
 | .ptr b _ _ _ _ => [(True, .loop (m + 1) (w6 [(.o 2, b)] s0) (.exit 0) s1)]
 | _ => []
def au1 : List (Int × V × B) → List V → c5 → Nat → List Cl
 | [], _, _, _ => []
 | q :: r, a, h, lo => match a with
  | .ptr b _ _ _ _ :: .int _ z :: _ => bif decide (q.1 = z) then [{ pre := [b], val := q.2.1, post := [(b, q.2.2)] }] else au1 r a h lo
  | _ => []
noncomputable def bR1 (L : List UInt8) (a0 e0 a1 e1 a2 e2 a3 e3 : Int) (m : SMsg) (n : Nat) (pf ef : Nat → Int) (c : Nat) (s0 s1 : St) (r : V) (k : Nat) : Bd := { f := Tryz.f119, args := [p0], pre := [(.o 0, rp L a0 e0)], base := 1, kb := { db := dbF [(30, au1 [(1048576, .int .i64 m.cepoch, rp L a1 e1), (64, .int .i64 m.cleader, rp L a2 e2), (1099511627776, .int .i64 m.cview, rp L a3 e3), (4, .int .i64 n, rp L (pf 0) (ef 0))])], lp := lpC c s0 s1 }, names := n0, k := ap9 (chL m r) [(.o 0, rp L (pf k) (ef k))] }
noncomputable def bv8 (L : List UInt8) (a0 e0 a1 e1 a2 e2 a3 e3 : Int) (m : SMsg) (n : Nat) (pf ef : Nat → Int) (el : Nat → SHeld) : Bd := bR1 L a0 e0 a1 e1 a2 e2 a3 e3 m n pf ef 0 (CgZ L m n pf ef) (CgZ L m n pf ef) (hl 0 el) 0
noncomputable def bv7 (L : List UInt8) (a0 e0 a1 e1 a2 e2 a3 e3 : Int) (m : SMsg) (n : Nat) (pf ef : Nat → Int) (el : Nat → SHeld) (k : Nat) : Bd := bR1 L a0 e0 a1 e1 a2 e2 a3 e3 m n pf ef (k + 1) (CgZ L m n pf ef) (CgP L m n el pf ef k) (hl (k + 1) el) (k + 1)
def kC2 (s0 s1 : St) : Exit → St → Option W := fun e t => match e with
 | .normal => match A4 (.o 2) t.heap with
  | some (.flat [_, _, _, .sl a _ _ _ _ _ _], _) => some (w6 [(.o 3, a)] s1)
  | _ => none
 | _ => some (wTo s0)
noncomputable def bX8 (L : List UInt8) (el : Nat → SHeld) (pf ef : Nat → Int) (a1 e1 : Int) (s0 s1 : St) (k : Nat) : Pc := { c := cB (cB (cR (cL (cR (cR (cR (cR (cR (cR (f1 Tryz.f119)))))))))), st := s0, p := 1, kb := { db := dbF [(117, cX (.agg (el k).batch.c) (rp L a1 e1)), (122, cX (.agg (el k).cert.c) (rp L (pf (k + 1)) (ef (k + 1))))] }, k := kC2 s0 s1 }
noncomputable def aT1 (L : List UInt8) (m : SMsg) (n : Nat) (el : Nat → SHeld) (pf ef : Nat → Int) (a1 e1 : Int) : Pc := bX8 L el pf ef a1 e1 (CgZ L m n pf ef) (CgP L m n el pf ef 0) 0
noncomputable def aT0 (L : List UInt8) (m : SMsg) (n : Nat) (el : Nat → SHeld) (pf ef : Nat → Int) (a1 e1 : Int) (k : Nat) : Pc := bX8 L el pf ef a1 e1 (CgP L m n el pf ef k) (CgP L m n el pf ef (k + 1)) (k + 1)
def CgI (L : List UInt8) (m : SMsg) (n : Nat) (el : Nat → SHeld) (pf ef : Nat → Int) : Nat → St
 | 0 => CgZ L m n pf ef
 | k + 1 => CgP L m n el pf ef k
end Go.Proofs.YtnmccoincblecaaGreat
