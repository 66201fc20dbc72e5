/-
  Contracts and laws that the claim's theorem leans on, joined out of the texts ZVa8 ZVb0 ZRs1 ZRs3 ZRs4 ZVa9D ZVa9 (own work of this seat): Contract: the document's Good; What a message that may be has; its bytes, or why not; Contracts of small functions; Contracts: what is looked at; Contracts: what is looked at, continued; Contracts: is a message not more than is looked at; Contracts: is a message not more than is looked at.
-/
import Derived.Test.YthifjamdfpjilaaGreatC04
import Derived.Test.YthifjamdfpjilaaGreatC06
import Derived.Test.YthifjamdfpjilaaGreatC09
set_option linter.unusedVariables false
set_option linter.unusedSimpArgs false
set_option maxHeartbeats 1000000
namespace Go.Proofs.YthifjamdfpjilaaGreat
open Go Sy Go.Proofs
noncomputable def bdGd_c (m : SMsg) (x : SMsg) : Nat → List Prop
 | 0 => [decide ((8 : Int) < SMsg.kind m) = false, T Tryz.prog 52 [.agg (SMsg.c m)] [] (.agg (SMsg.c x)) [], T Tryz.prog 13 [.agg (SMsg.c m), .agg (SMsg.c x)] [] (.bool (sameMsgS m x)) []]
 | 1 => [(!sameMsgS m x) = false, T Tryz.prog 53 [.int .i64 (SMsg.epoch m), .int .i64 1048576] [] (.bool (uptoS (SMsg.epoch m) (1048576 : Int))) []]
 | 2 => [uptoS (SMsg.epoch m) (1048576 : Int) = false, q false, q false, q false, q false, q false, q false, q false, q false, q false, q false]
 | 3 => [uptoS (SMsg.epoch m) (1048576 : Int) = true, T Tryz.prog 53 [.int .i64 (SMsg.slot m), .int .i64 1099511627776] [] (.bool (uptoS (SMsg.slot m) (1099511627776 : Int))) []]
 | 4 => [uptoS (SMsg.slot m) (1099511627776 : Int) = false, q false, q false, q false, q false, q false, q false, q false, q false, q false]
 | 5 => [uptoS (SMsg.slot m) (1099511627776 : Int) = true, T Tryz.prog 53 [.int .i64 (SMsg.view m), .int .i64 1099511627776] [] (.bool (uptoS (SMsg.view m) (1099511627776 : Int))) []]
 | 6 => [uptoS (SMsg.view m) (1099511627776 : Int) = false, q false, q false, q false, q false, q false, q false, q false, q false]
 | 7 => [uptoS (SMsg.view m) (1099511627776 : Int) = true, T Tryz.prog 53 [.int .i64 (SMsg.leader m), .int .i64 64] [] (.bool (uptoS (SMsg.leader m) (64 : Int))) []]
 | 8 => [uptoS (SMsg.leader m) (64 : Int) = false, q false, q false, q false, q false, q false, q false, q false]
 | 9 => [uptoS (SMsg.leader m) (64 : Int) = true, T Tryz.prog 53 [.int .i64 (SMsg.cepoch m), .int .i64 1048576] [] (.bool (uptoS (SMsg.cepoch m) (1048576 : Int))) []]
 | 10 => [uptoS (SMsg.cepoch m) (1048576 : Int) = false, q false, q false, q false, q false, q false, q false]
 | 11 => [uptoS (SMsg.cepoch m) (1048576 : Int) = true, T Tryz.prog 53 [.int .i64 (SMsg.cview m), .int .i64 1099511627776] [] (.bool (uptoS (SMsg.cview m) (1099511627776 : Int))) []]
 | 12 => [uptoS (SMsg.cview m) (1099511627776 : Int) = false, q false, q false, q false, q false, q false]
 | 13 => [uptoS (SMsg.cview m) (1099511627776 : Int) = true, T Tryz.prog 53 [.int .i64 (SMsg.cleader m), .int .i64 64] [] (.bool (uptoS (SMsg.cleader m) (64 : Int))) []]
 | 14 => [uptoS (SMsg.cleader m) (64 : Int) = true, T Tryz.prog 54 [.ros 39 (SMsg.nheld m) (fun i => SHeld.c (SMsg.held m i)) false] [] (.bool (allS (SMsg.nheld m) 4 fun i => mayHeldS (SMsg.held m i))) []]
 | 15 => [(allS (SMsg.nheld m) (4 : Nat) fun i => mayHeldS (SMsg.held m i)) = false, q false, q false, q false]
 | 16 => [(allS (SMsg.nheld m) (4 : Nat) fun i => mayHeldS (SMsg.held m i)) = true, T Tryz.prog 55 [.agg [.bool (SBatch.noop (SMsg.batch m)), rq (SBatch.n (SMsg.batch m)) (SBatch.req (SMsg.batch m))]] [] (.bool (mayBatchS (SMsg.batch m))) []]
 | 17 => [mayBatchS (SMsg.batch m) = true, T Tryz.prog 56 [.ros 18 (SMsg.nnews m) (fun i => SEnv.c (SMsg.news m i)) false] [] (.bool (allS (SMsg.nnews m) 64 fun i => mayEnvS (SMsg.news m i))) []]
 | 18 => [(allS (SMsg.nnews m) (64 : Nat) fun i => mayEnvS (SMsg.news m i)) = true, T Tryz.prog 57 [.ros 17 (SMsg.n m) (fun i => SSign.c (SMsg.sig m i)) false] [] (.bool (allS (SMsg.n m) 64 fun i => maySignS (SMsg.sig m i))) []]
 | _ => []
theorem bdGd_p111 (m : SMsg) (x : SMsg) :
 along Tryz.prog (bdGd m x) [true, true, true] = (some (.bool false, [], [decide (SMsg.kind m < (1 : Int)) = true, q2, q2]) : Option (V × Heap × List Prop)) := by kernel_rfl

theorem bdGd_p011 (m : SMsg) (x : SMsg) :
 along Tryz.prog (bdGd m x) [false, true, true] = (some (.bool false, [], [decide (SMsg.kind m < (1 : Int)) = false, decide ((8 : Int) < SMsg.kind m) = true, q2]) : Option (V × Heap × List Prop)) := by kernel_rfl

theorem bdGd_p001 (m : SMsg) (x : SMsg) :
 along Tryz.prog (bdGd m x) [false, false, true] = (some (.bool false, [], [decide (SMsg.kind m < (1 : Int)) = false] ++ (bdGd_c m x 0 ++ [(!sameMsgS m x) = true])) : Option (V × Heap × List Prop)) := by kernel_rfl

theorem bdGd_p0000000000000010 (m : SMsg) (x : SMsg) :
 along Tryz.prog (bdGd m x) [false, false, false, false, false, false, false, false, false, false, false, false, false, false, true, false] = (some (.bool false, [], [decide (SMsg.kind m < (1 : Int)) = false] ++ (bdGd_c m x 0 ++ (bdGd_c m x 1 ++ (bdGd_c m x 2 ++ [decide (SMsg.kind m = (2 : Int)) = true, q false])))) : Option (V × Heap × List Prop)) := by kernel_rfl

theorem bdGd_p00000000000000010 (m : SMsg) (x : SMsg) :
 along Tryz.prog (bdGd m x) [false, false, false, false, false, false, false, false, false, false, false, false, false, false, false, true, false] = (some (.bool false, [], [decide (SMsg.kind m < (1 : Int)) = false] ++ (bdGd_c m x 0 ++ (bdGd_c m x 1 ++ (bdGd_c m x 2 ++ [decide (SMsg.kind m = (2 : Int)) = false, decide (SMsg.kind m = (7 : Int)) = true, q false])))) : Option (V × Heap × List Prop)) := by kernel_rfl

theorem bdGd_p0000000000000000 (m : SMsg) (x : SMsg) :
 along Tryz.prog (bdGd m x) [false, false, false, false, false, false, false, false, false, false, false, false, false, false, false, false] = (some (.bool false, [], [decide (SMsg.kind m < (1 : Int)) = false] ++ (bdGd_c m x 0 ++ (bdGd_c m x 1 ++ (bdGd_c m x 2 ++ [decide (SMsg.kind m = (2 : Int)) = false, decide (SMsg.kind m = (7 : Int)) = false])))) : Option (V × Heap × List Prop)) := by kernel_rfl

theorem bdGd_p0001000000000010 (m : SMsg) (x : SMsg) :
 along Tryz.prog (bdGd m x) [false, false, false, true, false, false, false, false, false, false, false, false, false, false, true, false] = (some (.bool false, [], [decide (SMsg.kind m < (1 : Int)) = false] ++ (bdGd_c m x 0 ++ (bdGd_c m x 1 ++ (bdGd_c m x 3 ++ (bdGd_c m x 4 ++ [decide (SMsg.kind m = (2 : Int)) = true, q false]))))) : Option (V × Heap × List Prop)) := by kernel_rfl

theorem bdGd_p00010000000000010 (m : SMsg) (x : SMsg) :
 along Tryz.prog (bdGd m x) [false, false, false, true, false, false, false, false, false, false, false, false, false, false, false, true, false] = (some (.bool false, [], [decide (SMsg.kind m < (1 : Int)) = false] ++ (bdGd_c m x 0 ++ (bdGd_c m x 1 ++ (bdGd_c m x 3 ++ (bdGd_c m x 4 ++ [decide (SMsg.kind m = (2 : Int)) = false, decide (SMsg.kind m = (7 : Int)) = true, q false]))))) : Option (V × Heap × List Prop)) := by kernel_rfl

theorem bdGd_p0001000000000000 (m : SMsg) (x : SMsg) :
 along Tryz.prog (bdGd m x) [false, false, false, true, false, false, false, false, false, false, false, false, false, false, false, false] = (some (.bool false, [], [decide (SMsg.kind m < (1 : Int)) = false] ++ (bdGd_c m x 0 ++ (bdGd_c m x 1 ++ (bdGd_c m x 3 ++ (bdGd_c m x 4 ++ [decide (SMsg.kind m = (2 : Int)) = false, decide (SMsg.kind m = (7 : Int)) = false]))))) : Option (V × Heap × List Prop)) := by kernel_rfl

theorem bdGd_p0001100000000010 (m : SMsg) (x : SMsg) :
 along Tryz.prog (bdGd m x) [false, false, false, true, true, false, false, false, false, false, false, false, false, false, true, false] = (some (.bool false, [], [decide (SMsg.kind m < (1 : Int)) = false] ++ (bdGd_c m x 0 ++ (bdGd_c m x 1 ++ (bdGd_c m x 3 ++ (bdGd_c m x 5 ++ (bdGd_c m x 6 ++ [decide (SMsg.kind m = (2 : Int)) = true, q false])))))) : Option (V × Heap × List Prop)) := by kernel_rfl

theorem bdGd_p00011000000000010 (m : SMsg) (x : SMsg) :
 along Tryz.prog (bdGd m x) [false, false, false, true, true, false, false, false, false, false, false, false, false, false, false, true, false] = (some (.bool false, [], [decide (SMsg.kind m < (1 : Int)) = false] ++ (bdGd_c m x 0 ++ (bdGd_c m x 1 ++ (bdGd_c m x 3 ++ (bdGd_c m x 5 ++ (bdGd_c m x 6 ++ [decide (SMsg.kind m = (2 : Int)) = false, decide (SMsg.kind m = (7 : Int)) = true, q false])))))) : Option (V × Heap × List Prop)) := by kernel_rfl

theorem bdGd_p0001100000000000 (m : SMsg) (x : SMsg) :
 along Tryz.prog (bdGd m x) [false, false, false, true, true, false, false, false, false, false, false, false, false, false, false, false] = (some (.bool false, [], [decide (SMsg.kind m < (1 : Int)) = false] ++ (bdGd_c m x 0 ++ (bdGd_c m x 1 ++ (bdGd_c m x 3 ++ (bdGd_c m x 5 ++ (bdGd_c m x 6 ++ [decide (SMsg.kind m = (2 : Int)) = false, decide (SMsg.kind m = (7 : Int)) = false])))))) : Option (V × Heap × List Prop)) := by kernel_rfl

theorem bdGd_p0001110000000010 (m : SMsg) (x : SMsg) :
 along Tryz.prog (bdGd m x) [false, false, false, true, true, true, false, false, false, false, false, false, false, false, true, false] = (some (.bool false, [], [decide (SMsg.kind m < (1 : Int)) = false] ++ (bdGd_c m x 0 ++ (bdGd_c m x 1 ++ (bdGd_c m x 3 ++ (bdGd_c m x 5 ++ (bdGd_c m x 7 ++ (bdGd_c m x 8 ++ [decide (SMsg.kind m = (2 : Int)) = true, q false]))))))) : Option (V × Heap × List Prop)) := by kernel_rfl

theorem bdGd_p00011100000000010 (m : SMsg) (x : SMsg) :
 along Tryz.prog (bdGd m x) [false, false, false, true, true, true, false, false, false, false, false, false, false, false, false, true, false] = (some (.bool false, [], [decide (SMsg.kind m < (1 : Int)) = false] ++ (bdGd_c m x 0 ++ (bdGd_c m x 1 ++ (bdGd_c m x 3 ++ (bdGd_c m x 5 ++ (bdGd_c m x 7 ++ (bdGd_c m x 8 ++ [decide (SMsg.kind m = (2 : Int)) = false, decide (SMsg.kind m = (7 : Int)) = true, q false]))))))) : Option (V × Heap × List Prop)) := by kernel_rfl

theorem bdGd_p0001110000000000 (m : SMsg) (x : SMsg) :
 along Tryz.prog (bdGd m x) [false, false, false, true, true, true, false, false, false, false, false, false, false, false, false, false] = (some (.bool false, [], [decide (SMsg.kind m < (1 : Int)) = false] ++ (bdGd_c m x 0 ++ (bdGd_c m x 1 ++ (bdGd_c m x 3 ++ (bdGd_c m x 5 ++ (bdGd_c m x 7 ++ (bdGd_c m x 8 ++ [decide (SMsg.kind m = (2 : Int)) = false, decide (SMsg.kind m = (7 : Int)) = false]))))))) : Option (V × Heap × List Prop)) := by kernel_rfl

theorem bdGd_p0001111000000010 (m : SMsg) (x : SMsg) :
 along Tryz.prog (bdGd m x) [false, false, false, true, true, true, true, false, false, false, false, false, false, false, true, false] = (some (.bool false, [], [decide (SMsg.kind m < (1 : Int)) = false] ++ (bdGd_c m x 0 ++ (bdGd_c m x 1 ++ (bdGd_c m x 3 ++ (bdGd_c m x 5 ++ (bdGd_c m x 7 ++ (bdGd_c m x 9 ++ (bdGd_c m x 10 ++ [decide (SMsg.kind m = (2 : Int)) = true, q false])))))))) : Option (V × Heap × List Prop)) := by kernel_rfl

theorem bdGd_p00011110000000010 (m : SMsg) (x : SMsg) :
 along Tryz.prog (bdGd m x) [false, false, false, true, true, true, true, false, false, false, false, false, false, false, false, true, false] = (some (.bool false, [], [decide (SMsg.kind m < (1 : Int)) = false] ++ (bdGd_c m x 0 ++ (bdGd_c m x 1 ++ (bdGd_c m x 3 ++ (bdGd_c m x 5 ++ (bdGd_c m x 7 ++ (bdGd_c m x 9 ++ (bdGd_c m x 10 ++ [decide (SMsg.kind m = (2 : Int)) = false, decide (SMsg.kind m = (7 : Int)) = true, q false])))))))) : Option (V × Heap × List Prop)) := by kernel_rfl

theorem bdGd_p0001111000000000 (m : SMsg) (x : SMsg) :
 along Tryz.prog (bdGd m x) [false, false, false, true, true, true, true, false, false, false, false, false, false, false, false, false] = (some (.bool false, [], [decide (SMsg.kind m < (1 : Int)) = false] ++ (bdGd_c m x 0 ++ (bdGd_c m x 1 ++ (bdGd_c m x 3 ++ (bdGd_c m x 5 ++ (bdGd_c m x 7 ++ (bdGd_c m x 9 ++ (bdGd_c m x 10 ++ [decide (SMsg.kind m = (2 : Int)) = false, decide (SMsg.kind m = (7 : Int)) = false])))))))) : Option (V × Heap × List Prop)) := by kernel_rfl

theorem bdGd_p0001111100000010 (m : SMsg) (x : SMsg) :
 along Tryz.prog (bdGd m x) [false, false, false, true, true, true, true, true, false, false, false, false, false, false, true, false] = (some (.bool false, [], [decide (SMsg.kind m < (1 : Int)) = false] ++ (bdGd_c m x 0 ++ (bdGd_c m x 1 ++ (bdGd_c m x 3 ++ (bdGd_c m x 5 ++ (bdGd_c m x 7 ++ (bdGd_c m x 9 ++ (bdGd_c m x 11 ++ (bdGd_c m x 12 ++ [decide (SMsg.kind m = (2 : Int)) = true, q false]))))))))) : Option (V × Heap × List Prop)) := by kernel_rfl

theorem bdGd_p00011111000000010 (m : SMsg) (x : SMsg) :
 along Tryz.prog (bdGd m x) [false, false, false, true, true, true, true, true, false, false, false, false, false, false, false, true, false] = (some (.bool false, [], [decide (SMsg.kind m < (1 : Int)) = false] ++ (bdGd_c m x 0 ++ (bdGd_c m x 1 ++ (bdGd_c m x 3 ++ (bdGd_c m x 5 ++ (bdGd_c m x 7 ++ (bdGd_c m x 9 ++ (bdGd_c m x 11 ++ (bdGd_c m x 12 ++ [decide (SMsg.kind m = (2 : Int)) = false, decide (SMsg.kind m = (7 : Int)) = true, q false]))))))))) : Option (V × Heap × List Prop)) := by kernel_rfl

theorem bdGd_p0001111100000000 (m : SMsg) (x : SMsg) :
 along Tryz.prog (bdGd m x) [false, false, false, true, true, true, true, true, false, false, false, false, false, false, false, false] = (some (.bool false, [], [decide (SMsg.kind m < (1 : Int)) = false] ++ (bdGd_c m x 0 ++ (bdGd_c m x 1 ++ (bdGd_c m x 3 ++ (bdGd_c m x 5 ++ (bdGd_c m x 7 ++ (bdGd_c m x 9 ++ (bdGd_c m x 11 ++ (bdGd_c m x 12 ++ [decide (SMsg.kind m = (2 : Int)) = false, decide (SMsg.kind m = (7 : Int)) = false]))))))))) : Option (V × Heap × List Prop)) := by kernel_rfl

theorem bdGd_p0001111110000010 (m : SMsg) (x : SMsg) :
 along Tryz.prog (bdGd m x) [false, false, false, true, true, true, true, true, true, false, false, false, false, false, true, false] = (some (.bool false, [], [decide (SMsg.kind m < (1 : Int)) = false] ++ (bdGd_c m x 0 ++ (bdGd_c m x 1 ++ (bdGd_c m x 3 ++ (bdGd_c m x 5 ++ (bdGd_c m x 7 ++ (bdGd_c m x 9 ++ (bdGd_c m x 11 ++ (bdGd_c m x 13 ++ [uptoS (SMsg.cleader m) (64 : Int) = false, q false, q false, q false, q false, decide (SMsg.kind m = (2 : Int)) = true, q false]))))))))) : Option (V × Heap × List Prop)) := by kernel_rfl

theorem bdGd_p00011111100000010 (m : SMsg) (x : SMsg) :
 along Tryz.prog (bdGd m x) [false, false, false, true, true, true, true, true, true, false, false, false, false, false, false, true, false] = (some (.bool false, [], [decide (SMsg.kind m < (1 : Int)) = false] ++ (bdGd_c m x 0 ++ (bdGd_c m x 1 ++ (bdGd_c m x 3 ++ (bdGd_c m x 5 ++ (bdGd_c m x 7 ++ (bdGd_c m x 9 ++ (bdGd_c m x 11 ++ (bdGd_c m x 13 ++ [uptoS (SMsg.cleader m) (64 : Int) = false, q false, q false, q false, q false, decide (SMsg.kind m = (2 : Int)) = false, decide (SMsg.kind m = (7 : Int)) = true, q false]))))))))) : Option (V × Heap × List Prop)) := by kernel_rfl

theorem bdGd_p0001111110000000 (m : SMsg) (x : SMsg) :
 along Tryz.prog (bdGd m x) [false, false, false, true, true, true, true, true, true, false, false, false, false, false, false, false] = (some (.bool false, [], [decide (SMsg.kind m < (1 : Int)) = false] ++ (bdGd_c m x 0 ++ (bdGd_c m x 1 ++ (bdGd_c m x 3 ++ (bdGd_c m x 5 ++ (bdGd_c m x 7 ++ (bdGd_c m x 9 ++ (bdGd_c m x 11 ++ (bdGd_c m x 13 ++ [uptoS (SMsg.cleader m) (64 : Int) = false, q false, q false, q false, q false, decide (SMsg.kind m = (2 : Int)) = false, decide (SMsg.kind m = (7 : Int)) = false]))))))))) : Option (V × Heap × List Prop)) := by kernel_rfl

theorem bdGd_p0001111111000010 (m : SMsg) (x : SMsg) :
 along Tryz.prog (bdGd m x) [false, false, false, true, true, true, true, true, true, true, false, false, false, false, true, false] = (some (.bool false, [], [decide (SMsg.kind m < (1 : Int)) = false] ++ (bdGd_c m x 0 ++ (bdGd_c m x 1 ++ (bdGd_c m x 3 ++ (bdGd_c m x 5 ++ (bdGd_c m x 7 ++ (bdGd_c m x 9 ++ (bdGd_c m x 11 ++ (bdGd_c m x 13 ++ (bdGd_c m x 14 ++ (bdGd_c m x 15 ++ [decide (SMsg.kind m = (2 : Int)) = true, q false]))))))))))) : Option (V × Heap × List Prop)) := by kernel_rfl

theorem bdGd_p00011111110000010 (m : SMsg) (x : SMsg) :
 along Tryz.prog (bdGd m x) [false, false, false, true, true, true, true, true, true, true, false, false, false, false, false, true, false] = (some (.bool false, [], [decide (SMsg.kind m < (1 : Int)) = false] ++ (bdGd_c m x 0 ++ (bdGd_c m x 1 ++ (bdGd_c m x 3 ++ (bdGd_c m x 5 ++ (bdGd_c m x 7 ++ (bdGd_c m x 9 ++ (bdGd_c m x 11 ++ (bdGd_c m x 13 ++ (bdGd_c m x 14 ++ (bdGd_c m x 15 ++ [decide (SMsg.kind m = (2 : Int)) = false, decide (SMsg.kind m = (7 : Int)) = true, q false]))))))))))) : Option (V × Heap × List Prop)) := by kernel_rfl

theorem bdGd_p0001111111000000 (m : SMsg) (x : SMsg) :
 along Tryz.prog (bdGd m x) [false, false, false, true, true, true, true, true, true, true, false, false, false, false, false, false] = (some (.bool false, [], [decide (SMsg.kind m < (1 : Int)) = false] ++ (bdGd_c m x 0 ++ (bdGd_c m x 1 ++ (bdGd_c m x 3 ++ (bdGd_c m x 5 ++ (bdGd_c m x 7 ++ (bdGd_c m x 9 ++ (bdGd_c m x 11 ++ (bdGd_c m x 13 ++ (bdGd_c m x 14 ++ (bdGd_c m x 15 ++ [decide (SMsg.kind m = (2 : Int)) = false, decide (SMsg.kind m = (7 : Int)) = false]))))))))))) : Option (V × Heap × List Prop)) := by kernel_rfl

theorem bdGd_p0001111111100010 (m : SMsg) (x : SMsg) :
 along Tryz.prog (bdGd m x) [false, false, false, true, true, true, true, true, true, true, true, false, false, false, true, false] = (some (.bool false, [], [decide (SMsg.kind m < (1 : Int)) = false] ++ (bdGd_c m x 0 ++ (bdGd_c m x 1 ++ (bdGd_c m x 3 ++ (bdGd_c m x 5 ++ (bdGd_c m x 7 ++ (bdGd_c m x 9 ++ (bdGd_c m x 11 ++ (bdGd_c m x 13 ++ (bdGd_c m x 14 ++ (bdGd_c m x 16 ++ [mayBatchS (SMsg.batch m) = false, q false, q false, decide (SMsg.kind m = (2 : Int)) = true, q false]))))))))))) : Option (V × Heap × List Prop)) := by kernel_rfl

theorem bdGd_p00011111111000010 (m : SMsg) (x : SMsg) :
 along Tryz.prog (bdGd m x) [false, false, false, true, true, true, true, true, true, true, true, false, false, false, false, true, false] = (some (.bool false, [], [decide (SMsg.kind m < (1 : Int)) = false] ++ (bdGd_c m x 0 ++ (bdGd_c m x 1 ++ (bdGd_c m x 3 ++ (bdGd_c m x 5 ++ (bdGd_c m x 7 ++ (bdGd_c m x 9 ++ (bdGd_c m x 11 ++ (bdGd_c m x 13 ++ (bdGd_c m x 14 ++ (bdGd_c m x 16 ++ [mayBatchS (SMsg.batch m) = false, q false, q false, decide (SMsg.kind m = (2 : Int)) = false, decide (SMsg.kind m = (7 : Int)) = true, q false]))))))))))) : Option (V × Heap × List Prop)) := by kernel_rfl

theorem bdGd_p0001111111100000 (m : SMsg) (x : SMsg) :
 along Tryz.prog (bdGd m x) [false, false, false, true, true, true, true, true, true, true, true, false, false, false, false, false] = (some (.bool false, [], [decide (SMsg.kind m < (1 : Int)) = false] ++ (bdGd_c m x 0 ++ (bdGd_c m x 1 ++ (bdGd_c m x 3 ++ (bdGd_c m x 5 ++ (bdGd_c m x 7 ++ (bdGd_c m x 9 ++ (bdGd_c m x 11 ++ (bdGd_c m x 13 ++ (bdGd_c m x 14 ++ (bdGd_c m x 16 ++ [mayBatchS (SMsg.batch m) = false, q false, q false, decide (SMsg.kind m = (2 : Int)) = false, decide (SMsg.kind m = (7 : Int)) = false]))))))))))) : Option (V × Heap × List Prop)) := by kernel_rfl

theorem bdGd_p0001111111110010 (m : SMsg) (x : SMsg) :
 along Tryz.prog (bdGd m x) [false, false, false, true, true, true, true, true, true, true, true, true, false, false, true, false] = (some (.bool false, [], [decide (SMsg.kind m < (1 : Int)) = false] ++ (bdGd_c m x 0 ++ (bdGd_c m x 1 ++ (bdGd_c m x 3 ++ (bdGd_c m x 5 ++ (bdGd_c m x 7 ++ (bdGd_c m x 9 ++ (bdGd_c m x 11 ++ (bdGd_c m x 13 ++ (bdGd_c m x 14 ++ (bdGd_c m x 16 ++ (bdGd_c m x 17 ++ [(allS (SMsg.nnews m) (64 : Nat) fun i => mayEnvS (SMsg.news m i)) = false, q false, decide (SMsg.kind m = (2 : Int)) = true, q false])))))))))))) : Option (V × Heap × List Prop)) := by kernel_rfl

theorem bdGd_p00011111111100010 (m : SMsg) (x : SMsg) :
 along Tryz.prog (bdGd m x) [false, false, false, true, true, true, true, true, true, true, true, true, false, false, false, true, false] = (some (.bool false, [], [decide (SMsg.kind m < (1 : Int)) = false] ++ (bdGd_c m x 0 ++ (bdGd_c m x 1 ++ (bdGd_c m x 3 ++ (bdGd_c m x 5 ++ (bdGd_c m x 7 ++ (bdGd_c m x 9 ++ (bdGd_c m x 11 ++ (bdGd_c m x 13 ++ (bdGd_c m x 14 ++ (bdGd_c m x 16 ++ (bdGd_c m x 17 ++ [(allS (SMsg.nnews m) (64 : Nat) fun i => mayEnvS (SMsg.news m i)) = false, q false, decide (SMsg.kind m = (2 : Int)) = false, decide (SMsg.kind m = (7 : Int)) = true, q false])))))))))))) : Option (V × Heap × List Prop)) := by kernel_rfl

theorem bdGd_p0001111111110000 (m : SMsg) (x : SMsg) :
 along Tryz.prog (bdGd m x) [false, false, false, true, true, true, true, true, true, true, true, true, false, false, false, false] = (some (.bool false, [], [decide (SMsg.kind m < (1 : Int)) = false] ++ (bdGd_c m x 0 ++ (bdGd_c m x 1 ++ (bdGd_c m x 3 ++ (bdGd_c m x 5 ++ (bdGd_c m x 7 ++ (bdGd_c m x 9 ++ (bdGd_c m x 11 ++ (bdGd_c m x 13 ++ (bdGd_c m x 14 ++ (bdGd_c m x 16 ++ (bdGd_c m x 17 ++ [(allS (SMsg.nnews m) (64 : Nat) fun i => mayEnvS (SMsg.news m i)) = false, q false, decide (SMsg.kind m = (2 : Int)) = false, decide (SMsg.kind m = (7 : Int)) = false])))))))))))) : Option (V × Heap × List Prop)) := by kernel_rfl

theorem bdGd_p0001111111111010 (m : SMsg) (x : SMsg) :
 along Tryz.prog (bdGd m x) [false, false, false, true, true, true, true, true, true, true, true, true, true, false, true, false] = (some (.bool false, [], [decide (SMsg.kind m < (1 : Int)) = false] ++ (bdGd_c m x 0 ++ (bdGd_c m x 1 ++ (bdGd_c m x 3 ++ (bdGd_c m x 5 ++ (bdGd_c m x 7 ++ (bdGd_c m x 9 ++ (bdGd_c m x 11 ++ (bdGd_c m x 13 ++ (bdGd_c m x 14 ++ (bdGd_c m x 16 ++ (bdGd_c m x 17 ++ (bdGd_c m x 18 ++ [(allS (SMsg.n m) (64 : Nat) fun i => maySignS (SMsg.sig m i)) = false, decide (SMsg.kind m = (2 : Int)) = true, q false]))))))))))))) : Option (V × Heap × List Prop)) := by kernel_rfl

theorem bdGd_p00011111111110010 (m : SMsg) (x : SMsg) :
 along Tryz.prog (bdGd m x) [false, false, false, true, true, true, true, true, true, true, true, true, true, false, false, true, false] = (some (.bool false, [], [decide (SMsg.kind m < (1 : Int)) = false] ++ (bdGd_c m x 0 ++ (bdGd_c m x 1 ++ (bdGd_c m x 3 ++ (bdGd_c m x 5 ++ (bdGd_c m x 7 ++ (bdGd_c m x 9 ++ (bdGd_c m x 11 ++ (bdGd_c m x 13 ++ (bdGd_c m x 14 ++ (bdGd_c m x 16 ++ (bdGd_c m x 17 ++ (bdGd_c m x 18 ++ [(allS (SMsg.n m) (64 : Nat) fun i => maySignS (SMsg.sig m i)) = false, decide (SMsg.kind m = (2 : Int)) = false, decide (SMsg.kind m = (7 : Int)) = true, q false]))))))))))))) : Option (V × Heap × List Prop)) := by kernel_rfl

theorem bdGd_p0001111111111000 (m : SMsg) (x : SMsg) :
 along Tryz.prog (bdGd m x) [false, false, false, true, true, true, true, true, true, true, true, true, true, false, false, false] = (some (.bool false, [], [decide (SMsg.kind m < (1 : Int)) = false] ++ (bdGd_c m x 0 ++ (bdGd_c m x 1 ++ (bdGd_c m x 3 ++ (bdGd_c m x 5 ++ (bdGd_c m x 7 ++ (bdGd_c m x 9 ++ (bdGd_c m x 11 ++ (bdGd_c m x 13 ++ (bdGd_c m x 14 ++ (bdGd_c m x 16 ++ (bdGd_c m x 17 ++ (bdGd_c m x 18 ++ [(allS (SMsg.n m) (64 : Nat) fun i => maySignS (SMsg.sig m i)) = false, decide (SMsg.kind m = (2 : Int)) = false, decide (SMsg.kind m = (7 : Int)) = false]))))))))))))) : Option (V × Heap × List Prop)) := by kernel_rfl

theorem bdGd_p0001111111111110 (m : SMsg) (x : SMsg) :
 along Tryz.prog (bdGd m x) [false, false, false, true, true, true, true, true, true, true, true, true, true, true, true, false] = (some (.bool false, [], [decide (SMsg.kind m < (1 : Int)) = false] ++ (bdGd_c m x 0 ++ (bdGd_c m x 1 ++ (bdGd_c m x 3 ++ (bdGd_c m x 5 ++ (bdGd_c m x 7 ++ (bdGd_c m x 9 ++ (bdGd_c m x 11 ++ (bdGd_c m x 13 ++ (bdGd_c m x 14 ++ (bdGd_c m x 16 ++ (bdGd_c m x 17 ++ (bdGd_c m x 18 ++ [(allS (SMsg.n m) (64 : Nat) fun i => maySignS (SMsg.sig m i)) = true, decide (SMsg.kind m = (2 : Int)) = true, decide ((↑(ByteArray.size (SMsg.state m)) : Int) ≤ (4194304 : Int)) = false]))))))))))))) : Option (V × Heap × List Prop)) := by kernel_rfl

theorem bdGd_p0001111111111111 (m : SMsg) (x : SMsg) :
 along Tryz.prog (bdGd m x) [false, false, false, true, true, true, true, true, true, true, true, true, true, true, true, true] = (some (.bool (mayVoteS (SMsg.vote m)), [], [decide (SMsg.kind m < (1 : Int)) = false] ++ (bdGd_c m x 0 ++ (bdGd_c m x 1 ++ (bdGd_c m x 3 ++ (bdGd_c m x 5 ++ (bdGd_c m x 7 ++ (bdGd_c m x 9 ++ (bdGd_c m x 11 ++ (bdGd_c m x 13 ++ (bdGd_c m x 14 ++ (bdGd_c m x 16 ++ (bdGd_c m x 17 ++ (bdGd_c m x 18 ++ [(allS (SMsg.n m) (64 : Nat) fun i => maySignS (SMsg.sig m i)) = true, decide (SMsg.kind m = (2 : Int)) = true, decide ((↑(ByteArray.size (SMsg.state m)) : Int) ≤ (4194304 : Int)) = true, T Tryz.prog 58 [.agg (SVote.c (SMsg.vote m))] [] (.bool (mayVoteS (SMsg.vote m))) []]))))))))))))) : Option (V × Heap × List Prop)) := by kernel_rfl

theorem bdGd_p00011111111111010 (m : SMsg) (x : SMsg) :
 along Tryz.prog (bdGd m x) [false, false, false, true, true, true, true, true, true, true, true, true, true, true, false, true, false] = (some (.bool false, [], [decide (SMsg.kind m < (1 : Int)) = false] ++ (bdGd_c m x 0 ++ (bdGd_c m x 1 ++ (bdGd_c m x 3 ++ (bdGd_c m x 5 ++ (bdGd_c m x 7 ++ (bdGd_c m x 9 ++ (bdGd_c m x 11 ++ (bdGd_c m x 13 ++ (bdGd_c m x 14 ++ (bdGd_c m x 16 ++ (bdGd_c m x 17 ++ (bdGd_c m x 18 ++ [(allS (SMsg.n m) (64 : Nat) fun i => maySignS (SMsg.sig m i)) = true, decide (SMsg.kind m = (2 : Int)) = false, decide (SMsg.kind m = (7 : Int)) = true, decide ((↑(ByteArray.size (SMsg.state m)) : Int) ≤ (4194304 : Int)) = false]))))))))))))) : Option (V × Heap × List Prop)) := by kernel_rfl

theorem bdGd_p00011111111111011 (m : SMsg) (x : SMsg) :
 along Tryz.prog (bdGd m x) [false, false, false, true, true, true, true, true, true, true, true, true, true, true, false, true, true] = (some (.bool (mayCertS (SMsg.cert m)), [], [decide (SMsg.kind m < (1 : Int)) = false] ++ (bdGd_c m x 0 ++ (bdGd_c m x 1 ++ (bdGd_c m x 3 ++ (bdGd_c m x 5 ++ (bdGd_c m x 7 ++ (bdGd_c m x 9 ++ (bdGd_c m x 11 ++ (bdGd_c m x 13 ++ (bdGd_c m x 14 ++ (bdGd_c m x 16 ++ (bdGd_c m x 17 ++ (bdGd_c m x 18 ++ [(allS (SMsg.n m) (64 : Nat) fun i => maySignS (SMsg.sig m i)) = true, decide (SMsg.kind m = (2 : Int)) = false, decide (SMsg.kind m = (7 : Int)) = true, decide ((↑(ByteArray.size (SMsg.state m)) : Int) ≤ (4194304 : Int)) = true, T Tryz.prog 59 [.agg [.int .i64 (SVote.kind (SCert.vote (SMsg.cert m))), .int .i64 (SVote.epoch (SCert.vote (SMsg.cert m))), .int .i64 (SVote.view (SCert.vote (SMsg.cert m))), .int .i64 (SVote.slot (SCert.vote (SMsg.cert m))), .seg .u8 32 (SVote.digest (SCert.vote (SMsg.cert m))), sg (SCert.n (SMsg.cert m)) (SCert.sig (SMsg.cert m))]] [] (.bool (mayCertS (SMsg.cert m))) []]))))))))))))) : Option (V × Heap × List Prop)) := by kernel_rfl

theorem bdGd_p0001111111111100 (m : SMsg) (x : SMsg) :
 along Tryz.prog (bdGd m x) [false, false, false, true, true, true, true, true, true, true, true, true, true, true, false, false] = (some (.bool (decide ((↑(ByteArray.size (SMsg.state m)) : Int) ≤ (4194304 : Int))), [], [decide (SMsg.kind m < (1 : Int)) = false] ++ (bdGd_c m x 0 ++ (bdGd_c m x 1 ++ (bdGd_c m x 3 ++ (bdGd_c m x 5 ++ (bdGd_c m x 7 ++ (bdGd_c m x 9 ++ (bdGd_c m x 11 ++ (bdGd_c m x 13 ++ (bdGd_c m x 14 ++ (bdGd_c m x 16 ++ (bdGd_c m x 17 ++ (bdGd_c m x 18 ++ [(allS (SMsg.n m) (64 : Nat) fun i => maySignS (SMsg.sig m i)) = true, decide (SMsg.kind m = (2 : Int)) = false, decide (SMsg.kind m = (7 : Int)) = false]))))))))))))) : Option (V × Heap × List Prop)) := by kernel_rfl

theorem T_gd {m : SMsg} (hf : FitM m) : T Tryz.prog 11 [.agg m.c] [] (.bool (goodS m)) [] := by
 have hb := hf.held
 by_cases h1 : m.kind < 1
 ·
  refine T.bool (T_al (bdGd_p111 m (onlyS m)) Tryz.func11 ?_) (by simp [goodS, mayChangeS, h1] <;> omega)
  simp only [All, All_append, bdGd_c]
  and_intros
  all_goals first
   | exact T_ol m
   | exact T_rm m (onlyS m) hf
   | exact T_vu _ _
   | exact T_vv m.vote
   | exact T_vc m.cert (by have := hf.cert; omega)
   | exact T_vp m.batch
   | exact T_vh m.held (by have := hf.nheld; omega) (fun k hk => by have := (hb k hk).2; omega)
   | exact T_vn m.news (by have := hf.nnews; omega)
   | exact T_vs m.sig (by have := hf.n; omega)
   | (simp [h1]; done)
   | (simp [h1] <;> omega)
 by_cases h2 : 8 < m.kind
 ·
  refine T.bool (T_al (bdGd_p011 m (onlyS m)) Tryz.func11 ?_) (by simp [goodS, mayChangeS, h1, h2] <;> omega)
  simp only [All, All_append, bdGd_c]
  and_intros
  all_goals first
   | exact T_ol m
   | exact T_rm m (onlyS m) hf
   | exact T_vu _ _
   | exact T_vv m.vote
   | exact T_vc m.cert (by have := hf.cert; omega)
   | exact T_vp m.batch
   | exact T_vh m.held (by have := hf.nheld; omega) (fun k hk => by have := (hb k hk).2; omega)
   | exact T_vn m.news (by have := hf.nnews; omega)
   | exact T_vs m.sig (by have := hf.n; omega)
   | (simp [h1, h2]; done)
   | (simp [h1, h2] <;> omega)
 by_cases h3 : sameMsgS m (onlyS m) = true
 rotate_left
 ·
  refine T.bool (T_al (bdGd_p001 m (onlyS m)) Tryz.func11 ?_) (by simp [goodS, mayChangeS, h1, h2, h3] <;> omega)
  simp only [All, All_append, bdGd_c]
  and_intros
  all_goals first
   | exact T_ol m
   | exact T_rm m (onlyS m) hf
   | exact T_vu _ _
   | exact T_vv m.vote
   | exact T_vc m.cert (by have := hf.cert; omega)
   | exact T_vp m.batch
   | exact T_vh m.held (by have := hf.nheld; omega) (fun k hk => by have := (hb k hk).2; omega)
   | exact T_vn m.news (by have := hf.nnews; omega)
   | exact T_vs m.sig (by have := hf.n; omega)
   | (simp [h1, h2, h3]; done)
   | (simp [h1, h2, h3] <;> omega)
 have k1 : 1 ≤ m.kind := by omega
 have k2 : m.kind ≤ 8 := by omega
 by_cases q0 : uptoS m.epoch 1048576 = true
 rotate_left
 ·
  by_cases g2 : m.kind = 2
  ·
   refine T.bool (T_al (bdGd_p0000000000000010 m (onlyS m)) Tryz.func11 ?_) (by simp [goodS, mayChangeS, h1, h2, h3, k1, k2, q0, g2] <;> omega)
   simp only [All, All_append, bdGd_c]
   and_intros
   all_goals first
    | exact T_ol m
    | exact T_rm m (onlyS m) hf
    | exact T_vu _ _
    | exact T_vv m.vote
    | exact T_vc m.cert (by have := hf.cert; omega)
    | exact T_vp m.batch
    | exact T_vh m.held (by have := hf.nheld; omega) (fun k hk => by have := (hb k hk).2; omega)
    | exact T_vn m.news (by have := hf.nnews; omega)
    | exact T_vs m.sig (by have := hf.n; omega)
    | (simp [h1, h2, h3, k1, k2, q0, g2]; done)
    | (simp [h1, h2, h3, k1, k2, q0, g2] <;> omega)
  by_cases g7 : m.kind = 7
  ·
   refine T.bool (T_al (bdGd_p00000000000000010 m (onlyS m)) Tryz.func11 ?_) (by simp [goodS, mayChangeS, h1, h2, h3, k1, k2, q0, g7] <;> omega)
   simp only [All, All_append, bdGd_c]
   and_intros
   all_goals first
    | exact T_ol m
    | exact T_rm m (onlyS m) hf
    | exact T_vu _ _
    | exact T_vv m.vote
    | exact T_vc m.cert (by have := hf.cert; omega)
    | exact T_vp m.batch
    | exact T_vh m.held (by have := hf.nheld; omega) (fun k hk => by have := (hb k hk).2; omega)
    | exact T_vn m.news (by have := hf.nnews; omega)
    | exact T_vs m.sig (by have := hf.n; omega)
    | (simp [h1, h2, h3, k1, k2, q0, g7]; done)
    | (simp [h1, h2, h3, k1, k2, q0, g7] <;> omega)
  refine T.bool (T_al (bdGd_p0000000000000000 m (onlyS m)) Tryz.func11 ?_) (by simp [goodS, mayChangeS, h1, h2, h3, k1, k2, q0, g2, g7] <;> omega)
  simp only [All, All_append, bdGd_c]
  and_intros
  all_goals first
   | exact T_ol m
   | exact T_rm m (onlyS m) hf
   | exact T_vu _ _
   | exact T_vv m.vote
   | exact T_vc m.cert (by have := hf.cert; omega)
   | exact T_vp m.batch
   | exact T_vh m.held (by have := hf.nheld; omega) (fun k hk => by have := (hb k hk).2; omega)
   | exact T_vn m.news (by have := hf.nnews; omega)
   | exact T_vs m.sig (by have := hf.n; omega)
   | (simp [h1, h2, h3, k1, k2, q0, g2, g7]; done)
   | (simp [h1, h2, h3, k1, k2, q0, g2, g7] <;> omega)
 by_cases q1 : uptoS m.slot 1099511627776 = true
 rotate_left
 ·
  by_cases g2 : m.kind = 2
  ·
   refine T.bool (T_al (bdGd_p0001000000000010 m (onlyS m)) Tryz.func11 ?_) (by simp [goodS, mayChangeS, h1, h2, h3, k1, k2, q0, q1, g2] <;> omega)
   simp only [All, All_append, bdGd_c]
   and_intros
   all_goals first
    | exact T_ol m
    | exact T_rm m (onlyS m) hf
    | exact T_vu _ _
    | exact T_vv m.vote
    | exact T_vc m.cert (by have := hf.cert; omega)
    | exact T_vp m.batch
    | exact T_vh m.held (by have := hf.nheld; omega) (fun k hk => by have := (hb k hk).2; omega)
    | exact T_vn m.news (by have := hf.nnews; omega)
    | exact T_vs m.sig (by have := hf.n; omega)
    | (simp [h1, h2, h3, k1, k2, q0, q1, g2]; done)
    | (simp [h1, h2, h3, k1, k2, q0, q1, g2] <;> omega)
  by_cases g7 : m.kind = 7
  ·
   refine T.bool (T_al (bdGd_p00010000000000010 m (onlyS m)) Tryz.func11 ?_) (by simp [goodS, mayChangeS, h1, h2, h3, k1, k2, q0, q1, g7] <;> omega)
   simp only [All, All_append, bdGd_c]
   and_intros
   all_goals first
    | exact T_ol m
    | exact T_rm m (onlyS m) hf
    | exact T_vu _ _
    | exact T_vv m.vote
    | exact T_vc m.cert (by have := hf.cert; omega)
    | exact T_vp m.batch
    | exact T_vh m.held (by have := hf.nheld; omega) (fun k hk => by have := (hb k hk).2; omega)
    | exact T_vn m.news (by have := hf.nnews; omega)
    | exact T_vs m.sig (by have := hf.n; omega)
    | (simp [h1, h2, h3, k1, k2, q0, q1, g7]; done)
    | (simp [h1, h2, h3, k1, k2, q0, q1, g7] <;> omega)
  refine T.bool (T_al (bdGd_p0001000000000000 m (onlyS m)) Tryz.func11 ?_) (by simp [goodS, mayChangeS, h1, h2, h3, k1, k2, q0, q1, g2, g7] <;> omega)
  simp only [All, All_append, bdGd_c]
  and_intros
  all_goals first
   | exact T_ol m
   | exact T_rm m (onlyS m) hf
   | exact T_vu _ _
   | exact T_vv m.vote
   | exact T_vc m.cert (by have := hf.cert; omega)
   | exact T_vp m.batch
   | exact T_vh m.held (by have := hf.nheld; omega) (fun k hk => by have := (hb k hk).2; omega)
   | exact T_vn m.news (by have := hf.nnews; omega)
   | exact T_vs m.sig (by have := hf.n; omega)
   | (simp [h1, h2, h3, k1, k2, q0, q1, g2, g7]; done)
   | (simp [h1, h2, h3, k1, k2, q0, q1, g2, g7] <;> omega)
 by_cases q2 : uptoS m.view 1099511627776 = true
 rotate_left
 ·
  by_cases g2 : m.kind = 2
  ·
   refine T.bool (T_al (bdGd_p0001100000000010 m (onlyS m)) Tryz.func11 ?_) (by simp [goodS, mayChangeS, h1, h2, h3, k1, k2, q0, q1, q2, g2] <;> omega)
   simp only [All, All_append, bdGd_c]
   and_intros
   all_goals first
    | exact T_ol m
    | exact T_rm m (onlyS m) hf
    | exact T_vu _ _
    | exact T_vv m.vote
    | exact T_vc m.cert (by have := hf.cert; omega)
    | exact T_vp m.batch
    | exact T_vh m.held (by have := hf.nheld; omega) (fun k hk => by have := (hb k hk).2; omega)
    | exact T_vn m.news (by have := hf.nnews; omega)
    | exact T_vs m.sig (by have := hf.n; omega)
    | (simp [h1, h2, h3, k1, k2, q0, q1, q2, g2]; done)
    | (simp [h1, h2, h3, k1, k2, q0, q1, q2, g2] <;> omega)
  by_cases g7 : m.kind = 7
  ·
   refine T.bool (T_al (bdGd_p00011000000000010 m (onlyS m)) Tryz.func11 ?_) (by simp [goodS, mayChangeS, h1, h2, h3, k1, k2, q0, q1, q2, g7] <;> omega)
   simp only [All, All_append, bdGd_c]
   and_intros
   all_goals first
    | exact T_ol m
    | exact T_rm m (onlyS m) hf
    | exact T_vu _ _
    | exact T_vv m.vote
    | exact T_vc m.cert (by have := hf.cert; omega)
    | exact T_vp m.batch
    | exact T_vh m.held (by have := hf.nheld; omega) (fun k hk => by have := (hb k hk).2; omega)
    | exact T_vn m.news (by have := hf.nnews; omega)
    | exact T_vs m.sig (by have := hf.n; omega)
    | (simp [h1, h2, h3, k1, k2, q0, q1, q2, g7]; done)
    | (simp [h1, h2, h3, k1, k2, q0, q1, q2, g7] <;> omega)
  refine T.bool (T_al (bdGd_p0001100000000000 m (onlyS m)) Tryz.func11 ?_) (by simp [goodS, mayChangeS, h1, h2, h3, k1, k2, q0, q1, q2, g2, g7] <;> omega)
  simp only [All, All_append, bdGd_c]
  and_intros
  all_goals first
   | exact T_ol m
   | exact T_rm m (onlyS m) hf
   | exact T_vu _ _
   | exact T_vv m.vote
   | exact T_vc m.cert (by have := hf.cert; omega)
   | exact T_vp m.batch
   | exact T_vh m.held (by have := hf.nheld; omega) (fun k hk => by have := (hb k hk).2; omega)
   | exact T_vn m.news (by have := hf.nnews; omega)
   | exact T_vs m.sig (by have := hf.n; omega)
   | (simp [h1, h2, h3, k1, k2, q0, q1, q2, g2, g7]; done)
   | (simp [h1, h2, h3, k1, k2, q0, q1, q2, g2, g7] <;> omega)
 by_cases q3 : uptoS m.leader 64 = true
 rotate_left
 ·
  by_cases g2 : m.kind = 2
  ·
   refine T.bool (T_al (bdGd_p0001110000000010 m (onlyS m)) Tryz.func11 ?_) (by simp [goodS, mayChangeS, h1, h2, h3, k1, k2, q0, q1, q2, q3, g2] <;> omega)
   simp only [All, All_append, bdGd_c]
   and_intros
   all_goals first
    | exact T_ol m
    | exact T_rm m (onlyS m) hf
    | exact T_vu _ _
    | exact T_vv m.vote
    | exact T_vc m.cert (by have := hf.cert; omega)
    | exact T_vp m.batch
    | exact T_vh m.held (by have := hf.nheld; omega) (fun k hk => by have := (hb k hk).2; omega)
    | exact T_vn m.news (by have := hf.nnews; omega)
    | exact T_vs m.sig (by have := hf.n; omega)
    | (simp [h1, h2, h3, k1, k2, q0, q1, q2, q3, g2]; done)
    | (simp [h1, h2, h3, k1, k2, q0, q1, q2, q3, g2] <;> omega)
  by_cases g7 : m.kind = 7
  ·
   refine T.bool (T_al (bdGd_p00011100000000010 m (onlyS m)) Tryz.func11 ?_) (by simp [goodS, mayChangeS, h1, h2, h3, k1, k2, q0, q1, q2, q3, g7] <;> omega)
   simp only [All, All_append, bdGd_c]
   and_intros
   all_goals first
    | exact T_ol m
    | exact T_rm m (onlyS m) hf
    | exact T_vu _ _
    | exact T_vv m.vote
    | exact T_vc m.cert (by have := hf.cert; omega)
    | exact T_vp m.batch
    | exact T_vh m.held (by have := hf.nheld; omega) (fun k hk => by have := (hb k hk).2; omega)
    | exact T_vn m.news (by have := hf.nnews; omega)
    | exact T_vs m.sig (by have := hf.n; omega)
    | (simp [h1, h2, h3, k1, k2, q0, q1, q2, q3, g7]; done)
    | (simp [h1, h2, h3, k1, k2, q0, q1, q2, q3, g7] <;> omega)
  refine T.bool (T_al (bdGd_p0001110000000000 m (onlyS m)) Tryz.func11 ?_) (by simp [goodS, mayChangeS, h1, h2, h3, k1, k2, q0, q1, q2, q3, g2, g7] <;> omega)
  simp only [All, All_append, bdGd_c]
  and_intros
  all_goals first
   | exact T_ol m
   | exact T_rm m (onlyS m) hf
   | exact T_vu _ _
   | exact T_vv m.vote
   | exact T_vc m.cert (by have := hf.cert; omega)
   | exact T_vp m.batch
   | exact T_vh m.held (by have := hf.nheld; omega) (fun k hk => by have := (hb k hk).2; omega)
   | exact T_vn m.news (by have := hf.nnews; omega)
   | exact T_vs m.sig (by have := hf.n; omega)
   | (simp [h1, h2, h3, k1, k2, q0, q1, q2, q3, g2, g7]; done)
   | (simp [h1, h2, h3, k1, k2, q0, q1, q2, q3, g2, g7] <;> omega)
 by_cases q4 : uptoS m.cepoch 1048576 = true
 rotate_left
 ·
  by_cases g2 : m.kind = 2
  ·
   refine T.bool (T_al (bdGd_p0001111000000010 m (onlyS m)) Tryz.func11 ?_) (by simp [goodS, mayChangeS, h1, h2, h3, k1, k2, q0, q1, q2, q3, q4, g2] <;> omega)
   simp only [All, All_append, bdGd_c]
   and_intros
   all_goals first
    | exact T_ol m
    | exact T_rm m (onlyS m) hf
    | exact T_vu _ _
    | exact T_vv m.vote
    | exact T_vc m.cert (by have := hf.cert; omega)
    | exact T_vp m.batch
    | exact T_vh m.held (by have := hf.nheld; omega) (fun k hk => by have := (hb k hk).2; omega)
    | exact T_vn m.news (by have := hf.nnews; omega)
    | exact T_vs m.sig (by have := hf.n; omega)
    | (simp [h1, h2, h3, k1, k2, q0, q1, q2, q3, q4, g2]; done)
    | (simp [h1, h2, h3, k1, k2, q0, q1, q2, q3, q4, g2] <;> omega)
  by_cases g7 : m.kind = 7
  ·
   refine T.bool (T_al (bdGd_p00011110000000010 m (onlyS m)) Tryz.func11 ?_) (by simp [goodS, mayChangeS, h1, h2, h3, k1, k2, q0, q1, q2, q3, q4, g7] <;> omega)
   simp only [All, All_append, bdGd_c]
   and_intros
   all_goals first
    | exact T_ol m
    | exact T_rm m (onlyS m) hf
    | exact T_vu _ _
    | exact T_vv m.vote
    | exact T_vc m.cert (by have := hf.cert; omega)
    | exact T_vp m.batch
    | exact T_vh m.held (by have := hf.nheld; omega) (fun k hk => by have := (hb k hk).2; omega)
    | exact T_vn m.news (by have := hf.nnews; omega)
    | exact T_vs m.sig (by have := hf.n; omega)
    | (simp [h1, h2, h3, k1, k2, q0, q1, q2, q3, q4, g7]; done)
    | (simp [h1, h2, h3, k1, k2, q0, q1, q2, q3, q4, g7] <;> omega)
  refine T.bool (T_al (bdGd_p0001111000000000 m (onlyS m)) Tryz.func11 ?_) (by simp [goodS, mayChangeS, h1, h2, h3, k1, k2, q0, q1, q2, q3, q4, g2, g7] <;> omega)
  simp only [All, All_append, bdGd_c]
  and_intros
  all_goals first
   | exact T_ol m
   | exact T_rm m (onlyS m) hf
   | exact T_vu _ _
   | exact T_vv m.vote
   | exact T_vc m.cert (by have := hf.cert; omega)
   | exact T_vp m.batch
   | exact T_vh m.held (by have := hf.nheld; omega) (fun k hk => by have := (hb k hk).2; omega)
   | exact T_vn m.news (by have := hf.nnews; omega)
   | exact T_vs m.sig (by have := hf.n; omega)
   | (simp [h1, h2, h3, k1, k2, q0, q1, q2, q3, q4, g2, g7]; done)
   | (simp [h1, h2, h3, k1, k2, q0, q1, q2, q3, q4, g2, g7] <;> omega)
 by_cases q5 : uptoS m.cview 1099511627776 = true
 rotate_left
 ·
  by_cases g2 : m.kind = 2
  ·
   refine T.bool (T_al (bdGd_p0001111100000010 m (onlyS m)) Tryz.func11 ?_) (by simp [goodS, mayChangeS, h1, h2, h3, k1, k2, q0, q1, q2, q3, q4, q5, g2] <;> omega)
   simp only [All, All_append, bdGd_c]
   and_intros
   all_goals first
    | exact T_ol m
    | exact T_rm m (onlyS m) hf
    | exact T_vu _ _
    | exact T_vv m.vote
    | exact T_vc m.cert (by have := hf.cert; omega)
    | exact T_vp m.batch
    | exact T_vh m.held (by have := hf.nheld; omega) (fun k hk => by have := (hb k hk).2; omega)
    | exact T_vn m.news (by have := hf.nnews; omega)
    | exact T_vs m.sig (by have := hf.n; omega)
    | (simp [h1, h2, h3, k1, k2, q0, q1, q2, q3, q4, q5, g2]; done)
    | (simp [h1, h2, h3, k1, k2, q0, q1, q2, q3, q4, q5, g2] <;> omega)
  by_cases g7 : m.kind = 7
  ·
   refine T.bool (T_al (bdGd_p00011111000000010 m (onlyS m)) Tryz.func11 ?_) (by simp [goodS, mayChangeS, h1, h2, h3, k1, k2, q0, q1, q2, q3, q4, q5, g7] <;> omega)
   simp only [All, All_append, bdGd_c]
   and_intros
   all_goals first
    | exact T_ol m
    | exact T_rm m (onlyS m) hf
    | exact T_vu _ _
    | exact T_vv m.vote
    | exact T_vc m.cert (by have := hf.cert; omega)
    | exact T_vp m.batch
    | exact T_vh m.held (by have := hf.nheld; omega) (fun k hk => by have := (hb k hk).2; omega)
    | exact T_vn m.news (by have := hf.nnews; omega)
    | exact T_vs m.sig (by have := hf.n; omega)
    | (simp [h1, h2, h3, k1, k2, q0, q1, q2, q3, q4, q5, g7]; done)
    | (simp [h1, h2, h3, k1, k2, q0, q1, q2, q3, q4, q5, g7] <;> omega)
  refine T.bool (T_al (bdGd_p0001111100000000 m (onlyS m)) Tryz.func11 ?_) (by simp [goodS, mayChangeS, h1, h2, h3, k1, k2, q0, q1, q2, q3, q4, q5, g2, g7] <;> omega)
  simp only [All, All_append, bdGd_c]
  and_intros
  all_goals first
   | exact T_ol m
   | exact T_rm m (onlyS m) hf
   | exact T_vu _ _
   | exact T_vv m.vote
   | exact T_vc m.cert (by have := hf.cert; omega)
   | exact T_vp m.batch
   | exact T_vh m.held (by have := hf.nheld; omega) (fun k hk => by have := (hb k hk).2; omega)
   | exact T_vn m.news (by have := hf.nnews; omega)
   | exact T_vs m.sig (by have := hf.n; omega)
   | (simp [h1, h2, h3, k1, k2, q0, q1, q2, q3, q4, q5, g2, g7]; done)
   | (simp [h1, h2, h3, k1, k2, q0, q1, q2, q3, q4, q5, g2, g7] <;> omega)
 by_cases q6 : uptoS m.cleader 64 = true
 rotate_left
 ·
  by_cases g2 : m.kind = 2
  ·
   refine T.bool (T_al (bdGd_p0001111110000010 m (onlyS m)) Tryz.func11 ?_) (by simp [goodS, mayChangeS, h1, h2, h3, k1, k2, q0, q1, q2, q3, q4, q5, q6, g2] <;> omega)
   simp only [All, All_append, bdGd_c]
   and_intros
   all_goals first
    | exact T_ol m
    | exact T_rm m (onlyS m) hf
    | exact T_vu _ _
    | exact T_vv m.vote
    | exact T_vc m.cert (by have := hf.cert; omega)
    | exact T_vp m.batch
    | exact T_vh m.held (by have := hf.nheld; omega) (fun k hk => by have := (hb k hk).2; omega)
    | exact T_vn m.news (by have := hf.nnews; omega)
    | exact T_vs m.sig (by have := hf.n; omega)
    | (simp [h1, h2, h3, k1, k2, q0, q1, q2, q3, q4, q5, q6, g2]; done)
    | (simp [h1, h2, h3, k1, k2, q0, q1, q2, q3, q4, q5, q6, g2] <;> omega)
  by_cases g7 : m.kind = 7
  ·
   refine T.bool (T_al (bdGd_p00011111100000010 m (onlyS m)) Tryz.func11 ?_) (by simp [goodS, mayChangeS, h1, h2, h3, k1, k2, q0, q1, q2, q3, q4, q5, q6, g7] <;> omega)
   simp only [All, All_append, bdGd_c]
   and_intros
   all_goals first
    | exact T_ol m
    | exact T_rm m (onlyS m) hf
    | exact T_vu _ _
    | exact T_vv m.vote
    | exact T_vc m.cert (by have := hf.cert; omega)
    | exact T_vp m.batch
    | exact T_vh m.held (by have := hf.nheld; omega) (fun k hk => by have := (hb k hk).2; omega)
    | exact T_vn m.news (by have := hf.nnews; omega)
    | exact T_vs m.sig (by have := hf.n; omega)
    | (simp [h1, h2, h3, k1, k2, q0, q1, q2, q3, q4, q5, q6, g7]; done)
    | (simp [h1, h2, h3, k1, k2, q0, q1, q2, q3, q4, q5, q6, g7] <;> omega)
  refine T.bool (T_al (bdGd_p0001111110000000 m (onlyS m)) Tryz.func11 ?_) (by simp [goodS, mayChangeS, h1, h2, h3, k1, k2, q0, q1, q2, q3, q4, q5, q6, g2, g7] <;> omega)
  simp only [All, All_append, bdGd_c]
  and_intros
  all_goals first
   | exact T_ol m
   | exact T_rm m (onlyS m) hf
   | exact T_vu _ _
   | exact T_vv m.vote
   | exact T_vc m.cert (by have := hf.cert; omega)
   | exact T_vp m.batch
   | exact T_vh m.held (by have := hf.nheld; omega) (fun k hk => by have := (hb k hk).2; omega)
   | exact T_vn m.news (by have := hf.nnews; omega)
   | exact T_vs m.sig (by have := hf.n; omega)
   | (simp [h1, h2, h3, k1, k2, q0, q1, q2, q3, q4, q5, q6, g2, g7]; done)
   | (simp [h1, h2, h3, k1, k2, q0, q1, q2, q3, q4, q5, q6, g2, g7] <;> omega)
 by_cases q7 : allS m.nheld 4 (fun i => mayHeldS (m.held i)) = true
 rotate_left
 ·
  by_cases g2 : m.kind = 2
  ·
   refine T.bool (T_al (bdGd_p0001111111000010 m (onlyS m)) Tryz.func11 ?_) (by simp [goodS, mayChangeS, h1, h2, h3, k1, k2, q0, q1, q2, q3, q4, q5, q6, q7, g2] <;> omega)
   simp only [All, All_append, bdGd_c]
   and_intros
   all_goals first
    | exact T_ol m
    | exact T_rm m (onlyS m) hf
    | exact T_vu _ _
    | exact T_vv m.vote
    | exact T_vc m.cert (by have := hf.cert; omega)
    | exact T_vp m.batch
    | exact T_vh m.held (by have := hf.nheld; omega) (fun k hk => by have := (hb k hk).2; omega)
    | exact T_vn m.news (by have := hf.nnews; omega)
    | exact T_vs m.sig (by have := hf.n; omega)
    | (simp [h1, h2, h3, k1, k2, q0, q1, q2, q3, q4, q5, q6, q7, g2]; done)
    | (simp [h1, h2, h3, k1, k2, q0, q1, q2, q3, q4, q5, q6, q7, g2] <;> omega)
  by_cases g7 : m.kind = 7
  ·
   refine T.bool (T_al (bdGd_p00011111110000010 m (onlyS m)) Tryz.func11 ?_) (by simp [goodS, mayChangeS, h1, h2, h3, k1, k2, q0, q1, q2, q3, q4, q5, q6, q7, g7] <;> omega)
   simp only [All, All_append, bdGd_c]
   and_intros
   all_goals first
    | exact T_ol m
    | exact T_rm m (onlyS m) hf
    | exact T_vu _ _
    | exact T_vv m.vote
    | exact T_vc m.cert (by have := hf.cert; omega)
    | exact T_vp m.batch
    | exact T_vh m.held (by have := hf.nheld; omega) (fun k hk => by have := (hb k hk).2; omega)
    | exact T_vn m.news (by have := hf.nnews; omega)
    | exact T_vs m.sig (by have := hf.n; omega)
    | (simp [h1, h2, h3, k1, k2, q0, q1, q2, q3, q4, q5, q6, q7, g7]; done)
    | (simp [h1, h2, h3, k1, k2, q0, q1, q2, q3, q4, q5, q6, q7, g7] <;> omega)
  refine T.bool (T_al (bdGd_p0001111111000000 m (onlyS m)) Tryz.func11 ?_) (by simp [goodS, mayChangeS, h1, h2, h3, k1, k2, q0, q1, q2, q3, q4, q5, q6, q7, g2, g7] <;> omega)
  simp only [All, All_append, bdGd_c]
  and_intros
  all_goals first
   | exact T_ol m
   | exact T_rm m (onlyS m) hf
   | exact T_vu _ _
   | exact T_vv m.vote
   | exact T_vc m.cert (by have := hf.cert; omega)
   | exact T_vp m.batch
   | exact T_vh m.held (by have := hf.nheld; omega) (fun k hk => by have := (hb k hk).2; omega)
   | exact T_vn m.news (by have := hf.nnews; omega)
   | exact T_vs m.sig (by have := hf.n; omega)
   | (simp [h1, h2, h3, k1, k2, q0, q1, q2, q3, q4, q5, q6, q7, g2, g7]; done)
   | (simp [h1, h2, h3, k1, k2, q0, q1, q2, q3, q4, q5, q6, q7, g2, g7] <;> omega)
 by_cases q8 : mayBatchS m.batch = true
 rotate_left
 ·
  by_cases g2 : m.kind = 2
  ·
   refine T.bool (T_al (bdGd_p0001111111100010 m (onlyS m)) Tryz.func11 ?_) (by simp [goodS, mayChangeS, h1, h2, h3, k1, k2, q0, q1, q2, q3, q4, q5, q6, q7, q8, g2] <;> omega)
   simp only [All, All_append, bdGd_c]
   and_intros
   all_goals first
    | exact T_ol m
    | exact T_rm m (onlyS m) hf
    | exact T_vu _ _
    | exact T_vv m.vote
    | exact T_vc m.cert (by have := hf.cert; omega)
    | exact T_vp m.batch
    | exact T_vh m.held (by have := hf.nheld; omega) (fun k hk => by have := (hb k hk).2; omega)
    | exact T_vn m.news (by have := hf.nnews; omega)
    | exact T_vs m.sig (by have := hf.n; omega)
    | (simp [h1, h2, h3, k1, k2, q0, q1, q2, q3, q4, q5, q6, q7, q8, g2]; done)
    | (simp [h1, h2, h3, k1, k2, q0, q1, q2, q3, q4, q5, q6, q7, q8, g2] <;> omega)
  by_cases g7 : m.kind = 7
  ·
   refine T.bool (T_al (bdGd_p00011111111000010 m (onlyS m)) Tryz.func11 ?_) (by simp [goodS, mayChangeS, h1, h2, h3, k1, k2, q0, q1, q2, q3, q4, q5, q6, q7, q8, g7] <;> omega)
   simp only [All, All_append, bdGd_c]
   and_intros
   all_goals first
    | exact T_ol m
    | exact T_rm m (onlyS m) hf
    | exact T_vu _ _
    | exact T_vv m.vote
    | exact T_vc m.cert (by have := hf.cert; omega)
    | exact T_vp m.batch
    | exact T_vh m.held (by have := hf.nheld; omega) (fun k hk => by have := (hb k hk).2; omega)
    | exact T_vn m.news (by have := hf.nnews; omega)
    | exact T_vs m.sig (by have := hf.n; omega)
    | (simp [h1, h2, h3, k1, k2, q0, q1, q2, q3, q4, q5, q6, q7, q8, g7]; done)
    | (simp [h1, h2, h3, k1, k2, q0, q1, q2, q3, q4, q5, q6, q7, q8, g7] <;> omega)
  refine T.bool (T_al (bdGd_p0001111111100000 m (onlyS m)) Tryz.func11 ?_) (by simp [goodS, mayChangeS, h1, h2, h3, k1, k2, q0, q1, q2, q3, q4, q5, q6, q7, q8, g2, g7] <;> omega)
  simp only [All, All_append, bdGd_c]
  and_intros
  all_goals first
   | exact T_ol m
   | exact T_rm m (onlyS m) hf
   | exact T_vu _ _
   | exact T_vv m.vote
   | exact T_vc m.cert (by have := hf.cert; omega)
   | exact T_vp m.batch
   | exact T_vh m.held (by have := hf.nheld; omega) (fun k hk => by have := (hb k hk).2; omega)
   | exact T_vn m.news (by have := hf.nnews; omega)
   | exact T_vs m.sig (by have := hf.n; omega)
   | (simp [h1, h2, h3, k1, k2, q0, q1, q2, q3, q4, q5, q6, q7, q8, g2, g7]; done)
   | (simp [h1, h2, h3, k1, k2, q0, q1, q2, q3, q4, q5, q6, q7, q8, g2, g7] <;> omega)
 by_cases q9 : allS m.nnews 64 (fun i => mayEnvS (m.news i)) = true
 rotate_left
 ·
  by_cases g2 : m.kind = 2
  ·
   refine T.bool (T_al (bdGd_p0001111111110010 m (onlyS m)) Tryz.func11 ?_) (by simp [goodS, mayChangeS, h1, h2, h3, k1, k2, q0, q1, q2, q3, q4, q5, q6, q7, q8, q9, g2] <;> omega)
   simp only [All, All_append, bdGd_c]
   and_intros
   all_goals first
    | exact T_ol m
    | exact T_rm m (onlyS m) hf
    | exact T_vu _ _
    | exact T_vv m.vote
    | exact T_vc m.cert (by have := hf.cert; omega)
    | exact T_vp m.batch
    | exact T_vh m.held (by have := hf.nheld; omega) (fun k hk => by have := (hb k hk).2; omega)
    | exact T_vn m.news (by have := hf.nnews; omega)
    | exact T_vs m.sig (by have := hf.n; omega)
    | (simp [h1, h2, h3, k1, k2, q0, q1, q2, q3, q4, q5, q6, q7, q8, q9, g2]; done)
    | (simp [h1, h2, h3, k1, k2, q0, q1, q2, q3, q4, q5, q6, q7, q8, q9, g2] <;> omega)
  by_cases g7 : m.kind = 7
  ·
   refine T.bool (T_al (bdGd_p00011111111100010 m (onlyS m)) Tryz.func11 ?_) (by simp [goodS, mayChangeS, h1, h2, h3, k1, k2, q0, q1, q2, q3, q4, q5, q6, q7, q8, q9, g7] <;> omega)
   simp only [All, All_append, bdGd_c]
   and_intros
   all_goals first
    | exact T_ol m
    | exact T_rm m (onlyS m) hf
    | exact T_vu _ _
    | exact T_vv m.vote
    | exact T_vc m.cert (by have := hf.cert; omega)
    | exact T_vp m.batch
    | exact T_vh m.held (by have := hf.nheld; omega) (fun k hk => by have := (hb k hk).2; omega)
    | exact T_vn m.news (by have := hf.nnews; omega)
    | exact T_vs m.sig (by have := hf.n; omega)
    | (simp [h1, h2, h3, k1, k2, q0, q1, q2, q3, q4, q5, q6, q7, q8, q9, g7]; done)
    | (simp [h1, h2, h3, k1, k2, q0, q1, q2, q3, q4, q5, q6, q7, q8, q9, g7] <;> omega)
  refine T.bool (T_al (bdGd_p0001111111110000 m (onlyS m)) Tryz.func11 ?_) (by simp [goodS, mayChangeS, h1, h2, h3, k1, k2, q0, q1, q2, q3, q4, q5, q6, q7, q8, q9, g2, g7] <;> omega)
  simp only [All, All_append, bdGd_c]
  and_intros
  all_goals first
   | exact T_ol m
   | exact T_rm m (onlyS m) hf
   | exact T_vu _ _
   | exact T_vv m.vote
   | exact T_vc m.cert (by have := hf.cert; omega)
   | exact T_vp m.batch
   | exact T_vh m.held (by have := hf.nheld; omega) (fun k hk => by have := (hb k hk).2; omega)
   | exact T_vn m.news (by have := hf.nnews; omega)
   | exact T_vs m.sig (by have := hf.n; omega)
   | (simp [h1, h2, h3, k1, k2, q0, q1, q2, q3, q4, q5, q6, q7, q8, q9, g2, g7]; done)
   | (simp [h1, h2, h3, k1, k2, q0, q1, q2, q3, q4, q5, q6, q7, q8, q9, g2, g7] <;> omega)
 by_cases q10 : allS m.n 64 (fun i => maySignS (m.sig i)) = true
 rotate_left
 ·
  by_cases g2 : m.kind = 2
  ·
   refine T.bool (T_al (bdGd_p0001111111111010 m (onlyS m)) Tryz.func11 ?_) (by simp [goodS, mayChangeS, h1, h2, h3, k1, k2, q0, q1, q2, q3, q4, q5, q6, q7, q8, q9, q10, g2] <;> omega)
   simp only [All, All_append, bdGd_c]
   and_intros
   all_goals first
    | exact T_ol m
    | exact T_rm m (onlyS m) hf
    | exact T_vu _ _
    | exact T_vv m.vote
    | exact T_vc m.cert (by have := hf.cert; omega)
    | exact T_vp m.batch
    | exact T_vh m.held (by have := hf.nheld; omega) (fun k hk => by have := (hb k hk).2; omega)
    | exact T_vn m.news (by have := hf.nnews; omega)
    | exact T_vs m.sig (by have := hf.n; omega)
    | (simp [h1, h2, h3, k1, k2, q0, q1, q2, q3, q4, q5, q6, q7, q8, q9, q10, g2]; done)
    | (simp [h1, h2, h3, k1, k2, q0, q1, q2, q3, q4, q5, q6, q7, q8, q9, q10, g2] <;> omega)
  by_cases g7 : m.kind = 7
  ·
   refine T.bool (T_al (bdGd_p00011111111110010 m (onlyS m)) Tryz.func11 ?_) (by simp [goodS, mayChangeS, h1, h2, h3, k1, k2, q0, q1, q2, q3, q4, q5, q6, q7, q8, q9, q10, g7] <;> omega)
   simp only [All, All_append, bdGd_c]
   and_intros
   all_goals first
    | exact T_ol m
    | exact T_rm m (onlyS m) hf
    | exact T_vu _ _
    | exact T_vv m.vote
    | exact T_vc m.cert (by have := hf.cert; omega)
    | exact T_vp m.batch
    | exact T_vh m.held (by have := hf.nheld; omega) (fun k hk => by have := (hb k hk).2; omega)
    | exact T_vn m.news (by have := hf.nnews; omega)
    | exact T_vs m.sig (by have := hf.n; omega)
    | (simp [h1, h2, h3, k1, k2, q0, q1, q2, q3, q4, q5, q6, q7, q8, q9, q10, g7]; done)
    | (simp [h1, h2, h3, k1, k2, q0, q1, q2, q3, q4, q5, q6, q7, q8, q9, q10, g7] <;> omega)
  refine T.bool (T_al (bdGd_p0001111111111000 m (onlyS m)) Tryz.func11 ?_) (by simp [goodS, mayChangeS, h1, h2, h3, k1, k2, q0, q1, q2, q3, q4, q5, q6, q7, q8, q9, q10, g2, g7] <;> omega)
  simp only [All, All_append, bdGd_c]
  and_intros
  all_goals first
   | exact T_ol m
   | exact T_rm m (onlyS m) hf
   | exact T_vu _ _
   | exact T_vv m.vote
   | exact T_vc m.cert (by have := hf.cert; omega)
   | exact T_vp m.batch
   | exact T_vh m.held (by have := hf.nheld; omega) (fun k hk => by have := (hb k hk).2; omega)
   | exact T_vn m.news (by have := hf.nnews; omega)
   | exact T_vs m.sig (by have := hf.n; omega)
   | (simp [h1, h2, h3, k1, k2, q0, q1, q2, q3, q4, q5, q6, q7, q8, q9, q10, g2, g7]; done)
   | (simp [h1, h2, h3, k1, k2, q0, q1, q2, q3, q4, q5, q6, q7, q8, q9, q10, g2, g7] <;> omega)
 by_cases g2 : m.kind = 2
 ·by_cases g12 : (m.state.size : Int) ≤ 4194304
  ·
   refine T.bool (T_al (bdGd_p0001111111111111 m (onlyS m)) Tryz.func11 ?_) (by simp [goodS, mayChangeS, h1, h2, h3, k1, k2, q0, q1, q2, q3, q4, q5, q6, q7, q8, q9, q10, g2, g12] <;> omega)
   simp only [All, All_append, bdGd_c]
   and_intros
   all_goals first
    | exact T_ol m
    | exact T_rm m (onlyS m) hf
    | exact T_vu _ _
    | exact T_vv m.vote
    | exact T_vc m.cert (by have := hf.cert; omega)
    | exact T_vp m.batch
    | exact T_vh m.held (by have := hf.nheld; omega) (fun k hk => by have := (hb k hk).2; omega)
    | exact T_vn m.news (by have := hf.nnews; omega)
    | exact T_vs m.sig (by have := hf.n; omega)
    | (simp [h1, h2, h3, k1, k2, q0, q1, q2, q3, q4, q5, q6, q7, q8, q9, q10, g2, g12]; done)
    | (simp [h1, h2, h3, k1, k2, q0, q1, q2, q3, q4, q5, q6, q7, q8, q9, q10, g2, g12] <;> omega)
  ·
   refine T.bool (T_al (bdGd_p0001111111111110 m (onlyS m)) Tryz.func11 ?_) (by simp [goodS, mayChangeS, h1, h2, h3, k1, k2, q0, q1, q2, q3, q4, q5, q6, q7, q8, q9, q10, g2, g12] <;> omega)
   simp only [All, All_append, bdGd_c]
   and_intros
   all_goals first
    | exact T_ol m
    | exact T_rm m (onlyS m) hf
    | exact T_vu _ _
    | exact T_vv m.vote
    | exact T_vc m.cert (by have := hf.cert; omega)
    | exact T_vp m.batch
    | exact T_vh m.held (by have := hf.nheld; omega) (fun k hk => by have := (hb k hk).2; omega)
    | exact T_vn m.news (by have := hf.nnews; omega)
    | exact T_vs m.sig (by have := hf.n; omega)
    | (simp [h1, h2, h3, k1, k2, q0, q1, q2, q3, q4, q5, q6, q7, q8, q9, q10, g2, g12]; done)
    | (simp [h1, h2, h3, k1, k2, q0, q1, q2, q3, q4, q5, q6, q7, q8, q9, q10, g2, g12] <;> omega)
 by_cases g7 : m.kind = 7
 ·by_cases g12 : (m.state.size : Int) ≤ 4194304
  ·
   refine T.bool (T_al (bdGd_p00011111111111011 m (onlyS m)) Tryz.func11 ?_) (by simp [goodS, mayChangeS, h1, h2, h3, k1, k2, q0, q1, q2, q3, q4, q5, q6, q7, q8, q9, q10, g7, g12] <;> omega)
   simp only [All, All_append, bdGd_c]
   and_intros
   all_goals first
    | exact T_ol m
    | exact T_rm m (onlyS m) hf
    | exact T_vu _ _
    | exact T_vv m.vote
    | exact T_vc m.cert (by have := hf.cert; omega)
    | exact T_vp m.batch
    | exact T_vh m.held (by have := hf.nheld; omega) (fun k hk => by have := (hb k hk).2; omega)
    | exact T_vn m.news (by have := hf.nnews; omega)
    | exact T_vs m.sig (by have := hf.n; omega)
    | (simp [h1, h2, h3, k1, k2, q0, q1, q2, q3, q4, q5, q6, q7, q8, q9, q10, g7, g12]; done)
    | (simp [h1, h2, h3, k1, k2, q0, q1, q2, q3, q4, q5, q6, q7, q8, q9, q10, g7, g12] <;> omega)
  ·
   refine T.bool (T_al (bdGd_p00011111111111010 m (onlyS m)) Tryz.func11 ?_) (by simp [goodS, mayChangeS, h1, h2, h3, k1, k2, q0, q1, q2, q3, q4, q5, q6, q7, q8, q9, q10, g7, g12] <;> omega)
   simp only [All, All_append, bdGd_c]
   and_intros
   all_goals first
    | exact T_ol m
    | exact T_rm m (onlyS m) hf
    | exact T_vu _ _
    | exact T_vv m.vote
    | exact T_vc m.cert (by have := hf.cert; omega)
    | exact T_vp m.batch
    | exact T_vh m.held (by have := hf.nheld; omega) (fun k hk => by have := (hb k hk).2; omega)
    | exact T_vn m.news (by have := hf.nnews; omega)
    | exact T_vs m.sig (by have := hf.n; omega)
    | (simp [h1, h2, h3, k1, k2, q0, q1, q2, q3, q4, q5, q6, q7, q8, q9, q10, g7, g12]; done)
    | (simp [h1, h2, h3, k1, k2, q0, q1, q2, q3, q4, q5, q6, q7, q8, q9, q10, g7, g12] <;> omega)
 refine T.bool (T_al (bdGd_p0001111111111100 m (onlyS m)) Tryz.func11 ?_) (by simp [goodS, mayChangeS, h1, h2, h3, k1, k2, q0, q1, q2, q3, q4, q5, q6, q7, q8, q9, q10, g2, g7] <;> omega)
 simp only [All, All_append, bdGd_c]
 and_intros
 all_goals first
  | exact T_ol m
  | exact T_rm m (onlyS m) hf
  | exact T_vu _ _
  | exact T_vv m.vote
  | exact T_vc m.cert (by have := hf.cert; omega)
  | exact T_vp m.batch
  | exact T_vh m.held (by have := hf.nheld; omega) (fun k hk => by have := (hb k hk).2; omega)
  | exact T_vn m.news (by have := hf.nnews; omega)
  | exact T_vs m.sig (by have := hf.n; omega)
  | (simp [h1, h2, h3, k1, k2, q0, q1, q2, q3, q4, q5, q6, q7, q8, q9, q10, g2, g7]; done)
  | (simp [h1, h2, h3, k1, k2, q0, q1, q2, q3, q4, q5, q6, q7, q8, q9, q10, g2, g7] <;> omega)
end Go.Proofs.YthifjamdfpjilaaGreat
namespace Go.Proofs.YthifjamdfpjilaaGreat
open Go Sy Go.Proofs
theorem upto_iff {n m : Int} : uptoS n m = true ↔ 0 ≤ n ∧ n ≤ m := by simp [uptoS]
def segBatch (b : SBatch) : Prop := ∀ i, i < b.n → SegOk 16 (b.req i).tag
theorem allS_iff {n most : Nat} {p : Nat → Bool} : allS n most p = true ↔ n ≤ most ∧ ∀ i, i < n → p i = true := by simp [allS]
structure segCert (c : SCert) : Prop where
 vote : SegOk 32 c.vote.digest
 sig : ∀ i, i < c.n → SegOk 16 (c.sig i).tag
structure segHeld (h : SHeld) : Prop where
 batch : segBatch h.batch
 cert : segCert h.cert
structure segMsg (m : SMsg) : Prop where
 batch : segBatch m.batch
 vote : SegOk 32 m.vote.digest
 held : ∀ i, i < m.nheld → segHeld (m.held i)
 news : ∀ i, i < m.nnews → SegOk 16 (m.news i).tag
 digest : SegOk 32 m.digest
 cert : segCert m.cert
 sig : ∀ i, i < m.n → SegOk 16 (m.sig i).tag
theorem num63_of {n : Int} {k : Int} (h : 0 ≤ n ∧ n ≤ k) (hk : k < 9223372036854775808) : num63 n := ⟨h.1, by omega⟩
theorem reqOk_of {r : SReq} (h : mayReqS r = true) (ht : SegOk 16 r.tag) : ReqOk r ∧ r.data.size ≤ 10000 := by
 simp only [mayReqS, Bool.and_eq_true, decide_eq_true_eq, upto_iff] at h
 exact ⟨⟨num63_of h.1 (by decide), num63_of h.2.1 (by decide), by omega, ht⟩, by omega⟩
theorem batchOk_of {b : SBatch} (h : mayBatchS b = true) (ht : segBatch b) : BatchOk b := by
 simp only [mayBatchS, Bool.and_eq_true, Bool.not_eq_true', Bool.and_eq_false_iff, decide_eq_false_iff_not, allS_iff] at h
 obtain ⟨h1, h2, h3⟩ := h
 refine ⟨by omega, fun hn => ?_, fun k hk => (reqOk_of (h3 k hk) (ht k hk)).1, fun k hk => (reqOk_of (h3 k hk) (ht k hk)).2⟩
 rcases h1 with h1 | h1
 ·rw [hn] at h1; cases h1
 ·omega
theorem voteOk_of {v : SVote} (h : mayVoteS v = true) (ht : SegOk 32 v.digest) : VoteOk v := by
 simp only [mayVoteS, Bool.and_eq_true, Bool.or_eq_true, decide_eq_true_eq, upto_iff] at h
 obtain ⟨h1, h2, h3, h4⟩ := h
 exact ⟨⟨by omega, by omega⟩, num63_of h2 (by decide), num63_of h3 (by decide), num63_of h4 (by decide), ht⟩
theorem signOk_of {s : SSign} (h : maySignS s = true) (ht : SegOk 16 s.tag) : SignOk s := ⟨num63_of (upto_iff.1 h) (by decide), ht⟩
theorem certOk_of {c : SCert} (h : mayCertS c = true) (ht : segCert c) : CertOk c := by
 simp only [mayCertS, Bool.and_eq_true, allS_iff] at h
 exact ⟨voteOk_of h.1 ht.vote, by have := h.2.1; omega, fun k hk => signOk_of (h.2.2 k hk) (ht.sig k hk)⟩
theorem heldOk_of {x : SHeld} (h : mayHeldS x = true) (ht : segHeld x) : HeldOk x := by
 simp only [mayHeldS, Bool.and_eq_true] at h
 exact ⟨batchOk_of h.1 ht.batch, certOk_of h.2 ht.cert⟩
theorem envOk_of {x : SEnv} (h : mayEnvS x = true) (ht : SegOk 16 x.tag) : EnvOk x := by
 simp only [mayEnvS, Bool.and_eq_true, decide_eq_true_eq, upto_iff] at h
 exact ⟨num63_of h.1 (by decide), by have := h.2; omega, ht⟩
theorem encOk_of {m : SMsg} (h : goodS m = true) (ht : segMsg m) : EncOk m := by
 simp only [goodS, mayChangeS, Bool.and_eq_true, decide_eq_true_eq, upto_iff, allS_iff, Bool.or_eq_true, Bool.not_eq_true', decide_eq_false_iff_not] at h
 obtain ⟨h1, h2, h3, h4, h5, h6, h7, h8, h9, h10, ⟨h11, h12, h13, h14⟩, h15, h16, h17⟩ := h
 exact ⟨⟨h1, h2⟩, num63_of h6 (by decide), num63_of h9 (by decide), num63_of h8 (by decide), num63_of h7 (by decide), num63_of h11 (by decide), num63_of h12 (by decide), num63_of h13 (by decide),
  batchOk_of h10 ht.batch, fun hk => voteOk_of (h4.resolve_left (fun g => g hk)) ht.vote, by have := h14.1; omega, fun k hk => heldOk_of (h14.2 k hk) (ht.held k hk), by have := h15.1; omega, fun k hk => envOk_of (h15.2 k hk) (ht.news k hk),
  ht.digest, fun hk => certOk_of (h5.resolve_left (fun g => g hk)) ht.cert, by omega, by have := h16.1; omega, fun k hk => signOk_of (h16.2 k hk) (ht.sig k hk)⟩
def encE (m : SMsg) : Int := if goodS m = true then (if 4194304 < (encB m).length then 3 else 0) else 130
def encT (m : SMsg) : ByteArray := if encE m = 0 then baL (encB m) else ByteArray.mk (Array.mk [])
theorem T_encG {m : SMsg} (hf : FitM m) (ht : segMsg m) : T Tryz.prog 8 [.agg m.c] [] (.tup [.str (encT m), .int .i64 (encE m)]) [] := by
 have h := T_enc (m := m) (T_good hf) fun h => encOk_of h ht
 have e : encV m (goodS m) = .tup [.str (encT m), .int .i64 (encE m)] := by
  unfold encV encT encE
  cases goodS m with
  | false => rfl
  | true =>
   simp only [if_true]
   by_cases hl : 4194304 < (encB m).length
   ·simp only [if_pos hl]; rfl
   ·simp only [if_neg hl]; rfl
 rw [e] at h; exact h
theorem encV_eq (m : SMsg) : encV m (goodS m) = .tup [.str (encT m), .int .i64 (encE m)] := by
 unfold encV encT encE
 cases goodS m with
 | false => rfl
 | true =>
  simp only [if_true]
  by_cases hl : 4194304 < (encB m).length
  ·simp only [if_pos hl]; rfl
  ·simp only [if_neg hl]; rfl
theorem T_reG {m : SMsg} (hf : FitM m) (ht : segMsg m) : T Tryz.prog 9 [.agg m.c] [] (.tup [.str (encT m), .int .i64 (encE m)]) [] := by
 have h := T_re (m := m) (T_gd hf) fun h => encOk_of h ht
 rw [encV_eq] at h; exact h
theorem seg32 : SegOk 32 z32 := ⟨rfl, by decide⟩
theorem noK {p : Nat → Prop} : ∀ i, i < 0 → p i := fun i hi => absurd hi (Nat.not_lt_zero i)
end Go.Proofs.YthifjamdfpjilaaGreat
namespace Go.Proofs.YthifjamdfpjilaaGreat
open Go Sy Go.Proofs
theorem bdAdd_p111 (n : Int) (more : Int) (most : Int) :
  along Tryz.prog (bdAdd n more most) [true, true, true] = some (V.int IntKind.i64 (most + 1), [], [decide (most < n) = true, true = true, true = true, InR IntKind.i64 (most + 1)]) := by kernel_rfl
theorem bdAdd_p011 (n : Int) (more : Int) (most : Int) :
  along Tryz.prog (bdAdd n more most) [false, true, true] = some (V.int IntKind.i64 (most + 1), [], [decide (most < n) = false, decide (most < more) = true, true = true, InR IntKind.i64 (most + 1)]) := by kernel_rfl
theorem bdAdd_p001 (n : Int) (more : Int) (most : Int) :
  along Tryz.prog (bdAdd n more most) [false, false, true] = some (V.int IntKind.i64 (most + 1), [], [decide (most < n) = false, decide (most < more) = false, InR IntKind.i64 (most - more), decide (most - more < n) = true, InR IntKind.i64 (most + 1)]) := by kernel_rfl
theorem bdAdd_p000 (n : Int) (more : Int) (most : Int) :
  along Tryz.prog (bdAdd n more most) [false, false, false] = some (V.int IntKind.i64 (n + more), [], [decide (most < n) = false, decide (most < more) = false, InR IntKind.i64 (most - more), decide (most - more < n) = false, InR IntKind.i64 (n + more)]) := by kernel_rfl

def addS (n more most : Int) : Int := if most < n ∨ most < more ∨ most - more < n then most + 1 else n + more
theorem T_add {n more : Int} (h1 : 0 ≤ n) (h2 : 0 ≤ more) (h3 : more ≤ 9223372036854775807) : T Tryz.prog 27 [.int .i64 n, .int .i64 more, .int .i64 4000] [] (.int .i64 (addS n more 4000)) [] := by
 by_cases a : (4000 : Int) < n
 ·exact T.val (T_al (bdAdd_p111 n more 4000) Tryz.func27 (by simp [All, InR64, a])) (by simp [addS, a])
 by_cases b : (4000 : Int) < more
 ·exact T.val (T_al (bdAdd_p011 n more 4000) Tryz.func27 (by simp [All, InR64, a, b] <;> omega)) (by simp [addS, b])
 by_cases c : (4000 : Int) - more < n
 ·exact T.val (T_al (bdAdd_p001 n more 4000) Tryz.func27 (by simp [All, InR64, a, b, c] <;> omega)) (by simp [addS, c])
 ·exact T.val (T_al (bdAdd_p000 n more 4000) Tryz.func27 (by simp [All, InR64, a, b, c] <;> omega)) (by simp [addS, a, b, c])

end Go.Proofs.YthifjamdfpjilaaGreat
namespace Go.Proofs.YthifjamdfpjilaaGreat
open Go Sy Go.Proofs
def bt (n : Nat) (b : Nat → SBatch) : V := .ros 2 n (fun i => (b i).c) false
/-- How much is counted of requests, of batches. -/
def lightR (n0 : Int) (r : Nat → SReq) : Nat → Int
 | 0 => n0
 | k + 1 => addS (addS (lightR n0 r k) 20 4000) (r k).data.size 4000
/-- One batch: as long as it isn't too much. -/
def light1I (b : SBatch) (n0 : Int) (k : Nat) : St := ⟨mkT 47 [(0, .sl (.o 0) 2 0 0 0 1 (some 1)), (3, .int .i64 (lightR n0 b.req k)), (4, .int .i64 0), (5, .int .i64 k)], [(.o 0, .rows 2 1 (getL [b.c]) false)], 1, []⟩
def dbAdd : Nat → List V → Heap → Nat → List Cl
 | 27, [.int _ a, .int _ c, _], _, _ => [{ val := .int .i64 (addS a c 4000) }]
 | _, _, _, _ => []
def lpLight (b : SBatch) (m : Nat) : Nat → St → List (Prop × Hint)
 | 0, _ => [(True, .rounds 2)]
 | _, _ => [(True, .loop (m + 1) (wTo (light1I b 5 0)) (.exit 2) (light1I b 5 m))]
noncomputable def pcLi (b : SBatch) (n0 : Int) (m k : Nat) : Pc := { c := cB (cB (cR (cR (cB (cL (cR (cB (cB (cR (cL (cR (cR (bodyOf Tryz.f26))))))))))))), st := light1I b n0 k, p := 1, kb := { db := dbAdd }, k := fun e _ => match e with
 | .normal => some (wTo (light1I b n0 (k + 1)))
 | _ => some (wTo (light1I b n0 m)) }
noncomputable def bdLight (b : SBatch) (m : Nat) : Bd := { f := Tryz.f26, args := [.sl (.o 0) 2 0 0 0 1 (some 1)], pre := [(.o 0, .rows 2 1 (getL [b.c]) false)], base := 1, kb := { db := dbAdd, lp := lpLight b m }, names := fun _ => [.o 0] }
end Go.Proofs.YthifjamdfpjilaaGreat
namespace Go.Proofs.YthifjamdfpjilaaGreat
open Go Sy Go.Proofs
theorem bdLight_p1100 (b : SBatch) (m : Nat) :
  along Tryz.prog (bdLight b m) [true, true, false, false] = some (V.bool (decide (lightR (5 : Int) (SBatch.req b) m ≤ (4000 : Int))), [(Nm.o (0 : Nat), B.rows (2 : Nat) (1 : Nat) (getL [SBatch.c b]) false)], [true = true, true = true, T Tryz.prog (27 : Nat) [V.int IntKind.i64 (0 : Int), V.int IntKind.i64 (5 : Int), V.int IntKind.i64 (4000 : Int)] [] (V.int IntKind.i64 (5 : Int)) [], RLoop Tryz.prog none (nat_lit 1) (cB (cB (cR (cR (cB (cL (cR (cB (cB (cR (cL (cR (cR (bodyOf (Bd.f (bdLight b m)))))))))))))))) (m + (1 : Nat)) (St.mk [V.sl (Nm.o (0 : Nat)) (2 : Nat) (0 : Nat) (0 : Nat) (0 : Nat) (1 : Nat) (some (1 : Nat)), V.any, V.any, V.int IntKind.i64 (5 : Int), V.int IntKind.i64 (0 : Int), V.int IntKind.i64 (0 : Int), V.any, V.any, V.any, V.any, V.any, V.any, V.any, V.any, V.any, V.any, V.any, V.any, V.any, V.any, V.any, V.any, V.any, V.any, V.any, V.any, V.any, V.any, V.any, V.any, V.any, V.any, V.any, V.any, V.any, V.any, V.any, V.any, V.any, V.any, V.any, V.any, V.any, V.any, V.any, V.any, V.any] [(Nm.o (0 : Nat), B.rows (2 : Nat) (1 : Nat) (getL [SBatch.c b]) false)] (nat_lit 1) []) (Exit.exit (2 : Nat)) (St.mk [V.sl (Nm.o (0 : Nat)) (2 : Nat) (0 : Nat) (0 : Nat) (0 : Nat) (1 : Nat) (some (1 : Nat)), V.any, V.any, V.int IntKind.i64 (lightR (5 : Int) (SBatch.req b) m), V.int IntKind.i64 (0 : Int), V.int IntKind.i64 (↑m : Int), V.any, V.any, V.any, V.any, V.any, V.any, V.any, V.any, V.any, V.any, V.any, V.any, V.any, V.any, V.any, V.any, V.any, V.any, V.any, V.any, V.any, V.any, V.any, V.any, V.any, V.any, V.any, V.any, V.any, V.any, V.any, V.any, V.any, V.any, V.any, V.any, V.any, V.any, V.any, V.any, V.any] [(Nm.o (0 : Nat), B.rows (2 : Nat) (1 : Nat) (getL [SBatch.c b]) false)] (1 : Nat) []), (1 : Nat) = (1 : Nat), ∀ (k : Nat), k < (1 : Nat) → getL [SBatch.c b] k = getL [SBatch.c b] k, false = false → false = false, (0 : Nat) = (0 : Nat), (0 : Nat) = (0 : Nat), (0 : Nat) = (0 : Nat), (1 : Nat) = (1 : Nat), some (1 : Nat) = none ∨ some (1 : Nat) = some (1 : Nat), (5 : Int) = (5 : Int), (0 : Int) = (0 : Int), (0 : Int) = (0 : Int), InR IntKind.i64 (1 : Int), false = false, false = false]) := by kernel_rfl

theorem pcLi_p11 (b : SBatch) (n0 : Int) (m : Nat) (k : Nat) :
  alongPc Tryz.prog (pcLi b n0 m k) [true, true] = some (Exit.normal, St.mk [V.sl (Nm.o (0 : Nat)) (2 : Nat) (0 : Nat) (0 : Nat) (0 : Nat) (1 : Nat) (some (1 : Nat)), V.any, V.any, V.int IntKind.i64 (lightR n0 (SBatch.req b) (k + (1 : Nat))), V.int IntKind.i64 (0 : Int), V.int IntKind.i64 (↑(k + (1 : Nat)) : Int), V.any, V.any, V.any, V.any, V.any, V.any, V.any, V.any, V.any, V.any, V.any, V.any, V.any, V.any, V.any, V.any, V.any, V.any, V.any, V.any, V.any, V.any, V.any, V.any, V.any, V.any, V.any, V.any, V.any, V.any, V.any, V.any, V.any, V.any, V.any, V.any, V.any, V.any, V.any, V.any, V.any] [(Nm.o (0 : Nat), B.rows (2 : Nat) (1 : Nat) (getL [SBatch.c b]) false)] (nat_lit 1) [], [(0 : Int) ≤ (0 : Int) ∧ (0 : Int) < (1 : Int), nat_lit 0 < (1 : Nat), decide ((↑k : Int) < (↑(SBatch.n b) : Int)) = true, decide (lightR n0 (SBatch.req b) k ≤ (4000 : Int)) = true, T Tryz.prog (27 : Nat) [V.int IntKind.i64 (lightR n0 (SBatch.req b) k), V.int IntKind.i64 (20 : Int), V.int IntKind.i64 (4000 : Int)] [] (V.int IntKind.i64 (addS (lightR n0 (SBatch.req b) k) (20 : Int) (4000 : Int))) [], (0 : Int) ≤ (0 : Int) ∧ (0 : Int) < (1 : Int), nat_lit 0 < (1 : Nat), (0 : Int) ≤ (↑k : Int) ∧ (↑k : Int) < (↑(SBatch.n b) : Int), T Tryz.prog (27 : Nat) [V.int IntKind.i64 (addS (lightR n0 (SBatch.req b) k) (20 : Int) (4000 : Int)), V.int IntKind.i64 (↑(ByteArray.size (SReq.data (SBatch.req b (Int.toNat (↑k : Int))))) : Int), V.int IntKind.i64 (4000 : Int)] [] (V.int IntKind.i64 (addS (addS (lightR n0 (SBatch.req b) k) (20 : Int) (4000 : Int)) (↑(ByteArray.size (SReq.data (SBatch.req b (Int.toNat (↑k : Int))))) : Int) (4000 : Int))) [], InR IntKind.i64 ((↑k : Int) + (1 : Int)), (1 : Nat) = (1 : Nat), ∀ (k : Nat), k < (1 : Nat) → getL [SBatch.c b] k = getL [SBatch.c b] k, false = false → false = false, (0 : Nat) = (0 : Nat), (0 : Nat) = (0 : Nat), (0 : Nat) = (0 : Nat), (1 : Nat) = (1 : Nat), some (1 : Nat) = none ∨ some (1 : Nat) = some (1 : Nat), addS (addS (lightR n0 (SBatch.req b) k) (20 : Int) (4000 : Int)) (↑(ByteArray.size (SReq.data (SBatch.req b (Int.toNat (↑k : Int))))) : Int) (4000 : Int) = lightR n0 (SBatch.req b) (k + (1 : Nat)), (0 : Int) = (0 : Int), (↑k : Int) + (1 : Int) = (↑(k + (1 : Nat)) : Int)]) := by kernel_rfl
theorem pcLi_p10 (b : SBatch) (n0 : Int) (m : Nat) (k : Nat) :
  alongPc Tryz.prog (pcLi b n0 m k) [true, false] = some (Exit.exit (2 : Nat), St.mk [V.sl (Nm.o (0 : Nat)) (2 : Nat) (0 : Nat) (0 : Nat) (0 : Nat) (1 : Nat) (some (1 : Nat)), V.any, V.any, V.int IntKind.i64 (lightR n0 (SBatch.req b) m), V.int IntKind.i64 (0 : Int), V.int IntKind.i64 (↑m : Int), V.any, V.any, V.any, V.any, V.any, V.any, V.any, V.any, V.any, V.any, V.any, V.any, V.any, V.any, V.any, V.any, V.any, V.any, V.any, V.any, V.any, V.any, V.any, V.any, V.any, V.any, V.any, V.any, V.any, V.any, V.any, V.any, V.any, V.any, V.any, V.any, V.any, V.any, V.any, V.any, V.any] [(Nm.o (0 : Nat), B.rows (2 : Nat) (1 : Nat) (getL [SBatch.c b]) false)] (nat_lit 1) [], [(0 : Int) ≤ (0 : Int) ∧ (0 : Int) < (1 : Int), nat_lit 0 < (1 : Nat), decide ((↑k : Int) < (↑(SBatch.n b) : Int)) = true, decide (lightR n0 (SBatch.req b) k ≤ (4000 : Int)) = false, (1 : Nat) = (1 : Nat), ∀ (k : Nat), k < (1 : Nat) → getL [SBatch.c b] k = getL [SBatch.c b] k, false = false → false = false, (0 : Nat) = (0 : Nat), (0 : Nat) = (0 : Nat), (0 : Nat) = (0 : Nat), (1 : Nat) = (1 : Nat), some (1 : Nat) = none ∨ some (1 : Nat) = some (1 : Nat), lightR n0 (SBatch.req b) k = lightR n0 (SBatch.req b) m, (0 : Int) = (0 : Int), (↑k : Int) = (↑m : Int)]) := by kernel_rfl
theorem pcLi_p00 (b : SBatch) (n0 : Int) (m : Nat) (k : Nat) :
  alongPc Tryz.prog (pcLi b n0 m k) [false, false] = some (Exit.exit (2 : Nat), St.mk [V.sl (Nm.o (0 : Nat)) (2 : Nat) (0 : Nat) (0 : Nat) (0 : Nat) (1 : Nat) (some (1 : Nat)), V.any, V.any, V.int IntKind.i64 (lightR n0 (SBatch.req b) m), V.int IntKind.i64 (0 : Int), V.int IntKind.i64 (↑m : Int), V.any, V.any, V.any, V.any, V.any, V.any, V.any, V.any, V.any, V.any, V.any, V.any, V.any, V.any, V.any, V.any, V.any, V.any, V.any, V.any, V.any, V.any, V.any, V.any, V.any, V.any, V.any, V.any, V.any, V.any, V.any, V.any, V.any, V.any, V.any, V.any, V.any, V.any, V.any, V.any, V.any] [(Nm.o (0 : Nat), B.rows (2 : Nat) (1 : Nat) (getL [SBatch.c b]) false)] (nat_lit 1) [], [(0 : Int) ≤ (0 : Int) ∧ (0 : Int) < (1 : Int), nat_lit 0 < (1 : Nat), decide ((↑k : Int) < (↑(SBatch.n b) : Int)) = false, false = false, (1 : Nat) = (1 : Nat), ∀ (k : Nat), k < (1 : Nat) → getL [SBatch.c b] k = getL [SBatch.c b] k, false = false → false = false, (0 : Nat) = (0 : Nat), (0 : Nat) = (0 : Nat), (0 : Nat) = (0 : Nat), (1 : Nat) = (1 : Nat), some (1 : Nat) = none ∨ some (1 : Nat) = some (1 : Nat), lightR n0 (SBatch.req b) k = lightR n0 (SBatch.req b) m, (0 : Int) = (0 : Int), (↑k : Int) = (↑m : Int)]) := by kernel_rfl

theorem exists_stop (p : Nat → Prop) : ∀ n, ∃ m, m ≤ n ∧ (∀ k, k < m → p k) ∧ (m = n ∨ ¬ p m)
 | 0 => ⟨0, Nat.le_refl _, fun k h => absurd h (Nat.not_lt_zero k), .inl rfl⟩
 | n + 1 => by
  obtain ⟨m, h1, h2, h3⟩ := exists_stop p n
  rcases h3 with rfl | h3
  ·by_cases h : p m
   ·refine ⟨m + 1, Nat.le_refl _, fun k hk => ?_, .inl rfl⟩
    rcases Nat.lt_or_ge k m with h4 | h4
    ·exact h2 k h4
    ·have : k = m := by omega
     subst this; exact h
   ·exact ⟨m, Nat.le_succ _, h2, .inr h⟩
  ·exact ⟨m, Nat.le_succ_of_le h1, h2, .inr h3⟩

theorem addS_range {n more : Int} (h1 : 0 ≤ n) (h2 : 0 ≤ more) : 0 ≤ addS n more 4000 ∧ addS n more 4000 ≤ 4001 := by
 unfold addS; split <;> omega
theorem addS_le {n more : Int} (h : addS n more 4000 ≤ 4000) : n ≤ 4000 ∧ more ≤ 4000 ∧ addS n more 4000 = n + more := by
 unfold addS at h ⊢; split at h
 ·omega
 ·rename_i h'; simp only [not_or, Int.not_lt] at h'; rw [if_neg (by omega)]; omega
theorem lightR_range {n0 : Int} (h : 0 ≤ n0 ∧ n0 ≤ 4001) (r : Nat → SReq) : ∀ k, 0 ≤ lightR n0 r k ∧ lightR n0 r k ≤ 4001
 | 0 => h
 | k + 1 => by
  rw [lightR]
  exact addS_range (addS_range (lightR_range h r k).1 (by decide)).1 (by omega)
theorem lightR_up {n0 : Int} (r : Nat → SReq) : ∀ k, lightR n0 r k ≤ 4000 → n0 + 20 * k ≤ lightR n0 r k
 | 0, _ => by simp [lightR]
 | k + 1, h => by
  rw [lightR] at h ⊢
  have h1 := addS_le h
  have h2 := addS_le h1.1
  have := lightR_up r k h2.1
  rw [h1.2.2, h2.2.2]; omega
theorem lightR_over {n0 : Int} (r : Nat → SReq) {m : Nat} : ∀ k, m ≤ k → lightR n0 r k ≤ 4000 → lightR n0 r m ≤ 4000
 | 0, h, h1 => by have : m = 0 := by omega
                  subst this; exact h1
 | k + 1, h, h1 => by
  rcases Nat.lt_or_ge m (k + 1) with h2 | h2
  ·rw [lightR] at h1
   exact lightR_over r k (by omega) (addS_le (addS_le h1).1).1
  ·have : m = k + 1 := by omega
   subst this; exact h1
/-- Is a batch not too much? -/
def lightB (b : SBatch) : Bool := decide (lightR 5 b.req b.n ≤ 4000)
theorem lightB_n {b : SBatch} (h : lightB b = true) : b.n ≤ 200 := by
 have := of_decide_eq_true h
 have := lightR_up b.req b.n this
 omega

theorem L_li (b : SBatch) {m : Nat} (hm : m ≤ b.n) (hd : ∀ k, k < b.n → (b.req k).data.size ≤ 9223372036854775807) (h1 : ∀ k, k < m → lightR 5 b.req k ≤ 4000) (h2 : m = b.n ∨ ¬ lightR 5 b.req m ≤ 4000) (hn : b.n ≤ 9223372036854775807) :
  RLoop Tryz.prog none 1 (cB (cB (cR (cR (cB (cL (cR (cB (cB (cR (cL (cR (cR (bodyOf Tryz.f26)))))))))))))) (m + 1) (light1I b 5 0) (.exit 2) (light1I b 5 m) :=
 RLoop.inv (light1I b 5) m (fun k hk => by
  have h3 := h1 k hk
  have hkn : k < b.n := by omega
  have h4 := lightR_range (n0 := 5) (by decide) b.req k
  have h5 := addS_range h4.1 (more := 20) (by decide)
  have hdk : (((b.req (Int.toNat (k : Int))).data.size : Nat) : Int) ≤ 9223372036854775807 := by
   have := hd k hkn
   rw [Int.toNat_natCast]; omega
  refine R_alongPc NG MO _ (pcLi_p11 b 5 m k) ?_ (Nat.le_refl _)
  simp only [All]
  and_intros
  all_goals first
   | exact T_add h4.1 (by decide) (by decide)
   | exact T_add h5.1 (by omega) hdk
   | (simp [h3, hkn, lightR, IntKind.min, IntKind.max, IntKind.signed, IntKind.bits] <;> omega))
  (by
   rcases h2 with h2 | h2
   ·refine R_alongPc NG MO _ (pcLi_p00 b 5 m m) ?_ (Nat.le_refl _)
    simp [All, h2]
   ·by_cases h3 : m < b.n
    ·refine R_alongPc NG MO _ (pcLi_p10 b 5 m m) ?_ (Nat.le_refl _)
     simp [All, h2, h3]
    ·refine R_alongPc NG MO _ (pcLi_p00 b 5 m m) ?_ (Nat.le_refl _)
     simp [All, h3]) (by simp)
theorem T_light0 (b : SBatch) (hd : ∀ k, k < b.n → (b.req k).data.size ≤ 9223372036854775807) (hn : b.n ≤ 9223372036854775807) :
  T Tryz.prog 26 [.sl (.o 0) 2 0 0 0 1 (some 1)] [(.o 0, .rows 2 1 (getL [b.c]) false)] (.bool (lightB b)) [(.o 0, .rows 2 1 (getL [b.c]) false)] := by
 obtain ⟨m, h1, h2, h3⟩ := exists_stop (fun k => lightR 5 b.req k ≤ 4000) b.n
 refine T.bool (T_al (bdLight_p1100 b m) Tryz.func26 ?_) ?_
 ·simp only [All]
  and_intros
  all_goals first
   | exact T_add (n := 0) (more := 5) (by decide) (by decide) (by decide)
   | exact L_li b h1 hd h2 h3 hn
   | simp [IntKind.min, IntKind.max, IntKind.signed, IntKind.bits]
 ·unfold lightB
  rw [decide_eq_decide]
  rcases h3 with rfl | h3
  ·exact Iff.rfl
  ·exact ⟨fun h => absurd h h3, fun h => lightR_over b.req b.n h1 h⟩
theorem T_light (b : SBatch) (hd : ∀ k, k < b.n → (b.req k).data.size ≤ 9223372036854775807) (hn : b.n ≤ 9223372036854775807) (a : Nat) :
  T Tryz.prog 26 [.sl (.o a) 2 0 0 0 1 (some 1)] [(.o a, .rows 2 1 (getL [b.c]) false)] (.bool (lightB b)) [(.o a, .rows 2 1 (getL [b.c]) false)] :=
 T.conv (T.swap (.o 0) (.o a) (T_light0 b hd hn)) (by simp [V.rens, V.ren, Nm.swap]) (by simp [Heap.ren, B.ren, Nm.swap]) (by simp [V.ren]) (by simp [Heap.ren, B.ren, Nm.swap])
end Go.Proofs.YthifjamdfpjilaaGreat
namespace Go.Proofs.YthifjamdfpjilaaGreat
open Go Sy Go.Proofs
/-- The bodies' bytes, counted. -/
def sumN (e : Nat → SEnv) : Nat → Int
 | 0 => 0
 | k + 1 => addS (sumN e k) (e k).body.size 6000
def okHd (h : SHeld) : Bool := lightB h.batch && decide (h.cert.n ≤ 100)
def lightMS (m : SMsg) : Bool := lightB m.batch && (decide (m.state.size ≤ 6000) && (decide (m.n ≤ 100) && (decide (m.cert.n ≤ 100) && (decide (m.nheld ≤ 20) && (decide (m.nnews ≤ 100) && (decide (∀ i, i < m.nheld → okHd (m.held i) = true) && decide (∀ i, i < m.nnews → sumN m.news (i + 1) ≤ 6000)))))))
def lg1I (m : SMsg) (k : Nat) : St := ⟨mkT 81 [(1, .ptr (.o 0) 0 0 0 0), (3, .int .i64 0), (47, hl m.nheld m.held), (48, .int .i64 m.nheld), (49, .int .i64 k)], [(.o 0, .flat m.c)], 1, []⟩
def lg2I (m : SMsg) (k : Nat) : St := ⟨mkT 81 [(1, .ptr (.o 0) 0 0 0 0), (3, .int .i64 (sumN m.news k)), (67, nw m.nnews m.news), (68, .int .i64 m.nnews), (69, .int .i64 k)], [(.o 0, .flat m.c)], 1, []⟩
def cLight (b : SBatch) : List V → Heap → Nat → List Cl := fun args _ _ => match args with
 | .sl a _ _ _ _ _ _ :: _ => [{ rd := [a], val := .bool (lightB b) }]
 | _ => []
noncomputable def bdLg (m : SMsg) (j : Nat) : Bd := { f := Tryz.f6, args := [.agg m.c], kb := { db := dbQ [(26, cLight m.batch)], lp := fun id _ => match id with
 | 0 => [(True, .loop (m.nheld + 1) (wTo (lg1I m 0)) (.exit 0) (lg1I m m.nheld)), (True, .loop (j + 1) (wTo (lg1I m 0)) .ret (smF 2 81))]
 | _ => [(True, .loop (m.nnews + 1) (wTo (lg2I m 0)) (.exit 2) (lg2I m m.nnews)), (True, .loop (j + 1) (wTo (lg2I m 0)) .ret (smF 2 81))] } }
noncomputable def pcLg1 (m : SMsg) (k : Nat) : Pc := { c := cB (cB (cR (cL (cR (cR (cR (bodyOf Tryz.f6))))))), st := lg1I m k, kb := { db := dbQ [(26, cLight (m.held k).batch)] }, k := fun e _ => match e with
 | .normal => some (wTo (lg1I m (k + 1)))
 | .ret => some (wTo (smF 2 81))
 | _ => some (wTo (lg1I m m.nheld)) }
noncomputable def pcLg2 (m : SMsg) (k : Nat) : Pc := { c := cB (cB (cR (cL (cR (cR (cR (cR (bodyOf Tryz.f6)))))))), st := lg2I m k, kb := { db := dbQ [(27, fun _ _ _ => [{ val := .int .i64 (sumN m.news (k + 1)) }])] }, k := fun e _ => match e with
 | .normal => some (wTo (lg2I m (k + 1)))
 | .ret => some (wTo (smF 2 81))
 | _ => some (wTo (lg2I m m.nnews)) }
end Go.Proofs.YthifjamdfpjilaaGreat
namespace Go.Proofs.YthifjamdfpjilaaGreat
open Go Sy Go.Proofs
noncomputable def bdLg_c (m : SMsg) (j : Nat) : Nat → List Prop
 | 0 => [T Tryz.prog 26 [.sl (.o 256) 2 0 0 0 1 (some 1)] [(.o 256, .rows 2 1 (getL [[.bool (SBatch.noop (SMsg.batch m)), rq (SBatch.n (SMsg.batch m)) (SBatch.req (SMsg.batch m))]]) false)] (.bool (lightB (SMsg.batch m))) [(.o 256, .rows 2 1 (getL [[.bool (SBatch.noop (SMsg.batch m)), rq (SBatch.n (SMsg.batch m)) (SBatch.req (SMsg.batch m))]]) false)]]
 | 1 => [decide ((6000 : Int) < (↑(ByteArray.size (SMsg.state m)) : Int)) = false]
 | 2 => [RLoop Tryz.prog none 0 (cB (cB (cR (cL (cR (cR (cR (bodyOf (Bd.f (bdLg m j)))))))))) (SMsg.nheld m + 1) (St.mk [.any, .ptr (.o 0) 0 0 0 0, .any, .int .i64 0, .any, .any, .any, .any, .any, .any, .any, .any, .any, .any, .any, .any, .any, .any, .any, .any, .any, .any, .any, .any, .any, .any, .any, .any, .any, .any, .any, .any, .any, .any, .any, .any, .any, .any, .any, .any, .any, .any, .any, .any, .any, .any, .any, .ros 39 (SMsg.nheld m) (fun i => SHeld.c (SMsg.held m i)) false, .int .i64 (↑(SMsg.nheld m) : Int), .int .i64 0, .any, .any, .any, .any, .any, .any, .any, .any, .any, .any, .any, .any, .any, .any, .any, .any, .any, .any, .any, .any, .any, .any, .any, .any, .any, .any, .any, .any, .any, .any, .any] [(.o 0, .flat (SMsg.c m))] 1 []) (.exit 0) (St.mk [.any, .ptr (.o 0) 0 0 0 0, .any, .int .i64 0, .any, .any, .any, .any, .any, .any, .any, .any, .any, .any, .any, .any, .any, .any, .any, .any, .any, .any, .any, .any, .any, .any, .any, .any, .any, .any, .any, .any, .any, .any, .any, .any, .any, .any, .any, .any, .any, .any, .any, .any, .any, .any, .any, .ros 39 (SMsg.nheld m) (fun i => SHeld.c (SMsg.held m i)) false, .int .i64 (↑(SMsg.nheld m) : Int), .int .i64 (↑(SMsg.nheld m) : Int), .any, .any, .any, .any, .any, .any, .any, .any, .any, .any, .any, .any, .any, .any, .any, .any, .any, .any, .any, .any, .any, .any, .any, .any, .any, .any, .any, .any, .any, .any, .any] [(.o 0, .flat (SMsg.c m))] 1 []), q (SMsg.kind m), q (SMsg.epoch m), q (SMsg.leader m), q (SMsg.view m), q (SMsg.slot m), q (SBatch.noop (SMsg.batch m)), q (SBatch.n (SMsg.batch m)), ∀ (k : Nat), k < SBatch.n (SMsg.batch m) → SReq.c (SBatch.req (SMsg.batch m) k) = SReq.c (SBatch.req (SMsg.batch m) k), false = true → false = true, q (SVote.kind (SMsg.vote m)), q (SVote.epoch (SMsg.vote m)), q (SVote.view (SMsg.vote m)), q (SVote.slot (SMsg.vote m)), q (32 : Nat), q (SVote.digest (SMsg.vote m)), q (SMsg.cepoch m), q (SMsg.cleader m), q (SMsg.cview m), q (SMsg.nheld m), ∀ (k : Nat), k < SMsg.nheld m → SHeld.c (SMsg.held m k) = SHeld.c (SMsg.held m k), false = true → false = true, q (SMsg.nnews m), ∀ (k : Nat), k < SMsg.nnews m → SEnv.c (SMsg.news m k) = SEnv.c (SMsg.news m k), false = true → false = true, q (32 : Nat), q (SMsg.digest m), q (SVote.kind (SCert.vote (SMsg.cert m))), q (SVote.epoch (SCert.vote (SMsg.cert m))), q (SVote.view (SCert.vote (SMsg.cert m))), q (SVote.slot (SCert.vote (SMsg.cert m))), q (32 : Nat), q (SVote.digest (SCert.vote (SMsg.cert m))), q (SCert.n (SMsg.cert m)), ∀ (k : Nat), k < SCert.n (SMsg.cert m) → SSign.c (SCert.sig (SMsg.cert m) k) = SSign.c (SCert.sig (SMsg.cert m) k), false = true → false = true, q (SMsg.state m), q (SMsg.n m), ∀ (k : Nat), k < SMsg.n m → SSign.c (SMsg.sig m k) = SSign.c (SMsg.sig m k), false = true → false = true, q0, q0, q0, q1, q (SMsg.nheld m), ∀ (k : Nat), k < SMsg.nheld m → SHeld.c (SMsg.held m k) = SHeld.c (SMsg.held m k), false = true → false = true, q (↑(SMsg.nheld m) : Int), q1]
 | _ => []
theorem bdLg_p111111 (m : SMsg) (j : Nat) :
 along Tryz.prog (bdLg m j) [true, true, true, true, true, true] = (some (.bool false, [], bdLg_c m j 0 ++ [(!lightB (SMsg.batch m)) = true, q2, q2, q2, q2, q2]) : Option (V × Heap × List Prop)) := by kernel_rfl
theorem bdLg_p011111 (m : SMsg) (j : Nat) :
 along Tryz.prog (bdLg m j) [false, true, true, true, true, true] = (some (.bool false, [], bdLg_c m j 0 ++ [(!lightB (SMsg.batch m)) = false, decide ((6000 : Int) < (↑(ByteArray.size (SMsg.state m)) : Int)) = true, q2, q2, q2, q2]) : Option (V × Heap × List Prop)) := by kernel_rfl
theorem bdLg_p001111 (m : SMsg) (j : Nat) :
 along Tryz.prog (bdLg m j) [false, false, true, true, true, true] = (some (.bool false, [], bdLg_c m j 0 ++ ([(!lightB (SMsg.batch m)) = false] ++ (bdLg_c m j 1 ++ [decide ((100 : Int) < (↑(SMsg.n m) : Int)) = true, q2, q2, q2]))) : Option (V × Heap × List Prop)) := by kernel_rfl
theorem bdLg_p000111 (m : SMsg) (j : Nat) :
 along Tryz.prog (bdLg m j) [false, false, false, true, true, true] = (some (.bool false, [], bdLg_c m j 0 ++ ([(!lightB (SMsg.batch m)) = false] ++ (bdLg_c m j 1 ++ [decide ((100 : Int) < (↑(SMsg.n m) : Int)) = false, decide ((100 : Int) < (↑(SCert.n (SMsg.cert m)) : Int)) = true, q2, q2]))) : Option (V × Heap × List Prop)) := by kernel_rfl
theorem bdLg_p000011 (m : SMsg) (j : Nat) :
 along Tryz.prog (bdLg m j) [false, false, false, false, true, true] = (some (.bool false, [], bdLg_c m j 0 ++ ([(!lightB (SMsg.batch m)) = false] ++ (bdLg_c m j 1 ++ [decide ((100 : Int) < (↑(SMsg.n m) : Int)) = false, decide ((100 : Int) < (↑(SCert.n (SMsg.cert m)) : Int)) = false, decide ((20 : Int) < (↑(SMsg.nheld m) : Int)) = true, q2]))) : Option (V × Heap × List Prop)) := by kernel_rfl
theorem bdLg_p000001 (m : SMsg) (j : Nat) :
 along Tryz.prog (bdLg m j) [false, false, false, false, false, true] = (some (.bool false, [], bdLg_c m j 0 ++ ([(!lightB (SMsg.batch m)) = false] ++ (bdLg_c m j 1 ++ [decide ((100 : Int) < (↑(SMsg.n m) : Int)) = false, decide ((100 : Int) < (↑(SCert.n (SMsg.cert m)) : Int)) = false, decide ((20 : Int) < (↑(SMsg.nheld m) : Int)) = false, decide ((100 : Int) < (↑(SMsg.nnews m) : Int)) = true]))) : Option (V × Heap × List Prop)) := by kernel_rfl
theorem bdLg_p00000011 (m : SMsg) (j : Nat) :
 along Tryz.prog (bdLg m j) [false, false, false, false, false, false, true, true] = (some (.bool true, [], bdLg_c m j 0 ++ ([(!lightB (SMsg.batch m)) = false] ++ (bdLg_c m j 1 ++ ([decide ((100 : Int) < (↑(SMsg.n m) : Int)) = false, decide ((100 : Int) < (↑(SCert.n (SMsg.cert m)) : Int)) = false, decide ((20 : Int) < (↑(SMsg.nheld m) : Int)) = false, decide ((100 : Int) < (↑(SMsg.nnews m) : Int)) = false] ++ (bdLg_c m j 2 ++ [RLoop Tryz.prog none 0 (cB (cB (cR (cL (cR (cR (cR (cR (bodyOf (Bd.f (bdLg m j))))))))))) (SMsg.nnews m + 1) (St.mk [.any, .ptr (.o 0) 0 0 0 0, .any, .int .i64 0, .any, .any, .any, .any, .any, .any, .any, .any, .any, .any, .any, .any, .any, .any, .any, .any, .any, .any, .any, .any, .any, .any, .any, .any, .any, .any, .any, .any, .any, .any, .any, .any, .any, .any, .any, .any, .any, .any, .any, .any, .any, .any, .any, .any, .any, .any, .any, .any, .any, .any, .any, .any, .any, .any, .any, .any, .any, .any, .any, .any, .any, .any, .any, .ros 18 (SMsg.nnews m) (fun i => SEnv.c (SMsg.news m i)) false, .int .i64 (↑(SMsg.nnews m) : Int), .int .i64 0, .any, .any, .any, .any, .any, .any, .any, .any, .any, .any, .any] [(.o 0, .flat (SMsg.c m))] 1 []) (.exit 2) (St.mk [.any, .ptr (.o 0) 0 0 0 0, .any, .int .i64 (sumN (SMsg.news m) (SMsg.nnews m)), .any, .any, .any, .any, .any, .any, .any, .any, .any, .any, .any, .any, .any, .any, .any, .any, .any, .any, .any, .any, .any, .any, .any, .any, .any, .any, .any, .any, .any, .any, .any, .any, .any, .any, .any, .any, .any, .any, .any, .any, .any, .any, .any, .any, .any, .any, .any, .any, .any, .any, .any, .any, .any, .any, .any, .any, .any, .any, .any, .any, .any, .any, .any, .ros 18 (SMsg.nnews m) (fun i => SEnv.c (SMsg.news m i)) false, .int .i64 (↑(SMsg.nnews m) : Int), .int .i64 (↑(SMsg.nnews m) : Int), .any, .any, .any, .any, .any, .any, .any, .any, .any, .any, .any] [(.o 0, .flat (SMsg.c m))] 1 []), q (SMsg.kind m), q (SMsg.epoch m), q (SMsg.leader m), q (SMsg.view m), q (SMsg.slot m), q (SBatch.noop (SMsg.batch m)), q (SBatch.n (SMsg.batch m)), ∀ (k : Nat), k < SBatch.n (SMsg.batch m) → SReq.c (SBatch.req (SMsg.batch m) k) = SReq.c (SBatch.req (SMsg.batch m) k), false = true → false = true, q (SVote.kind (SMsg.vote m)), q (SVote.epoch (SMsg.vote m)), q (SVote.view (SMsg.vote m)), q (SVote.slot (SMsg.vote m)), q (32 : Nat), q (SVote.digest (SMsg.vote m)), q (SMsg.cepoch m), q (SMsg.cleader m), q (SMsg.cview m), q (SMsg.nheld m), ∀ (k : Nat), k < SMsg.nheld m → SHeld.c (SMsg.held m k) = SHeld.c (SMsg.held m k), false = true → false = true, q (SMsg.nnews m), ∀ (k : Nat), k < SMsg.nnews m → SEnv.c (SMsg.news m k) = SEnv.c (SMsg.news m k), false = true → false = true, q (32 : Nat), q (SMsg.digest m), q (SVote.kind (SCert.vote (SMsg.cert m))), q (SVote.epoch (SCert.vote (SMsg.cert m))), q (SVote.view (SCert.vote (SMsg.cert m))), q (SVote.slot (SCert.vote (SMsg.cert m))), q (32 : Nat), q (SVote.digest (SCert.vote (SMsg.cert m))), q (SCert.n (SMsg.cert m)), ∀ (k : Nat), k < SCert.n (SMsg.cert m) → SSign.c (SCert.sig (SMsg.cert m) k) = SSign.c (SCert.sig (SMsg.cert m) k), false = true → false = true, q (SMsg.state m), q (SMsg.n m), ∀ (k : Nat), k < SMsg.n m → SSign.c (SMsg.sig m k) = SSign.c (SMsg.sig m k), false = true → false = true, q0, q0, q0, q1, q (SMsg.nnews m), ∀ (k : Nat), k < SMsg.nnews m → SEnv.c (SMsg.news m k) = SEnv.c (SMsg.news m k), false = true → false = true, q (↑(SMsg.nnews m) : Int), q1]))))) : Option (V × Heap × List Prop)) := by kernel_rfl
theorem bdLg_p00000010 (m : SMsg) (j : Nat) :
 along Tryz.prog (bdLg m j) [false, false, false, false, false, false, true, false] = (some (.bool false, [], bdLg_c m j 0 ++ ([(!lightB (SMsg.batch m)) = false] ++ (bdLg_c m j 1 ++ ([decide ((100 : Int) < (↑(SMsg.n m) : Int)) = false, decide ((100 : Int) < (↑(SCert.n (SMsg.cert m)) : Int)) = false, decide ((20 : Int) < (↑(SMsg.nheld m) : Int)) = false, decide ((100 : Int) < (↑(SMsg.nnews m) : Int)) = false] ++ (bdLg_c m j 2 ++ [RLoop Tryz.prog none 0 (cB (cB (cR (cL (cR (cR (cR (cR (bodyOf (Bd.f (bdLg m j))))))))))) (j + 1) (St.mk [.any, .ptr (.o 0) 0 0 0 0, .any, .int .i64 0, .any, .any, .any, .any, .any, .any, .any, .any, .any, .any, .any, .any, .any, .any, .any, .any, .any, .any, .any, .any, .any, .any, .any, .any, .any, .any, .any, .any, .any, .any, .any, .any, .any, .any, .any, .any, .any, .any, .any, .any, .any, .any, .any, .any, .any, .any, .any, .any, .any, .any, .any, .any, .any, .any, .any, .any, .any, .any, .any, .any, .any, .any, .any, .ros 18 (SMsg.nnews m) (fun i => SEnv.c (SMsg.news m i)) false, .int .i64 (↑(SMsg.nnews m) : Int), .int .i64 0, .any, .any, .any, .any, .any, .any, .any, .any, .any, .any, .any] [(.o 0, .flat (SMsg.c m))] 1 []) .ret (St.mk [.any, .any, .bool false, .any, .any, .any, .any, .any, .any, .any, .any, .any, .any, .any, .any, .any, .any, .any, .any, .any, .any, .any, .any, .any, .any, .any, .any, .any, .any, .any, .any, .any, .any, .any, .any, .any, .any, .any, .any, .any, .any, .any, .any, .any, .any, .any, .any, .any, .any, .any, .any, .any, .any, .any, .any, .any, .any, .any, .any, .any, .any, .any, .any, .any, .any, .any, .any, .any, .any, .any, .any, .any, .any, .any, .any, .any, .any, .any, .any, .any, .any] [] 0 []), q (SMsg.kind m), q (SMsg.epoch m), q (SMsg.leader m), q (SMsg.view m), q (SMsg.slot m), q (SBatch.noop (SMsg.batch m)), q (SBatch.n (SMsg.batch m)), ∀ (k : Nat), k < SBatch.n (SMsg.batch m) → SReq.c (SBatch.req (SMsg.batch m) k) = SReq.c (SBatch.req (SMsg.batch m) k), false = true → false = true, q (SVote.kind (SMsg.vote m)), q (SVote.epoch (SMsg.vote m)), q (SVote.view (SMsg.vote m)), q (SVote.slot (SMsg.vote m)), q (32 : Nat), q (SVote.digest (SMsg.vote m)), q (SMsg.cepoch m), q (SMsg.cleader m), q (SMsg.cview m), q (SMsg.nheld m), ∀ (k : Nat), k < SMsg.nheld m → SHeld.c (SMsg.held m k) = SHeld.c (SMsg.held m k), false = true → false = true, q (SMsg.nnews m), ∀ (k : Nat), k < SMsg.nnews m → SEnv.c (SMsg.news m k) = SEnv.c (SMsg.news m k), false = true → false = true, q (32 : Nat), q (SMsg.digest m), q (SVote.kind (SCert.vote (SMsg.cert m))), q (SVote.epoch (SCert.vote (SMsg.cert m))), q (SVote.view (SCert.vote (SMsg.cert m))), q (SVote.slot (SCert.vote (SMsg.cert m))), q (32 : Nat), q (SVote.digest (SCert.vote (SMsg.cert m))), q (SCert.n (SMsg.cert m)), ∀ (k : Nat), k < SCert.n (SMsg.cert m) → SSign.c (SCert.sig (SMsg.cert m) k) = SSign.c (SCert.sig (SMsg.cert m) k), false = true → false = true, q (SMsg.state m), q (SMsg.n m), ∀ (k : Nat), k < SMsg.n m → SSign.c (SMsg.sig m k) = SSign.c (SMsg.sig m k), false = true → false = true, q0, q0, q0, q1, q (SMsg.nnews m), ∀ (k : Nat), k < SMsg.nnews m → SEnv.c (SMsg.news m k) = SEnv.c (SMsg.news m k), false = true → false = true, q (↑(SMsg.nnews m) : Int), q1]))))) : Option (V × Heap × List Prop)) := by kernel_rfl
theorem bdLg_p0000000 (m : SMsg) (j : Nat) :
 along Tryz.prog (bdLg m j) [false, false, false, false, false, false, false] = (some (.bool false, [], bdLg_c m j 0 ++ ([(!lightB (SMsg.batch m)) = false] ++ (bdLg_c m j 1 ++ [decide ((100 : Int) < (↑(SMsg.n m) : Int)) = false, decide ((100 : Int) < (↑(SCert.n (SMsg.cert m)) : Int)) = false, decide ((20 : Int) < (↑(SMsg.nheld m) : Int)) = false, decide ((100 : Int) < (↑(SMsg.nnews m) : Int)) = false, RLoop Tryz.prog none 0 (cB (cB (cR (cL (cR (cR (cR (bodyOf (Bd.f (bdLg m j)))))))))) (j + 1) (St.mk [.any, .ptr (.o 0) 0 0 0 0, .any, .int .i64 0, .any, .any, .any, .any, .any, .any, .any, .any, .any, .any, .any, .any, .any, .any, .any, .any, .any, .any, .any, .any, .any, .any, .any, .any, .any, .any, .any, .any, .any, .any, .any, .any, .any, .any, .any, .any, .any, .any, .any, .any, .any, .any, .any, .ros 39 (SMsg.nheld m) (fun i => SHeld.c (SMsg.held m i)) false, .int .i64 (↑(SMsg.nheld m) : Int), .int .i64 0, .any, .any, .any, .any, .any, .any, .any, .any, .any, .any, .any, .any, .any, .any, .any, .any, .any, .any, .any, .any, .any, .any, .any, .any, .any, .any, .any, .any, .any, .any, .any] [(.o 0, .flat (SMsg.c m))] 1 []) .ret (St.mk [.any, .any, .bool false, .any, .any, .any, .any, .any, .any, .any, .any, .any, .any, .any, .any, .any, .any, .any, .any, .any, .any, .any, .any, .any, .any, .any, .any, .any, .any, .any, .any, .any, .any, .any, .any, .any, .any, .any, .any, .any, .any, .any, .any, .any, .any, .any, .any, .any, .any, .any, .any, .any, .any, .any, .any, .any, .any, .any, .any, .any, .any, .any, .any, .any, .any, .any, .any, .any, .any, .any, .any, .any, .any, .any, .any, .any, .any, .any, .any, .any, .any] [] 0 []), q (SMsg.kind m), q (SMsg.epoch m), q (SMsg.leader m), q (SMsg.view m), q (SMsg.slot m), q (SBatch.noop (SMsg.batch m)), q (SBatch.n (SMsg.batch m)), ∀ (k : Nat), k < SBatch.n (SMsg.batch m) → SReq.c (SBatch.req (SMsg.batch m) k) = SReq.c (SBatch.req (SMsg.batch m) k), false = true → false = true, q (SVote.kind (SMsg.vote m)), q (SVote.epoch (SMsg.vote m)), q (SVote.view (SMsg.vote m)), q (SVote.slot (SMsg.vote m)), q (32 : Nat), q (SVote.digest (SMsg.vote m)), q (SMsg.cepoch m), q (SMsg.cleader m), q (SMsg.cview m), q (SMsg.nheld m), ∀ (k : Nat), k < SMsg.nheld m → SHeld.c (SMsg.held m k) = SHeld.c (SMsg.held m k), false = true → false = true, q (SMsg.nnews m), ∀ (k : Nat), k < SMsg.nnews m → SEnv.c (SMsg.news m k) = SEnv.c (SMsg.news m k), false = true → false = true, q (32 : Nat), q (SMsg.digest m), q (SVote.kind (SCert.vote (SMsg.cert m))), q (SVote.epoch (SCert.vote (SMsg.cert m))), q (SVote.view (SCert.vote (SMsg.cert m))), q (SVote.slot (SCert.vote (SMsg.cert m))), q (32 : Nat), q (SVote.digest (SCert.vote (SMsg.cert m))), q (SCert.n (SMsg.cert m)), ∀ (k : Nat), k < SCert.n (SMsg.cert m) → SSign.c (SCert.sig (SMsg.cert m) k) = SSign.c (SCert.sig (SMsg.cert m) k), false = true → false = true, q (SMsg.state m), q (SMsg.n m), ∀ (k : Nat), k < SMsg.n m → SSign.c (SMsg.sig m k) = SSign.c (SMsg.sig m k), false = true → false = true, q0, q0, q0, q1, q (SMsg.nheld m), ∀ (k : Nat), k < SMsg.nheld m → SHeld.c (SMsg.held m k) = SHeld.c (SMsg.held m k), false = true → false = true, q (↑(SMsg.nheld m) : Int), q1]))) : Option (V × Heap × List Prop)) := by kernel_rfl

noncomputable def pcLg1_c (m : SMsg) (k : Nat) : Nat → List Prop
 | 0 => [decide ((↑k : Int) < (↑(SMsg.nheld m) : Int)) = true, (0 : Int) ≤ (↑k : Int) ∧ (↑k : Int) < (↑(SMsg.nheld m) : Int), T Tryz.prog 26 [.sl (.o 449) 2 0 0 0 1 (some 1)] [(.o 449, .rows 2 1 (getL [[.bool (SBatch.noop (SHeld.batch (SMsg.held m (Int.toNat (↑k : Int))))), rq (SBatch.n (SHeld.batch (SMsg.held m (Int.toNat (↑k : Int))))) (SBatch.req (SHeld.batch (SMsg.held m (Int.toNat (↑k : Int)))))]]) false)] (.bool (lightB (SHeld.batch (SMsg.held m k)))) [(.o 449, .rows 2 1 (getL [[.bool (SBatch.noop (SHeld.batch (SMsg.held m (Int.toNat (↑k : Int))))), rq (SBatch.n (SHeld.batch (SMsg.held m (Int.toNat (↑k : Int))))) (SBatch.req (SHeld.batch (SMsg.held m (Int.toNat (↑k : Int)))))]]) false)]]
 | _ => []
theorem pcLg1_p111 (m : SMsg) (k : Nat) :
 alongPc Tryz.prog (pcLg1 m k) [true, true, true] = (some (.ret, St.mk [.any, .any, .bool false, .any, .any, .any, .any, .any, .any, .any, .any, .any, .any, .any, .any, .any, .any, .any, .any, .any, .any, .any, .any, .any, .any, .any, .any, .any, .any, .any, .any, .any, .any, .any, .any, .any, .any, .any, .any, .any, .any, .any, .any, .any, .any, .any, .any, .any, .any, .any, .any, .any, .any, .any, .any, .any, .any, .any, .any, .any, .any, .any, .any, .any, .any, .any, .any, .any, .any, .any, .any, .any, .any, .any, .any, .any, .any, .any, .any, .any, .any] [] 0 [], pcLg1_c m k 0 ++ [(!lightB (SHeld.batch (SMsg.held m k))) = true, q2, q false]) : Option (Exit × St × List Prop)) := by kernel_rfl
theorem pcLg1_p101 (m : SMsg) (k : Nat) :
 alongPc Tryz.prog (pcLg1 m k) [true, false, true] = (some (.ret, St.mk [.any, .any, .bool false, .any, .any, .any, .any, .any, .any, .any, .any, .any, .any, .any, .any, .any, .any, .any, .any, .any, .any, .any, .any, .any, .any, .any, .any, .any, .any, .any, .any, .any, .any, .any, .any, .any, .any, .any, .any, .any, .any, .any, .any, .any, .any, .any, .any, .any, .any, .any, .any, .any, .any, .any, .any, .any, .any, .any, .any, .any, .any, .any, .any, .any, .any, .any, .any, .any, .any, .any, .any, .any, .any, .any, .any, .any, .any, .any, .any, .any, .any] [] 0 [], pcLg1_c m k 0 ++ [(!lightB (SHeld.batch (SMsg.held m k))) = false, decide ((100 : Int) < (↑(SCert.n (SHeld.cert (SMsg.held m (Int.toNat (↑k : Int))))) : Int)) = true, q false]) : Option (Exit × St × List Prop)) := by kernel_rfl
theorem pcLg1_p100 (m : SMsg) (k : Nat) :
 alongPc Tryz.prog (pcLg1 m k) [true, false, false] = (some (.normal, St.mk [.any, .ptr (.o 0) 0 0 0 0, .any, .int .i64 0, .any, .any, .any, .any, .any, .any, .any, .any, .any, .any, .any, .any, .any, .any, .any, .any, .any, .any, .any, .any, .any, .any, .any, .any, .any, .any, .any, .any, .any, .any, .any, .any, .any, .any, .any, .any, .any, .any, .any, .any, .any, .any, .any, .ros 39 (SMsg.nheld m) (fun i => SHeld.c (SMsg.held m i)) false, .int .i64 (↑(SMsg.nheld m) : Int), .int .i64 (↑(k + 1) : Int), .any, .any, .any, .any, .any, .any, .any, .any, .any, .any, .any, .any, .any, .any, .any, .any, .any, .any, .any, .any, .any, .any, .any, .any, .any, .any, .any, .any, .any, .any, .any] [(.o 0, .flat (SMsg.c m))] 1 [], pcLg1_c m k 0 ++ [(!lightB (SHeld.batch (SMsg.held m k))) = false, decide ((100 : Int) < (↑(SCert.n (SHeld.cert (SMsg.held m (Int.toNat (↑k : Int))))) : Int)) = false, InR IntKind.i64 ((↑k : Int) + (1 : Int)), q (SMsg.kind m), q (SMsg.epoch m), q (SMsg.leader m), q (SMsg.view m), q (SMsg.slot m), q (SBatch.noop (SMsg.batch m)), q (SBatch.n (SMsg.batch m)), ∀ (k : Nat), k < SBatch.n (SMsg.batch m) → SReq.c (SBatch.req (SMsg.batch m) k) = SReq.c (SBatch.req (SMsg.batch m) k), false = true → false = true, q (SVote.kind (SMsg.vote m)), q (SVote.epoch (SMsg.vote m)), q (SVote.view (SMsg.vote m)), q (SVote.slot (SMsg.vote m)), q (32 : Nat), q (SVote.digest (SMsg.vote m)), q (SMsg.cepoch m), q (SMsg.cleader m), q (SMsg.cview m), q (SMsg.nheld m), ∀ (k : Nat), k < SMsg.nheld m → SHeld.c (SMsg.held m k) = SHeld.c (SMsg.held m k), false = true → false = true, q (SMsg.nnews m), ∀ (k : Nat), k < SMsg.nnews m → SEnv.c (SMsg.news m k) = SEnv.c (SMsg.news m k), false = true → false = true, q (32 : Nat), q (SMsg.digest m), q (SVote.kind (SCert.vote (SMsg.cert m))), q (SVote.epoch (SCert.vote (SMsg.cert m))), q (SVote.view (SCert.vote (SMsg.cert m))), q (SVote.slot (SCert.vote (SMsg.cert m))), q (32 : Nat), q (SVote.digest (SCert.vote (SMsg.cert m))), q (SCert.n (SMsg.cert m)), ∀ (k : Nat), k < SCert.n (SMsg.cert m) → SSign.c (SCert.sig (SMsg.cert m) k) = SSign.c (SCert.sig (SMsg.cert m) k), false = true → false = true, q (SMsg.state m), q (SMsg.n m), ∀ (k : Nat), k < SMsg.n m → SSign.c (SMsg.sig m k) = SSign.c (SMsg.sig m k), false = true → false = true, q0, q0, q0, q1, q (SMsg.nheld m), ∀ (k : Nat), k < SMsg.nheld m → SHeld.c (SMsg.held m k) = SHeld.c (SMsg.held m k), false = true → false = true, q (↑(SMsg.nheld m) : Int), (↑k : Int) + (1 : Int) = (↑(k + (1 : Nat)) : Int)]) : Option (Exit × St × List Prop)) := by kernel_rfl
theorem pcLg1_p0 (m : SMsg) (k : Nat) :
 alongPc Tryz.prog (pcLg1 m k) [false] = (some (.exit 0, St.mk [.any, .ptr (.o 0) 0 0 0 0, .any, .int .i64 0, .any, .any, .any, .any, .any, .any, .any, .any, .any, .any, .any, .any, .any, .any, .any, .any, .any, .any, .any, .any, .any, .any, .any, .any, .any, .any, .any, .any, .any, .any, .any, .any, .any, .any, .any, .any, .any, .any, .any, .any, .any, .any, .any, .ros 39 (SMsg.nheld m) (fun i => SHeld.c (SMsg.held m i)) false, .int .i64 (↑(SMsg.nheld m) : Int), .int .i64 (↑(SMsg.nheld m) : Int), .any, .any, .any, .any, .any, .any, .any, .any, .any, .any, .any, .any, .any, .any, .any, .any, .any, .any, .any, .any, .any, .any, .any, .any, .any, .any, .any, .any, .any, .any, .any] [(.o 0, .flat (SMsg.c m))] 1 [], [decide ((↑k : Int) < (↑(SMsg.nheld m) : Int)) = false, q (SMsg.kind m), q (SMsg.epoch m), q (SMsg.leader m), q (SMsg.view m), q (SMsg.slot m), q (SBatch.noop (SMsg.batch m)), q (SBatch.n (SMsg.batch m)), ∀ (k : Nat), k < SBatch.n (SMsg.batch m) → SReq.c (SBatch.req (SMsg.batch m) k) = SReq.c (SBatch.req (SMsg.batch m) k), false = true → false = true, q (SVote.kind (SMsg.vote m)), q (SVote.epoch (SMsg.vote m)), q (SVote.view (SMsg.vote m)), q (SVote.slot (SMsg.vote m)), q (32 : Nat), q (SVote.digest (SMsg.vote m)), q (SMsg.cepoch m), q (SMsg.cleader m), q (SMsg.cview m), q (SMsg.nheld m), ∀ (k : Nat), k < SMsg.nheld m → SHeld.c (SMsg.held m k) = SHeld.c (SMsg.held m k), false = true → false = true, q (SMsg.nnews m), ∀ (k : Nat), k < SMsg.nnews m → SEnv.c (SMsg.news m k) = SEnv.c (SMsg.news m k), false = true → false = true, q (32 : Nat), q (SMsg.digest m), q (SVote.kind (SCert.vote (SMsg.cert m))), q (SVote.epoch (SCert.vote (SMsg.cert m))), q (SVote.view (SCert.vote (SMsg.cert m))), q (SVote.slot (SCert.vote (SMsg.cert m))), q (32 : Nat), q (SVote.digest (SCert.vote (SMsg.cert m))), q (SCert.n (SMsg.cert m)), ∀ (k : Nat), k < SCert.n (SMsg.cert m) → SSign.c (SCert.sig (SMsg.cert m) k) = SSign.c (SCert.sig (SMsg.cert m) k), false = true → false = true, q (SMsg.state m), q (SMsg.n m), ∀ (k : Nat), k < SMsg.n m → SSign.c (SMsg.sig m k) = SSign.c (SMsg.sig m k), false = true → false = true, q0, q0, q0, q1, q (SMsg.nheld m), ∀ (k : Nat), k < SMsg.nheld m → SHeld.c (SMsg.held m k) = SHeld.c (SMsg.held m k), false = true → false = true, q (↑(SMsg.nheld m) : Int), (↑k : Int) = (↑(SMsg.nheld m) : Int)]) : Option (Exit × St × List Prop)) := by kernel_rfl

theorem pcLg2_p11 (m : SMsg) (k : Nat) :
  alongPc Tryz.prog (pcLg2 m k) [true, true] = (some (.ret, St.mk [.any, .any, .bool false, .any, .any, .any, .any, .any, .any, .any, .any, .any, .any, .any, .any, .any, .any, .any, .any, .any, .any, .any, .any, .any, .any, .any, .any, .any, .any, .any, .any, .any, .any, .any, .any, .any, .any, .any, .any, .any, .any, .any, .any, .any, .any, .any, .any, .any, .any, .any, .any, .any, .any, .any, .any, .any, .any, .any, .any, .any, .any, .any, .any, .any, .any, .any, .any, .any, .any, .any, .any, .any, .any, .any, .any, .any, .any, .any, .any, .any, .any] [] 0 [], [decide ((↑k : Int) < (↑(SMsg.nnews m) : Int)) = true, (0 : Int) ≤ (↑k : Int) ∧ (↑k : Int) < (↑(SMsg.nnews m) : Int), T Tryz.prog 27 [.int .i64 (sumN (SMsg.news m) k), .int .i64 (↑(ByteArray.size (SEnv.body (SMsg.news m (Int.toNat (↑k : Int))))) : Int), .int .i64 6000] [] (.int .i64 (sumN (SMsg.news m) (k + 1))) [], decide ((6000 : Int) < sumN (SMsg.news m) (k + (1 : Nat))) = true, q false]) : Option (Exit × St × List Prop)) := by kernel_rfl
theorem pcLg2_p10 (m : SMsg) (k : Nat) :
  alongPc Tryz.prog (pcLg2 m k) [true, false] = (some (.normal, St.mk [.any, .ptr (.o 0) 0 0 0 0, .any, .int .i64 (sumN (SMsg.news m) (k + 1)), .any, .any, .any, .any, .any, .any, .any, .any, .any, .any, .any, .any, .any, .any, .any, .any, .any, .any, .any, .any, .any, .any, .any, .any, .any, .any, .any, .any, .any, .any, .any, .any, .any, .any, .any, .any, .any, .any, .any, .any, .any, .any, .any, .any, .any, .any, .any, .any, .any, .any, .any, .any, .any, .any, .any, .any, .any, .any, .any, .any, .any, .any, .any, .ros 18 (SMsg.nnews m) (fun i => SEnv.c (SMsg.news m i)) false, .int .i64 (↑(SMsg.nnews m) : Int), .int .i64 (↑(k + 1) : Int), .any, .any, .any, .any, .any, .any, .any, .any, .any, .any, .any] [(.o 0, .flat (SMsg.c m))] 1 [], [decide ((↑k : Int) < (↑(SMsg.nnews m) : Int)) = true, (0 : Int) ≤ (↑k : Int) ∧ (↑k : Int) < (↑(SMsg.nnews m) : Int), T Tryz.prog 27 [.int .i64 (sumN (SMsg.news m) k), .int .i64 (↑(ByteArray.size (SEnv.body (SMsg.news m (Int.toNat (↑k : Int))))) : Int), .int .i64 6000] [] (.int .i64 (sumN (SMsg.news m) (k + 1))) [], decide ((6000 : Int) < sumN (SMsg.news m) (k + (1 : Nat))) = false, InR IntKind.i64 ((↑k : Int) + (1 : Int)), q (SMsg.kind m), q (SMsg.epoch m), q (SMsg.leader m), q (SMsg.view m), q (SMsg.slot m), q (SBatch.noop (SMsg.batch m)), q (SBatch.n (SMsg.batch m)), ∀ (k : Nat), k < SBatch.n (SMsg.batch m) → SReq.c (SBatch.req (SMsg.batch m) k) = SReq.c (SBatch.req (SMsg.batch m) k), false = true → false = true, q (SVote.kind (SMsg.vote m)), q (SVote.epoch (SMsg.vote m)), q (SVote.view (SMsg.vote m)), q (SVote.slot (SMsg.vote m)), q (32 : Nat), q (SVote.digest (SMsg.vote m)), q (SMsg.cepoch m), q (SMsg.cleader m), q (SMsg.cview m), q (SMsg.nheld m), ∀ (k : Nat), k < SMsg.nheld m → SHeld.c (SMsg.held m k) = SHeld.c (SMsg.held m k), false = true → false = true, q (SMsg.nnews m), ∀ (k : Nat), k < SMsg.nnews m → SEnv.c (SMsg.news m k) = SEnv.c (SMsg.news m k), false = true → false = true, q (32 : Nat), q (SMsg.digest m), q (SVote.kind (SCert.vote (SMsg.cert m))), q (SVote.epoch (SCert.vote (SMsg.cert m))), q (SVote.view (SCert.vote (SMsg.cert m))), q (SVote.slot (SCert.vote (SMsg.cert m))), q (32 : Nat), q (SVote.digest (SCert.vote (SMsg.cert m))), q (SCert.n (SMsg.cert m)), ∀ (k : Nat), k < SCert.n (SMsg.cert m) → SSign.c (SCert.sig (SMsg.cert m) k) = SSign.c (SCert.sig (SMsg.cert m) k), false = true → false = true, q (SMsg.state m), q (SMsg.n m), ∀ (k : Nat), k < SMsg.n m → SSign.c (SMsg.sig m k) = SSign.c (SMsg.sig m k), false = true → false = true, q0, q0, q0, q (sumN (SMsg.news m) (k + (1 : Nat))), q (SMsg.nnews m), ∀ (k : Nat), k < SMsg.nnews m → SEnv.c (SMsg.news m k) = SEnv.c (SMsg.news m k), false = true → false = true, q (↑(SMsg.nnews m) : Int), (↑k : Int) + (1 : Int) = (↑(k + (1 : Nat)) : Int)]) : Option (Exit × St × List Prop)) := by kernel_rfl
theorem pcLg2_p0 (m : SMsg) (k : Nat) :
  alongPc Tryz.prog (pcLg2 m k) [false] = (some (.exit 2, St.mk [.any, .ptr (.o 0) 0 0 0 0, .any, .int .i64 (sumN (SMsg.news m) (SMsg.nnews m)), .any, .any, .any, .any, .any, .any, .any, .any, .any, .any, .any, .any, .any, .any, .any, .any, .any, .any, .any, .any, .any, .any, .any, .any, .any, .any, .any, .any, .any, .any, .any, .any, .any, .any, .any, .any, .any, .any, .any, .any, .any, .any, .any, .any, .any, .any, .any, .any, .any, .any, .any, .any, .any, .any, .any, .any, .any, .any, .any, .any, .any, .any, .any, .ros 18 (SMsg.nnews m) (fun i => SEnv.c (SMsg.news m i)) false, .int .i64 (↑(SMsg.nnews m) : Int), .int .i64 (↑(SMsg.nnews m) : Int), .any, .any, .any, .any, .any, .any, .any, .any, .any, .any, .any] [(.o 0, .flat (SMsg.c m))] 1 [], [decide ((↑k : Int) < (↑(SMsg.nnews m) : Int)) = false, q (SMsg.kind m), q (SMsg.epoch m), q (SMsg.leader m), q (SMsg.view m), q (SMsg.slot m), q (SBatch.noop (SMsg.batch m)), q (SBatch.n (SMsg.batch m)), ∀ (k : Nat), k < SBatch.n (SMsg.batch m) → SReq.c (SBatch.req (SMsg.batch m) k) = SReq.c (SBatch.req (SMsg.batch m) k), false = true → false = true, q (SVote.kind (SMsg.vote m)), q (SVote.epoch (SMsg.vote m)), q (SVote.view (SMsg.vote m)), q (SVote.slot (SMsg.vote m)), q (32 : Nat), q (SVote.digest (SMsg.vote m)), q (SMsg.cepoch m), q (SMsg.cleader m), q (SMsg.cview m), q (SMsg.nheld m), ∀ (k : Nat), k < SMsg.nheld m → SHeld.c (SMsg.held m k) = SHeld.c (SMsg.held m k), false = true → false = true, q (SMsg.nnews m), ∀ (k : Nat), k < SMsg.nnews m → SEnv.c (SMsg.news m k) = SEnv.c (SMsg.news m k), false = true → false = true, q (32 : Nat), q (SMsg.digest m), q (SVote.kind (SCert.vote (SMsg.cert m))), q (SVote.epoch (SCert.vote (SMsg.cert m))), q (SVote.view (SCert.vote (SMsg.cert m))), q (SVote.slot (SCert.vote (SMsg.cert m))), q (32 : Nat), q (SVote.digest (SCert.vote (SMsg.cert m))), q (SCert.n (SMsg.cert m)), ∀ (k : Nat), k < SCert.n (SMsg.cert m) → SSign.c (SCert.sig (SMsg.cert m) k) = SSign.c (SCert.sig (SMsg.cert m) k), false = true → false = true, q (SMsg.state m), q (SMsg.n m), ∀ (k : Nat), k < SMsg.n m → SSign.c (SMsg.sig m k) = SSign.c (SMsg.sig m k), false = true → false = true, q0, q0, q0, sumN (SMsg.news m) k = sumN (SMsg.news m) (SMsg.nnews m), q (SMsg.nnews m), ∀ (k : Nat), k < SMsg.nnews m → SEnv.c (SMsg.news m k) = SEnv.c (SMsg.news m k), false = true → false = true, q (↑(SMsg.nnews m) : Int), (↑k : Int) = (↑(SMsg.nnews m) : Int)]) : Option (Exit × St × List Prop)) := by kernel_rfl

theorem T_addG {n more most : Int} (h1 : 0 ≤ n) (h2 : 0 ≤ more) (h3 : more ≤ 9223372036854775807) (h4 : 0 ≤ most) (h5 : most ≤ 1000000000000) : T Tryz.prog 27 [.int .i64 n, .int .i64 more, .int .i64 most] [] (.int .i64 (addS n more most)) [] := by
 by_cases a : most < n
 ·exact T.val (T_al (bdAdd_p111 n more most) Tryz.func27 (by simp [All, All_append, bdLg_c, pcLg1_c, InR64, a] <;> omega)) (by simp [addS, a])
 by_cases b : most < more
 ·exact T.val (T_al (bdAdd_p011 n more most) Tryz.func27 (by simp [All, All_append, bdLg_c, pcLg1_c, InR64, a, b] <;> omega)) (by simp [addS, b])
 by_cases c : most - more < n
 ·exact T.val (T_al (bdAdd_p001 n more most) Tryz.func27 (by simp [All, All_append, bdLg_c, pcLg1_c, InR64, a, b, c] <;> omega)) (by simp [addS, c])
 ·exact T.val (T_al (bdAdd_p000 n more most) Tryz.func27 (by simp [All, All_append, bdLg_c, pcLg1_c, InR64, a, b, c] <;> omega)) (by simp [addS, a, b, c])
theorem addS_nonneg {n more most : Int} (h1 : 0 ≤ n) (h2 : 0 ≤ more) (h3 : 0 ≤ most) : 0 ≤ addS n more most := by
 unfold addS; split <;> omega
theorem sumN_nonneg (e : Nat → SEnv) : ∀ k, 0 ≤ sumN e k
 | 0 => by simp [sumN]
 | k + 1 => addS_nonneg (sumN_nonneg e k) (by omega) (by omega)
/-- What a machine can have. -/
structure FitB (b : SBatch) : Prop where
 n : b.n ≤ 9223372036854775807
 data : ∀ k, k < b.n → (b.req k).data.size ≤ 9223372036854775807
structure FitMsg (m : SMsg) : Prop where
 batch : FitB m.batch
 held : ∀ k, k < m.nheld → FitB (m.held k).batch
 news : ∀ k, k < m.nnews → (m.news k).body.size ≤ 9223372036854775807
 nheld : m.nheld ≤ 9223372036854775807
 nnews : m.nnews ≤ 9223372036854775807
theorem okHd1 {h : SHeld} (h1 : okHd h = true) : lightB h.batch = true ∧ h.cert.n ≤ 100 := by simpa [okHd] using h1
def HL1 (m : SMsg) : Prop := ((∀ k, k < m.nheld → okHd (m.held k) = true) ∧ RLoop Tryz.prog none 0 (cB (cB (cR (cL (cR (cR (cR (bodyOf Tryz.f6)))))))) (m.nheld + 1) (lg1I m 0) (.exit 0) (lg1I m m.nheld)) ∨ ∃ j, j < m.nheld ∧ (∀ k, k < j → okHd (m.held k) = true) ∧ ¬ okHd (m.held j) = true ∧ RLoop Tryz.prog none 0 (cB (cB (cR (cL (cR (cR (cR (bodyOf Tryz.f6)))))))) (j + 1) (lg1I m 0) .ret (smF 2 81)
def HL2 (m : SMsg) : Prop := ((∀ k, k < m.nnews → sumN m.news (k + 1) ≤ 6000) ∧ RLoop Tryz.prog none 0 (cB (cB (cR (cL (cR (cR (cR (cR (bodyOf Tryz.f6))))))))) (m.nnews + 1) (lg2I m 0) (.exit 2) (lg2I m m.nnews)) ∨ ∃ j, j < m.nnews ∧ (∀ k, k < j → sumN m.news (k + 1) ≤ 6000) ∧ ¬ sumN m.news (j + 1) ≤ 6000 ∧ RLoop Tryz.prog none 0 (cB (cB (cR (cL (cR (cR (cR (cR (bodyOf Tryz.f6))))))))) (j + 1) (lg2I m 0) .ret (smF 2 81)
theorem T_lightM1 (m : SMsg) (hf : FitMsg m) (hL1 : HL1 m) (hL2 : HL2 m) : T Tryz.prog 6 [.agg m.c] [] (.bool (lightMS m)) [] := by
 rcases Bool.eq_false_or_eq_true ((!lightB (SMsg.batch m))) with h1 | h1
 ·
  refine T.conv (T_al (bdLg_p111111 m 0) Tryz.func6 ?_) rfl rfl ?_ ?_
  ·simp only [All, All_append, bdLg_c, pcLg1_c]; and_intros
   all_goals first
    | assumption
    | exact T_light m.batch hf.batch.data hf.batch.n _
    | exact gL
    | exact gL2
    | trivial
    | rfl
    | (intro _ _; trivial)
    | (intro _ _; rfl)
    | (simp; done)
    | omega
  ·(try simp only [Bool.not_eq_true', Bool.not_eq_false', decide_eq_true_eq, decide_eq_false_iff_not, Int.not_lt] at *); (congr 1; first
    | (have : ¬ ∀ i, i < m.nheld → okHd (m.held i) = true := fun h => gq (h j hj)
       simp only [lightMS, this, decide_false, Bool.false_and, Bool.and_false]; done)
    | (have : ¬ ∀ i, i < m.nnews → sumN m.news (i + 1) ≤ 6000 := fun h => gq2 (h j hj)
       simp only [lightMS, this, decide_false, Bool.false_and, Bool.and_false]; done)
    | (simp only [lightMS, h1, Bool.false_and]; done)
    | (have a2 : m.state.size ≤ 6000 := by omega
       have a3 : m.n ≤ 100 := by omega
       have a4 : m.cert.n ≤ 100 := by omega
       have a5 : m.nheld ≤ 20 := by omega
       have a6 : m.nnews ≤ 100 := by omega
       have b1 : decide (∀ i, i < m.nheld → okHd (m.held i) = true) = true := decide_eq_true g
       have b2 : decide (∀ i, i < m.nnews → sumN m.news (i + 1) ≤ 6000) = true := decide_eq_true g2
       simp only [lightMS, h1, a2, a3, a4, a5, a6, b1, b2, decide_true, Bool.and_self]; done)
    | (rw [eq_comm, Bool.eq_false_iff]; intro hh; simp only [lightMS, Bool.and_eq_true, decide_eq_true_eq] at hh; omega))
  ·rfl
 ·
  rcases Bool.eq_false_or_eq_true (decide ((6000 : Int) < (↑(ByteArray.size (SMsg.state m)) : Int))) with h2 | h2
  ·
   refine T.conv (T_al (bdLg_p011111 m 0) Tryz.func6 ?_) rfl rfl ?_ ?_
   ·simp only [All, All_append, bdLg_c, pcLg1_c]; and_intros
    all_goals first
     | assumption
     | exact T_light m.batch hf.batch.data hf.batch.n _
     | exact gL
     | exact gL2
     | trivial
     | rfl
     | (intro _ _; trivial)
     | (intro _ _; rfl)
     | (simp; done)
     | omega
   ·(try simp only [Bool.not_eq_true', Bool.not_eq_false', decide_eq_true_eq, decide_eq_false_iff_not, Int.not_lt] at *); (congr 1; first
     | (have : ¬ ∀ i, i < m.nheld → okHd (m.held i) = true := fun h => gq (h j hj)
        simp only [lightMS, this, decide_false, Bool.false_and, Bool.and_false]; done)
     | (have : ¬ ∀ i, i < m.nnews → sumN m.news (i + 1) ≤ 6000 := fun h => gq2 (h j hj)
        simp only [lightMS, this, decide_false, Bool.false_and, Bool.and_false]; done)
     | (simp only [lightMS, h1, Bool.false_and]; done)
     | (have a2 : m.state.size ≤ 6000 := by omega
        have a3 : m.n ≤ 100 := by omega
        have a4 : m.cert.n ≤ 100 := by omega
        have a5 : m.nheld ≤ 20 := by omega
        have a6 : m.nnews ≤ 100 := by omega
        have b1 : decide (∀ i, i < m.nheld → okHd (m.held i) = true) = true := decide_eq_true g
        have b2 : decide (∀ i, i < m.nnews → sumN m.news (i + 1) ≤ 6000) = true := decide_eq_true g2
        simp only [lightMS, h1, a2, a3, a4, a5, a6, b1, b2, decide_true, Bool.and_self]; done)
     | (rw [eq_comm, Bool.eq_false_iff]; intro hh; simp only [lightMS, Bool.and_eq_true, decide_eq_true_eq] at hh; omega))
   ·rfl
  ·
   rcases Bool.eq_false_or_eq_true (decide ((100 : Int) < (↑(SMsg.n m) : Int))) with h3 | h3
   ·
    refine T.conv (T_al (bdLg_p001111 m 0) Tryz.func6 ?_) rfl rfl ?_ ?_
    ·simp only [All, All_append, bdLg_c, pcLg1_c]; and_intros
     all_goals first
      | assumption
      | exact T_light m.batch hf.batch.data hf.batch.n _
      | exact gL
      | exact gL2
      | trivial
      | rfl
      | (intro _ _; trivial)
      | (intro _ _; rfl)
      | (simp; done)
      | omega
    ·(try simp only [Bool.not_eq_true', Bool.not_eq_false', decide_eq_true_eq, decide_eq_false_iff_not, Int.not_lt] at *); (congr 1; first
      | (have : ¬ ∀ i, i < m.nheld → okHd (m.held i) = true := fun h => gq (h j hj)
         simp only [lightMS, this, decide_false, Bool.false_and, Bool.and_false]; done)
      | (have : ¬ ∀ i, i < m.nnews → sumN m.news (i + 1) ≤ 6000 := fun h => gq2 (h j hj)
         simp only [lightMS, this, decide_false, Bool.false_and, Bool.and_false]; done)
      | (simp only [lightMS, h1, Bool.false_and]; done)
      | (have a2 : m.state.size ≤ 6000 := by omega
         have a3 : m.n ≤ 100 := by omega
         have a4 : m.cert.n ≤ 100 := by omega
         have a5 : m.nheld ≤ 20 := by omega
         have a6 : m.nnews ≤ 100 := by omega
         have b1 : decide (∀ i, i < m.nheld → okHd (m.held i) = true) = true := decide_eq_true g
         have b2 : decide (∀ i, i < m.nnews → sumN m.news (i + 1) ≤ 6000) = true := decide_eq_true g2
         simp only [lightMS, h1, a2, a3, a4, a5, a6, b1, b2, decide_true, Bool.and_self]; done)
      | (rw [eq_comm, Bool.eq_false_iff]; intro hh; simp only [lightMS, Bool.and_eq_true, decide_eq_true_eq] at hh; omega))
    ·rfl
   ·
    rcases Bool.eq_false_or_eq_true (decide ((100 : Int) < (↑(SCert.n (SMsg.cert m)) : Int))) with h4 | h4
    ·
     refine T.conv (T_al (bdLg_p000111 m 0) Tryz.func6 ?_) rfl rfl ?_ ?_
     ·simp only [All, All_append, bdLg_c, pcLg1_c]; and_intros
      all_goals first
       | assumption
       | exact T_light m.batch hf.batch.data hf.batch.n _
       | exact gL
       | exact gL2
       | trivial
       | rfl
       | (intro _ _; trivial)
       | (intro _ _; rfl)
       | (simp; done)
       | omega
     ·(try simp only [Bool.not_eq_true', Bool.not_eq_false', decide_eq_true_eq, decide_eq_false_iff_not, Int.not_lt] at *); (congr 1; first
       | (have : ¬ ∀ i, i < m.nheld → okHd (m.held i) = true := fun h => gq (h j hj)
          simp only [lightMS, this, decide_false, Bool.false_and, Bool.and_false]; done)
       | (have : ¬ ∀ i, i < m.nnews → sumN m.news (i + 1) ≤ 6000 := fun h => gq2 (h j hj)
          simp only [lightMS, this, decide_false, Bool.false_and, Bool.and_false]; done)
       | (simp only [lightMS, h1, Bool.false_and]; done)
       | (have a2 : m.state.size ≤ 6000 := by omega
          have a3 : m.n ≤ 100 := by omega
          have a4 : m.cert.n ≤ 100 := by omega
          have a5 : m.nheld ≤ 20 := by omega
          have a6 : m.nnews ≤ 100 := by omega
          have b1 : decide (∀ i, i < m.nheld → okHd (m.held i) = true) = true := decide_eq_true g
          have b2 : decide (∀ i, i < m.nnews → sumN m.news (i + 1) ≤ 6000) = true := decide_eq_true g2
          simp only [lightMS, h1, a2, a3, a4, a5, a6, b1, b2, decide_true, Bool.and_self]; done)
       | (rw [eq_comm, Bool.eq_false_iff]; intro hh; simp only [lightMS, Bool.and_eq_true, decide_eq_true_eq] at hh; omega))
     ·rfl
    ·
     rcases Bool.eq_false_or_eq_true (decide ((20 : Int) < (↑(SMsg.nheld m) : Int))) with h5 | h5
     ·
      refine T.conv (T_al (bdLg_p000011 m 0) Tryz.func6 ?_) rfl rfl ?_ ?_
      ·simp only [All, All_append, bdLg_c, pcLg1_c]; and_intros
       all_goals first
        | assumption
        | exact T_light m.batch hf.batch.data hf.batch.n _
        | exact gL
        | exact gL2
        | trivial
        | rfl
        | (intro _ _; trivial)
        | (intro _ _; rfl)
        | (simp; done)
        | omega
      ·(try simp only [Bool.not_eq_true', Bool.not_eq_false', decide_eq_true_eq, decide_eq_false_iff_not, Int.not_lt] at *); (congr 1; first
        | (have : ¬ ∀ i, i < m.nheld → okHd (m.held i) = true := fun h => gq (h j hj)
           simp only [lightMS, this, decide_false, Bool.false_and, Bool.and_false]; done)
        | (have : ¬ ∀ i, i < m.nnews → sumN m.news (i + 1) ≤ 6000 := fun h => gq2 (h j hj)
           simp only [lightMS, this, decide_false, Bool.false_and, Bool.and_false]; done)
        | (simp only [lightMS, h1, Bool.false_and]; done)
        | (have a2 : m.state.size ≤ 6000 := by omega
           have a3 : m.n ≤ 100 := by omega
           have a4 : m.cert.n ≤ 100 := by omega
           have a5 : m.nheld ≤ 20 := by omega
           have a6 : m.nnews ≤ 100 := by omega
           have b1 : decide (∀ i, i < m.nheld → okHd (m.held i) = true) = true := decide_eq_true g
           have b2 : decide (∀ i, i < m.nnews → sumN m.news (i + 1) ≤ 6000) = true := decide_eq_true g2
           simp only [lightMS, h1, a2, a3, a4, a5, a6, b1, b2, decide_true, Bool.and_self]; done)
        | (rw [eq_comm, Bool.eq_false_iff]; intro hh; simp only [lightMS, Bool.and_eq_true, decide_eq_true_eq] at hh; omega))
      ·rfl
     ·
      rcases Bool.eq_false_or_eq_true (decide ((100 : Int) < (↑(SMsg.nnews m) : Int))) with h6 | h6
      ·
       refine T.conv (T_al (bdLg_p000001 m 0) Tryz.func6 ?_) rfl rfl ?_ ?_
       ·simp only [All, All_append, bdLg_c, pcLg1_c]; and_intros
        all_goals first
         | assumption
         | exact T_light m.batch hf.batch.data hf.batch.n _
         | exact gL
         | exact gL2
         | trivial
         | rfl
         | (intro _ _; trivial)
         | (intro _ _; rfl)
         | (simp; done)
         | omega
       ·(try simp only [Bool.not_eq_true', Bool.not_eq_false', decide_eq_true_eq, decide_eq_false_iff_not, Int.not_lt] at *); (congr 1; first
         | (have : ¬ ∀ i, i < m.nheld → okHd (m.held i) = true := fun h => gq (h j hj)
            simp only [lightMS, this, decide_false, Bool.false_and, Bool.and_false]; done)
         | (have : ¬ ∀ i, i < m.nnews → sumN m.news (i + 1) ≤ 6000 := fun h => gq2 (h j hj)
            simp only [lightMS, this, decide_false, Bool.false_and, Bool.and_false]; done)
         | (simp only [lightMS, h1, Bool.false_and]; done)
         | (have a2 : m.state.size ≤ 6000 := by omega
            have a3 : m.n ≤ 100 := by omega
            have a4 : m.cert.n ≤ 100 := by omega
            have a5 : m.nheld ≤ 20 := by omega
            have a6 : m.nnews ≤ 100 := by omega
            have b1 : decide (∀ i, i < m.nheld → okHd (m.held i) = true) = true := decide_eq_true g
            have b2 : decide (∀ i, i < m.nnews → sumN m.news (i + 1) ≤ 6000) = true := decide_eq_true g2
            simp only [lightMS, h1, a2, a3, a4, a5, a6, b1, b2, decide_true, Bool.and_self]; done)
         | (rw [eq_comm, Bool.eq_false_iff]; intro hh; simp only [lightMS, Bool.and_eq_true, decide_eq_true_eq] at hh; omega))
       ·rfl
      ·
       rcases hL1 with ⟨g, gL⟩ | ⟨j, hj, _, gq, gL⟩
       ·
        rcases hL2 with ⟨g2, gL2⟩ | ⟨j, hj, _, gq2, gL2⟩
        ·
         refine T.conv (T_al (bdLg_p00000011 m 0) Tryz.func6 ?_) rfl rfl ?_ ?_
         ·simp only [All, All_append, bdLg_c, pcLg1_c]; and_intros
          all_goals first
           | assumption
           | exact T_light m.batch hf.batch.data hf.batch.n _
           | exact gL
           | exact gL2
           | trivial
           | rfl
           | (intro _ _; trivial)
           | (intro _ _; rfl)
           | (simp; done)
           | omega
         ·(try simp only [Bool.not_eq_true', Bool.not_eq_false', decide_eq_true_eq, decide_eq_false_iff_not, Int.not_lt] at *); (congr 1; first
           | (have : ¬ ∀ i, i < m.nheld → okHd (m.held i) = true := fun h => gq (h j hj)
              simp only [lightMS, this, decide_false, Bool.false_and, Bool.and_false]; done)
           | (have : ¬ ∀ i, i < m.nnews → sumN m.news (i + 1) ≤ 6000 := fun h => gq2 (h j hj)
              simp only [lightMS, this, decide_false, Bool.false_and, Bool.and_false]; done)
           | (simp only [lightMS, h1, Bool.false_and]; done)
           | (have a2 : m.state.size ≤ 6000 := by omega
              have a3 : m.n ≤ 100 := by omega
              have a4 : m.cert.n ≤ 100 := by omega
              have a5 : m.nheld ≤ 20 := by omega
              have a6 : m.nnews ≤ 100 := by omega
              have b1 : decide (∀ i, i < m.nheld → okHd (m.held i) = true) = true := decide_eq_true g
              have b2 : decide (∀ i, i < m.nnews → sumN m.news (i + 1) ≤ 6000) = true := decide_eq_true g2
              simp only [lightMS, h1, a2, a3, a4, a5, a6, b1, b2, decide_true, Bool.and_self]; done)
           | (rw [eq_comm, Bool.eq_false_iff]; intro hh; simp only [lightMS, Bool.and_eq_true, decide_eq_true_eq] at hh; omega))
         ·rfl
        ·
         refine T.conv (T_al (bdLg_p00000010 m j) Tryz.func6 ?_) rfl rfl ?_ ?_
         ·simp only [All, All_append, bdLg_c, pcLg1_c]; and_intros
          all_goals first
           | assumption
           | exact T_light m.batch hf.batch.data hf.batch.n _
           | exact gL
           | exact gL2
           | trivial
           | rfl
           | (intro _ _; trivial)
           | (intro _ _; rfl)
           | (simp; done)
           | omega
         ·(try simp only [Bool.not_eq_true', Bool.not_eq_false', decide_eq_true_eq, decide_eq_false_iff_not, Int.not_lt] at *); (congr 1; first
           | (have : ¬ ∀ i, i < m.nheld → okHd (m.held i) = true := fun h => gq (h j hj)
              simp only [lightMS, this, decide_false, Bool.false_and, Bool.and_false]; done)
           | (have : ¬ ∀ i, i < m.nnews → sumN m.news (i + 1) ≤ 6000 := fun h => gq2 (h j hj)
              simp only [lightMS, this, decide_false, Bool.false_and, Bool.and_false]; done)
           | (simp only [lightMS, h1, Bool.false_and]; done)
           | (have a2 : m.state.size ≤ 6000 := by omega
              have a3 : m.n ≤ 100 := by omega
              have a4 : m.cert.n ≤ 100 := by omega
              have a5 : m.nheld ≤ 20 := by omega
              have a6 : m.nnews ≤ 100 := by omega
              have b1 : decide (∀ i, i < m.nheld → okHd (m.held i) = true) = true := decide_eq_true g
              have b2 : decide (∀ i, i < m.nnews → sumN m.news (i + 1) ≤ 6000) = true := decide_eq_true g2
              simp only [lightMS, h1, a2, a3, a4, a5, a6, b1, b2, decide_true, Bool.and_self]; done)
           | (rw [eq_comm, Bool.eq_false_iff]; intro hh; simp only [lightMS, Bool.and_eq_true, decide_eq_true_eq] at hh; omega))
         ·rfl
       ·
        refine T.conv (T_al (bdLg_p0000000 m j) Tryz.func6 ?_) rfl rfl ?_ ?_
        ·simp only [All, All_append, bdLg_c, pcLg1_c]; and_intros
         all_goals first
          | assumption
          | exact T_light m.batch hf.batch.data hf.batch.n _
          | exact gL
          | exact gL2
          | trivial
          | rfl
          | (intro _ _; trivial)
          | (intro _ _; rfl)
          | (simp; done)
          | omega
        ·(try simp only [Bool.not_eq_true', Bool.not_eq_false', decide_eq_true_eq, decide_eq_false_iff_not, Int.not_lt] at *); (congr 1; first
          | (have : ¬ ∀ i, i < m.nheld → okHd (m.held i) = true := fun h => gq (h j hj)
             simp only [lightMS, this, decide_false, Bool.false_and, Bool.and_false]; done)
          | (have : ¬ ∀ i, i < m.nnews → sumN m.news (i + 1) ≤ 6000 := fun h => gq2 (h j hj)
             simp only [lightMS, this, decide_false, Bool.false_and, Bool.and_false]; done)
          | (simp only [lightMS, h1, Bool.false_and]; done)
          | (have a2 : m.state.size ≤ 6000 := by omega
             have a3 : m.n ≤ 100 := by omega
             have a4 : m.cert.n ≤ 100 := by omega
             have a5 : m.nheld ≤ 20 := by omega
             have a6 : m.nnews ≤ 100 := by omega
             have b1 : decide (∀ i, i < m.nheld → okHd (m.held i) = true) = true := decide_eq_true g
             have b2 : decide (∀ i, i < m.nnews → sumN m.news (i + 1) ≤ 6000) = true := decide_eq_true g2
             simp only [lightMS, h1, a2, a3, a4, a5, a6, b1, b2, decide_true, Bool.and_self]; done)
          | (rw [eq_comm, Bool.eq_false_iff]; intro hh; simp only [lightMS, Bool.and_eq_true, decide_eq_true_eq] at hh; omega))
        ·rfl
theorem T_lightM (m : SMsg) (hf : FitMsg m) : T Tryz.prog 6 [.agg m.c] [] (.bool (lightMS m)) [] := by
 have hL1 := loop_all (P := Tryz.prog) (ro := none) (p := 0) (c := cB (cB (cR (cL (cR (cR (cR (bodyOf Tryz.f6)))))))) (I := lg1I m) (F := fun _ => smF 2 81) (e := fun _ => .ret) (q := fun k => okHd (m.held k) = true) (n := m.nheld)
   (fun k hk hq => by
    have hT := T_light (m.held k).batch (hf.held k hk).data (hf.held k hk).n 449
    obtain ⟨g1, g2⟩ := okHd1 hq
    have hn := hf.nheld
    refine R_alongPc NG MO _ (pcLg1_p100 m k) ?_ (Nat.zero_le _)
    simp only [All, All_append, bdLg_c, pcLg1_c, Int.toNat_natCast]; and_intros
    all_goals first
     | exact hT
     | exact neg_t g1
     | (rw [decide_eq_false_iff_not]; omega)
     | (simp [hk, IntKind.min, IntKind.max, IntKind.signed, IntKind.bits] <;> omega))
   (fun k hk hq => by
    have hT := T_light (m.held k).batch (hf.held k hk).data (hf.held k hk).n 449
    by_cases g1 : lightB (m.held k).batch = true
    ·have g2 : ¬ (m.held k).cert.n ≤ 100 := fun g2 => hq (by simp [okHd, g1, g2])
     refine R_alongPc NG MO _ (pcLg1_p101 m k) ?_ (Nat.zero_le _)
     simp only [All, All_append, bdLg_c, pcLg1_c, Int.toNat_natCast]; and_intros
     all_goals first
      | exact hT
      | exact neg_t g1
      | (rw [decide_eq_true_eq]; omega)
      | (simp [hk, IntKind.min, IntKind.max, IntKind.signed, IntKind.bits] <;> omega)
    ·refine R_alongPc NG MO _ (pcLg1_p111 m k) ?_ (Nat.zero_le _)
     simp only [All, All_append, bdLg_c, pcLg1_c, Int.toNat_natCast]; and_intros
     all_goals first
      | exact hT
      | exact neg_f g1
      | (simp [hk, IntKind.min, IntKind.max, IntKind.signed, IntKind.bits] <;> omega))
   (by simp) (R_alongPc NG MO _ (pcLg1_p0 m m.nheld) (by simp [All, All_append, bdLg_c, pcLg1_c]) (Nat.zero_le _)) (by simp)
 have hL2 := loop_all (P := Tryz.prog) (ro := none) (p := 0) (c := cB (cB (cR (cL (cR (cR (cR (cR (bodyOf Tryz.f6))))))))) (I := lg2I m) (F := fun _ => smF 2 81) (e := fun _ => .ret) (q := fun k => sumN m.news (k + 1) ≤ 6000) (n := m.nnews)
   (fun k hk hq => by
    have hT := T_addG (n := sumN m.news k) (more := (m.news k).body.size) (most := 6000) (sumN_nonneg _ _) (by omega) (by have := hf.news k hk; omega) (by decide) (by decide)
    have hn := hf.nnews
    refine R_alongPc NG MO _ (pcLg2_p10 m k) ?_ (Nat.zero_le _)
    simp only [All, All_append, bdLg_c, pcLg1_c, Int.toNat_natCast]; and_intros
    all_goals first
     | exact hT
     | (rw [decide_eq_false_iff_not]; omega)
     | (simp [hk, IntKind.min, IntKind.max, IntKind.signed, IntKind.bits] <;> omega))
   (fun k hk hq => by
    have hT := T_addG (n := sumN m.news k) (more := (m.news k).body.size) (most := 6000) (sumN_nonneg _ _) (by omega) (by have := hf.news k hk; omega) (by decide) (by decide)
    refine R_alongPc NG MO _ (pcLg2_p11 m k) ?_ (Nat.zero_le _)
    simp only [All, All_append, bdLg_c, pcLg1_c, Int.toNat_natCast]; and_intros
    all_goals first
     | exact hT
     | (rw [decide_eq_true_eq]; omega)
     | (simp [hk, IntKind.min, IntKind.max, IntKind.signed, IntKind.bits] <;> omega))
   (by simp) (R_alongPc NG MO _ (pcLg2_p0 m m.nnews) (by simp [All, All_append, bdLg_c, pcLg1_c]) (Nat.zero_le _)) (by simp)
 exact T_lightM1 m hf hL1 hL2
end Go.Proofs.YthifjamdfpjilaaGreat
