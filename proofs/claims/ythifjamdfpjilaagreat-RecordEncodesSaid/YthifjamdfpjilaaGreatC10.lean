/-
  Contracts and laws that the claim's theorem leans on, joined out of the texts ZVa8 ZVb0 ZVc0D ZVc0 ZVc1D (own work of this seat): Contract: the document's Good; What a message that may be has; its bytes, or why not; Contracts: records: sameness, what a kind has alone, what is told, which may be; Contracts: records: sameness, what a kind has alone, what is told, which may be; Contracts: a record's bytes, and what is read of bytes.
-/
import Derived.Test.YthifjamdfpjilaaGreatC06
import Derived.Test.YthifjamdfpjilaaGreatC09
set_option linter.unusedVariables false
set_option linter.unusedSimpArgs false
set_option maxHeartbeats 1000000
namespace Go.Proofs.YthifjamdfpjilaaGreat
open Go Sy Go.Proofs
noncomputable def bdGd_c (m : SMsg) (x : SMsg) : Nat → List Prop
 | 0 => [decide ((8 : Int) < SMsg.kind m) = false, T Tryz.prog 52 [.agg (SMsg.c m)] [] (.agg (SMsg.c x)) [], T Tryz.prog 13 [.agg (SMsg.c m), .agg (SMsg.c x)] [] (.bool (sameMsgS m x)) []]
 | 1 => [(!sameMsgS m x) = false, T Tryz.prog 53 [.int .i64 (SMsg.epoch m), .int .i64 1048576] [] (.bool (uptoS (SMsg.epoch m) (1048576 : Int))) []]
 | 2 => [uptoS (SMsg.epoch m) (1048576 : Int) = false, q false, q false, q false, q false, q false, q false, q false, q false, q false, q false]
 | 3 => [uptoS (SMsg.epoch m) (1048576 : Int) = true, T Tryz.prog 53 [.int .i64 (SMsg.slot m), .int .i64 1099511627776] [] (.bool (uptoS (SMsg.slot m) (1099511627776 : Int))) []]
 | 4 => [uptoS (SMsg.slot m) (1099511627776 : Int) = false, q false, q false, q false, q false, q false, q false, q false, q false, q false]
 | 5 => [uptoS (SMsg.slot m) (1099511627776 : Int) = true, T Tryz.prog 53 [.int .i64 (SMsg.view m), .int .i64 1099511627776] [] (.bool (uptoS (SMsg.view m) (1099511627776 : Int))) []]
 | 6 => [uptoS (SMsg.view m) (1099511627776 : Int) = false, q false, q false, q false, q false, q false, q false, q false, q false]
 | 7 => [uptoS (SMsg.view m) (1099511627776 : Int) = true, T Tryz.prog 53 [.int .i64 (SMsg.leader m), .int .i64 64] [] (.bool (uptoS (SMsg.leader m) (64 : Int))) []]
 | 8 => [uptoS (SMsg.leader m) (64 : Int) = false, q false, q false, q false, q false, q false, q false, q false]
 | 9 => [uptoS (SMsg.leader m) (64 : Int) = true, T Tryz.prog 53 [.int .i64 (SMsg.cepoch m), .int .i64 1048576] [] (.bool (uptoS (SMsg.cepoch m) (1048576 : Int))) []]
 | 10 => [uptoS (SMsg.cepoch m) (1048576 : Int) = false, q false, q false, q false, q false, q false, q false]
 | 11 => [uptoS (SMsg.cepoch m) (1048576 : Int) = true, T Tryz.prog 53 [.int .i64 (SMsg.cview m), .int .i64 1099511627776] [] (.bool (uptoS (SMsg.cview m) (1099511627776 : Int))) []]
 | 12 => [uptoS (SMsg.cview m) (1099511627776 : Int) = false, q false, q false, q false, q false, q false]
 | 13 => [uptoS (SMsg.cview m) (1099511627776 : Int) = true, T Tryz.prog 53 [.int .i64 (SMsg.cleader m), .int .i64 64] [] (.bool (uptoS (SMsg.cleader m) (64 : Int))) []]
 | 14 => [uptoS (SMsg.cleader m) (64 : Int) = true, T Tryz.prog 54 [.ros 39 (SMsg.nheld m) (fun i => SHeld.c (SMsg.held m i)) false] [] (.bool (allS (SMsg.nheld m) 4 fun i => mayHeldS (SMsg.held m i))) []]
 | 15 => [(allS (SMsg.nheld m) (4 : Nat) fun i => mayHeldS (SMsg.held m i)) = false, q false, q false, q false]
 | 16 => [(allS (SMsg.nheld m) (4 : Nat) fun i => mayHeldS (SMsg.held m i)) = true, T Tryz.prog 55 [.agg [.bool (SBatch.noop (SMsg.batch m)), rq (SBatch.n (SMsg.batch m)) (SBatch.req (SMsg.batch m))]] [] (.bool (mayBatchS (SMsg.batch m))) []]
 | 17 => [mayBatchS (SMsg.batch m) = true, T Tryz.prog 56 [.ros 18 (SMsg.nnews m) (fun i => SEnv.c (SMsg.news m i)) false] [] (.bool (allS (SMsg.nnews m) 64 fun i => mayEnvS (SMsg.news m i))) []]
 | 18 => [(allS (SMsg.nnews m) (64 : Nat) fun i => mayEnvS (SMsg.news m i)) = true, T Tryz.prog 57 [.ros 17 (SMsg.n m) (fun i => SSign.c (SMsg.sig m i)) false] [] (.bool (allS (SMsg.n m) 64 fun i => maySignS (SMsg.sig m i))) []]
 | _ => []
theorem bdGd_p111 (m : SMsg) (x : SMsg) :
 along Tryz.prog (bdGd m x) [true, true, true] = (some (.bool false, [], [decide (SMsg.kind m < (1 : Int)) = true, q2, q2]) : Option (V × Heap × List Prop)) := by kernel_rfl

theorem bdGd_p011 (m : SMsg) (x : SMsg) :
 along Tryz.prog (bdGd m x) [false, true, true] = (some (.bool false, [], [decide (SMsg.kind m < (1 : Int)) = false, decide ((8 : Int) < SMsg.kind m) = true, q2]) : Option (V × Heap × List Prop)) := by kernel_rfl

theorem bdGd_p001 (m : SMsg) (x : SMsg) :
 along Tryz.prog (bdGd m x) [false, false, true] = (some (.bool false, [], [decide (SMsg.kind m < (1 : Int)) = false] ++ (bdGd_c m x 0 ++ [(!sameMsgS m x) = true])) : Option (V × Heap × List Prop)) := by kernel_rfl

theorem bdGd_p0000000000000010 (m : SMsg) (x : SMsg) :
 along Tryz.prog (bdGd m x) [false, false, false, false, false, false, false, false, false, false, false, false, false, false, true, false] = (some (.bool false, [], [decide (SMsg.kind m < (1 : Int)) = false] ++ (bdGd_c m x 0 ++ (bdGd_c m x 1 ++ (bdGd_c m x 2 ++ [decide (SMsg.kind m = (2 : Int)) = true, q false])))) : Option (V × Heap × List Prop)) := by kernel_rfl

theorem bdGd_p00000000000000010 (m : SMsg) (x : SMsg) :
 along Tryz.prog (bdGd m x) [false, false, false, false, false, false, false, false, false, false, false, false, false, false, false, true, false] = (some (.bool false, [], [decide (SMsg.kind m < (1 : Int)) = false] ++ (bdGd_c m x 0 ++ (bdGd_c m x 1 ++ (bdGd_c m x 2 ++ [decide (SMsg.kind m = (2 : Int)) = false, decide (SMsg.kind m = (7 : Int)) = true, q false])))) : Option (V × Heap × List Prop)) := by kernel_rfl

theorem bdGd_p0000000000000000 (m : SMsg) (x : SMsg) :
 along Tryz.prog (bdGd m x) [false, false, false, false, false, false, false, false, false, false, false, false, false, false, false, false] = (some (.bool false, [], [decide (SMsg.kind m < (1 : Int)) = false] ++ (bdGd_c m x 0 ++ (bdGd_c m x 1 ++ (bdGd_c m x 2 ++ [decide (SMsg.kind m = (2 : Int)) = false, decide (SMsg.kind m = (7 : Int)) = false])))) : Option (V × Heap × List Prop)) := by kernel_rfl

theorem bdGd_p0001000000000010 (m : SMsg) (x : SMsg) :
 along Tryz.prog (bdGd m x) [false, false, false, true, false, false, false, false, false, false, false, false, false, false, true, false] = (some (.bool false, [], [decide (SMsg.kind m < (1 : Int)) = false] ++ (bdGd_c m x 0 ++ (bdGd_c m x 1 ++ (bdGd_c m x 3 ++ (bdGd_c m x 4 ++ [decide (SMsg.kind m = (2 : Int)) = true, q false]))))) : Option (V × Heap × List Prop)) := by kernel_rfl

theorem bdGd_p00010000000000010 (m : SMsg) (x : SMsg) :
 along Tryz.prog (bdGd m x) [false, false, false, true, false, false, false, false, false, false, false, false, false, false, false, true, false] = (some (.bool false, [], [decide (SMsg.kind m < (1 : Int)) = false] ++ (bdGd_c m x 0 ++ (bdGd_c m x 1 ++ (bdGd_c m x 3 ++ (bdGd_c m x 4 ++ [decide (SMsg.kind m = (2 : Int)) = false, decide (SMsg.kind m = (7 : Int)) = true, q false]))))) : Option (V × Heap × List Prop)) := by kernel_rfl

theorem bdGd_p0001000000000000 (m : SMsg) (x : SMsg) :
 along Tryz.prog (bdGd m x) [false, false, false, true, false, false, false, false, false, false, false, false, false, false, false, false] = (some (.bool false, [], [decide (SMsg.kind m < (1 : Int)) = false] ++ (bdGd_c m x 0 ++ (bdGd_c m x 1 ++ (bdGd_c m x 3 ++ (bdGd_c m x 4 ++ [decide (SMsg.kind m = (2 : Int)) = false, decide (SMsg.kind m = (7 : Int)) = false]))))) : Option (V × Heap × List Prop)) := by kernel_rfl

theorem bdGd_p0001100000000010 (m : SMsg) (x : SMsg) :
 along Tryz.prog (bdGd m x) [false, false, false, true, true, false, false, false, false, false, false, false, false, false, true, false] = (some (.bool false, [], [decide (SMsg.kind m < (1 : Int)) = false] ++ (bdGd_c m x 0 ++ (bdGd_c m x 1 ++ (bdGd_c m x 3 ++ (bdGd_c m x 5 ++ (bdGd_c m x 6 ++ [decide (SMsg.kind m = (2 : Int)) = true, q false])))))) : Option (V × Heap × List Prop)) := by kernel_rfl

theorem bdGd_p00011000000000010 (m : SMsg) (x : SMsg) :
 along Tryz.prog (bdGd m x) [false, false, false, true, true, false, false, false, false, false, false, false, false, false, false, true, false] = (some (.bool false, [], [decide (SMsg.kind m < (1 : Int)) = false] ++ (bdGd_c m x 0 ++ (bdGd_c m x 1 ++ (bdGd_c m x 3 ++ (bdGd_c m x 5 ++ (bdGd_c m x 6 ++ [decide (SMsg.kind m = (2 : Int)) = false, decide (SMsg.kind m = (7 : Int)) = true, q false])))))) : Option (V × Heap × List Prop)) := by kernel_rfl

theorem bdGd_p0001100000000000 (m : SMsg) (x : SMsg) :
 along Tryz.prog (bdGd m x) [false, false, false, true, true, false, false, false, false, false, false, false, false, false, false, false] = (some (.bool false, [], [decide (SMsg.kind m < (1 : Int)) = false] ++ (bdGd_c m x 0 ++ (bdGd_c m x 1 ++ (bdGd_c m x 3 ++ (bdGd_c m x 5 ++ (bdGd_c m x 6 ++ [decide (SMsg.kind m = (2 : Int)) = false, decide (SMsg.kind m = (7 : Int)) = false])))))) : Option (V × Heap × List Prop)) := by kernel_rfl

theorem bdGd_p0001110000000010 (m : SMsg) (x : SMsg) :
 along Tryz.prog (bdGd m x) [false, false, false, true, true, true, false, false, false, false, false, false, false, false, true, false] = (some (.bool false, [], [decide (SMsg.kind m < (1 : Int)) = false] ++ (bdGd_c m x 0 ++ (bdGd_c m x 1 ++ (bdGd_c m x 3 ++ (bdGd_c m x 5 ++ (bdGd_c m x 7 ++ (bdGd_c m x 8 ++ [decide (SMsg.kind m = (2 : Int)) = true, q false]))))))) : Option (V × Heap × List Prop)) := by kernel_rfl

theorem bdGd_p00011100000000010 (m : SMsg) (x : SMsg) :
 along Tryz.prog (bdGd m x) [false, false, false, true, true, true, false, false, false, false, false, false, false, false, false, true, false] = (some (.bool false, [], [decide (SMsg.kind m < (1 : Int)) = false] ++ (bdGd_c m x 0 ++ (bdGd_c m x 1 ++ (bdGd_c m x 3 ++ (bdGd_c m x 5 ++ (bdGd_c m x 7 ++ (bdGd_c m x 8 ++ [decide (SMsg.kind m = (2 : Int)) = false, decide (SMsg.kind m = (7 : Int)) = true, q false]))))))) : Option (V × Heap × List Prop)) := by kernel_rfl

theorem bdGd_p0001110000000000 (m : SMsg) (x : SMsg) :
 along Tryz.prog (bdGd m x) [false, false, false, true, true, true, false, false, false, false, false, false, false, false, false, false] = (some (.bool false, [], [decide (SMsg.kind m < (1 : Int)) = false] ++ (bdGd_c m x 0 ++ (bdGd_c m x 1 ++ (bdGd_c m x 3 ++ (bdGd_c m x 5 ++ (bdGd_c m x 7 ++ (bdGd_c m x 8 ++ [decide (SMsg.kind m = (2 : Int)) = false, decide (SMsg.kind m = (7 : Int)) = false]))))))) : Option (V × Heap × List Prop)) := by kernel_rfl

theorem bdGd_p0001111000000010 (m : SMsg) (x : SMsg) :
 along Tryz.prog (bdGd m x) [false, false, false, true, true, true, true, false, false, false, false, false, false, false, true, false] = (some (.bool false, [], [decide (SMsg.kind m < (1 : Int)) = false] ++ (bdGd_c m x 0 ++ (bdGd_c m x 1 ++ (bdGd_c m x 3 ++ (bdGd_c m x 5 ++ (bdGd_c m x 7 ++ (bdGd_c m x 9 ++ (bdGd_c m x 10 ++ [decide (SMsg.kind m = (2 : Int)) = true, q false])))))))) : Option (V × Heap × List Prop)) := by kernel_rfl

theorem bdGd_p00011110000000010 (m : SMsg) (x : SMsg) :
 along Tryz.prog (bdGd m x) [false, false, false, true, true, true, true, false, false, false, false, false, false, false, false, true, false] = (some (.bool false, [], [decide (SMsg.kind m < (1 : Int)) = false] ++ (bdGd_c m x 0 ++ (bdGd_c m x 1 ++ (bdGd_c m x 3 ++ (bdGd_c m x 5 ++ (bdGd_c m x 7 ++ (bdGd_c m x 9 ++ (bdGd_c m x 10 ++ [decide (SMsg.kind m = (2 : Int)) = false, decide (SMsg.kind m = (7 : Int)) = true, q false])))))))) : Option (V × Heap × List Prop)) := by kernel_rfl

theorem bdGd_p0001111000000000 (m : SMsg) (x : SMsg) :
 along Tryz.prog (bdGd m x) [false, false, false, true, true, true, true, false, false, false, false, false, false, false, false, false] = (some (.bool false, [], [decide (SMsg.kind m < (1 : Int)) = false] ++ (bdGd_c m x 0 ++ (bdGd_c m x 1 ++ (bdGd_c m x 3 ++ (bdGd_c m x 5 ++ (bdGd_c m x 7 ++ (bdGd_c m x 9 ++ (bdGd_c m x 10 ++ [decide (SMsg.kind m = (2 : Int)) = false, decide (SMsg.kind m = (7 : Int)) = false])))))))) : Option (V × Heap × List Prop)) := by kernel_rfl

theorem bdGd_p0001111100000010 (m : SMsg) (x : SMsg) :
 along Tryz.prog (bdGd m x) [false, false, false, true, true, true, true, true, false, false, false, false, false, false, true, false] = (some (.bool false, [], [decide (SMsg.kind m < (1 : Int)) = false] ++ (bdGd_c m x 0 ++ (bdGd_c m x 1 ++ (bdGd_c m x 3 ++ (bdGd_c m x 5 ++ (bdGd_c m x 7 ++ (bdGd_c m x 9 ++ (bdGd_c m x 11 ++ (bdGd_c m x 12 ++ [decide (SMsg.kind m = (2 : Int)) = true, q false]))))))))) : Option (V × Heap × List Prop)) := by kernel_rfl

theorem bdGd_p00011111000000010 (m : SMsg) (x : SMsg) :
 along Tryz.prog (bdGd m x) [false, false, false, true, true, true, true, true, false, false, false, false, false, false, false, true, false] = (some (.bool false, [], [decide (SMsg.kind m < (1 : Int)) = false] ++ (bdGd_c m x 0 ++ (bdGd_c m x 1 ++ (bdGd_c m x 3 ++ (bdGd_c m x 5 ++ (bdGd_c m x 7 ++ (bdGd_c m x 9 ++ (bdGd_c m x 11 ++ (bdGd_c m x 12 ++ [decide (SMsg.kind m = (2 : Int)) = false, decide (SMsg.kind m = (7 : Int)) = true, q false]))))))))) : Option (V × Heap × List Prop)) := by kernel_rfl

theorem bdGd_p0001111100000000 (m : SMsg) (x : SMsg) :
 along Tryz.prog (bdGd m x) [false, false, false, true, true, true, true, true, false, false, false, false, false, false, false, false] = (some (.bool false, [], [decide (SMsg.kind m < (1 : Int)) = false] ++ (bdGd_c m x 0 ++ (bdGd_c m x 1 ++ (bdGd_c m x 3 ++ (bdGd_c m x 5 ++ (bdGd_c m x 7 ++ (bdGd_c m x 9 ++ (bdGd_c m x 11 ++ (bdGd_c m x 12 ++ [decide (SMsg.kind m = (2 : Int)) = false, decide (SMsg.kind m = (7 : Int)) = false]))))))))) : Option (V × Heap × List Prop)) := by kernel_rfl

theorem bdGd_p0001111110000010 (m : SMsg) (x : SMsg) :
 along Tryz.prog (bdGd m x) [false, false, false, true, true, true, true, true, true, false, false, false, false, false, true, false] = (some (.bool false, [], [decide (SMsg.kind m < (1 : Int)) = false] ++ (bdGd_c m x 0 ++ (bdGd_c m x 1 ++ (bdGd_c m x 3 ++ (bdGd_c m x 5 ++ (bdGd_c m x 7 ++ (bdGd_c m x 9 ++ (bdGd_c m x 11 ++ (bdGd_c m x 13 ++ [uptoS (SMsg.cleader m) (64 : Int) = false, q false, q false, q false, q false, decide (SMsg.kind m = (2 : Int)) = true, q false]))))))))) : Option (V × Heap × List Prop)) := by kernel_rfl

theorem bdGd_p00011111100000010 (m : SMsg) (x : SMsg) :
 along Tryz.prog (bdGd m x) [false, false, false, true, true, true, true, true, true, false, false, false, false, false, false, true, false] = (some (.bool false, [], [decide (SMsg.kind m < (1 : Int)) = false] ++ (bdGd_c m x 0 ++ (bdGd_c m x 1 ++ (bdGd_c m x 3 ++ (bdGd_c m x 5 ++ (bdGd_c m x 7 ++ (bdGd_c m x 9 ++ (bdGd_c m x 11 ++ (bdGd_c m x 13 ++ [uptoS (SMsg.cleader m) (64 : Int) = false, q false, q false, q false, q false, decide (SMsg.kind m = (2 : Int)) = false, decide (SMsg.kind m = (7 : Int)) = true, q false]))))))))) : Option (V × Heap × List Prop)) := by kernel_rfl

theorem bdGd_p0001111110000000 (m : SMsg) (x : SMsg) :
 along Tryz.prog (bdGd m x) [false, false, false, true, true, true, true, true, true, false, false, false, false, false, false, false] = (some (.bool false, [], [decide (SMsg.kind m < (1 : Int)) = false] ++ (bdGd_c m x 0 ++ (bdGd_c m x 1 ++ (bdGd_c m x 3 ++ (bdGd_c m x 5 ++ (bdGd_c m x 7 ++ (bdGd_c m x 9 ++ (bdGd_c m x 11 ++ (bdGd_c m x 13 ++ [uptoS (SMsg.cleader m) (64 : Int) = false, q false, q false, q false, q false, decide (SMsg.kind m = (2 : Int)) = false, decide (SMsg.kind m = (7 : Int)) = false]))))))))) : Option (V × Heap × List Prop)) := by kernel_rfl

theorem bdGd_p0001111111000010 (m : SMsg) (x : SMsg) :
 along Tryz.prog (bdGd m x) [false, false, false, true, true, true, true, true, true, true, false, false, false, false, true, false] = (some (.bool false, [], [decide (SMsg.kind m < (1 : Int)) = false] ++ (bdGd_c m x 0 ++ (bdGd_c m x 1 ++ (bdGd_c m x 3 ++ (bdGd_c m x 5 ++ (bdGd_c m x 7 ++ (bdGd_c m x 9 ++ (bdGd_c m x 11 ++ (bdGd_c m x 13 ++ (bdGd_c m x 14 ++ (bdGd_c m x 15 ++ [decide (SMsg.kind m = (2 : Int)) = true, q false]))))))))))) : Option (V × Heap × List Prop)) := by kernel_rfl

theorem bdGd_p00011111110000010 (m : SMsg) (x : SMsg) :
 along Tryz.prog (bdGd m x) [false, false, false, true, true, true, true, true, true, true, false, false, false, false, false, true, false] = (some (.bool false, [], [decide (SMsg.kind m < (1 : Int)) = false] ++ (bdGd_c m x 0 ++ (bdGd_c m x 1 ++ (bdGd_c m x 3 ++ (bdGd_c m x 5 ++ (bdGd_c m x 7 ++ (bdGd_c m x 9 ++ (bdGd_c m x 11 ++ (bdGd_c m x 13 ++ (bdGd_c m x 14 ++ (bdGd_c m x 15 ++ [decide (SMsg.kind m = (2 : Int)) = false, decide (SMsg.kind m = (7 : Int)) = true, q false]))))))))))) : Option (V × Heap × List Prop)) := by kernel_rfl

theorem bdGd_p0001111111000000 (m : SMsg) (x : SMsg) :
 along Tryz.prog (bdGd m x) [false, false, false, true, true, true, true, true, true, true, false, false, false, false, false, false] = (some (.bool false, [], [decide (SMsg.kind m < (1 : Int)) = false] ++ (bdGd_c m x 0 ++ (bdGd_c m x 1 ++ (bdGd_c m x 3 ++ (bdGd_c m x 5 ++ (bdGd_c m x 7 ++ (bdGd_c m x 9 ++ (bdGd_c m x 11 ++ (bdGd_c m x 13 ++ (bdGd_c m x 14 ++ (bdGd_c m x 15 ++ [decide (SMsg.kind m = (2 : Int)) = false, decide (SMsg.kind m = (7 : Int)) = false]))))))))))) : Option (V × Heap × List Prop)) := by kernel_rfl

theorem bdGd_p0001111111100010 (m : SMsg) (x : SMsg) :
 along Tryz.prog (bdGd m x) [false, false, false, true, true, true, true, true, true, true, true, false, false, false, true, false] = (some (.bool false, [], [decide (SMsg.kind m < (1 : Int)) = false] ++ (bdGd_c m x 0 ++ (bdGd_c m x 1 ++ (bdGd_c m x 3 ++ (bdGd_c m x 5 ++ (bdGd_c m x 7 ++ (bdGd_c m x 9 ++ (bdGd_c m x 11 ++ (bdGd_c m x 13 ++ (bdGd_c m x 14 ++ (bdGd_c m x 16 ++ [mayBatchS (SMsg.batch m) = false, q false, q false, decide (SMsg.kind m = (2 : Int)) = true, q false]))))))))))) : Option (V × Heap × List Prop)) := by kernel_rfl

theorem bdGd_p00011111111000010 (m : SMsg) (x : SMsg) :
 along Tryz.prog (bdGd m x) [false, false, false, true, true, true, true, true, true, true, true, false, false, false, false, true, false] = (some (.bool false, [], [decide (SMsg.kind m < (1 : Int)) = false] ++ (bdGd_c m x 0 ++ (bdGd_c m x 1 ++ (bdGd_c m x 3 ++ (bdGd_c m x 5 ++ (bdGd_c m x 7 ++ (bdGd_c m x 9 ++ (bdGd_c m x 11 ++ (bdGd_c m x 13 ++ (bdGd_c m x 14 ++ (bdGd_c m x 16 ++ [mayBatchS (SMsg.batch m) = false, q false, q false, decide (SMsg.kind m = (2 : Int)) = false, decide (SMsg.kind m = (7 : Int)) = true, q false]))))))))))) : Option (V × Heap × List Prop)) := by kernel_rfl

theorem bdGd_p0001111111100000 (m : SMsg) (x : SMsg) :
 along Tryz.prog (bdGd m x) [false, false, false, true, true, true, true, true, true, true, true, false, false, false, false, false] = (some (.bool false, [], [decide (SMsg.kind m < (1 : Int)) = false] ++ (bdGd_c m x 0 ++ (bdGd_c m x 1 ++ (bdGd_c m x 3 ++ (bdGd_c m x 5 ++ (bdGd_c m x 7 ++ (bdGd_c m x 9 ++ (bdGd_c m x 11 ++ (bdGd_c m x 13 ++ (bdGd_c m x 14 ++ (bdGd_c m x 16 ++ [mayBatchS (SMsg.batch m) = false, q false, q false, decide (SMsg.kind m = (2 : Int)) = false, decide (SMsg.kind m = (7 : Int)) = false]))))))))))) : Option (V × Heap × List Prop)) := by kernel_rfl

theorem bdGd_p0001111111110010 (m : SMsg) (x : SMsg) :
 along Tryz.prog (bdGd m x) [false, false, false, true, true, true, true, true, true, true, true, true, false, false, true, false] = (some (.bool false, [], [decide (SMsg.kind m < (1 : Int)) = false] ++ (bdGd_c m x 0 ++ (bdGd_c m x 1 ++ (bdGd_c m x 3 ++ (bdGd_c m x 5 ++ (bdGd_c m x 7 ++ (bdGd_c m x 9 ++ (bdGd_c m x 11 ++ (bdGd_c m x 13 ++ (bdGd_c m x 14 ++ (bdGd_c m x 16 ++ (bdGd_c m x 17 ++ [(allS (SMsg.nnews m) (64 : Nat) fun i => mayEnvS (SMsg.news m i)) = false, q false, decide (SMsg.kind m = (2 : Int)) = true, q false])))))))))))) : Option (V × Heap × List Prop)) := by kernel_rfl

theorem bdGd_p00011111111100010 (m : SMsg) (x : SMsg) :
 along Tryz.prog (bdGd m x) [false, false, false, true, true, true, true, true, true, true, true, true, false, false, false, true, false] = (some (.bool false, [], [decide (SMsg.kind m < (1 : Int)) = false] ++ (bdGd_c m x 0 ++ (bdGd_c m x 1 ++ (bdGd_c m x 3 ++ (bdGd_c m x 5 ++ (bdGd_c m x 7 ++ (bdGd_c m x 9 ++ (bdGd_c m x 11 ++ (bdGd_c m x 13 ++ (bdGd_c m x 14 ++ (bdGd_c m x 16 ++ (bdGd_c m x 17 ++ [(allS (SMsg.nnews m) (64 : Nat) fun i => mayEnvS (SMsg.news m i)) = false, q false, decide (SMsg.kind m = (2 : Int)) = false, decide (SMsg.kind m = (7 : Int)) = true, q false])))))))))))) : Option (V × Heap × List Prop)) := by kernel_rfl

theorem bdGd_p0001111111110000 (m : SMsg) (x : SMsg) :
 along Tryz.prog (bdGd m x) [false, false, false, true, true, true, true, true, true, true, true, true, false, false, false, false] = (some (.bool false, [], [decide (SMsg.kind m < (1 : Int)) = false] ++ (bdGd_c m x 0 ++ (bdGd_c m x 1 ++ (bdGd_c m x 3 ++ (bdGd_c m x 5 ++ (bdGd_c m x 7 ++ (bdGd_c m x 9 ++ (bdGd_c m x 11 ++ (bdGd_c m x 13 ++ (bdGd_c m x 14 ++ (bdGd_c m x 16 ++ (bdGd_c m x 17 ++ [(allS (SMsg.nnews m) (64 : Nat) fun i => mayEnvS (SMsg.news m i)) = false, q false, decide (SMsg.kind m = (2 : Int)) = false, decide (SMsg.kind m = (7 : Int)) = false])))))))))))) : Option (V × Heap × List Prop)) := by kernel_rfl

theorem bdGd_p0001111111111010 (m : SMsg) (x : SMsg) :
 along Tryz.prog (bdGd m x) [false, false, false, true, true, true, true, true, true, true, true, true, true, false, true, false] = (some (.bool false, [], [decide (SMsg.kind m < (1 : Int)) = false] ++ (bdGd_c m x 0 ++ (bdGd_c m x 1 ++ (bdGd_c m x 3 ++ (bdGd_c m x 5 ++ (bdGd_c m x 7 ++ (bdGd_c m x 9 ++ (bdGd_c m x 11 ++ (bdGd_c m x 13 ++ (bdGd_c m x 14 ++ (bdGd_c m x 16 ++ (bdGd_c m x 17 ++ (bdGd_c m x 18 ++ [(allS (SMsg.n m) (64 : Nat) fun i => maySignS (SMsg.sig m i)) = false, decide (SMsg.kind m = (2 : Int)) = true, q false]))))))))))))) : Option (V × Heap × List Prop)) := by kernel_rfl

theorem bdGd_p00011111111110010 (m : SMsg) (x : SMsg) :
 along Tryz.prog (bdGd m x) [false, false, false, true, true, true, true, true, true, true, true, true, true, false, false, true, false] = (some (.bool false, [], [decide (SMsg.kind m < (1 : Int)) = false] ++ (bdGd_c m x 0 ++ (bdGd_c m x 1 ++ (bdGd_c m x 3 ++ (bdGd_c m x 5 ++ (bdGd_c m x 7 ++ (bdGd_c m x 9 ++ (bdGd_c m x 11 ++ (bdGd_c m x 13 ++ (bdGd_c m x 14 ++ (bdGd_c m x 16 ++ (bdGd_c m x 17 ++ (bdGd_c m x 18 ++ [(allS (SMsg.n m) (64 : Nat) fun i => maySignS (SMsg.sig m i)) = false, decide (SMsg.kind m = (2 : Int)) = false, decide (SMsg.kind m = (7 : Int)) = true, q false]))))))))))))) : Option (V × Heap × List Prop)) := by kernel_rfl

theorem bdGd_p0001111111111000 (m : SMsg) (x : SMsg) :
 along Tryz.prog (bdGd m x) [false, false, false, true, true, true, true, true, true, true, true, true, true, false, false, false] = (some (.bool false, [], [decide (SMsg.kind m < (1 : Int)) = false] ++ (bdGd_c m x 0 ++ (bdGd_c m x 1 ++ (bdGd_c m x 3 ++ (bdGd_c m x 5 ++ (bdGd_c m x 7 ++ (bdGd_c m x 9 ++ (bdGd_c m x 11 ++ (bdGd_c m x 13 ++ (bdGd_c m x 14 ++ (bdGd_c m x 16 ++ (bdGd_c m x 17 ++ (bdGd_c m x 18 ++ [(allS (SMsg.n m) (64 : Nat) fun i => maySignS (SMsg.sig m i)) = false, decide (SMsg.kind m = (2 : Int)) = false, decide (SMsg.kind m = (7 : Int)) = false]))))))))))))) : Option (V × Heap × List Prop)) := by kernel_rfl

theorem bdGd_p0001111111111110 (m : SMsg) (x : SMsg) :
 along Tryz.prog (bdGd m x) [false, false, false, true, true, true, true, true, true, true, true, true, true, true, true, false] = (some (.bool false, [], [decide (SMsg.kind m < (1 : Int)) = false] ++ (bdGd_c m x 0 ++ (bdGd_c m x 1 ++ (bdGd_c m x 3 ++ (bdGd_c m x 5 ++ (bdGd_c m x 7 ++ (bdGd_c m x 9 ++ (bdGd_c m x 11 ++ (bdGd_c m x 13 ++ (bdGd_c m x 14 ++ (bdGd_c m x 16 ++ (bdGd_c m x 17 ++ (bdGd_c m x 18 ++ [(allS (SMsg.n m) (64 : Nat) fun i => maySignS (SMsg.sig m i)) = true, decide (SMsg.kind m = (2 : Int)) = true, decide ((↑(ByteArray.size (SMsg.state m)) : Int) ≤ (4194304 : Int)) = false]))))))))))))) : Option (V × Heap × List Prop)) := by kernel_rfl

theorem bdGd_p0001111111111111 (m : SMsg) (x : SMsg) :
 along Tryz.prog (bdGd m x) [false, false, false, true, true, true, true, true, true, true, true, true, true, true, true, true] = (some (.bool (mayVoteS (SMsg.vote m)), [], [decide (SMsg.kind m < (1 : Int)) = false] ++ (bdGd_c m x 0 ++ (bdGd_c m x 1 ++ (bdGd_c m x 3 ++ (bdGd_c m x 5 ++ (bdGd_c m x 7 ++ (bdGd_c m x 9 ++ (bdGd_c m x 11 ++ (bdGd_c m x 13 ++ (bdGd_c m x 14 ++ (bdGd_c m x 16 ++ (bdGd_c m x 17 ++ (bdGd_c m x 18 ++ [(allS (SMsg.n m) (64 : Nat) fun i => maySignS (SMsg.sig m i)) = true, decide (SMsg.kind m = (2 : Int)) = true, decide ((↑(ByteArray.size (SMsg.state m)) : Int) ≤ (4194304 : Int)) = true, T Tryz.prog 58 [.agg (SVote.c (SMsg.vote m))] [] (.bool (mayVoteS (SMsg.vote m))) []]))))))))))))) : Option (V × Heap × List Prop)) := by kernel_rfl

theorem bdGd_p00011111111111010 (m : SMsg) (x : SMsg) :
 along Tryz.prog (bdGd m x) [false, false, false, true, true, true, true, true, true, true, true, true, true, true, false, true, false] = (some (.bool false, [], [decide (SMsg.kind m < (1 : Int)) = false] ++ (bdGd_c m x 0 ++ (bdGd_c m x 1 ++ (bdGd_c m x 3 ++ (bdGd_c m x 5 ++ (bdGd_c m x 7 ++ (bdGd_c m x 9 ++ (bdGd_c m x 11 ++ (bdGd_c m x 13 ++ (bdGd_c m x 14 ++ (bdGd_c m x 16 ++ (bdGd_c m x 17 ++ (bdGd_c m x 18 ++ [(allS (SMsg.n m) (64 : Nat) fun i => maySignS (SMsg.sig m i)) = true, decide (SMsg.kind m = (2 : Int)) = false, decide (SMsg.kind m = (7 : Int)) = true, decide ((↑(ByteArray.size (SMsg.state m)) : Int) ≤ (4194304 : Int)) = false]))))))))))))) : Option (V × Heap × List Prop)) := by kernel_rfl

theorem bdGd_p00011111111111011 (m : SMsg) (x : SMsg) :
 along Tryz.prog (bdGd m x) [false, false, false, true, true, true, true, true, true, true, true, true, true, true, false, true, true] = (some (.bool (mayCertS (SMsg.cert m)), [], [decide (SMsg.kind m < (1 : Int)) = false] ++ (bdGd_c m x 0 ++ (bdGd_c m x 1 ++ (bdGd_c m x 3 ++ (bdGd_c m x 5 ++ (bdGd_c m x 7 ++ (bdGd_c m x 9 ++ (bdGd_c m x 11 ++ (bdGd_c m x 13 ++ (bdGd_c m x 14 ++ (bdGd_c m x 16 ++ (bdGd_c m x 17 ++ (bdGd_c m x 18 ++ [(allS (SMsg.n m) (64 : Nat) fun i => maySignS (SMsg.sig m i)) = true, decide (SMsg.kind m = (2 : Int)) = false, decide (SMsg.kind m = (7 : Int)) = true, decide ((↑(ByteArray.size (SMsg.state m)) : Int) ≤ (4194304 : Int)) = true, T Tryz.prog 59 [.agg [.int .i64 (SVote.kind (SCert.vote (SMsg.cert m))), .int .i64 (SVote.epoch (SCert.vote (SMsg.cert m))), .int .i64 (SVote.view (SCert.vote (SMsg.cert m))), .int .i64 (SVote.slot (SCert.vote (SMsg.cert m))), .seg .u8 32 (SVote.digest (SCert.vote (SMsg.cert m))), sg (SCert.n (SMsg.cert m)) (SCert.sig (SMsg.cert m))]] [] (.bool (mayCertS (SMsg.cert m))) []]))))))))))))) : Option (V × Heap × List Prop)) := by kernel_rfl

theorem bdGd_p0001111111111100 (m : SMsg) (x : SMsg) :
 along Tryz.prog (bdGd m x) [false, false, false, true, true, true, true, true, true, true, true, true, true, true, false, false] = (some (.bool (decide ((↑(ByteArray.size (SMsg.state m)) : Int) ≤ (4194304 : Int))), [], [decide (SMsg.kind m < (1 : Int)) = false] ++ (bdGd_c m x 0 ++ (bdGd_c m x 1 ++ (bdGd_c m x 3 ++ (bdGd_c m x 5 ++ (bdGd_c m x 7 ++ (bdGd_c m x 9 ++ (bdGd_c m x 11 ++ (bdGd_c m x 13 ++ (bdGd_c m x 14 ++ (bdGd_c m x 16 ++ (bdGd_c m x 17 ++ (bdGd_c m x 18 ++ [(allS (SMsg.n m) (64 : Nat) fun i => maySignS (SMsg.sig m i)) = true, decide (SMsg.kind m = (2 : Int)) = false, decide (SMsg.kind m = (7 : Int)) = false]))))))))))))) : Option (V × Heap × List Prop)) := by kernel_rfl

theorem T_gd {m : SMsg} (hf : FitM m) : T Tryz.prog 11 [.agg m.c] [] (.bool (goodS m)) [] := by
 have hb := hf.held
 by_cases h1 : m.kind < 1
 ·
  refine T.bool (T_al (bdGd_p111 m (onlyS m)) Tryz.func11 ?_) (by simp [goodS, mayChangeS, h1] <;> omega)
  simp only [All, All_append, bdGd_c]
  and_intros
  all_goals first
   | exact T_ol m
   | exact T_rm m (onlyS m) hf
   | exact T_vu _ _
   | exact T_vv m.vote
   | exact T_vc m.cert (by have := hf.cert; omega)
   | exact T_vp m.batch
   | exact T_vh m.held (by have := hf.nheld; omega) (fun k hk => by have := (hb k hk).2; omega)
   | exact T_vn m.news (by have := hf.nnews; omega)
   | exact T_vs m.sig (by have := hf.n; omega)
   | (simp [h1]; done)
   | (simp [h1] <;> omega)
 by_cases h2 : 8 < m.kind
 ·
  refine T.bool (T_al (bdGd_p011 m (onlyS m)) Tryz.func11 ?_) (by simp [goodS, mayChangeS, h1, h2] <;> omega)
  simp only [All, All_append, bdGd_c]
  and_intros
  all_goals first
   | exact T_ol m
   | exact T_rm m (onlyS m) hf
   | exact T_vu _ _
   | exact T_vv m.vote
   | exact T_vc m.cert (by have := hf.cert; omega)
   | exact T_vp m.batch
   | exact T_vh m.held (by have := hf.nheld; omega) (fun k hk => by have := (hb k hk).2; omega)
   | exact T_vn m.news (by have := hf.nnews; omega)
   | exact T_vs m.sig (by have := hf.n; omega)
   | (simp [h1, h2]; done)
   | (simp [h1, h2] <;> omega)
 by_cases h3 : sameMsgS m (onlyS m) = true
 rotate_left
 ·
  refine T.bool (T_al (bdGd_p001 m (onlyS m)) Tryz.func11 ?_) (by simp [goodS, mayChangeS, h1, h2, h3] <;> omega)
  simp only [All, All_append, bdGd_c]
  and_intros
  all_goals first
   | exact T_ol m
   | exact T_rm m (onlyS m) hf
   | exact T_vu _ _
   | exact T_vv m.vote
   | exact T_vc m.cert (by have := hf.cert; omega)
   | exact T_vp m.batch
   | exact T_vh m.held (by have := hf.nheld; omega) (fun k hk => by have := (hb k hk).2; omega)
   | exact T_vn m.news (by have := hf.nnews; omega)
   | exact T_vs m.sig (by have := hf.n; omega)
   | (simp [h1, h2, h3]; done)
   | (simp [h1, h2, h3] <;> omega)
 have k1 : 1 ≤ m.kind := by omega
 have k2 : m.kind ≤ 8 := by omega
 by_cases q0 : uptoS m.epoch 1048576 = true
 rotate_left
 ·
  by_cases g2 : m.kind = 2
  ·
   refine T.bool (T_al (bdGd_p0000000000000010 m (onlyS m)) Tryz.func11 ?_) (by simp [goodS, mayChangeS, h1, h2, h3, k1, k2, q0, g2] <;> omega)
   simp only [All, All_append, bdGd_c]
   and_intros
   all_goals first
    | exact T_ol m
    | exact T_rm m (onlyS m) hf
    | exact T_vu _ _
    | exact T_vv m.vote
    | exact T_vc m.cert (by have := hf.cert; omega)
    | exact T_vp m.batch
    | exact T_vh m.held (by have := hf.nheld; omega) (fun k hk => by have := (hb k hk).2; omega)
    | exact T_vn m.news (by have := hf.nnews; omega)
    | exact T_vs m.sig (by have := hf.n; omega)
    | (simp [h1, h2, h3, k1, k2, q0, g2]; done)
    | (simp [h1, h2, h3, k1, k2, q0, g2] <;> omega)
  by_cases g7 : m.kind = 7
  ·
   refine T.bool (T_al (bdGd_p00000000000000010 m (onlyS m)) Tryz.func11 ?_) (by simp [goodS, mayChangeS, h1, h2, h3, k1, k2, q0, g7] <;> omega)
   simp only [All, All_append, bdGd_c]
   and_intros
   all_goals first
    | exact T_ol m
    | exact T_rm m (onlyS m) hf
    | exact T_vu _ _
    | exact T_vv m.vote
    | exact T_vc m.cert (by have := hf.cert; omega)
    | exact T_vp m.batch
    | exact T_vh m.held (by have := hf.nheld; omega) (fun k hk => by have := (hb k hk).2; omega)
    | exact T_vn m.news (by have := hf.nnews; omega)
    | exact T_vs m.sig (by have := hf.n; omega)
    | (simp [h1, h2, h3, k1, k2, q0, g7]; done)
    | (simp [h1, h2, h3, k1, k2, q0, g7] <;> omega)
  refine T.bool (T_al (bdGd_p0000000000000000 m (onlyS m)) Tryz.func11 ?_) (by simp [goodS, mayChangeS, h1, h2, h3, k1, k2, q0, g2, g7] <;> omega)
  simp only [All, All_append, bdGd_c]
  and_intros
  all_goals first
   | exact T_ol m
   | exact T_rm m (onlyS m) hf
   | exact T_vu _ _
   | exact T_vv m.vote
   | exact T_vc m.cert (by have := hf.cert; omega)
   | exact T_vp m.batch
   | exact T_vh m.held (by have := hf.nheld; omega) (fun k hk => by have := (hb k hk).2; omega)
   | exact T_vn m.news (by have := hf.nnews; omega)
   | exact T_vs m.sig (by have := hf.n; omega)
   | (simp [h1, h2, h3, k1, k2, q0, g2, g7]; done)
   | (simp [h1, h2, h3, k1, k2, q0, g2, g7] <;> omega)
 by_cases q1 : uptoS m.slot 1099511627776 = true
 rotate_left
 ·
  by_cases g2 : m.kind = 2
  ·
   refine T.bool (T_al (bdGd_p0001000000000010 m (onlyS m)) Tryz.func11 ?_) (by simp [goodS, mayChangeS, h1, h2, h3, k1, k2, q0, q1, g2] <;> omega)
   simp only [All, All_append, bdGd_c]
   and_intros
   all_goals first
    | exact T_ol m
    | exact T_rm m (onlyS m) hf
    | exact T_vu _ _
    | exact T_vv m.vote
    | exact T_vc m.cert (by have := hf.cert; omega)
    | exact T_vp m.batch
    | exact T_vh m.held (by have := hf.nheld; omega) (fun k hk => by have := (hb k hk).2; omega)
    | exact T_vn m.news (by have := hf.nnews; omega)
    | exact T_vs m.sig (by have := hf.n; omega)
    | (simp [h1, h2, h3, k1, k2, q0, q1, g2]; done)
    | (simp [h1, h2, h3, k1, k2, q0, q1, g2] <;> omega)
  by_cases g7 : m.kind = 7
  ·
   refine T.bool (T_al (bdGd_p00010000000000010 m (onlyS m)) Tryz.func11 ?_) (by simp [goodS, mayChangeS, h1, h2, h3, k1, k2, q0, q1, g7] <;> omega)
   simp only [All, All_append, bdGd_c]
   and_intros
   all_goals first
    | exact T_ol m
    | exact T_rm m (onlyS m) hf
    | exact T_vu _ _
    | exact T_vv m.vote
    | exact T_vc m.cert (by have := hf.cert; omega)
    | exact T_vp m.batch
    | exact T_vh m.held (by have := hf.nheld; omega) (fun k hk => by have := (hb k hk).2; omega)
    | exact T_vn m.news (by have := hf.nnews; omega)
    | exact T_vs m.sig (by have := hf.n; omega)
    | (simp [h1, h2, h3, k1, k2, q0, q1, g7]; done)
    | (simp [h1, h2, h3, k1, k2, q0, q1, g7] <;> omega)
  refine T.bool (T_al (bdGd_p0001000000000000 m (onlyS m)) Tryz.func11 ?_) (by simp [goodS, mayChangeS, h1, h2, h3, k1, k2, q0, q1, g2, g7] <;> omega)
  simp only [All, All_append, bdGd_c]
  and_intros
  all_goals first
   | exact T_ol m
   | exact T_rm m (onlyS m) hf
   | exact T_vu _ _
   | exact T_vv m.vote
   | exact T_vc m.cert (by have := hf.cert; omega)
   | exact T_vp m.batch
   | exact T_vh m.held (by have := hf.nheld; omega) (fun k hk => by have := (hb k hk).2; omega)
   | exact T_vn m.news (by have := hf.nnews; omega)
   | exact T_vs m.sig (by have := hf.n; omega)
   | (simp [h1, h2, h3, k1, k2, q0, q1, g2, g7]; done)
   | (simp [h1, h2, h3, k1, k2, q0, q1, g2, g7] <;> omega)
 by_cases q2 : uptoS m.view 1099511627776 = true
 rotate_left
 ·
  by_cases g2 : m.kind = 2
  ·
   refine T.bool (T_al (bdGd_p0001100000000010 m (onlyS m)) Tryz.func11 ?_) (by simp [goodS, mayChangeS, h1, h2, h3, k1, k2, q0, q1, q2, g2] <;> omega)
   simp only [All, All_append, bdGd_c]
   and_intros
   all_goals first
    | exact T_ol m
    | exact T_rm m (onlyS m) hf
    | exact T_vu _ _
    | exact T_vv m.vote
    | exact T_vc m.cert (by have := hf.cert; omega)
    | exact T_vp m.batch
    | exact T_vh m.held (by have := hf.nheld; omega) (fun k hk => by have := (hb k hk).2; omega)
    | exact T_vn m.news (by have := hf.nnews; omega)
    | exact T_vs m.sig (by have := hf.n; omega)
    | (simp [h1, h2, h3, k1, k2, q0, q1, q2, g2]; done)
    | (simp [h1, h2, h3, k1, k2, q0, q1, q2, g2] <;> omega)
  by_cases g7 : m.kind = 7
  ·
   refine T.bool (T_al (bdGd_p00011000000000010 m (onlyS m)) Tryz.func11 ?_) (by simp [goodS, mayChangeS, h1, h2, h3, k1, k2, q0, q1, q2, g7] <;> omega)
   simp only [All, All_append, bdGd_c]
   and_intros
   all_goals first
    | exact T_ol m
    | exact T_rm m (onlyS m) hf
    | exact T_vu _ _
    | exact T_vv m.vote
    | exact T_vc m.cert (by have := hf.cert; omega)
    | exact T_vp m.batch
    | exact T_vh m.held (by have := hf.nheld; omega) (fun k hk => by have := (hb k hk).2; omega)
    | exact T_vn m.news (by have := hf.nnews; omega)
    | exact T_vs m.sig (by have := hf.n; omega)
    | (simp [h1, h2, h3, k1, k2, q0, q1, q2, g7]; done)
    | (simp [h1, h2, h3, k1, k2, q0, q1, q2, g7] <;> omega)
  refine T.bool (T_al (bdGd_p0001100000000000 m (onlyS m)) Tryz.func11 ?_) (by simp [goodS, mayChangeS, h1, h2, h3, k1, k2, q0, q1, q2, g2, g7] <;> omega)
  simp only [All, All_append, bdGd_c]
  and_intros
  all_goals first
   | exact T_ol m
   | exact T_rm m (onlyS m) hf
   | exact T_vu _ _
   | exact T_vv m.vote
   | exact T_vc m.cert (by have := hf.cert; omega)
   | exact T_vp m.batch
   | exact T_vh m.held (by have := hf.nheld; omega) (fun k hk => by have := (hb k hk).2; omega)
   | exact T_vn m.news (by have := hf.nnews; omega)
   | exact T_vs m.sig (by have := hf.n; omega)
   | (simp [h1, h2, h3, k1, k2, q0, q1, q2, g2, g7]; done)
   | (simp [h1, h2, h3, k1, k2, q0, q1, q2, g2, g7] <;> omega)
 by_cases q3 : uptoS m.leader 64 = true
 rotate_left
 ·
  by_cases g2 : m.kind = 2
  ·
   refine T.bool (T_al (bdGd_p0001110000000010 m (onlyS m)) Tryz.func11 ?_) (by simp [goodS, mayChangeS, h1, h2, h3, k1, k2, q0, q1, q2, q3, g2] <;> omega)
   simp only [All, All_append, bdGd_c]
   and_intros
   all_goals first
    | exact T_ol m
    | exact T_rm m (onlyS m) hf
    | exact T_vu _ _
    | exact T_vv m.vote
    | exact T_vc m.cert (by have := hf.cert; omega)
    | exact T_vp m.batch
    | exact T_vh m.held (by have := hf.nheld; omega) (fun k hk => by have := (hb k hk).2; omega)
    | exact T_vn m.news (by have := hf.nnews; omega)
    | exact T_vs m.sig (by have := hf.n; omega)
    | (simp [h1, h2, h3, k1, k2, q0, q1, q2, q3, g2]; done)
    | (simp [h1, h2, h3, k1, k2, q0, q1, q2, q3, g2] <;> omega)
  by_cases g7 : m.kind = 7
  ·
   refine T.bool (T_al (bdGd_p00011100000000010 m (onlyS m)) Tryz.func11 ?_) (by simp [goodS, mayChangeS, h1, h2, h3, k1, k2, q0, q1, q2, q3, g7] <;> omega)
   simp only [All, All_append, bdGd_c]
   and_intros
   all_goals first
    | exact T_ol m
    | exact T_rm m (onlyS m) hf
    | exact T_vu _ _
    | exact T_vv m.vote
    | exact T_vc m.cert (by have := hf.cert; omega)
    | exact T_vp m.batch
    | exact T_vh m.held (by have := hf.nheld; omega) (fun k hk => by have := (hb k hk).2; omega)
    | exact T_vn m.news (by have := hf.nnews; omega)
    | exact T_vs m.sig (by have := hf.n; omega)
    | (simp [h1, h2, h3, k1, k2, q0, q1, q2, q3, g7]; done)
    | (simp [h1, h2, h3, k1, k2, q0, q1, q2, q3, g7] <;> omega)
  refine T.bool (T_al (bdGd_p0001110000000000 m (onlyS m)) Tryz.func11 ?_) (by simp [goodS, mayChangeS, h1, h2, h3, k1, k2, q0, q1, q2, q3, g2, g7] <;> omega)
  simp only [All, All_append, bdGd_c]
  and_intros
  all_goals first
   | exact T_ol m
   | exact T_rm m (onlyS m) hf
   | exact T_vu _ _
   | exact T_vv m.vote
   | exact T_vc m.cert (by have := hf.cert; omega)
   | exact T_vp m.batch
   | exact T_vh m.held (by have := hf.nheld; omega) (fun k hk => by have := (hb k hk).2; omega)
   | exact T_vn m.news (by have := hf.nnews; omega)
   | exact T_vs m.sig (by have := hf.n; omega)
   | (simp [h1, h2, h3, k1, k2, q0, q1, q2, q3, g2, g7]; done)
   | (simp [h1, h2, h3, k1, k2, q0, q1, q2, q3, g2, g7] <;> omega)
 by_cases q4 : uptoS m.cepoch 1048576 = true
 rotate_left
 ·
  by_cases g2 : m.kind = 2
  ·
   refine T.bool (T_al (bdGd_p0001111000000010 m (onlyS m)) Tryz.func11 ?_) (by simp [goodS, mayChangeS, h1, h2, h3, k1, k2, q0, q1, q2, q3, q4, g2] <;> omega)
   simp only [All, All_append, bdGd_c]
   and_intros
   all_goals first
    | exact T_ol m
    | exact T_rm m (onlyS m) hf
    | exact T_vu _ _
    | exact T_vv m.vote
    | exact T_vc m.cert (by have := hf.cert; omega)
    | exact T_vp m.batch
    | exact T_vh m.held (by have := hf.nheld; omega) (fun k hk => by have := (hb k hk).2; omega)
    | exact T_vn m.news (by have := hf.nnews; omega)
    | exact T_vs m.sig (by have := hf.n; omega)
    | (simp [h1, h2, h3, k1, k2, q0, q1, q2, q3, q4, g2]; done)
    | (simp [h1, h2, h3, k1, k2, q0, q1, q2, q3, q4, g2] <;> omega)
  by_cases g7 : m.kind = 7
  ·
   refine T.bool (T_al (bdGd_p00011110000000010 m (onlyS m)) Tryz.func11 ?_) (by simp [goodS, mayChangeS, h1, h2, h3, k1, k2, q0, q1, q2, q3, q4, g7] <;> omega)
   simp only [All, All_append, bdGd_c]
   and_intros
   all_goals first
    | exact T_ol m
    | exact T_rm m (onlyS m) hf
    | exact T_vu _ _
    | exact T_vv m.vote
    | exact T_vc m.cert (by have := hf.cert; omega)
    | exact T_vp m.batch
    | exact T_vh m.held (by have := hf.nheld; omega) (fun k hk => by have := (hb k hk).2; omega)
    | exact T_vn m.news (by have := hf.nnews; omega)
    | exact T_vs m.sig (by have := hf.n; omega)
    | (simp [h1, h2, h3, k1, k2, q0, q1, q2, q3, q4, g7]; done)
    | (simp [h1, h2, h3, k1, k2, q0, q1, q2, q3, q4, g7] <;> omega)
  refine T.bool (T_al (bdGd_p0001111000000000 m (onlyS m)) Tryz.func11 ?_) (by simp [goodS, mayChangeS, h1, h2, h3, k1, k2, q0, q1, q2, q3, q4, g2, g7] <;> omega)
  simp only [All, All_append, bdGd_c]
  and_intros
  all_goals first
   | exact T_ol m
   | exact T_rm m (onlyS m) hf
   | exact T_vu _ _
   | exact T_vv m.vote
   | exact T_vc m.cert (by have := hf.cert; omega)
   | exact T_vp m.batch
   | exact T_vh m.held (by have := hf.nheld; omega) (fun k hk => by have := (hb k hk).2; omega)
   | exact T_vn m.news (by have := hf.nnews; omega)
   | exact T_vs m.sig (by have := hf.n; omega)
   | (simp [h1, h2, h3, k1, k2, q0, q1, q2, q3, q4, g2, g7]; done)
   | (simp [h1, h2, h3, k1, k2, q0, q1, q2, q3, q4, g2, g7] <;> omega)
 by_cases q5 : uptoS m.cview 1099511627776 = true
 rotate_left
 ·
  by_cases g2 : m.kind = 2
  ·
   refine T.bool (T_al (bdGd_p0001111100000010 m (onlyS m)) Tryz.func11 ?_) (by simp [goodS, mayChangeS, h1, h2, h3, k1, k2, q0, q1, q2, q3, q4, q5, g2] <;> omega)
   simp only [All, All_append, bdGd_c]
   and_intros
   all_goals first
    | exact T_ol m
    | exact T_rm m (onlyS m) hf
    | exact T_vu _ _
    | exact T_vv m.vote
    | exact T_vc m.cert (by have := hf.cert; omega)
    | exact T_vp m.batch
    | exact T_vh m.held (by have := hf.nheld; omega) (fun k hk => by have := (hb k hk).2; omega)
    | exact T_vn m.news (by have := hf.nnews; omega)
    | exact T_vs m.sig (by have := hf.n; omega)
    | (simp [h1, h2, h3, k1, k2, q0, q1, q2, q3, q4, q5, g2]; done)
    | (simp [h1, h2, h3, k1, k2, q0, q1, q2, q3, q4, q5, g2] <;> omega)
  by_cases g7 : m.kind = 7
  ·
   refine T.bool (T_al (bdGd_p00011111000000010 m (onlyS m)) Tryz.func11 ?_) (by simp [goodS, mayChangeS, h1, h2, h3, k1, k2, q0, q1, q2, q3, q4, q5, g7] <;> omega)
   simp only [All, All_append, bdGd_c]
   and_intros
   all_goals first
    | exact T_ol m
    | exact T_rm m (onlyS m) hf
    | exact T_vu _ _
    | exact T_vv m.vote
    | exact T_vc m.cert (by have := hf.cert; omega)
    | exact T_vp m.batch
    | exact T_vh m.held (by have := hf.nheld; omega) (fun k hk => by have := (hb k hk).2; omega)
    | exact T_vn m.news (by have := hf.nnews; omega)
    | exact T_vs m.sig (by have := hf.n; omega)
    | (simp [h1, h2, h3, k1, k2, q0, q1, q2, q3, q4, q5, g7]; done)
    | (simp [h1, h2, h3, k1, k2, q0, q1, q2, q3, q4, q5, g7] <;> omega)
  refine T.bool (T_al (bdGd_p0001111100000000 m (onlyS m)) Tryz.func11 ?_) (by simp [goodS, mayChangeS, h1, h2, h3, k1, k2, q0, q1, q2, q3, q4, q5, g2, g7] <;> omega)
  simp only [All, All_append, bdGd_c]
  and_intros
  all_goals first
   | exact T_ol m
   | exact T_rm m (onlyS m) hf
   | exact T_vu _ _
   | exact T_vv m.vote
   | exact T_vc m.cert (by have := hf.cert; omega)
   | exact T_vp m.batch
   | exact T_vh m.held (by have := hf.nheld; omega) (fun k hk => by have := (hb k hk).2; omega)
   | exact T_vn m.news (by have := hf.nnews; omega)
   | exact T_vs m.sig (by have := hf.n; omega)
   | (simp [h1, h2, h3, k1, k2, q0, q1, q2, q3, q4, q5, g2, g7]; done)
   | (simp [h1, h2, h3, k1, k2, q0, q1, q2, q3, q4, q5, g2, g7] <;> omega)
 by_cases q6 : uptoS m.cleader 64 = true
 rotate_left
 ·
  by_cases g2 : m.kind = 2
  ·
   refine T.bool (T_al (bdGd_p0001111110000010 m (onlyS m)) Tryz.func11 ?_) (by simp [goodS, mayChangeS, h1, h2, h3, k1, k2, q0, q1, q2, q3, q4, q5, q6, g2] <;> omega)
   simp only [All, All_append, bdGd_c]
   and_intros
   all_goals first
    | exact T_ol m
    | exact T_rm m (onlyS m) hf
    | exact T_vu _ _
    | exact T_vv m.vote
    | exact T_vc m.cert (by have := hf.cert; omega)
    | exact T_vp m.batch
    | exact T_vh m.held (by have := hf.nheld; omega) (fun k hk => by have := (hb k hk).2; omega)
    | exact T_vn m.news (by have := hf.nnews; omega)
    | exact T_vs m.sig (by have := hf.n; omega)
    | (simp [h1, h2, h3, k1, k2, q0, q1, q2, q3, q4, q5, q6, g2]; done)
    | (simp [h1, h2, h3, k1, k2, q0, q1, q2, q3, q4, q5, q6, g2] <;> omega)
  by_cases g7 : m.kind = 7
  ·
   refine T.bool (T_al (bdGd_p00011111100000010 m (onlyS m)) Tryz.func11 ?_) (by simp [goodS, mayChangeS, h1, h2, h3, k1, k2, q0, q1, q2, q3, q4, q5, q6, g7] <;> omega)
   simp only [All, All_append, bdGd_c]
   and_intros
   all_goals first
    | exact T_ol m
    | exact T_rm m (onlyS m) hf
    | exact T_vu _ _
    | exact T_vv m.vote
    | exact T_vc m.cert (by have := hf.cert; omega)
    | exact T_vp m.batch
    | exact T_vh m.held (by have := hf.nheld; omega) (fun k hk => by have := (hb k hk).2; omega)
    | exact T_vn m.news (by have := hf.nnews; omega)
    | exact T_vs m.sig (by have := hf.n; omega)
    | (simp [h1, h2, h3, k1, k2, q0, q1, q2, q3, q4, q5, q6, g7]; done)
    | (simp [h1, h2, h3, k1, k2, q0, q1, q2, q3, q4, q5, q6, g7] <;> omega)
  refine T.bool (T_al (bdGd_p0001111110000000 m (onlyS m)) Tryz.func11 ?_) (by simp [goodS, mayChangeS, h1, h2, h3, k1, k2, q0, q1, q2, q3, q4, q5, q6, g2, g7] <;> omega)
  simp only [All, All_append, bdGd_c]
  and_intros
  all_goals first
   | exact T_ol m
   | exact T_rm m (onlyS m) hf
   | exact T_vu _ _
   | exact T_vv m.vote
   | exact T_vc m.cert (by have := hf.cert; omega)
   | exact T_vp m.batch
   | exact T_vh m.held (by have := hf.nheld; omega) (fun k hk => by have := (hb k hk).2; omega)
   | exact T_vn m.news (by have := hf.nnews; omega)
   | exact T_vs m.sig (by have := hf.n; omega)
   | (simp [h1, h2, h3, k1, k2, q0, q1, q2, q3, q4, q5, q6, g2, g7]; done)
   | (simp [h1, h2, h3, k1, k2, q0, q1, q2, q3, q4, q5, q6, g2, g7] <;> omega)
 by_cases q7 : allS m.nheld 4 (fun i => mayHeldS (m.held i)) = true
 rotate_left
 ·
  by_cases g2 : m.kind = 2
  ·
   refine T.bool (T_al (bdGd_p0001111111000010 m (onlyS m)) Tryz.func11 ?_) (by simp [goodS, mayChangeS, h1, h2, h3, k1, k2, q0, q1, q2, q3, q4, q5, q6, q7, g2] <;> omega)
   simp only [All, All_append, bdGd_c]
   and_intros
   all_goals first
    | exact T_ol m
    | exact T_rm m (onlyS m) hf
    | exact T_vu _ _
    | exact T_vv m.vote
    | exact T_vc m.cert (by have := hf.cert; omega)
    | exact T_vp m.batch
    | exact T_vh m.held (by have := hf.nheld; omega) (fun k hk => by have := (hb k hk).2; omega)
    | exact T_vn m.news (by have := hf.nnews; omega)
    | exact T_vs m.sig (by have := hf.n; omega)
    | (simp [h1, h2, h3, k1, k2, q0, q1, q2, q3, q4, q5, q6, q7, g2]; done)
    | (simp [h1, h2, h3, k1, k2, q0, q1, q2, q3, q4, q5, q6, q7, g2] <;> omega)
  by_cases g7 : m.kind = 7
  ·
   refine T.bool (T_al (bdGd_p00011111110000010 m (onlyS m)) Tryz.func11 ?_) (by simp [goodS, mayChangeS, h1, h2, h3, k1, k2, q0, q1, q2, q3, q4, q5, q6, q7, g7] <;> omega)
   simp only [All, All_append, bdGd_c]
   and_intros
   all_goals first
    | exact T_ol m
    | exact T_rm m (onlyS m) hf
    | exact T_vu _ _
    | exact T_vv m.vote
    | exact T_vc m.cert (by have := hf.cert; omega)
    | exact T_vp m.batch
    | exact T_vh m.held (by have := hf.nheld; omega) (fun k hk => by have := (hb k hk).2; omega)
    | exact T_vn m.news (by have := hf.nnews; omega)
    | exact T_vs m.sig (by have := hf.n; omega)
    | (simp [h1, h2, h3, k1, k2, q0, q1, q2, q3, q4, q5, q6, q7, g7]; done)
    | (simp [h1, h2, h3, k1, k2, q0, q1, q2, q3, q4, q5, q6, q7, g7] <;> omega)
  refine T.bool (T_al (bdGd_p0001111111000000 m (onlyS m)) Tryz.func11 ?_) (by simp [goodS, mayChangeS, h1, h2, h3, k1, k2, q0, q1, q2, q3, q4, q5, q6, q7, g2, g7] <;> omega)
  simp only [All, All_append, bdGd_c]
  and_intros
  all_goals first
   | exact T_ol m
   | exact T_rm m (onlyS m) hf
   | exact T_vu _ _
   | exact T_vv m.vote
   | exact T_vc m.cert (by have := hf.cert; omega)
   | exact T_vp m.batch
   | exact T_vh m.held (by have := hf.nheld; omega) (fun k hk => by have := (hb k hk).2; omega)
   | exact T_vn m.news (by have := hf.nnews; omega)
   | exact T_vs m.sig (by have := hf.n; omega)
   | (simp [h1, h2, h3, k1, k2, q0, q1, q2, q3, q4, q5, q6, q7, g2, g7]; done)
   | (simp [h1, h2, h3, k1, k2, q0, q1, q2, q3, q4, q5, q6, q7, g2, g7] <;> omega)
 by_cases q8 : mayBatchS m.batch = true
 rotate_left
 ·
  by_cases g2 : m.kind = 2
  ·
   refine T.bool (T_al (bdGd_p0001111111100010 m (onlyS m)) Tryz.func11 ?_) (by simp [goodS, mayChangeS, h1, h2, h3, k1, k2, q0, q1, q2, q3, q4, q5, q6, q7, q8, g2] <;> omega)
   simp only [All, All_append, bdGd_c]
   and_intros
   all_goals first
    | exact T_ol m
    | exact T_rm m (onlyS m) hf
    | exact T_vu _ _
    | exact T_vv m.vote
    | exact T_vc m.cert (by have := hf.cert; omega)
    | exact T_vp m.batch
    | exact T_vh m.held (by have := hf.nheld; omega) (fun k hk => by have := (hb k hk).2; omega)
    | exact T_vn m.news (by have := hf.nnews; omega)
    | exact T_vs m.sig (by have := hf.n; omega)
    | (simp [h1, h2, h3, k1, k2, q0, q1, q2, q3, q4, q5, q6, q7, q8, g2]; done)
    | (simp [h1, h2, h3, k1, k2, q0, q1, q2, q3, q4, q5, q6, q7, q8, g2] <;> omega)
  by_cases g7 : m.kind = 7
  ·
   refine T.bool (T_al (bdGd_p00011111111000010 m (onlyS m)) Tryz.func11 ?_) (by simp [goodS, mayChangeS, h1, h2, h3, k1, k2, q0, q1, q2, q3, q4, q5, q6, q7, q8, g7] <;> omega)
   simp only [All, All_append, bdGd_c]
   and_intros
   all_goals first
    | exact T_ol m
    | exact T_rm m (onlyS m) hf
    | exact T_vu _ _
    | exact T_vv m.vote
    | exact T_vc m.cert (by have := hf.cert; omega)
    | exact T_vp m.batch
    | exact T_vh m.held (by have := hf.nheld; omega) (fun k hk => by have := (hb k hk).2; omega)
    | exact T_vn m.news (by have := hf.nnews; omega)
    | exact T_vs m.sig (by have := hf.n; omega)
    | (simp [h1, h2, h3, k1, k2, q0, q1, q2, q3, q4, q5, q6, q7, q8, g7]; done)
    | (simp [h1, h2, h3, k1, k2, q0, q1, q2, q3, q4, q5, q6, q7, q8, g7] <;> omega)
  refine T.bool (T_al (bdGd_p0001111111100000 m (onlyS m)) Tryz.func11 ?_) (by simp [goodS, mayChangeS, h1, h2, h3, k1, k2, q0, q1, q2, q3, q4, q5, q6, q7, q8, g2, g7] <;> omega)
  simp only [All, All_append, bdGd_c]
  and_intros
  all_goals first
   | exact T_ol m
   | exact T_rm m (onlyS m) hf
   | exact T_vu _ _
   | exact T_vv m.vote
   | exact T_vc m.cert (by have := hf.cert; omega)
   | exact T_vp m.batch
   | exact T_vh m.held (by have := hf.nheld; omega) (fun k hk => by have := (hb k hk).2; omega)
   | exact T_vn m.news (by have := hf.nnews; omega)
   | exact T_vs m.sig (by have := hf.n; omega)
   | (simp [h1, h2, h3, k1, k2, q0, q1, q2, q3, q4, q5, q6, q7, q8, g2, g7]; done)
   | (simp [h1, h2, h3, k1, k2, q0, q1, q2, q3, q4, q5, q6, q7, q8, g2, g7] <;> omega)
 by_cases q9 : allS m.nnews 64 (fun i => mayEnvS (m.news i)) = true
 rotate_left
 ·
  by_cases g2 : m.kind = 2
  ·
   refine T.bool (T_al (bdGd_p0001111111110010 m (onlyS m)) Tryz.func11 ?_) (by simp [goodS, mayChangeS, h1, h2, h3, k1, k2, q0, q1, q2, q3, q4, q5, q6, q7, q8, q9, g2] <;> omega)
   simp only [All, All_append, bdGd_c]
   and_intros
   all_goals first
    | exact T_ol m
    | exact T_rm m (onlyS m) hf
    | exact T_vu _ _
    | exact T_vv m.vote
    | exact T_vc m.cert (by have := hf.cert; omega)
    | exact T_vp m.batch
    | exact T_vh m.held (by have := hf.nheld; omega) (fun k hk => by have := (hb k hk).2; omega)
    | exact T_vn m.news (by have := hf.nnews; omega)
    | exact T_vs m.sig (by have := hf.n; omega)
    | (simp [h1, h2, h3, k1, k2, q0, q1, q2, q3, q4, q5, q6, q7, q8, q9, g2]; done)
    | (simp [h1, h2, h3, k1, k2, q0, q1, q2, q3, q4, q5, q6, q7, q8, q9, g2] <;> omega)
  by_cases g7 : m.kind = 7
  ·
   refine T.bool (T_al (bdGd_p00011111111100010 m (onlyS m)) Tryz.func11 ?_) (by simp [goodS, mayChangeS, h1, h2, h3, k1, k2, q0, q1, q2, q3, q4, q5, q6, q7, q8, q9, g7] <;> omega)
   simp only [All, All_append, bdGd_c]
   and_intros
   all_goals first
    | exact T_ol m
    | exact T_rm m (onlyS m) hf
    | exact T_vu _ _
    | exact T_vv m.vote
    | exact T_vc m.cert (by have := hf.cert; omega)
    | exact T_vp m.batch
    | exact T_vh m.held (by have := hf.nheld; omega) (fun k hk => by have := (hb k hk).2; omega)
    | exact T_vn m.news (by have := hf.nnews; omega)
    | exact T_vs m.sig (by have := hf.n; omega)
    | (simp [h1, h2, h3, k1, k2, q0, q1, q2, q3, q4, q5, q6, q7, q8, q9, g7]; done)
    | (simp [h1, h2, h3, k1, k2, q0, q1, q2, q3, q4, q5, q6, q7, q8, q9, g7] <;> omega)
  refine T.bool (T_al (bdGd_p0001111111110000 m (onlyS m)) Tryz.func11 ?_) (by simp [goodS, mayChangeS, h1, h2, h3, k1, k2, q0, q1, q2, q3, q4, q5, q6, q7, q8, q9, g2, g7] <;> omega)
  simp only [All, All_append, bdGd_c]
  and_intros
  all_goals first
   | exact T_ol m
   | exact T_rm m (onlyS m) hf
   | exact T_vu _ _
   | exact T_vv m.vote
   | exact T_vc m.cert (by have := hf.cert; omega)
   | exact T_vp m.batch
   | exact T_vh m.held (by have := hf.nheld; omega) (fun k hk => by have := (hb k hk).2; omega)
   | exact T_vn m.news (by have := hf.nnews; omega)
   | exact T_vs m.sig (by have := hf.n; omega)
   | (simp [h1, h2, h3, k1, k2, q0, q1, q2, q3, q4, q5, q6, q7, q8, q9, g2, g7]; done)
   | (simp [h1, h2, h3, k1, k2, q0, q1, q2, q3, q4, q5, q6, q7, q8, q9, g2, g7] <;> omega)
 by_cases q10 : allS m.n 64 (fun i => maySignS (m.sig i)) = true
 rotate_left
 ·
  by_cases g2 : m.kind = 2
  ·
   refine T.bool (T_al (bdGd_p0001111111111010 m (onlyS m)) Tryz.func11 ?_) (by simp [goodS, mayChangeS, h1, h2, h3, k1, k2, q0, q1, q2, q3, q4, q5, q6, q7, q8, q9, q10, g2] <;> omega)
   simp only [All, All_append, bdGd_c]
   and_intros
   all_goals first
    | exact T_ol m
    | exact T_rm m (onlyS m) hf
    | exact T_vu _ _
    | exact T_vv m.vote
    | exact T_vc m.cert (by have := hf.cert; omega)
    | exact T_vp m.batch
    | exact T_vh m.held (by have := hf.nheld; omega) (fun k hk => by have := (hb k hk).2; omega)
    | exact T_vn m.news (by have := hf.nnews; omega)
    | exact T_vs m.sig (by have := hf.n; omega)
    | (simp [h1, h2, h3, k1, k2, q0, q1, q2, q3, q4, q5, q6, q7, q8, q9, q10, g2]; done)
    | (simp [h1, h2, h3, k1, k2, q0, q1, q2, q3, q4, q5, q6, q7, q8, q9, q10, g2] <;> omega)
  by_cases g7 : m.kind = 7
  ·
   refine T.bool (T_al (bdGd_p00011111111110010 m (onlyS m)) Tryz.func11 ?_) (by simp [goodS, mayChangeS, h1, h2, h3, k1, k2, q0, q1, q2, q3, q4, q5, q6, q7, q8, q9, q10, g7] <;> omega)
   simp only [All, All_append, bdGd_c]
   and_intros
   all_goals first
    | exact T_ol m
    | exact T_rm m (onlyS m) hf
    | exact T_vu _ _
    | exact T_vv m.vote
    | exact T_vc m.cert (by have := hf.cert; omega)
    | exact T_vp m.batch
    | exact T_vh m.held (by have := hf.nheld; omega) (fun k hk => by have := (hb k hk).2; omega)
    | exact T_vn m.news (by have := hf.nnews; omega)
    | exact T_vs m.sig (by have := hf.n; omega)
    | (simp [h1, h2, h3, k1, k2, q0, q1, q2, q3, q4, q5, q6, q7, q8, q9, q10, g7]; done)
    | (simp [h1, h2, h3, k1, k2, q0, q1, q2, q3, q4, q5, q6, q7, q8, q9, q10, g7] <;> omega)
  refine T.bool (T_al (bdGd_p0001111111111000 m (onlyS m)) Tryz.func11 ?_) (by simp [goodS, mayChangeS, h1, h2, h3, k1, k2, q0, q1, q2, q3, q4, q5, q6, q7, q8, q9, q10, g2, g7] <;> omega)
  simp only [All, All_append, bdGd_c]
  and_intros
  all_goals first
   | exact T_ol m
   | exact T_rm m (onlyS m) hf
   | exact T_vu _ _
   | exact T_vv m.vote
   | exact T_vc m.cert (by have := hf.cert; omega)
   | exact T_vp m.batch
   | exact T_vh m.held (by have := hf.nheld; omega) (fun k hk => by have := (hb k hk).2; omega)
   | exact T_vn m.news (by have := hf.nnews; omega)
   | exact T_vs m.sig (by have := hf.n; omega)
   | (simp [h1, h2, h3, k1, k2, q0, q1, q2, q3, q4, q5, q6, q7, q8, q9, q10, g2, g7]; done)
   | (simp [h1, h2, h3, k1, k2, q0, q1, q2, q3, q4, q5, q6, q7, q8, q9, q10, g2, g7] <;> omega)
 by_cases g2 : m.kind = 2
 ·by_cases g12 : (m.state.size : Int) ≤ 4194304
  ·
   refine T.bool (T_al (bdGd_p0001111111111111 m (onlyS m)) Tryz.func11 ?_) (by simp [goodS, mayChangeS, h1, h2, h3, k1, k2, q0, q1, q2, q3, q4, q5, q6, q7, q8, q9, q10, g2, g12] <;> omega)
   simp only [All, All_append, bdGd_c]
   and_intros
   all_goals first
    | exact T_ol m
    | exact T_rm m (onlyS m) hf
    | exact T_vu _ _
    | exact T_vv m.vote
    | exact T_vc m.cert (by have := hf.cert; omega)
    | exact T_vp m.batch
    | exact T_vh m.held (by have := hf.nheld; omega) (fun k hk => by have := (hb k hk).2; omega)
    | exact T_vn m.news (by have := hf.nnews; omega)
    | exact T_vs m.sig (by have := hf.n; omega)
    | (simp [h1, h2, h3, k1, k2, q0, q1, q2, q3, q4, q5, q6, q7, q8, q9, q10, g2, g12]; done)
    | (simp [h1, h2, h3, k1, k2, q0, q1, q2, q3, q4, q5, q6, q7, q8, q9, q10, g2, g12] <;> omega)
  ·
   refine T.bool (T_al (bdGd_p0001111111111110 m (onlyS m)) Tryz.func11 ?_) (by simp [goodS, mayChangeS, h1, h2, h3, k1, k2, q0, q1, q2, q3, q4, q5, q6, q7, q8, q9, q10, g2, g12] <;> omega)
   simp only [All, All_append, bdGd_c]
   and_intros
   all_goals first
    | exact T_ol m
    | exact T_rm m (onlyS m) hf
    | exact T_vu _ _
    | exact T_vv m.vote
    | exact T_vc m.cert (by have := hf.cert; omega)
    | exact T_vp m.batch
    | exact T_vh m.held (by have := hf.nheld; omega) (fun k hk => by have := (hb k hk).2; omega)
    | exact T_vn m.news (by have := hf.nnews; omega)
    | exact T_vs m.sig (by have := hf.n; omega)
    | (simp [h1, h2, h3, k1, k2, q0, q1, q2, q3, q4, q5, q6, q7, q8, q9, q10, g2, g12]; done)
    | (simp [h1, h2, h3, k1, k2, q0, q1, q2, q3, q4, q5, q6, q7, q8, q9, q10, g2, g12] <;> omega)
 by_cases g7 : m.kind = 7
 ·by_cases g12 : (m.state.size : Int) ≤ 4194304
  ·
   refine T.bool (T_al (bdGd_p00011111111111011 m (onlyS m)) Tryz.func11 ?_) (by simp [goodS, mayChangeS, h1, h2, h3, k1, k2, q0, q1, q2, q3, q4, q5, q6, q7, q8, q9, q10, g7, g12] <;> omega)
   simp only [All, All_append, bdGd_c]
   and_intros
   all_goals first
    | exact T_ol m
    | exact T_rm m (onlyS m) hf
    | exact T_vu _ _
    | exact T_vv m.vote
    | exact T_vc m.cert (by have := hf.cert; omega)
    | exact T_vp m.batch
    | exact T_vh m.held (by have := hf.nheld; omega) (fun k hk => by have := (hb k hk).2; omega)
    | exact T_vn m.news (by have := hf.nnews; omega)
    | exact T_vs m.sig (by have := hf.n; omega)
    | (simp [h1, h2, h3, k1, k2, q0, q1, q2, q3, q4, q5, q6, q7, q8, q9, q10, g7, g12]; done)
    | (simp [h1, h2, h3, k1, k2, q0, q1, q2, q3, q4, q5, q6, q7, q8, q9, q10, g7, g12] <;> omega)
  ·
   refine T.bool (T_al (bdGd_p00011111111111010 m (onlyS m)) Tryz.func11 ?_) (by simp [goodS, mayChangeS, h1, h2, h3, k1, k2, q0, q1, q2, q3, q4, q5, q6, q7, q8, q9, q10, g7, g12] <;> omega)
   simp only [All, All_append, bdGd_c]
   and_intros
   all_goals first
    | exact T_ol m
    | exact T_rm m (onlyS m) hf
    | exact T_vu _ _
    | exact T_vv m.vote
    | exact T_vc m.cert (by have := hf.cert; omega)
    | exact T_vp m.batch
    | exact T_vh m.held (by have := hf.nheld; omega) (fun k hk => by have := (hb k hk).2; omega)
    | exact T_vn m.news (by have := hf.nnews; omega)
    | exact T_vs m.sig (by have := hf.n; omega)
    | (simp [h1, h2, h3, k1, k2, q0, q1, q2, q3, q4, q5, q6, q7, q8, q9, q10, g7, g12]; done)
    | (simp [h1, h2, h3, k1, k2, q0, q1, q2, q3, q4, q5, q6, q7, q8, q9, q10, g7, g12] <;> omega)
 refine T.bool (T_al (bdGd_p0001111111111100 m (onlyS m)) Tryz.func11 ?_) (by simp [goodS, mayChangeS, h1, h2, h3, k1, k2, q0, q1, q2, q3, q4, q5, q6, q7, q8, q9, q10, g2, g7] <;> omega)
 simp only [All, All_append, bdGd_c]
 and_intros
 all_goals first
  | exact T_ol m
  | exact T_rm m (onlyS m) hf
  | exact T_vu _ _
  | exact T_vv m.vote
  | exact T_vc m.cert (by have := hf.cert; omega)
  | exact T_vp m.batch
  | exact T_vh m.held (by have := hf.nheld; omega) (fun k hk => by have := (hb k hk).2; omega)
  | exact T_vn m.news (by have := hf.nnews; omega)
  | exact T_vs m.sig (by have := hf.n; omega)
  | (simp [h1, h2, h3, k1, k2, q0, q1, q2, q3, q4, q5, q6, q7, q8, q9, q10, g2, g7]; done)
  | (simp [h1, h2, h3, k1, k2, q0, q1, q2, q3, q4, q5, q6, q7, q8, q9, q10, g2, g7] <;> omega)
end Go.Proofs.YthifjamdfpjilaaGreat
namespace Go.Proofs.YthifjamdfpjilaaGreat
open Go Sy Go.Proofs
theorem upto_iff {n m : Int} : uptoS n m = true ↔ 0 ≤ n ∧ n ≤ m := by simp [uptoS]
def segBatch (b : SBatch) : Prop := ∀ i, i < b.n → SegOk 16 (b.req i).tag
theorem allS_iff {n most : Nat} {p : Nat → Bool} : allS n most p = true ↔ n ≤ most ∧ ∀ i, i < n → p i = true := by simp [allS]
structure segCert (c : SCert) : Prop where
 vote : SegOk 32 c.vote.digest
 sig : ∀ i, i < c.n → SegOk 16 (c.sig i).tag
structure segHeld (h : SHeld) : Prop where
 batch : segBatch h.batch
 cert : segCert h.cert
structure segMsg (m : SMsg) : Prop where
 batch : segBatch m.batch
 vote : SegOk 32 m.vote.digest
 held : ∀ i, i < m.nheld → segHeld (m.held i)
 news : ∀ i, i < m.nnews → SegOk 16 (m.news i).tag
 digest : SegOk 32 m.digest
 cert : segCert m.cert
 sig : ∀ i, i < m.n → SegOk 16 (m.sig i).tag
theorem num63_of {n : Int} {k : Int} (h : 0 ≤ n ∧ n ≤ k) (hk : k < 9223372036854775808) : num63 n := ⟨h.1, by omega⟩
theorem reqOk_of {r : SReq} (h : mayReqS r = true) (ht : SegOk 16 r.tag) : ReqOk r ∧ r.data.size ≤ 10000 := by
 simp only [mayReqS, Bool.and_eq_true, decide_eq_true_eq, upto_iff] at h
 exact ⟨⟨num63_of h.1 (by decide), num63_of h.2.1 (by decide), by omega, ht⟩, by omega⟩
theorem batchOk_of {b : SBatch} (h : mayBatchS b = true) (ht : segBatch b) : BatchOk b := by
 simp only [mayBatchS, Bool.and_eq_true, Bool.not_eq_true', Bool.and_eq_false_iff, decide_eq_false_iff_not, allS_iff] at h
 obtain ⟨h1, h2, h3⟩ := h
 refine ⟨by omega, fun hn => ?_, fun k hk => (reqOk_of (h3 k hk) (ht k hk)).1, fun k hk => (reqOk_of (h3 k hk) (ht k hk)).2⟩
 rcases h1 with h1 | h1
 ·rw [hn] at h1; cases h1
 ·omega
theorem voteOk_of {v : SVote} (h : mayVoteS v = true) (ht : SegOk 32 v.digest) : VoteOk v := by
 simp only [mayVoteS, Bool.and_eq_true, Bool.or_eq_true, decide_eq_true_eq, upto_iff] at h
 obtain ⟨h1, h2, h3, h4⟩ := h
 exact ⟨⟨by omega, by omega⟩, num63_of h2 (by decide), num63_of h3 (by decide), num63_of h4 (by decide), ht⟩
theorem signOk_of {s : SSign} (h : maySignS s = true) (ht : SegOk 16 s.tag) : SignOk s := ⟨num63_of (upto_iff.1 h) (by decide), ht⟩
theorem certOk_of {c : SCert} (h : mayCertS c = true) (ht : segCert c) : CertOk c := by
 simp only [mayCertS, Bool.and_eq_true, allS_iff] at h
 exact ⟨voteOk_of h.1 ht.vote, by have := h.2.1; omega, fun k hk => signOk_of (h.2.2 k hk) (ht.sig k hk)⟩
theorem heldOk_of {x : SHeld} (h : mayHeldS x = true) (ht : segHeld x) : HeldOk x := by
 simp only [mayHeldS, Bool.and_eq_true] at h
 exact ⟨batchOk_of h.1 ht.batch, certOk_of h.2 ht.cert⟩
theorem envOk_of {x : SEnv} (h : mayEnvS x = true) (ht : SegOk 16 x.tag) : EnvOk x := by
 simp only [mayEnvS, Bool.and_eq_true, decide_eq_true_eq, upto_iff] at h
 exact ⟨num63_of h.1 (by decide), by have := h.2; omega, ht⟩
theorem encOk_of {m : SMsg} (h : goodS m = true) (ht : segMsg m) : EncOk m := by
 simp only [goodS, mayChangeS, Bool.and_eq_true, decide_eq_true_eq, upto_iff, allS_iff, Bool.or_eq_true, Bool.not_eq_true', decide_eq_false_iff_not] at h
 obtain ⟨h1, h2, h3, h4, h5, h6, h7, h8, h9, h10, ⟨h11, h12, h13, h14⟩, h15, h16, h17⟩ := h
 exact ⟨⟨h1, h2⟩, num63_of h6 (by decide), num63_of h9 (by decide), num63_of h8 (by decide), num63_of h7 (by decide), num63_of h11 (by decide), num63_of h12 (by decide), num63_of h13 (by decide),
  batchOk_of h10 ht.batch, fun hk => voteOk_of (h4.resolve_left (fun g => g hk)) ht.vote, by have := h14.1; omega, fun k hk => heldOk_of (h14.2 k hk) (ht.held k hk), by have := h15.1; omega, fun k hk => envOk_of (h15.2 k hk) (ht.news k hk),
  ht.digest, fun hk => certOk_of (h5.resolve_left (fun g => g hk)) ht.cert, by omega, by have := h16.1; omega, fun k hk => signOk_of (h16.2 k hk) (ht.sig k hk)⟩
def encE (m : SMsg) : Int := if goodS m = true then (if 4194304 < (encB m).length then 3 else 0) else 130
def encT (m : SMsg) : ByteArray := if encE m = 0 then baL (encB m) else ByteArray.mk (Array.mk [])
theorem T_encG {m : SMsg} (hf : FitM m) (ht : segMsg m) : T Tryz.prog 8 [.agg m.c] [] (.tup [.str (encT m), .int .i64 (encE m)]) [] := by
 have h := T_enc (m := m) (T_good hf) fun h => encOk_of h ht
 have e : encV m (goodS m) = .tup [.str (encT m), .int .i64 (encE m)] := by
  unfold encV encT encE
  cases goodS m with
  | false => rfl
  | true =>
   simp only [if_true]
   by_cases hl : 4194304 < (encB m).length
   ·simp only [if_pos hl]; rfl
   ·simp only [if_neg hl]; rfl
 rw [e] at h; exact h
theorem encV_eq (m : SMsg) : encV m (goodS m) = .tup [.str (encT m), .int .i64 (encE m)] := by
 unfold encV encT encE
 cases goodS m with
 | false => rfl
 | true =>
  simp only [if_true]
  by_cases hl : 4194304 < (encB m).length
  ·simp only [if_pos hl]; rfl
  ·simp only [if_neg hl]; rfl
theorem T_reG {m : SMsg} (hf : FitM m) (ht : segMsg m) : T Tryz.prog 9 [.agg m.c] [] (.tup [.str (encT m), .int .i64 (encE m)]) [] := by
 have h := T_re (m := m) (T_gd hf) fun h => encOk_of h ht
 rw [encV_eq] at h; exact h
theorem seg32 : SegOk 32 z32 := ⟨rfl, by decide⟩
theorem noK {p : Nat → Prop} : ∀ i, i < 0 → p i := fun i hi => absurd hi (Nat.not_lt_zero i)
end Go.Proofs.YthifjamdfpjilaaGreat
namespace Go.Proofs.YthifjamdfpjilaaGreat
open Go Sy Go.Proofs
def rec0 (k : Int) : SRec := { kind := k, cert := { vote := vote0 } }
def sameRecS (a b : SRec) : Bool := decide (a.kind = b.kind) && (decide (a.leader = b.leader) && (decide (a.view = b.view) && (decide (a.slot = b.slot) && (decide (a.state = b.state) && (sameBatchS a.batch b.batch && (voteEq a.cert.vote b.cert.vote && (sameL a.cert.n b.cert.n (fun i => signEq (a.cert.sig i) (b.cert.sig i)) && sameL a.n b.n (fun i => signEq (a.sig i) (b.sig i)))))))))
def ro1 (r : SRec) : SRec := { rec0 r.kind with slot := r.slot, view := r.view, batch := r.batch }
def ro3 (r : SRec) : SRec := { rec0 r.kind with leader := r.leader, view := r.view }
def ro5 (r : SRec) : SRec := { rec0 r.kind with state := r.state, n := r.n, sig := r.sig }
def ro2 (r : SRec) : SRec := { rec0 r.kind with batch := r.batch, cert := r.cert }
def ro9 (r : SRec) : SRec := rec0 r.kind
def onlyRS (r : SRec) : SRec := if r.kind = 1 then ro1 r else if r.kind = 3 then ro3 r else if r.kind = 5 then ro5 r else if r.kind = 2 then ro2 r else if r.kind = 4 then ro2 r else ro9 r
def to1 (r : SRec) : SMsg := { msg0 1 with slot := r.slot, batch := r.batch }
def to3 (r : SRec) : SMsg := { msg0 4 with leader := r.leader, view := r.view }
def to5 (r : SRec) : SMsg := { msg0 8 with state := r.state, n := r.n, sig := r.sig }
def to7 (r : SRec) : SMsg := { msg0 7 with batch := r.batch, cert := r.cert }
def toldS (r : SRec) : SMsg := if r.kind = 1 then to1 r else if r.kind = 3 then to3 r else if r.kind = 5 then to5 r else to7 r
def goodRS (r : SRec) : Bool := decide (1 ≤ r.kind) && (decide (r.kind ≤ 5) && (sameRecS r (onlyRS r) && (goodS (toldS r) && (decide (0 ≤ r.view) && decide (r.view ≤ 1099511627776)))))
def rsI (a b : V) (n k : Nat) : St := ⟨mkT 26 [(0, a), (1, b), (12, .int .i64 n), (13, .int .i64 k)], [], 0, []⟩
noncomputable def bdXs (n n' : Nat) (a b : Nat → SSign) (m : Nat) : Bd := { f := Tryz.f84, args := [sg n a, sg n' b], kb := { db := fun _ _ _ _ => [], lp := fun _ _ => [(True, .loop (n + 1) (wTo (rsI (sg n a) (sg n' b) n 0)) (.exit 0) (rsI (sg n a) (sg n' b) n n)), (True, .loop (m + 1) (wTo (rsI (sg n a) (sg n' b) n 0)) .ret (smF 4 26))] } }
noncomputable def pcXs (n n' : Nat) (a b : Nat → SSign) (k : Nat) : Pc := { c := cB (cB (cR (cL (cR (cR (bodyOf Tryz.f84)))))), st := rsI (sg n a) (sg n' b) n k, kb := kb0, k := fun e _ => match e with
 | .normal => some (wTo (rsI (sg n a) (sg n' b) n (k + 1)))
 | .ret => some (wTo (smF 4 26))
 | _ => some (wTo (rsI (sg n a) (sg n' b) n n)) }
def dbXS (a b : SRec) : Nat → List V → Heap → Nat → List Cl := fun k _ _ lo => match k with
 | 60 => [{ val := .bool (sameBatchS a.batch b.batch) }]
 | 84 => bif Nat.blt (lo / 64) 64 then [{ val := .bool (sameL a.cert.n b.cert.n (fun i => signEq (a.cert.sig i) (b.cert.sig i))) }] else [{ val := .bool (sameL a.n b.n (fun i => signEq (a.sig i) (b.sig i))) }]
 | _ => []
noncomputable def bdXS (a b : SRec) : Bd := { f := Tryz.f24, args := [.agg a.c, .agg b.c], kb := { db := dbXS a b } }
noncomputable def bdYS (a b : SRec) : Bd := { f := Tryz.f25, args := [.agg a.c, .agg b.c], kb := { db := dbV [(68, .bool (sameBatchS a.batch b.batch)), (70, .bool (sameCertS a.cert b.cert)), (71, .bool (sameL a.n b.n (fun i => signEq (a.sig i) (b.sig i))))] } }
def kCl (cs : List V) : Exit → St → Option W := fun _ st => match getV st.tmps 2 with
 | .ptr a _ _ _ _ => some ⟨[], [(2, .set (.ptr a 0 0 0 0))], [(a, .set (.flat cs))], none, st.next⟩
 | _ => none
noncomputable def bdRo (r o : SRec) : Bd := { f := Tryz.f82, args := [.agg r.c], kb := kb0, k := kCl o.c }
noncomputable def bdRo1 (r : SRec) : Bd := bdRo r (ro1 r)
noncomputable def bdRo3 (r : SRec) : Bd := bdRo r (ro3 r)
noncomputable def bdRo5 (r : SRec) : Bd := bdRo r (ro5 r)
noncomputable def bdRo2 (r : SRec) : Bd := bdRo r (ro2 r)
noncomputable def bdRo9 (r : SRec) : Bd := bdRo r (ro9 r)
noncomputable def bdTo (r : SRec) (o : SMsg) : Bd := { f := Tryz.f76, args := [.agg r.c], kb := kb0, k := kCl o.c }
noncomputable def bdTo1 (r : SRec) : Bd := bdTo r (to1 r)
noncomputable def bdTo3 (r : SRec) : Bd := bdTo r (to3 r)
noncomputable def bdTo5 (r : SRec) : Bd := bdTo r (to5 r)
noncomputable def bdTo7 (r : SRec) : Bd := bdTo r (to7 r)
noncomputable def bdRg (r o : SRec) (t : SMsg) : Bd := { f := Tryz.f22, args := [.agg r.c], kb := { db := dbV [(82, .agg o.c), (24, .bool (sameRecS r o)), (76, .agg t.c), (10, .bool (goodS t))] } }
end Go.Proofs.YthifjamdfpjilaaGreat
namespace Go.Proofs.YthifjamdfpjilaaGreat
open Go Sy Go.Proofs
theorem bdXs_p1 (n : Nat) (n' : Nat) (a : Nat → SSign) (b : Nat → SSign) (m : Nat) :
  along Tryz.prog (bdXs n n' a b m) [true] = (some (.bool false, [], [(!decide ((↑n : Int) = (↑n' : Int))) = true]) : Option (V × Heap × List Prop)) := by kernel_rfl
theorem bdXs_p01 (n : Nat) (n' : Nat) (a : Nat → SSign) (b : Nat → SSign) (m : Nat) :
  along Tryz.prog (bdXs n n' a b m) [false, true] = (some (.bool true, [], [(!decide ((↑n : Int) = (↑n' : Int))) = false, RLoop Tryz.prog none 0 (cB (cB (cR (cL (cR (cR (bodyOf (Bd.f (bdXs n n' a b m))))))))) (n + 1) (St.mk [.ros 17 n (fun i => SSign.c (a i)) false, .ros 17 n' (fun i => SSign.c (b i)) false, .any, .any, .any, .any, .any, .any, .any, .any, .any, .any, .int .i64 ↑n, .int .i64 0, .any, .any, .any, .any, .any, .any, .any, .any, .any, .any, .any, .any] [] 0 []) (.exit 0) (St.mk [.ros 17 n (fun i => SSign.c (a i)) false, .ros 17 n' (fun i => SSign.c (b i)) false, .any, .any, .any, .any, .any, .any, .any, .any, .any, .any, .int .i64 ↑n, .int .i64 ↑n, .any, .any, .any, .any, .any, .any, .any, .any, .any, .any, .any, .any] [] 0 []), q n, ∀ (k : Nat), k < n → SSign.c (a k) = SSign.c (a k), false = true → false = true, q (n'), ∀ (k : Nat), k < n' → SSign.c (b k) = SSign.c (b k), false = true → false = true, q (↑n : Int), q1]) : Option (V × Heap × List Prop)) := by kernel_rfl
theorem bdXs_p00 (n : Nat) (n' : Nat) (a : Nat → SSign) (b : Nat → SSign) (m : Nat) :
  along Tryz.prog (bdXs n n' a b m) [false, false] = (some (.bool false, [], [(!decide ((↑n : Int) = (↑n' : Int))) = false, RLoop Tryz.prog none 0 (cB (cB (cR (cL (cR (cR (bodyOf (Bd.f (bdXs n n' a b m))))))))) (m + 1) (St.mk [.ros 17 n (fun i => SSign.c (a i)) false, .ros 17 n' (fun i => SSign.c (b i)) false, .any, .any, .any, .any, .any, .any, .any, .any, .any, .any, .int .i64 ↑n, .int .i64 0, .any, .any, .any, .any, .any, .any, .any, .any, .any, .any, .any, .any] [] 0 []) .ret (St.mk [.any, .any, .any, .any, .bool false, .any, .any, .any, .any, .any, .any, .any, .any, .any, .any, .any, .any, .any, .any, .any, .any, .any, .any, .any, .any, .any] [] 0 []), q n, ∀ (k : Nat), k < n → SSign.c (a k) = SSign.c (a k), false = true → false = true, q (n'), ∀ (k : Nat), k < n' → SSign.c (b k) = SSign.c (b k), false = true → false = true, q (↑n : Int), q1]) : Option (V × Heap × List Prop)) := by kernel_rfl

theorem pcXs_p11 (n : Nat) (n' : Nat) (a : Nat → SSign) (b : Nat → SSign) (k : Nat) :
  alongPc Tryz.prog (pcXs n n' a b k) [true, true] = (some (.ret, St.mk [.any, .any, .any, .any, .bool false, .any, .any, .any, .any, .any, .any, .any, .any, .any, .any, .any, .any, .any, .any, .any, .any, .any, .any, .any, .any, .any] [] 0 [], [decide ((↑k : Int) < (↑n : Int)) = true, (0 : Int) ≤ (↑k : Int) ∧ (↑k : Int) < (↑n : Int), (0 : Int) ≤ (↑k : Int) ∧ (↑k : Int) < (↑n' : Int), (!(decide (SSign.node (a (Int.toNat (↑k : Int))) = SSign.node (b (Int.toNat (↑k : Int)))) && (decide (SSign.tag (a (Int.toNat (↑k : Int))) = SSign.tag (b (Int.toNat (↑k : Int)))) && true))) = true, q false]) : Option (Exit × St × List Prop)) := by kernel_rfl
theorem pcXs_p10 (n : Nat) (n' : Nat) (a : Nat → SSign) (b : Nat → SSign) (k : Nat) :
  alongPc Tryz.prog (pcXs n n' a b k) [true, false] = (some (.normal, St.mk [.ros 17 n (fun i => SSign.c (a i)) false, .ros 17 n' (fun i => SSign.c (b i)) false, .any, .any, .any, .any, .any, .any, .any, .any, .any, .any, .int .i64 ↑n, .int .i64 (↑(k + 1) : Int), .any, .any, .any, .any, .any, .any, .any, .any, .any, .any, .any, .any] [] 0 [], [decide ((↑k : Int) < (↑n : Int)) = true, (0 : Int) ≤ (↑k : Int) ∧ (↑k : Int) < (↑n : Int), (0 : Int) ≤ (↑k : Int) ∧ (↑k : Int) < (↑n' : Int), (!(decide (SSign.node (a (Int.toNat (↑k : Int))) = SSign.node (b (Int.toNat (↑k : Int)))) && (decide (SSign.tag (a (Int.toNat (↑k : Int))) = SSign.tag (b (Int.toNat (↑k : Int)))) && true))) = false, InR IntKind.i64 ((↑k : Int) + (1 : Int)), q n, ∀ (k : Nat), k < n → SSign.c (a k) = SSign.c (a k), false = true → false = true, q (n'), ∀ (k : Nat), k < n' → SSign.c (b k) = SSign.c (b k), false = true → false = true, q (↑n : Int), (↑k : Int) + (1 : Int) = (↑(k + (1 : Nat)) : Int)]) : Option (Exit × St × List Prop)) := by kernel_rfl
theorem pcXs_p0 (n : Nat) (n' : Nat) (a : Nat → SSign) (b : Nat → SSign) (k : Nat) :
  alongPc Tryz.prog (pcXs n n' a b k) [false] = (some (.exit 0, St.mk [.ros 17 n (fun i => SSign.c (a i)) false, .ros 17 n' (fun i => SSign.c (b i)) false, .any, .any, .any, .any, .any, .any, .any, .any, .any, .any, .int .i64 ↑n, .int .i64 ↑n, .any, .any, .any, .any, .any, .any, .any, .any, .any, .any, .any, .any] [] 0 [], [decide ((↑k : Int) < (↑n : Int)) = false, q n, ∀ (k : Nat), k < n → SSign.c (a k) = SSign.c (a k), false = true → false = true, q (n'), ∀ (k : Nat), k < n' → SSign.c (b k) = SSign.c (b k), false = true → false = true, q (↑n : Int), (↑k : Int) = (↑n : Int)]) : Option (Exit × St × List Prop)) := by kernel_rfl

noncomputable def bdXS_c (a : SRec) (b : SRec) : Nat → List Prop
 | 0 => [decide (SRec.state a = SRec.state b) = true, T Tryz.prog 60 [.agg [.bool (SBatch.noop (SRec.batch a)), rq (SBatch.n (SRec.batch a)) (SBatch.req (SRec.batch a))], .agg [.bool (SBatch.noop (SRec.batch b)), rq (SBatch.n (SRec.batch b)) (SBatch.req (SRec.batch b))]] [] (.bool (sameBatchS (SRec.batch a) (SRec.batch b))) []]
 | 1 => [(decide (SVote.kind (SCert.vote (SRec.cert a)) = SVote.kind (SCert.vote (SRec.cert b))) && (decide (SVote.epoch (SCert.vote (SRec.cert a)) = SVote.epoch (SCert.vote (SRec.cert b))) && (decide (SVote.view (SCert.vote (SRec.cert a)) = SVote.view (SCert.vote (SRec.cert b))) && (decide (SVote.slot (SCert.vote (SRec.cert a)) = SVote.slot (SCert.vote (SRec.cert b))) && (decide (SVote.digest (SCert.vote (SRec.cert a)) = SVote.digest (SCert.vote (SRec.cert b))) && true))))) = true, T Tryz.prog 84 [.ros 17 (SCert.n (SRec.cert a)) (fun i => SSign.c (SCert.sig (SRec.cert a) i)) false, .ros 17 (SCert.n (SRec.cert b)) (fun i => SSign.c (SCert.sig (SRec.cert b) i)) false] [] (.bool (sameL (SCert.n (SRec.cert a)) (SCert.n (SRec.cert b)) fun i => signEq (SCert.sig (SRec.cert a) i) (SCert.sig (SRec.cert b) i))) []]
 | _ => []
theorem bdXS_p11111111 (a : SRec) (b : SRec) :
 along Tryz.prog (bdXS a b) [true, true, true, true, true, true, true, true] = (some (.bool (sameL (SRec.n a) (SRec.n b) fun i => signEq (SRec.sig a i) (SRec.sig b i)), [], [decide (SRec.kind a = SRec.kind b) = true, decide (SRec.leader a = SRec.leader b) = true, decide (SRec.view a = SRec.view b) = true, decide (SRec.slot a = SRec.slot b) = true] ++ (bdXS_c a b 0 ++ ([sameBatchS (SRec.batch a) (SRec.batch b) = true] ++ (bdXS_c a b 1 ++ [(sameL (SCert.n (SRec.cert a)) (SCert.n (SRec.cert b)) fun i => signEq (SCert.sig (SRec.cert a) i) (SCert.sig (SRec.cert b) i)) = true, T Tryz.prog 84 [.ros 17 (SRec.n a) (fun i => SSign.c (SRec.sig a i)) false, .ros 17 (SRec.n b) (fun i => SSign.c (SRec.sig b i)) false] [] (.bool (sameL (SRec.n a) (SRec.n b) fun i => signEq (SRec.sig a i) (SRec.sig b i))) []])))) : Option (V × Heap × List Prop)) := by kernel_rfl
theorem bdXS_p11111110 (a : SRec) (b : SRec) :
 along Tryz.prog (bdXS a b) [true, true, true, true, true, true, true, false] = (some (.bool false, [], [decide (SRec.kind a = SRec.kind b) = true, decide (SRec.leader a = SRec.leader b) = true, decide (SRec.view a = SRec.view b) = true, decide (SRec.slot a = SRec.slot b) = true] ++ (bdXS_c a b 0 ++ ([sameBatchS (SRec.batch a) (SRec.batch b) = true] ++ (bdXS_c a b 1 ++ [(sameL (SCert.n (SRec.cert a)) (SCert.n (SRec.cert b)) fun i => signEq (SCert.sig (SRec.cert a) i) (SCert.sig (SRec.cert b) i)) = false])))) : Option (V × Heap × List Prop)) := by kernel_rfl
theorem bdXS_p11111100 (a : SRec) (b : SRec) :
 along Tryz.prog (bdXS a b) [true, true, true, true, true, true, false, false] = (some (.bool false, [], [decide (SRec.kind a = SRec.kind b) = true, decide (SRec.leader a = SRec.leader b) = true, decide (SRec.view a = SRec.view b) = true, decide (SRec.slot a = SRec.slot b) = true] ++ (bdXS_c a b 0 ++ [sameBatchS (SRec.batch a) (SRec.batch b) = true, (decide (SVote.kind (SCert.vote (SRec.cert a)) = SVote.kind (SCert.vote (SRec.cert b))) && (decide (SVote.epoch (SCert.vote (SRec.cert a)) = SVote.epoch (SCert.vote (SRec.cert b))) && (decide (SVote.view (SCert.vote (SRec.cert a)) = SVote.view (SCert.vote (SRec.cert b))) && (decide (SVote.slot (SCert.vote (SRec.cert a)) = SVote.slot (SCert.vote (SRec.cert b))) && (decide (SVote.digest (SCert.vote (SRec.cert a)) = SVote.digest (SCert.vote (SRec.cert b))) && true))))) = false, q false])) : Option (V × Heap × List Prop)) := by kernel_rfl
theorem bdXS_p11111000 (a : SRec) (b : SRec) :
 along Tryz.prog (bdXS a b) [true, true, true, true, true, false, false, false] = (some (.bool false, [], [decide (SRec.kind a = SRec.kind b) = true, decide (SRec.leader a = SRec.leader b) = true, decide (SRec.view a = SRec.view b) = true, decide (SRec.slot a = SRec.slot b) = true] ++ (bdXS_c a b 0 ++ [sameBatchS (SRec.batch a) (SRec.batch b) = false, q false, q false])) : Option (V × Heap × List Prop)) := by kernel_rfl
theorem bdXS_p11110000 (a : SRec) (b : SRec) :
 along Tryz.prog (bdXS a b) [true, true, true, true, false, false, false, false] = (some (.bool false, [], [decide (SRec.kind a = SRec.kind b) = true, decide (SRec.leader a = SRec.leader b) = true, decide (SRec.view a = SRec.view b) = true, decide (SRec.slot a = SRec.slot b) = true, decide (SRec.state a = SRec.state b) = false, q false, q false, q false]) : Option (V × Heap × List Prop)) := by kernel_rfl
theorem bdXS_p11100000 (a : SRec) (b : SRec) :
 along Tryz.prog (bdXS a b) [true, true, true, false, false, false, false, false] = (some (.bool false, [], [decide (SRec.kind a = SRec.kind b) = true, decide (SRec.leader a = SRec.leader b) = true, decide (SRec.view a = SRec.view b) = true, decide (SRec.slot a = SRec.slot b) = false, q false, q false, q false, q false]) : Option (V × Heap × List Prop)) := by kernel_rfl
theorem bdXS_p11000000 (a : SRec) (b : SRec) :
 along Tryz.prog (bdXS a b) [true, true, false, false, false, false, false, false] = (some (.bool false, [], [decide (SRec.kind a = SRec.kind b) = true, decide (SRec.leader a = SRec.leader b) = true, decide (SRec.view a = SRec.view b) = false, q false, q false, q false, q false, q false]) : Option (V × Heap × List Prop)) := by kernel_rfl
theorem bdXS_p10000000 (a : SRec) (b : SRec) :
 along Tryz.prog (bdXS a b) [true, false, false, false, false, false, false, false] = (some (.bool false, [], [decide (SRec.kind a = SRec.kind b) = true, decide (SRec.leader a = SRec.leader b) = false, q false, q false, q false, q false, q false, q false]) : Option (V × Heap × List Prop)) := by kernel_rfl
theorem bdXS_p00000000 (a : SRec) (b : SRec) :
 along Tryz.prog (bdXS a b) [false, false, false, false, false, false, false, false] = (some (.bool false, [], [decide (SRec.kind a = SRec.kind b) = false, q false, q false, q false, q false, q false, q false, q false]) : Option (V × Heap × List Prop)) := by kernel_rfl

noncomputable def bdYS_c (a : SRec) (b : SRec) : Nat → List Prop
 | 0 => [(!decide (SRec.state a = SRec.state b)) = false, T Tryz.prog 68 [.agg [.bool (SBatch.noop (SRec.batch a)), rq (SBatch.n (SRec.batch a)) (SBatch.req (SRec.batch a))], .agg [.bool (SBatch.noop (SRec.batch b)), rq (SBatch.n (SRec.batch b)) (SBatch.req (SRec.batch b))]] [] (.bool (sameBatchS (SRec.batch a) (SRec.batch b))) []]
 | 1 => [sameBatchS (SRec.batch a) (SRec.batch b) = true, T Tryz.prog 70 [.agg [.int .i64 (SVote.kind (SCert.vote (SRec.cert a))), .int .i64 (SVote.epoch (SCert.vote (SRec.cert a))), .int .i64 (SVote.view (SCert.vote (SRec.cert a))), .int .i64 (SVote.slot (SCert.vote (SRec.cert a))), .seg .u8 32 (SVote.digest (SCert.vote (SRec.cert a))), sg (SCert.n (SRec.cert a)) (SCert.sig (SRec.cert a))], .agg [.int .i64 (SVote.kind (SCert.vote (SRec.cert b))), .int .i64 (SVote.epoch (SCert.vote (SRec.cert b))), .int .i64 (SVote.view (SCert.vote (SRec.cert b))), .int .i64 (SVote.slot (SCert.vote (SRec.cert b))), .seg .u8 32 (SVote.digest (SCert.vote (SRec.cert b))), sg (SCert.n (SRec.cert b)) (SCert.sig (SRec.cert b))]] [] (.bool (sameCertS (SRec.cert a) (SRec.cert b))) []]
 | _ => []
theorem bdYS_p11111 (a : SRec) (b : SRec) :
 along Tryz.prog (bdYS a b) [true, true, true, true, true] = (some (.bool false, [], [(!decide (SRec.kind a = SRec.kind b)) = true, q2, q2, q2, q2]) : Option (V × Heap × List Prop)) := by kernel_rfl
theorem bdYS_p01111 (a : SRec) (b : SRec) :
 along Tryz.prog (bdYS a b) [false, true, true, true, true] = (some (.bool false, [], [(!decide (SRec.kind a = SRec.kind b)) = false, (!decide (SRec.leader a = SRec.leader b)) = true, q2, q2, q2]) : Option (V × Heap × List Prop)) := by kernel_rfl
theorem bdYS_p00111 (a : SRec) (b : SRec) :
 along Tryz.prog (bdYS a b) [false, false, true, true, true] = (some (.bool false, [], [(!decide (SRec.kind a = SRec.kind b)) = false, (!decide (SRec.leader a = SRec.leader b)) = false, (!decide (SRec.view a = SRec.view b)) = true, q2, q2]) : Option (V × Heap × List Prop)) := by kernel_rfl
theorem bdYS_p00011 (a : SRec) (b : SRec) :
 along Tryz.prog (bdYS a b) [false, false, false, true, true] = (some (.bool false, [], [(!decide (SRec.kind a = SRec.kind b)) = false, (!decide (SRec.leader a = SRec.leader b)) = false, (!decide (SRec.view a = SRec.view b)) = false, (!decide (SRec.slot a = SRec.slot b)) = true, q2]) : Option (V × Heap × List Prop)) := by kernel_rfl
theorem bdYS_p00001 (a : SRec) (b : SRec) :
 along Tryz.prog (bdYS a b) [false, false, false, false, true] = (some (.bool false, [], [(!decide (SRec.kind a = SRec.kind b)) = false, (!decide (SRec.leader a = SRec.leader b)) = false, (!decide (SRec.view a = SRec.view b)) = false, (!decide (SRec.slot a = SRec.slot b)) = false, (!decide (SRec.state a = SRec.state b)) = true]) : Option (V × Heap × List Prop)) := by kernel_rfl
theorem bdYS_p0000011 (a : SRec) (b : SRec) :
 along Tryz.prog (bdYS a b) [false, false, false, false, false, true, true] = (some (.bool (sameL (SRec.n a) (SRec.n b) fun i => signEq (SRec.sig a i) (SRec.sig b i)), [], [(!decide (SRec.kind a = SRec.kind b)) = false, (!decide (SRec.leader a = SRec.leader b)) = false, (!decide (SRec.view a = SRec.view b)) = false, (!decide (SRec.slot a = SRec.slot b)) = false] ++ (bdYS_c a b 0 ++ (bdYS_c a b 1 ++ [sameCertS (SRec.cert a) (SRec.cert b) = true, T Tryz.prog 71 [.ros 17 (SRec.n a) (fun i => SSign.c (SRec.sig a i)) false, .ros 17 (SRec.n b) (fun i => SSign.c (SRec.sig b i)) false] [] (.bool (sameL (SRec.n a) (SRec.n b) fun i => signEq (SRec.sig a i) (SRec.sig b i))) []]))) : Option (V × Heap × List Prop)) := by kernel_rfl
theorem bdYS_p0000010 (a : SRec) (b : SRec) :
 along Tryz.prog (bdYS a b) [false, false, false, false, false, true, false] = (some (.bool false, [], [(!decide (SRec.kind a = SRec.kind b)) = false, (!decide (SRec.leader a = SRec.leader b)) = false, (!decide (SRec.view a = SRec.view b)) = false, (!decide (SRec.slot a = SRec.slot b)) = false] ++ (bdYS_c a b 0 ++ (bdYS_c a b 1 ++ [sameCertS (SRec.cert a) (SRec.cert b) = false]))) : Option (V × Heap × List Prop)) := by kernel_rfl
theorem bdYS_p0000000 (a : SRec) (b : SRec) :
 along Tryz.prog (bdYS a b) [false, false, false, false, false, false, false] = (some (.bool false, [], [(!decide (SRec.kind a = SRec.kind b)) = false, (!decide (SRec.leader a = SRec.leader b)) = false, (!decide (SRec.view a = SRec.view b)) = false, (!decide (SRec.slot a = SRec.slot b)) = false] ++ (bdYS_c a b 0 ++ [sameBatchS (SRec.batch a) (SRec.batch b) = false, q false])) : Option (V × Heap × List Prop)) := by kernel_rfl

theorem bdRo1_p1 (r : SRec) :
  along Tryz.prog (bdRo1 r) [true] = (some (.agg [.int .i64 (SRec.kind r), .int .i64 0, .int .i64 (SRec.view r), .int .i64 (SRec.slot r), .bool (SBatch.noop (SRec.batch r)), rq (SBatch.n (SRec.batch r)) (SBatch.req (SRec.batch r)), .int .i64 0, .int .i64 0, .int .i64 0, .int .i64 0, .seg .u8 32 z32, sg 0 fun x => SSign.mk (0 : Int) [], .str ByteArray.empty, sg 0 fun x => SSign.mk (0 : Int) []], [], [decide (SRec.kind r = (1 : Int)) = true, q (SRec.kind r), q1, q (SRec.view r), q (SRec.slot r), q (SBatch.noop (SRec.batch r)), q (SBatch.n (SRec.batch r)), ∀ (k : Nat), k < SBatch.n (SRec.batch r) → SReq.c (SBatch.req (SRec.batch r) k) = SReq.c (SBatch.req (SRec.batch r) k), false = true → false = true, q1, q1, q1, q1, q (32 : Nat), q z32, q0, q ByteArray.empty, q0, q0, q0, q0]) : Option (V × Heap × List Prop)) := by kernel_rfl

theorem bdRo3_p01 (r : SRec) :
  along Tryz.prog (bdRo3 r) [false, true] = (some (.agg [.int .i64 (SRec.kind r), .int .i64 (SRec.leader r), .int .i64 (SRec.view r), .int .i64 0, .bool false, rq 0 fun x => SReq.mk (0 : Int) (0 : Int) ByteArray.empty [], .int .i64 0, .int .i64 0, .int .i64 0, .int .i64 0, .seg .u8 32 z32, sg 0 fun x => SSign.mk (0 : Int) [], .str ByteArray.empty, sg 0 fun x => SSign.mk (0 : Int) []], [], [decide (SRec.kind r = (1 : Int)) = false, decide (SRec.kind r = (3 : Int)) = true, q (SRec.kind r), q (SRec.leader r), q (SRec.view r), q1, q false, q0, q1, q1, q1, q1, q (32 : Nat), q z32, q0, q ByteArray.empty, q0, q0, q0, q0]) : Option (V × Heap × List Prop)) := by kernel_rfl

theorem bdRo5_p001 (r : SRec) :
  along Tryz.prog (bdRo5 r) [false, false, true] = (some (.agg [.int .i64 (SRec.kind r), .int .i64 0, .int .i64 0, .int .i64 0, .bool false, rq 0 fun x => SReq.mk (0 : Int) (0 : Int) ByteArray.empty [], .int .i64 0, .int .i64 0, .int .i64 0, .int .i64 0, .seg .u8 32 z32, sg 0 fun x => SSign.mk (0 : Int) [], .str (SRec.state r), sg (SRec.n r) (SRec.sig r)], [], [decide (SRec.kind r = (1 : Int)) = false, decide (SRec.kind r = (3 : Int)) = false, decide (SRec.kind r = (5 : Int)) = true, q (SRec.kind r), q1, q1, q1, q false, q0, q1, q1, q1, q1, q (32 : Nat), q z32, q0, q (SRec.state r), q (SRec.n r), ∀ (k : Nat), k < SRec.n r → SSign.c (SRec.sig r k) = SSign.c (SRec.sig (SRec.mk (SRec.kind r) (0 : Int) (0 : Int) (0 : Int) (SBatch.mk false (0 : Nat) fun x => SReq.mk (0 : Int) (0 : Int) ByteArray.empty []) (SCert.mk vote0 (0 : Nat) fun x => SSign.mk (0 : Int) []) (SRec.state r) (SRec.n r) (SRec.sig r)) k), false = true → false = true, q0, q0, q0]) : Option (V × Heap × List Prop)) := by kernel_rfl

theorem bdRo2_p0001 (r : SRec) :
  along Tryz.prog (bdRo2 r) [false, false, false, true] = (some (.agg [.int .i64 (SRec.kind r), .int .i64 0, .int .i64 0, .int .i64 0, .bool (SBatch.noop (SRec.batch r)), rq (SBatch.n (SRec.batch r)) (SBatch.req (SRec.batch r)), .int .i64 (SVote.kind (SCert.vote (SRec.cert r))), .int .i64 (SVote.epoch (SCert.vote (SRec.cert r))), .int .i64 (SVote.view (SCert.vote (SRec.cert r))), .int .i64 (SVote.slot (SCert.vote (SRec.cert r))), .seg .u8 32 (SVote.digest (SCert.vote (SRec.cert r))), sg (SCert.n (SRec.cert r)) (SCert.sig (SRec.cert r)), .str ByteArray.empty, sg 0 fun x => SSign.mk (0 : Int) []], [], [decide (SRec.kind r = (1 : Int)) = false, decide (SRec.kind r = (3 : Int)) = false, decide (SRec.kind r = (5 : Int)) = false, decide (SRec.kind r = (2 : Int)) = true, q (SRec.kind r), q1, q1, q1, q (SBatch.noop (SRec.batch r)), q (SBatch.n (SRec.batch r)), ∀ (k : Nat), k < SBatch.n (SRec.batch r) → SReq.c (SBatch.req (SRec.batch r) k) = SReq.c (SBatch.req (SRec.batch r) k), false = true → false = true, q (SVote.kind (SCert.vote (SRec.cert r))), q (SVote.epoch (SCert.vote (SRec.cert r))), q (SVote.view (SCert.vote (SRec.cert r))), q (SVote.slot (SCert.vote (SRec.cert r))), q (32 : Nat), q (SVote.digest (SCert.vote (SRec.cert r))), q (SCert.n (SRec.cert r)), ∀ (k : Nat), k < SCert.n (SRec.cert r) → SSign.c (SCert.sig (SRec.cert r) k) = SSign.c (SCert.sig (SRec.cert r) k), false = true → false = true, q ByteArray.empty, q0, q0, q0, q0]) : Option (V × Heap × List Prop)) := by kernel_rfl

theorem bdRo2_p00001 (r : SRec) :
  along Tryz.prog (bdRo2 r) [false, false, false, false, true] = (some (.agg [.int .i64 (SRec.kind r), .int .i64 0, .int .i64 0, .int .i64 0, .bool (SBatch.noop (SRec.batch r)), rq (SBatch.n (SRec.batch r)) (SBatch.req (SRec.batch r)), .int .i64 (SVote.kind (SCert.vote (SRec.cert r))), .int .i64 (SVote.epoch (SCert.vote (SRec.cert r))), .int .i64 (SVote.view (SCert.vote (SRec.cert r))), .int .i64 (SVote.slot (SCert.vote (SRec.cert r))), .seg .u8 32 (SVote.digest (SCert.vote (SRec.cert r))), sg (SCert.n (SRec.cert r)) (SCert.sig (SRec.cert r)), .str ByteArray.empty, sg 0 fun x => SSign.mk (0 : Int) []], [], [decide (SRec.kind r = (1 : Int)) = false, decide (SRec.kind r = (3 : Int)) = false, decide (SRec.kind r = (5 : Int)) = false, decide (SRec.kind r = (2 : Int)) = false, decide (SRec.kind r = (4 : Int)) = true, q (SRec.kind r), q1, q1, q1, q (SBatch.noop (SRec.batch r)), q (SBatch.n (SRec.batch r)), ∀ (k : Nat), k < SBatch.n (SRec.batch r) → SReq.c (SBatch.req (SRec.batch r) k) = SReq.c (SBatch.req (SRec.batch r) k), false = true → false = true, q (SVote.kind (SCert.vote (SRec.cert r))), q (SVote.epoch (SCert.vote (SRec.cert r))), q (SVote.view (SCert.vote (SRec.cert r))), q (SVote.slot (SCert.vote (SRec.cert r))), q (32 : Nat), q (SVote.digest (SCert.vote (SRec.cert r))), q (SCert.n (SRec.cert r)), ∀ (k : Nat), k < SCert.n (SRec.cert r) → SSign.c (SCert.sig (SRec.cert r) k) = SSign.c (SCert.sig (SRec.cert r) k), false = true → false = true, q ByteArray.empty, q0, q0, q0, q0]) : Option (V × Heap × List Prop)) := by kernel_rfl

theorem bdRo9_p00000 (r : SRec) :
  along Tryz.prog (bdRo9 r) [false, false, false, false, false] = (some (.agg [.int .i64 (SRec.kind r), .int .i64 0, .int .i64 0, .int .i64 0, .bool false, rq 0 fun x => SReq.mk (0 : Int) (0 : Int) ByteArray.empty [], .int .i64 0, .int .i64 0, .int .i64 0, .int .i64 0, .seg .u8 32 z32, sg 0 fun x => SSign.mk (0 : Int) [], .str ByteArray.empty, sg 0 fun x => SSign.mk (0 : Int) []], [], [decide (SRec.kind r = (1 : Int)) = false, decide (SRec.kind r = (3 : Int)) = false, decide (SRec.kind r = (5 : Int)) = false, decide (SRec.kind r = (2 : Int)) = false, decide (SRec.kind r = (4 : Int)) = false, q (SRec.kind r), q1, q1, q1, q false, q0, q1, q1, q1, q1, q (32 : Nat), q z32, q0, q ByteArray.empty, q0, q0, q0, q0]) : Option (V × Heap × List Prop)) := by kernel_rfl

theorem bdTo1_p1 (r : SRec) :
  along Tryz.prog (bdTo1 r) [true] = (some (.agg [.int .i64 1, .int .i64 0, .int .i64 0, .int .i64 0, .int .i64 (SRec.slot r), .bool (SBatch.noop (SRec.batch r)), rq (SBatch.n (SRec.batch r)) (SBatch.req (SRec.batch r)), .int .i64 0, .int .i64 0, .int .i64 0, .int .i64 0, .seg .u8 32 z32, .int .i64 0, .int .i64 0, .int .i64 0, hl 0 fun x => SHeld.mk (SBatch.mk false 0 fun x => SReq.mk (0 : Int) (0 : Int) ByteArray.empty []) (SCert.mk (SVote.mk (0 : Int) (0 : Int) (0 : Int) (0 : Int) []) 0 fun x => SSign.mk (0 : Int) []), nw 0 fun x => SEnv.mk (0 : Int) ByteArray.empty [], .seg .u8 32 z32, .int .i64 0, .int .i64 0, .int .i64 0, .int .i64 0, .seg .u8 32 z32, sg 0 fun x => SSign.mk (0 : Int) [], .str ByteArray.empty, sg 0 fun x => SSign.mk (0 : Int) []], [], [decide (SRec.kind r = (1 : Int)) = true, q (1 : Int), q1, q1, q1, q (SRec.slot r), q (SBatch.noop (SRec.batch r)), q (SBatch.n (SRec.batch r)), ∀ (k : Nat), k < SBatch.n (SRec.batch r) → SReq.c (SBatch.req (SRec.batch r) k) = SReq.c (SBatch.req (SRec.batch r) k), false = true → false = true, q1, q1, q1, q1, q (32 : Nat), q z32, q1, q1, q1, q0, q0, q (32 : Nat), q z32, q1, q1, q1, q1, q (32 : Nat), q z32, q0, q ByteArray.empty, q0, q0, q0, q0]) : Option (V × Heap × List Prop)) := by kernel_rfl

theorem bdTo3_p01 (r : SRec) :
  along Tryz.prog (bdTo3 r) [false, true] = (some (.agg [.int .i64 4, .int .i64 0, .int .i64 (SRec.leader r), .int .i64 (SRec.view r), .int .i64 0, .bool false, rq 0 fun x => SReq.mk (0 : Int) (0 : Int) ByteArray.empty [], .int .i64 0, .int .i64 0, .int .i64 0, .int .i64 0, .seg .u8 32 z32, .int .i64 0, .int .i64 0, .int .i64 0, hl 0 fun x => SHeld.mk (SBatch.mk false 0 fun x => SReq.mk (0 : Int) (0 : Int) ByteArray.empty []) (SCert.mk (SVote.mk (0 : Int) (0 : Int) (0 : Int) (0 : Int) []) 0 fun x => SSign.mk (0 : Int) []), nw 0 fun x => SEnv.mk (0 : Int) ByteArray.empty [], .seg .u8 32 z32, .int .i64 0, .int .i64 0, .int .i64 0, .int .i64 0, .seg .u8 32 z32, sg 0 fun x => SSign.mk (0 : Int) [], .str ByteArray.empty, sg 0 fun x => SSign.mk (0 : Int) []], [], [decide (SRec.kind r = (1 : Int)) = false, decide (SRec.kind r = (3 : Int)) = true, q (4 : Int), q1, q (SRec.leader r), q (SRec.view r), q1, q false, q0, q1, q1, q1, q1, q (32 : Nat), q z32, q1, q1, q1, q0, q0, q (32 : Nat), q z32, q1, q1, q1, q1, q (32 : Nat), q z32, q0, q ByteArray.empty, q0, q0, q0, q0]) : Option (V × Heap × List Prop)) := by kernel_rfl

theorem bdTo5_p001 (r : SRec) :
  along Tryz.prog (bdTo5 r) [false, false, true] = (some (.agg [.int .i64 8, .int .i64 0, .int .i64 0, .int .i64 0, .int .i64 0, .bool false, rq 0 fun x => SReq.mk (0 : Int) (0 : Int) ByteArray.empty [], .int .i64 0, .int .i64 0, .int .i64 0, .int .i64 0, .seg .u8 32 z32, .int .i64 0, .int .i64 0, .int .i64 0, hl 0 fun x => SHeld.mk (SBatch.mk false 0 fun x => SReq.mk (0 : Int) (0 : Int) ByteArray.empty []) (SCert.mk (SVote.mk (0 : Int) (0 : Int) (0 : Int) (0 : Int) []) 0 fun x => SSign.mk (0 : Int) []), nw 0 fun x => SEnv.mk (0 : Int) ByteArray.empty [], .seg .u8 32 z32, .int .i64 0, .int .i64 0, .int .i64 0, .int .i64 0, .seg .u8 32 z32, sg 0 fun x => SSign.mk (0 : Int) [], .str (SRec.state r), sg (SRec.n r) (SRec.sig r)], [], [decide (SRec.kind r = (1 : Int)) = false, decide (SRec.kind r = (3 : Int)) = false, decide (SRec.kind r = (5 : Int)) = true, q (8 : Int), q1, q1, q1, q1, q false, q0, q1, q1, q1, q1, q (32 : Nat), q z32, q1, q1, q1, q0, q0, q (32 : Nat), q z32, q1, q1, q1, q1, q (32 : Nat), q z32, q0, q (SRec.state r), q (SRec.n r), ∀ (k : Nat), k < SRec.n r → SSign.c (SRec.sig r k) = SSign.c (SMsg.sig (SMsg.mk (8 : Int) (0 : Int) (0 : Int) (0 : Int) (0 : Int) (SBatch.mk false (0 : Nat) fun x => SReq.mk (0 : Int) (0 : Int) ByteArray.empty []) vote0 (0 : Int) (0 : Int) (0 : Int) (0 : Nat) (fun x => SHeld.mk (SBatch.mk false (0 : Nat) fun x => SReq.mk (0 : Int) (0 : Int) ByteArray.empty []) (SCert.mk (SVote.mk (0 : Int) (0 : Int) (0 : Int) (0 : Int) []) (0 : Nat) fun x => SSign.mk (0 : Int) [])) (0 : Nat) (fun x => SEnv.mk (0 : Int) ByteArray.empty []) z32 (SCert.mk vote0 (0 : Nat) fun x => SSign.mk (0 : Int) []) (SRec.state r) (SRec.n r) (SRec.sig r)) k), false = true → false = true, q0, q0, q0]) : Option (V × Heap × List Prop)) := by kernel_rfl

theorem bdTo7_p000 (r : SRec) :
  along Tryz.prog (bdTo7 r) [false, false, false] = (some (.agg [.int .i64 7, .int .i64 0, .int .i64 0, .int .i64 0, .int .i64 0, .bool (SBatch.noop (SRec.batch r)), rq (SBatch.n (SRec.batch r)) (SBatch.req (SRec.batch r)), .int .i64 0, .int .i64 0, .int .i64 0, .int .i64 0, .seg .u8 32 z32, .int .i64 0, .int .i64 0, .int .i64 0, hl 0 fun x => SHeld.mk (SBatch.mk false 0 fun x => SReq.mk (0 : Int) (0 : Int) ByteArray.empty []) (SCert.mk (SVote.mk (0 : Int) (0 : Int) (0 : Int) (0 : Int) []) 0 fun x => SSign.mk (0 : Int) []), nw 0 fun x => SEnv.mk (0 : Int) ByteArray.empty [], .seg .u8 32 z32, .int .i64 (SVote.kind (SCert.vote (SRec.cert r))), .int .i64 (SVote.epoch (SCert.vote (SRec.cert r))), .int .i64 (SVote.view (SCert.vote (SRec.cert r))), .int .i64 (SVote.slot (SCert.vote (SRec.cert r))), .seg .u8 32 (SVote.digest (SCert.vote (SRec.cert r))), sg (SCert.n (SRec.cert r)) (SCert.sig (SRec.cert r)), .str ByteArray.empty, sg 0 fun x => SSign.mk (0 : Int) []], [], [decide (SRec.kind r = (1 : Int)) = false, decide (SRec.kind r = (3 : Int)) = false, decide (SRec.kind r = (5 : Int)) = false, q (7 : Int), q1, q1, q1, q1, q (SBatch.noop (SRec.batch r)), q (SBatch.n (SRec.batch r)), ∀ (k : Nat), k < SBatch.n (SRec.batch r) → SReq.c (SBatch.req (SRec.batch r) k) = SReq.c (SBatch.req (SRec.batch r) k), false = true → false = true, q1, q1, q1, q1, q (32 : Nat), q z32, q1, q1, q1, q0, q0, q (32 : Nat), q z32, q (SVote.kind (SCert.vote (SRec.cert r))), q (SVote.epoch (SCert.vote (SRec.cert r))), q (SVote.view (SCert.vote (SRec.cert r))), q (SVote.slot (SCert.vote (SRec.cert r))), q (32 : Nat), q (SVote.digest (SCert.vote (SRec.cert r))), q (SCert.n (SRec.cert r)), ∀ (k : Nat), k < SCert.n (SRec.cert r) → SSign.c (SCert.sig (SRec.cert r) k) = SSign.c (SCert.sig (SRec.cert r) k), false = true → false = true, q ByteArray.empty, q0, q0, q0, q0]) : Option (V × Heap × List Prop)) := by kernel_rfl

noncomputable def bdRg_c (r : SRec) (o : SRec) (t : SMsg) : Nat → List Prop
 | 0 => [decide (SRec.kind r ≤ (5 : Int)) = true, T Tryz.prog 82 [.agg (SRec.c r)] [] (.agg (SRec.c o)) [], T Tryz.prog 24 [.agg (SRec.c r), .agg (SRec.c o)] [] (.bool (sameRecS r o)) []]
 | 1 => [sameRecS r o = true, T Tryz.prog 76 [.agg (SRec.c r)] [] (.agg (SMsg.c t)) [], T Tryz.prog 10 [.agg (SMsg.c t)] [] (.bool (goodS t)) []]
 | _ => []
theorem bdRg_p11111 (r : SRec) (o : SRec) (t : SMsg) :
 along Tryz.prog (bdRg r o t) [true, true, true, true, true] = (some (.bool (decide (SRec.view r ≤ (1099511627776 : Int))), [], [decide ((1 : Int) ≤ SRec.kind r) = true] ++ (bdRg_c r o t 0 ++ (bdRg_c r o t 1 ++ [goodS t = true, decide ((0 : Int) ≤ SRec.view r) = true]))) : Option (V × Heap × List Prop)) := by kernel_rfl
theorem bdRg_p11110 (r : SRec) (o : SRec) (t : SMsg) :
 along Tryz.prog (bdRg r o t) [true, true, true, true, false] = (some (.bool false, [], [decide ((1 : Int) ≤ SRec.kind r) = true] ++ (bdRg_c r o t 0 ++ (bdRg_c r o t 1 ++ [goodS t = true, decide ((0 : Int) ≤ SRec.view r) = false]))) : Option (V × Heap × List Prop)) := by kernel_rfl
theorem bdRg_p11100 (r : SRec) (o : SRec) (t : SMsg) :
 along Tryz.prog (bdRg r o t) [true, true, true, false, false] = (some (.bool false, [], [decide ((1 : Int) ≤ SRec.kind r) = true] ++ (bdRg_c r o t 0 ++ (bdRg_c r o t 1 ++ [goodS t = false, q false]))) : Option (V × Heap × List Prop)) := by kernel_rfl
theorem bdRg_p11000 (r : SRec) (o : SRec) (t : SMsg) :
 along Tryz.prog (bdRg r o t) [true, true, false, false, false] = (some (.bool false, [], [decide ((1 : Int) ≤ SRec.kind r) = true] ++ (bdRg_c r o t 0 ++ [sameRecS r o = false, q false, q false])) : Option (V × Heap × List Prop)) := by kernel_rfl
theorem bdRg_p10000 (r : SRec) (o : SRec) (t : SMsg) :
 along Tryz.prog (bdRg r o t) [true, false, false, false, false] = (some (.bool false, [], [decide ((1 : Int) ≤ SRec.kind r) = true, decide (SRec.kind r ≤ (5 : Int)) = false, q false, q false, q false]) : Option (V × Heap × List Prop)) := by kernel_rfl
theorem bdRg_p00000 (r : SRec) (o : SRec) (t : SMsg) :
 along Tryz.prog (bdRg r o t) [false, false, false, false, false] = (some (.bool false, [], [decide ((1 : Int) ≤ SRec.kind r) = false, q false, q false, q false, q false]) : Option (V × Heap × List Prop)) := by kernel_rfl

theorem T_xs {n n' : Nat} (a b : Nat → SSign) (hn : n ≤ 1000000) : T Tryz.prog 84 [sg n a, sg n' b] [] (.bool (sameL n n' (fun i => signEq (a i) (b i)))) [] := by
 by_cases hnn : n = n'
 ·subst hnn
  rcases loop_all (P := Tryz.prog) (ro := none) (p := 0) (c := cB (cB (cR (cL (cR (cR (bodyOf Tryz.f84))))))) (I := rsI (sg n a) (sg n b) n) (F := fun _ => smF 4 26) (e := fun _ => .ret) (q := fun k => signEq (a k) (b k) = true) (n := n)
   (fun k hk hq => by
    refine R_alongPc NG MO _ (pcXs_p10 n n a b k) ?_ (Nat.zero_le _)
    simp only [All, All_append, bdXS_c, bdYS_c, bdRg_c, Int.toNat_natCast]; and_intros
    all_goals first
     | exact neg_t hq
     | (simp [hk, IntKind.min, IntKind.max, IntKind.signed, IntKind.bits] <;> omega))
   (fun k hk hq => by
    refine R_alongPc NG MO _ (pcXs_p11 n n a b k) ?_ (Nat.zero_le _)
    simp only [All, All_append, bdXS_c, bdYS_c, bdRg_c, Int.toNat_natCast]; and_intros
    all_goals first
     | exact neg_f hq
     | (simp [hk, IntKind.min, IntKind.max, IntKind.signed, IntKind.bits] <;> omega))
   (by simp) (R_alongPc NG MO _ (pcXs_p0 n n a b n) (by simp [All, All_append, bdXS_c, bdYS_c, bdRg_c]) (Nat.zero_le _)) (by simp) with ⟨h, hL⟩ | ⟨m, hm, _, hq, hL⟩
  ·refine T.bool (T_al (bdXs_p01 n n a b n) Tryz.func84 ⟨by simp, hL, ?_⟩) (by simp [sameL]; exact h)
   simp [All, All_append, bdXS_c, bdYS_c, bdRg_c]
  ·refine T.bool (T_al (bdXs_p00 n n a b m) Tryz.func84 ⟨by simp, hL, ?_⟩) (by
    have : ¬ ∀ i, i < n → signEq (a i) (b i) = true := fun h => hq (h m hm)
    simp only [sameL, this, decide_false, Bool.and_false])
   simp [All, All_append, bdXS_c, bdYS_c, bdRg_c]
 ·exact T.bool (T_al (bdXs_p1 n n' a b 0) Tryz.func84 ⟨by simp <;> omega, trivial⟩) (by simp [sameL, hnn])
structure FitRec (a : SRec) : Prop where
 batch : a.batch.n ≤ 1000000
 cert : a.cert.n ≤ 1000000
 n : a.n ≤ 1000000
theorem T_xS (a b : SRec) (h : FitRec a) : T Tryz.prog 24 [.agg a.c, .agg b.c] [] (.bool (sameRecS a b)) [] := by
 rcases Bool.eq_false_or_eq_true (decide (SRec.kind a = SRec.kind b)) with h1 | h1
 ·
  rcases Bool.eq_false_or_eq_true (decide (SRec.leader a = SRec.leader b)) with h2 | h2
  ·
   rcases Bool.eq_false_or_eq_true (decide (SRec.view a = SRec.view b)) with h3 | h3
   ·
    rcases Bool.eq_false_or_eq_true (decide (SRec.slot a = SRec.slot b)) with h4 | h4
    ·
     rcases Bool.eq_false_or_eq_true (decide (SRec.state a = SRec.state b)) with h5 | h5
     ·
      rcases Bool.eq_false_or_eq_true (sameBatchS (SRec.batch a) (SRec.batch b)) with h6 | h6
      ·
       rcases Bool.eq_false_or_eq_true ((decide (SVote.kind (SCert.vote (SRec.cert a)) = SVote.kind (SCert.vote (SRec.cert b))) && (decide (SVote.epoch (SCert.vote (SRec.cert a)) = SVote.epoch (SCert.vote (SRec.cert b))) && (decide (SVote.view (SCert.vote (SRec.cert a)) = SVote.view (SCert.vote (SRec.cert b))) && (decide (SVote.slot (SCert.vote (SRec.cert a)) = SVote.slot (SCert.vote (SRec.cert b))) && (decide (SVote.digest (SCert.vote (SRec.cert a)) = SVote.digest (SCert.vote (SRec.cert b))) && true)))))) with h7 | h7
       ·
        rcases Bool.eq_false_or_eq_true ((sameL (SCert.n (SRec.cert a)) (SCert.n (SRec.cert b)) fun i => signEq (SCert.sig (SRec.cert a) i) (SCert.sig (SRec.cert b) i))) with h8 | h8
        ·
         refine T.conv (T_al (bdXS_p11111111 a b) Tryz.func24 ?_) rfl rfl ?_ ?_
         ·simp only [All, All_append, bdXS_c, bdYS_c, bdRg_c]; and_intros
          all_goals first
           | assumption
           | exact T_bS a.batch b.batch h.batch
           | exact T_xs a.cert.sig b.cert.sig h.cert
           | exact T_xs a.sig b.sig h.n
           | trivial
           | rfl
           | (intro _ _; trivial)
           | (intro _ _; rfl)
           | (simp; done)
           | omega
         ·first | replace h1 := not_t h1 | replace h1 := not_f h1 | skip
          first | replace h2 := not_t h2 | replace h2 := not_f h2 | skip
          first | replace h3 := not_t h3 | replace h3 := not_f h3 | skip
          first | replace h4 := not_t h4 | replace h4 := not_f h4 | skip
          first | replace h5 := not_t h5 | replace h5 := not_f h5 | skip
          first | replace h6 := not_t h6 | replace h6 := not_f h6 | skip
          first | replace h7 := not_t h7 | replace h7 := not_f h7 | skip
          first | replace h8 := not_t h8 | replace h8 := not_f h8 | skip
          first | rfl | (congr 1; simp only [sameRecS, voteEq, h1, h2, h3, h4, h5, h6, h7, h8, Bool.true_and, Bool.false_and, Bool.and_false]; done)
         ·rfl
        ·
         refine T.conv (T_al (bdXS_p11111110 a b) Tryz.func24 ?_) rfl rfl ?_ ?_
         ·simp only [All, All_append, bdXS_c, bdYS_c, bdRg_c]; and_intros
          all_goals first
           | assumption
           | exact T_bS a.batch b.batch h.batch
           | exact T_xs a.cert.sig b.cert.sig h.cert
           | exact T_xs a.sig b.sig h.n
           | trivial
           | rfl
           | (intro _ _; trivial)
           | (intro _ _; rfl)
           | (simp; done)
           | omega
         ·first | replace h1 := not_t h1 | replace h1 := not_f h1 | skip
          first | replace h2 := not_t h2 | replace h2 := not_f h2 | skip
          first | replace h3 := not_t h3 | replace h3 := not_f h3 | skip
          first | replace h4 := not_t h4 | replace h4 := not_f h4 | skip
          first | replace h5 := not_t h5 | replace h5 := not_f h5 | skip
          first | replace h6 := not_t h6 | replace h6 := not_f h6 | skip
          first | replace h7 := not_t h7 | replace h7 := not_f h7 | skip
          first | replace h8 := not_t h8 | replace h8 := not_f h8 | skip
          first | rfl | (congr 1; simp only [sameRecS, voteEq, h1, h2, h3, h4, h5, h6, h7, h8, Bool.true_and, Bool.false_and, Bool.and_false]; done)
         ·rfl
       ·
        refine T.conv (T_al (bdXS_p11111100 a b) Tryz.func24 ?_) rfl rfl ?_ ?_
        ·simp only [All, All_append, bdXS_c, bdYS_c, bdRg_c]; and_intros
         all_goals first
          | assumption
          | exact T_bS a.batch b.batch h.batch
          | exact T_xs a.cert.sig b.cert.sig h.cert
          | exact T_xs a.sig b.sig h.n
          | trivial
          | rfl
          | (intro _ _; trivial)
          | (intro _ _; rfl)
          | (simp; done)
          | omega
        ·first | replace h1 := not_t h1 | replace h1 := not_f h1 | skip
         first | replace h2 := not_t h2 | replace h2 := not_f h2 | skip
         first | replace h3 := not_t h3 | replace h3 := not_f h3 | skip
         first | replace h4 := not_t h4 | replace h4 := not_f h4 | skip
         first | replace h5 := not_t h5 | replace h5 := not_f h5 | skip
         first | replace h6 := not_t h6 | replace h6 := not_f h6 | skip
         first | replace h7 := not_t h7 | replace h7 := not_f h7 | skip
         first | rfl | (congr 1; simp only [sameRecS, voteEq, h1, h2, h3, h4, h5, h6, h7, Bool.true_and, Bool.false_and, Bool.and_false]; done)
        ·rfl
      ·
       refine T.conv (T_al (bdXS_p11111000 a b) Tryz.func24 ?_) rfl rfl ?_ ?_
       ·simp only [All, All_append, bdXS_c, bdYS_c, bdRg_c]; and_intros
        all_goals first
         | assumption
         | exact T_bS a.batch b.batch h.batch
         | exact T_xs a.cert.sig b.cert.sig h.cert
         | exact T_xs a.sig b.sig h.n
         | trivial
         | rfl
         | (intro _ _; trivial)
         | (intro _ _; rfl)
         | (simp; done)
         | omega
       ·first | replace h1 := not_t h1 | replace h1 := not_f h1 | skip
        first | replace h2 := not_t h2 | replace h2 := not_f h2 | skip
        first | replace h3 := not_t h3 | replace h3 := not_f h3 | skip
        first | replace h4 := not_t h4 | replace h4 := not_f h4 | skip
        first | replace h5 := not_t h5 | replace h5 := not_f h5 | skip
        first | replace h6 := not_t h6 | replace h6 := not_f h6 | skip
        first | rfl | (congr 1; simp only [sameRecS, voteEq, h1, h2, h3, h4, h5, h6, Bool.true_and, Bool.false_and, Bool.and_false]; done)
       ·rfl
     ·
      refine T.conv (T_al (bdXS_p11110000 a b) Tryz.func24 ?_) rfl rfl ?_ ?_
      ·simp only [All, All_append, bdXS_c, bdYS_c, bdRg_c]; and_intros
       all_goals first
        | assumption
        | exact T_bS a.batch b.batch h.batch
        | exact T_xs a.cert.sig b.cert.sig h.cert
        | exact T_xs a.sig b.sig h.n
        | trivial
        | rfl
        | (intro _ _; trivial)
        | (intro _ _; rfl)
        | (simp; done)
        | omega
      ·first | replace h1 := not_t h1 | replace h1 := not_f h1 | skip
       first | replace h2 := not_t h2 | replace h2 := not_f h2 | skip
       first | replace h3 := not_t h3 | replace h3 := not_f h3 | skip
       first | replace h4 := not_t h4 | replace h4 := not_f h4 | skip
       first | replace h5 := not_t h5 | replace h5 := not_f h5 | skip
       first | rfl | (congr 1; simp only [sameRecS, voteEq, h1, h2, h3, h4, h5, Bool.true_and, Bool.false_and, Bool.and_false]; done)
      ·rfl
    ·
     refine T.conv (T_al (bdXS_p11100000 a b) Tryz.func24 ?_) rfl rfl ?_ ?_
     ·simp only [All, All_append, bdXS_c, bdYS_c, bdRg_c]; and_intros
      all_goals first
       | assumption
       | exact T_bS a.batch b.batch h.batch
       | exact T_xs a.cert.sig b.cert.sig h.cert
       | exact T_xs a.sig b.sig h.n
       | trivial
       | rfl
       | (intro _ _; trivial)
       | (intro _ _; rfl)
       | (simp; done)
       | omega
     ·first | replace h1 := not_t h1 | replace h1 := not_f h1 | skip
      first | replace h2 := not_t h2 | replace h2 := not_f h2 | skip
      first | replace h3 := not_t h3 | replace h3 := not_f h3 | skip
      first | replace h4 := not_t h4 | replace h4 := not_f h4 | skip
      first | rfl | (congr 1; simp only [sameRecS, voteEq, h1, h2, h3, h4, Bool.true_and, Bool.false_and, Bool.and_false]; done)
     ·rfl
   ·
    refine T.conv (T_al (bdXS_p11000000 a b) Tryz.func24 ?_) rfl rfl ?_ ?_
    ·simp only [All, All_append, bdXS_c, bdYS_c, bdRg_c]; and_intros
     all_goals first
      | assumption
      | exact T_bS a.batch b.batch h.batch
      | exact T_xs a.cert.sig b.cert.sig h.cert
      | exact T_xs a.sig b.sig h.n
      | trivial
      | rfl
      | (intro _ _; trivial)
      | (intro _ _; rfl)
      | (simp; done)
      | omega
    ·first | replace h1 := not_t h1 | replace h1 := not_f h1 | skip
     first | replace h2 := not_t h2 | replace h2 := not_f h2 | skip
     first | replace h3 := not_t h3 | replace h3 := not_f h3 | skip
     first | rfl | (congr 1; simp only [sameRecS, voteEq, h1, h2, h3, Bool.true_and, Bool.false_and, Bool.and_false]; done)
    ·rfl
  ·
   refine T.conv (T_al (bdXS_p10000000 a b) Tryz.func24 ?_) rfl rfl ?_ ?_
   ·simp only [All, All_append, bdXS_c, bdYS_c, bdRg_c]; and_intros
    all_goals first
     | assumption
     | exact T_bS a.batch b.batch h.batch
     | exact T_xs a.cert.sig b.cert.sig h.cert
     | exact T_xs a.sig b.sig h.n
     | trivial
     | rfl
     | (intro _ _; trivial)
     | (intro _ _; rfl)
     | (simp; done)
     | omega
   ·first | replace h1 := not_t h1 | replace h1 := not_f h1 | skip
    first | replace h2 := not_t h2 | replace h2 := not_f h2 | skip
    first | rfl | (congr 1; simp only [sameRecS, voteEq, h1, h2, Bool.true_and, Bool.false_and, Bool.and_false]; done)
   ·rfl
 ·
  refine T.conv (T_al (bdXS_p00000000 a b) Tryz.func24 ?_) rfl rfl ?_ ?_
  ·simp only [All, All_append, bdXS_c, bdYS_c, bdRg_c]; and_intros
   all_goals first
    | assumption
    | exact T_bS a.batch b.batch h.batch
    | exact T_xs a.cert.sig b.cert.sig h.cert
    | exact T_xs a.sig b.sig h.n
    | trivial
    | rfl
    | (intro _ _; trivial)
    | (intro _ _; rfl)
    | (simp; done)
    | omega
  ·first | replace h1 := not_t h1 | replace h1 := not_f h1 | skip
   first | rfl | (congr 1; simp only [sameRecS, voteEq, h1, Bool.true_and, Bool.false_and, Bool.and_false]; done)
  ·rfl
def yRecS (a b : SRec) : Bool := decide (a.kind = b.kind) && (decide (a.leader = b.leader) && (decide (a.view = b.view) && (decide (a.slot = b.slot) && (decide (a.state = b.state) && (sameBatchS a.batch b.batch && (sameCertS a.cert b.cert && sameL a.n b.n (fun i => signEq (a.sig i) (b.sig i))))))))
theorem T_yS1 (a b : SRec) (h : FitRec a) : T Tryz.prog 25 [.agg a.c, .agg b.c] [] (.bool (yRecS a b)) [] := by
 rcases Bool.eq_false_or_eq_true ((!decide (SRec.kind a = SRec.kind b))) with h1 | h1
 ·
  refine T.conv (T_al (bdYS_p11111 a b) Tryz.func25 ?_) rfl rfl ?_ ?_
  ·simp only [All, All_append, bdXS_c, bdYS_c, bdRg_c]; and_intros
   all_goals first
    | assumption
    | exact T_rb a.batch b.batch h.batch
    | exact T_rc a.cert b.cert h.cert
    | exact T_rs a.sig b.sig h.n
    | trivial
    | rfl
    | (intro _ _; trivial)
    | (intro _ _; rfl)
    | (simp; done)
    | omega
  ·first | replace h1 := not_t h1 | replace h1 := not_f h1 | skip
   first | rfl | (congr 1; simp only [yRecS, h1, Bool.true_and, Bool.false_and, Bool.and_false]; done)
  ·rfl
 ·
  rcases Bool.eq_false_or_eq_true ((!decide (SRec.leader a = SRec.leader b))) with h2 | h2
  ·
   refine T.conv (T_al (bdYS_p01111 a b) Tryz.func25 ?_) rfl rfl ?_ ?_
   ·simp only [All, All_append, bdXS_c, bdYS_c, bdRg_c]; and_intros
    all_goals first
     | assumption
     | exact T_rb a.batch b.batch h.batch
     | exact T_rc a.cert b.cert h.cert
     | exact T_rs a.sig b.sig h.n
     | trivial
     | rfl
     | (intro _ _; trivial)
     | (intro _ _; rfl)
     | (simp; done)
     | omega
   ·first | replace h1 := not_t h1 | replace h1 := not_f h1 | skip
    first | replace h2 := not_t h2 | replace h2 := not_f h2 | skip
    first | rfl | (congr 1; simp only [yRecS, h1, h2, Bool.true_and, Bool.false_and, Bool.and_false]; done)
   ·rfl
  ·
   rcases Bool.eq_false_or_eq_true ((!decide (SRec.view a = SRec.view b))) with h3 | h3
   ·
    refine T.conv (T_al (bdYS_p00111 a b) Tryz.func25 ?_) rfl rfl ?_ ?_
    ·simp only [All, All_append, bdXS_c, bdYS_c, bdRg_c]; and_intros
     all_goals first
      | assumption
      | exact T_rb a.batch b.batch h.batch
      | exact T_rc a.cert b.cert h.cert
      | exact T_rs a.sig b.sig h.n
      | trivial
      | rfl
      | (intro _ _; trivial)
      | (intro _ _; rfl)
      | (simp; done)
      | omega
    ·first | replace h1 := not_t h1 | replace h1 := not_f h1 | skip
     first | replace h2 := not_t h2 | replace h2 := not_f h2 | skip
     first | replace h3 := not_t h3 | replace h3 := not_f h3 | skip
     first | rfl | (congr 1; simp only [yRecS, h1, h2, h3, Bool.true_and, Bool.false_and, Bool.and_false]; done)
    ·rfl
   ·
    rcases Bool.eq_false_or_eq_true ((!decide (SRec.slot a = SRec.slot b))) with h4 | h4
    ·
     refine T.conv (T_al (bdYS_p00011 a b) Tryz.func25 ?_) rfl rfl ?_ ?_
     ·simp only [All, All_append, bdXS_c, bdYS_c, bdRg_c]; and_intros
      all_goals first
       | assumption
       | exact T_rb a.batch b.batch h.batch
       | exact T_rc a.cert b.cert h.cert
       | exact T_rs a.sig b.sig h.n
       | trivial
       | rfl
       | (intro _ _; trivial)
       | (intro _ _; rfl)
       | (simp; done)
       | omega
     ·first | replace h1 := not_t h1 | replace h1 := not_f h1 | skip
      first | replace h2 := not_t h2 | replace h2 := not_f h2 | skip
      first | replace h3 := not_t h3 | replace h3 := not_f h3 | skip
      first | replace h4 := not_t h4 | replace h4 := not_f h4 | skip
      first | rfl | (congr 1; simp only [yRecS, h1, h2, h3, h4, Bool.true_and, Bool.false_and, Bool.and_false]; done)
     ·rfl
    ·
     rcases Bool.eq_false_or_eq_true ((!decide (SRec.state a = SRec.state b))) with h5 | h5
     ·
      refine T.conv (T_al (bdYS_p00001 a b) Tryz.func25 ?_) rfl rfl ?_ ?_
      ·simp only [All, All_append, bdXS_c, bdYS_c, bdRg_c]; and_intros
       all_goals first
        | assumption
        | exact T_rb a.batch b.batch h.batch
        | exact T_rc a.cert b.cert h.cert
        | exact T_rs a.sig b.sig h.n
        | trivial
        | rfl
        | (intro _ _; trivial)
        | (intro _ _; rfl)
        | (simp; done)
        | omega
      ·first | replace h1 := not_t h1 | replace h1 := not_f h1 | skip
       first | replace h2 := not_t h2 | replace h2 := not_f h2 | skip
       first | replace h3 := not_t h3 | replace h3 := not_f h3 | skip
       first | replace h4 := not_t h4 | replace h4 := not_f h4 | skip
       first | replace h5 := not_t h5 | replace h5 := not_f h5 | skip
       first | rfl | (congr 1; simp only [yRecS, h1, h2, h3, h4, h5, Bool.true_and, Bool.false_and, Bool.and_false]; done)
      ·rfl
     ·
      rcases Bool.eq_false_or_eq_true (sameBatchS (SRec.batch a) (SRec.batch b)) with h6 | h6
      ·
       rcases Bool.eq_false_or_eq_true (sameCertS (SRec.cert a) (SRec.cert b)) with h7 | h7
       ·
        refine T.conv (T_al (bdYS_p0000011 a b) Tryz.func25 ?_) rfl rfl ?_ ?_
        ·simp only [All, All_append, bdXS_c, bdYS_c, bdRg_c]; and_intros
         all_goals first
          | assumption
          | exact T_rb a.batch b.batch h.batch
          | exact T_rc a.cert b.cert h.cert
          | exact T_rs a.sig b.sig h.n
          | trivial
          | rfl
          | (intro _ _; trivial)
          | (intro _ _; rfl)
          | (simp; done)
          | omega
        ·first | replace h1 := not_t h1 | replace h1 := not_f h1 | skip
         first | replace h2 := not_t h2 | replace h2 := not_f h2 | skip
         first | replace h3 := not_t h3 | replace h3 := not_f h3 | skip
         first | replace h4 := not_t h4 | replace h4 := not_f h4 | skip
         first | replace h5 := not_t h5 | replace h5 := not_f h5 | skip
         first | replace h6 := not_t h6 | replace h6 := not_f h6 | skip
         first | replace h7 := not_t h7 | replace h7 := not_f h7 | skip
         first | rfl | (congr 1; simp only [yRecS, h1, h2, h3, h4, h5, h6, h7, Bool.true_and, Bool.false_and, Bool.and_false]; done)
        ·rfl
       ·
        refine T.conv (T_al (bdYS_p0000010 a b) Tryz.func25 ?_) rfl rfl ?_ ?_
        ·simp only [All, All_append, bdXS_c, bdYS_c, bdRg_c]; and_intros
         all_goals first
          | assumption
          | exact T_rb a.batch b.batch h.batch
          | exact T_rc a.cert b.cert h.cert
          | exact T_rs a.sig b.sig h.n
          | trivial
          | rfl
          | (intro _ _; trivial)
          | (intro _ _; rfl)
          | (simp; done)
          | omega
        ·first | replace h1 := not_t h1 | replace h1 := not_f h1 | skip
         first | replace h2 := not_t h2 | replace h2 := not_f h2 | skip
         first | replace h3 := not_t h3 | replace h3 := not_f h3 | skip
         first | replace h4 := not_t h4 | replace h4 := not_f h4 | skip
         first | replace h5 := not_t h5 | replace h5 := not_f h5 | skip
         first | replace h6 := not_t h6 | replace h6 := not_f h6 | skip
         first | replace h7 := not_t h7 | replace h7 := not_f h7 | skip
         first | rfl | (congr 1; simp only [yRecS, h1, h2, h3, h4, h5, h6, h7, Bool.true_and, Bool.false_and, Bool.and_false]; done)
        ·rfl
      ·
       refine T.conv (T_al (bdYS_p0000000 a b) Tryz.func25 ?_) rfl rfl ?_ ?_
       ·simp only [All, All_append, bdXS_c, bdYS_c, bdRg_c]; and_intros
        all_goals first
         | assumption
         | exact T_rb a.batch b.batch h.batch
         | exact T_rc a.cert b.cert h.cert
         | exact T_rs a.sig b.sig h.n
         | trivial
         | rfl
         | (intro _ _; trivial)
         | (intro _ _; rfl)
         | (simp; done)
         | omega
       ·first | replace h1 := not_t h1 | replace h1 := not_f h1 | skip
        first | replace h2 := not_t h2 | replace h2 := not_f h2 | skip
        first | replace h3 := not_t h3 | replace h3 := not_f h3 | skip
        first | replace h4 := not_t h4 | replace h4 := not_f h4 | skip
        first | replace h5 := not_t h5 | replace h5 := not_f h5 | skip
        first | replace h6 := not_t h6 | replace h6 := not_f h6 | skip
        first | rfl | (congr 1; simp only [yRecS, h1, h2, h3, h4, h5, h6, Bool.true_and, Bool.false_and, Bool.and_false]; done)
       ·rfl
theorem T_yS (a b : SRec) (h : FitRec a) : T Tryz.prog 25 [.agg a.c, .agg b.c] [] (.bool (sameRecS a b)) [] := by
 have e : sameRecS a b = yRecS a b := by simp only [sameRecS, yRecS, sameCertS, Bool.and_assoc]
 rw [e]; exact T_yS1 a b h
theorem T_ro (r : SRec) : T Tryz.prog 82 [.agg r.c] [] (.agg (onlyRS r).c) [] := by
 by_cases h1 : r.kind = 1
 ·refine T.val (T_al (bdRo1_p1 r) Tryz.func82 ?_) (by simp only [onlyRS, if_pos h1]; rfl)
  simp [All, All_append, bdXS_c, bdYS_c, bdRg_c, h1]
 by_cases h2 : r.kind = 3
 ·refine T.val (T_al (bdRo3_p01 r) Tryz.func82 ?_) (by simp only [onlyRS, if_neg h1, if_pos h2]; rfl)
  simp [All, All_append, bdXS_c, bdYS_c, bdRg_c, h1, h2]
 by_cases h3 : r.kind = 5
 ·refine T.val (T_al (bdRo5_p001 r) Tryz.func82 ?_) (by simp only [onlyRS, if_neg h1, if_neg h2, if_pos h3]; rfl)
  simp [All, All_append, bdXS_c, bdYS_c, bdRg_c, h1, h2, h3]
 by_cases h4 : r.kind = 2
 ·refine T.val (T_al (bdRo2_p0001 r) Tryz.func82 ?_) (by simp only [onlyRS, if_neg h1, if_neg h2, if_neg h3, if_pos h4]; rfl)
  simp [All, All_append, bdXS_c, bdYS_c, bdRg_c, h1, h2, h3, h4]
 by_cases h5 : r.kind = 4
 ·refine T.val (T_al (bdRo2_p00001 r) Tryz.func82 ?_) (by simp only [onlyRS, if_neg h1, if_neg h2, if_neg h3, if_neg h4, if_pos h5]; rfl)
  simp [All, All_append, bdXS_c, bdYS_c, bdRg_c, h1, h2, h3, h4, h5]
 refine T.val (T_al (bdRo9_p00000 r) Tryz.func82 ?_) (by simp only [onlyRS, if_neg h1, if_neg h2, if_neg h3, if_neg h4, if_neg h5]; rfl)
 simp [All, All_append, bdXS_c, bdYS_c, bdRg_c, h1, h2, h3, h4, h5]
theorem T_to (r : SRec) : T Tryz.prog 76 [.agg r.c] [] (.agg (toldS r).c) [] := by
 by_cases h1 : r.kind = 1
 ·refine T.val (T_al (bdTo1_p1 r) Tryz.func76 ?_) (by simp only [toldS, if_pos h1]; rfl)
  simp [All, All_append, bdXS_c, bdYS_c, bdRg_c, to1, to3, to5, to7, msg0, vote0, h1]
 by_cases h2 : r.kind = 3
 ·refine T.val (T_al (bdTo3_p01 r) Tryz.func76 ?_) (by simp only [toldS, if_neg h1, if_pos h2]; rfl)
  simp [All, All_append, bdXS_c, bdYS_c, bdRg_c, to1, to3, to5, to7, msg0, vote0, h1, h2]
 by_cases h3 : r.kind = 5
 ·refine T.val (T_al (bdTo5_p001 r) Tryz.func76 ?_) (by simp only [toldS, if_neg h1, if_neg h2, if_pos h3]; rfl)
  simp [All, All_append, bdXS_c, bdYS_c, bdRg_c, to1, to3, to5, to7, msg0, vote0, h1, h2, h3]
 refine T.val (T_al (bdTo7_p000 r) Tryz.func76 ?_) (by simp only [toldS, if_neg h1, if_neg h2, if_neg h3]; rfl)
 simp [All, All_append, bdXS_c, bdYS_c, bdRg_c, to1, to3, to5, to7, msg0, vote0, h1, h2, h3]
theorem fitM_told {r : SRec} (h : FitRec r) : FitM (toldS r) := by
 unfold toldS
 repeat' split
 all_goals exact ⟨by first | exact h.batch | exact Nat.zero_le _, Nat.zero_le _, fun k hk => absurd hk (Nat.not_lt_zero k), Nat.zero_le _, by first | exact h.cert | exact Nat.zero_le _, by first | exact h.n | exact Nat.zero_le _⟩
theorem T_rg {r : SRec} (hf : FitRec r) : T Tryz.prog 22 [.agg r.c] [] (.bool (goodRS r)) [] := by
 rcases Bool.eq_false_or_eq_true (decide ((1 : Int) ≤ SRec.kind r)) with h1 | h1
 ·
  rcases Bool.eq_false_or_eq_true (decide (SRec.kind r ≤ (5 : Int))) with h2 | h2
  ·
   rcases Bool.eq_false_or_eq_true (sameRecS r ((onlyRS r))) with h3 | h3
   ·
    rcases Bool.eq_false_or_eq_true (goodS ((toldS r))) with h4 | h4
    ·
     rcases Bool.eq_false_or_eq_true (decide ((0 : Int) ≤ SRec.view r)) with h5 | h5
     ·
      refine T.conv (T_al (bdRg_p11111 r (onlyRS r) (toldS r)) Tryz.func22 ?_) rfl rfl ?_ ?_
      ·simp only [All, All_append, bdXS_c, bdYS_c, bdRg_c]; and_intros
       all_goals first
        | assumption
        | exact T_ro r
        | exact T_to r
        | exact T_xS r (onlyRS r) hf
        | exact T_good (fitM_told hf)
        | trivial
        | rfl
        | (intro _ _; trivial)
        | (intro _ _; rfl)
        | (simp; done)
        | omega
      ·first | replace h1 := not_t h1 | replace h1 := not_f h1 | skip
       first | replace h2 := not_t h2 | replace h2 := not_f h2 | skip
       first | replace h3 := not_t h3 | replace h3 := not_f h3 | skip
       first | replace h4 := not_t h4 | replace h4 := not_f h4 | skip
       first | replace h5 := not_t h5 | replace h5 := not_f h5 | skip
       first | rfl | (congr 1; simp only [goodRS, h1, h2, h3, h4, h5, Bool.true_and, Bool.false_and, Bool.and_false]; done)
      ·rfl
     ·
      refine T.conv (T_al (bdRg_p11110 r (onlyRS r) (toldS r)) Tryz.func22 ?_) rfl rfl ?_ ?_
      ·simp only [All, All_append, bdXS_c, bdYS_c, bdRg_c]; and_intros
       all_goals first
        | assumption
        | exact T_ro r
        | exact T_to r
        | exact T_xS r (onlyRS r) hf
        | exact T_good (fitM_told hf)
        | trivial
        | rfl
        | (intro _ _; trivial)
        | (intro _ _; rfl)
        | (simp; done)
        | omega
      ·first | replace h1 := not_t h1 | replace h1 := not_f h1 | skip
       first | replace h2 := not_t h2 | replace h2 := not_f h2 | skip
       first | replace h3 := not_t h3 | replace h3 := not_f h3 | skip
       first | replace h4 := not_t h4 | replace h4 := not_f h4 | skip
       first | replace h5 := not_t h5 | replace h5 := not_f h5 | skip
       first | rfl | (congr 1; simp only [goodRS, h1, h2, h3, h4, h5, Bool.true_and, Bool.false_and, Bool.and_false]; done)
      ·rfl
    ·
     refine T.conv (T_al (bdRg_p11100 r (onlyRS r) (toldS r)) Tryz.func22 ?_) rfl rfl ?_ ?_
     ·simp only [All, All_append, bdXS_c, bdYS_c, bdRg_c]; and_intros
      all_goals first
       | assumption
       | exact T_ro r
       | exact T_to r
       | exact T_xS r (onlyRS r) hf
       | exact T_good (fitM_told hf)
       | trivial
       | rfl
       | (intro _ _; trivial)
       | (intro _ _; rfl)
       | (simp; done)
       | omega
     ·first | replace h1 := not_t h1 | replace h1 := not_f h1 | skip
      first | replace h2 := not_t h2 | replace h2 := not_f h2 | skip
      first | replace h3 := not_t h3 | replace h3 := not_f h3 | skip
      first | replace h4 := not_t h4 | replace h4 := not_f h4 | skip
      first | rfl | (congr 1; simp only [goodRS, h1, h2, h3, h4, Bool.true_and, Bool.false_and, Bool.and_false]; done)
     ·rfl
   ·
    refine T.conv (T_al (bdRg_p11000 r (onlyRS r) (toldS r)) Tryz.func22 ?_) rfl rfl ?_ ?_
    ·simp only [All, All_append, bdXS_c, bdYS_c, bdRg_c]; and_intros
     all_goals first
      | assumption
      | exact T_ro r
      | exact T_to r
      | exact T_xS r (onlyRS r) hf
      | exact T_good (fitM_told hf)
      | trivial
      | rfl
      | (intro _ _; trivial)
      | (intro _ _; rfl)
      | (simp; done)
      | omega
    ·first | replace h1 := not_t h1 | replace h1 := not_f h1 | skip
     first | replace h2 := not_t h2 | replace h2 := not_f h2 | skip
     first | replace h3 := not_t h3 | replace h3 := not_f h3 | skip
     first | rfl | (congr 1; simp only [goodRS, h1, h2, h3, Bool.true_and, Bool.false_and, Bool.and_false]; done)
    ·rfl
  ·
   refine T.conv (T_al (bdRg_p10000 r (onlyRS r) (toldS r)) Tryz.func22 ?_) rfl rfl ?_ ?_
   ·simp only [All, All_append, bdXS_c, bdYS_c, bdRg_c]; and_intros
    all_goals first
     | assumption
     | exact T_ro r
     | exact T_to r
     | exact T_xS r (onlyRS r) hf
     | exact T_good (fitM_told hf)
     | trivial
     | rfl
     | (intro _ _; trivial)
     | (intro _ _; rfl)
     | (simp; done)
     | omega
   ·first | replace h1 := not_t h1 | replace h1 := not_f h1 | skip
    first | replace h2 := not_t h2 | replace h2 := not_f h2 | skip
    first | rfl | (congr 1; simp only [goodRS, h1, h2, Bool.true_and, Bool.false_and, Bool.and_false]; done)
   ·rfl
 ·
  refine T.conv (T_al (bdRg_p00000 r (onlyRS r) (toldS r)) Tryz.func22 ?_) rfl rfl ?_ ?_
  ·simp only [All, All_append, bdXS_c, bdYS_c, bdRg_c]; and_intros
   all_goals first
    | assumption
    | exact T_ro r
    | exact T_to r
    | exact T_xS r (onlyRS r) hf
    | exact T_good (fitM_told hf)
    | trivial
    | rfl
    | (intro _ _; trivial)
    | (intro _ _; rfl)
    | (simp; done)
    | omega
  ·first | replace h1 := not_t h1 | replace h1 := not_f h1 | skip
   first | rfl | (congr 1; simp only [goodRS, h1, Bool.true_and, Bool.false_and, Bool.and_false]; done)
  ·rfl
end Go.Proofs.YthifjamdfpjilaaGreat
namespace Go.Proofs.YthifjamdfpjilaaGreat
open Go Sy Go.Proofs
def roB (l : List UInt8) : V := .ros 1 l.length (bl l) false
def recB (r : SRec) : List UInt8 := if r.kind = 1 then putZ r.kind ++ putZ r.slot ++ putZ r.view ++ batchB r.batch else if r.kind = 3 then putZ r.kind ++ putZ r.leader ++ putZ r.view else putZ r.kind ++ textB (encT (toldS r))
def recE (r : SRec) : Int := if goodRS r = true then (if (r.kind = 1 ∨ r.kind = 3) ∨ encE (toldS r) = 0 then (if 4194304 < (recB r).length then 3 else 0) else encE (toldS r)) else 240
def recT (r : SRec) : List UInt8 := if recE r = 0 then recB r else []
def kRe (l : List UInt8) (e : Int) : Exit → St → Option W := fun _ st => some ⟨[], [(2, .set (roB l)), (3, .set (.int .i64 e))], [], none, st.next⟩
noncomputable def bdPe (r : SRec) (g : Bool) (t : SMsg) (s : ByteArray) (e2 : Int) (l : List UInt8) (e : Int) : Bd := { f := Tryz.f20, args := [.agg r.c], kb := { db := dbSeqF 0 [(22, 4, cVal (.bool g)), (74, 8, cN (putZ r.kind)), (74, 17, cN (putZ r.kind ++ putZ r.slot)), (74, 20, cN (putZ r.kind ++ putZ r.slot ++ putZ r.view)), (75, 23, cN (putZ r.kind ++ putZ r.slot ++ putZ r.view ++ batchB r.batch)), (74, 19, cN (putZ r.kind ++ putZ r.leader)), (74, 22, cN (putZ r.kind ++ putZ r.leader ++ putZ r.view)), (76, 17, cVal (.agg t.c)), (8, 18, cVal (.tup [.str s, .int .i64 e2])), (77, 28, cN (putZ r.kind ++ textB s))] }, k := kRe l e }
noncomputable def bdPeG (r : SRec) : Bd := bdPe r false {} .empty 0 [] 240
noncomputable def bdPe1 (r : SRec) : Bd := bdPe r true {} .empty 0 (putZ r.kind ++ putZ r.slot ++ putZ r.view ++ batchB r.batch) 0
noncomputable def bdPe1L (r : SRec) : Bd := bdPe r true {} .empty 0 [] 3
noncomputable def bdPe3 (r : SRec) : Bd := bdPe r true {} .empty 0 (putZ r.kind ++ putZ r.leader ++ putZ r.view) 0
noncomputable def bdPe3L (r : SRec) : Bd := bdPe r true {} .empty 0 [] 3
noncomputable def bdPe5 (r : SRec) (t : SMsg) (s : ByteArray) : Bd := bdPe r true t s 0 (putZ r.kind ++ textB s) 0
noncomputable def bdPe5L (r : SRec) (t : SMsg) (s : ByteArray) : Bd := bdPe r true t s 0 [] 3
noncomputable def bdPe5E (r : SRec) (t : SMsg) (s : ByteArray) (e2 : Int) : Bd := bdPe r true t s e2 [] e2
end Go.Proofs.YthifjamdfpjilaaGreat
