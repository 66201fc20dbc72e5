/-
  Contracts and laws that the claim's theorem leans on, joined out of the texts Ta5 Ta9D Ta9 Tb0D (own work of this seat): Contracts: a message's bytes; Contracts: the reader of bytes; Contracts: the reader of bytes; Contracts: what is read of bytes.
-/
import Derived.Test.YtnmccoincblecaaGreatC06
set_option linter.unusedVariables false
set_option linter.unusedSimpArgs false
set_option maxHeartbeats 1000000
namespace Go.Proofs.YtnmccoincblecaaGreat
open Go Sy Go.Proofs
noncomputable def bdEnc_c (m : SMsg) (g : Bool) : Nat → List Prop
 | 0 => [(!g) = false, T Tryz.prog 53 [.ptr (.o 448) 0 0 0 0, .sl (.o 768) 1 0 0 0 1 (some 1)] [(.o 448, .flat [.snil]), (.o 768, .rows 1 1 (getL [[.int .i64 (SMsg.kind m)]]) false)] (.tup []) [(.o 448, .flat [sb (.o 832) (putZ (SMsg.kind m))]), (.o 832, bs (putZ (SMsg.kind m))), (.o 768, .rows 1 1 (getL [[.int .i64 (SMsg.kind m)]]) false)]]
 | 1 => [decide (SMsg.kind m = (1 : Int)) = true, T Tryz.prog 53 [.ptr (.o 448) 0 0 0 0, .sl (.o 1472) 1 0 0 0 2 (some 2)] [(.o 448, .flat [sb (.o 832) (putZ (SMsg.kind m))]), (.o 832, bs (putZ (SMsg.kind m))), (.o 1472, .rows 1 2 (getL [[.int .i64 (SMsg.epoch m)], [.int .i64 (SMsg.slot m)]]) false)] (.tup []) [(.o 448, .flat [sb (.o 1536) (putZ (SMsg.kind m) ++ numsB [SMsg.epoch m, SMsg.slot m])]), (.o 1536, bs (putZ (SMsg.kind m) ++ numsB [SMsg.epoch m, SMsg.slot m])), (.o 1472, .rows 1 2 (getL [[.int .i64 (SMsg.epoch m)], [.int .i64 (SMsg.slot m)]]) false)], T Tryz.prog 54 [.ptr (.o 448) 0 0 0 0, .agg (SBatch.c (SMsg.batch m))] [(.o 448, .flat [sb (.o 1536) (putZ (SMsg.kind m) ++ numsB [SMsg.epoch m, SMsg.slot m])]), (.o 1536, bs (putZ (SMsg.kind m) ++ numsB [SMsg.epoch m, SMsg.slot m]))] (.tup []) [(.o 448, .flat [sb (.o 1792) (putZ (SMsg.kind m) ++ numsB [SMsg.epoch m, SMsg.slot m] ++ batchB (SMsg.batch m))]), (.o 1792, bs (putZ (SMsg.kind m) ++ numsB [SMsg.epoch m, SMsg.slot m] ++ batchB (SMsg.batch m)))]]
 | 2 => [decide (SMsg.kind m = (2 : Int)) = true, T Tryz.prog 55 [.ptr (.o 448) 0 0 0 0, .agg (SVote.c (SMsg.vote m))] [(.o 448, .flat [sb (.o 832) (putZ (SMsg.kind m))]), (.o 832, bs (putZ (SMsg.kind m)))] (.tup []) [(.o 448, .flat [sb (.o 1472) (putZ (SMsg.kind m) ++ voteB (SMsg.vote m))]), (.o 1472, bs (putZ (SMsg.kind m) ++ voteB (SMsg.vote m)))]]
 | 3 => [decide (SMsg.kind m = (3 : Int)) = true, T Tryz.prog 53 [.ptr (.o 448) 0 0 0 0, .sl (.o 2048) 1 0 0 0 3 (some 3)] [(.o 448, .flat [sb (.o 832) (putZ (SMsg.kind m))]), (.o 832, bs (putZ (SMsg.kind m))), (.o 2048, .rows 1 3 (getL [[.int .i64 (SMsg.cepoch m)], [.int .i64 (SMsg.cleader m)], [.int .i64 (SMsg.cview m)]]) false)] (.tup []) [(.o 448, .flat [sb (.o 2112) (putZ (SMsg.kind m) ++ numsB [SMsg.cepoch m, SMsg.cleader m, SMsg.cview m])]), (.o 2112, bs (putZ (SMsg.kind m) ++ numsB [SMsg.cepoch m, SMsg.cleader m, SMsg.cview m])), (.o 2048, .rows 1 3 (getL [[.int .i64 (SMsg.cepoch m)], [.int .i64 (SMsg.cleader m)], [.int .i64 (SMsg.cview m)]]) false)], T Tryz.prog 56 [.ptr (.o 448) 0 0 0 0, .ros 39 (SMsg.nheld m) (fun i => SHeld.c (SMsg.held m i)) false, .fn (.func 57) [.ptr (.o 448) 0 0 0 0] []] [(.o 448, .flat [sb (.o 2112) (putZ (SMsg.kind m) ++ numsB [SMsg.cepoch m, SMsg.cleader m, SMsg.cview m])]), (.o 2112, bs (putZ (SMsg.kind m) ++ numsB [SMsg.cepoch m, SMsg.cleader m, SMsg.cview m]))] (.tup []) [(.o 448, .flat [sb (.o 2560) (putZ (SMsg.kind m) ++ numsB [SMsg.cepoch m, SMsg.cleader m, SMsg.cview m] ++ (numsB [(↑(SMsg.nheld m) : Int)] ++ heldsB (SMsg.held m) (SMsg.nheld m)))]), (.o 2560, bs (putZ (SMsg.kind m) ++ numsB [SMsg.cepoch m, SMsg.cleader m, SMsg.cview m] ++ (numsB [(↑(SMsg.nheld m) : Int)] ++ heldsB (SMsg.held m) (SMsg.nheld m))))]]
 | 4 => [decide (SMsg.kind m = (4 : Int)) = true, T Tryz.prog 53 [.ptr (.o 448) 0 0 0 0, .sl (.o 1984) 1 0 0 0 3 (some 3)] [(.o 448, .flat [sb (.o 832) (putZ (SMsg.kind m))]), (.o 832, bs (putZ (SMsg.kind m))), (.o 1984, .rows 1 3 (getL [[.int .i64 (SMsg.epoch m)], [.int .i64 (SMsg.leader m)], [.int .i64 (SMsg.view m)]]) false)] (.tup []) [(.o 448, .flat [sb (.o 2048) (putZ (SMsg.kind m) ++ numsB [SMsg.epoch m, SMsg.leader m, SMsg.view m])]), (.o 2048, bs (putZ (SMsg.kind m) ++ numsB [SMsg.epoch m, SMsg.leader m, SMsg.view m])), (.o 1984, .rows 1 3 (getL [[.int .i64 (SMsg.epoch m)], [.int .i64 (SMsg.leader m)], [.int .i64 (SMsg.view m)]]) false)], T Tryz.prog 58 [.ptr (.o 448) 0 0 0 0, .ros 18 (SMsg.nnews m) (fun i => SEnv.c (SMsg.news m i)) false, .fn (.func 59) [.ptr (.o 448) 0 0 0 0] []] [(.o 448, .flat [sb (.o 2048) (putZ (SMsg.kind m) ++ numsB [SMsg.epoch m, SMsg.leader m, SMsg.view m])]), (.o 2048, bs (putZ (SMsg.kind m) ++ numsB [SMsg.epoch m, SMsg.leader m, SMsg.view m]))] (.tup []) [(.o 448, .flat [sb (.o 2432) (putZ (SMsg.kind m) ++ numsB [SMsg.epoch m, SMsg.leader m, SMsg.view m] ++ (numsB [(↑(SMsg.nnews m) : Int)] ++ envsB (SMsg.news m) (SMsg.nnews m)))]), (.o 2432, bs (putZ (SMsg.kind m) ++ numsB [SMsg.epoch m, SMsg.leader m, SMsg.view m] ++ (numsB [(↑(SMsg.nnews m) : Int)] ++ envsB (SMsg.news m) (SMsg.nnews m))))]]
 | 5 => [decide (SMsg.kind m = (5 : Int)) = true, T Tryz.prog 53 [.ptr (.o 448) 0 0 0 0, .sl (.o 1856) 1 0 0 0 1 (some 1)] [(.o 448, .flat [sb (.o 832) (putZ (SMsg.kind m))]), (.o 832, bs (putZ (SMsg.kind m))), (.o 1856, .rows 1 1 (getL [[.int .i64 (SMsg.epoch m)]]) false)] (.tup []) [(.o 448, .flat [sb (.o 1920) (putZ (SMsg.kind m) ++ numsB [SMsg.epoch m])]), (.o 1920, bs (putZ (SMsg.kind m) ++ numsB [SMsg.epoch m])), (.o 1856, .rows 1 1 (getL [[.int .i64 (SMsg.epoch m)]]) false)], T Tryz.prog 60 [.ptr (.o 448) 0 0 0 0, .agg [.seg .u8 32 (SMsg.digest m)]] [(.o 448, .flat [sb (.o 1920) (putZ (SMsg.kind m) ++ numsB [SMsg.epoch m])]), (.o 1920, bs (putZ (SMsg.kind m) ++ numsB [SMsg.epoch m]))] (.tup []) [(.o 448, .flat [sb (.o 2176) (putZ (SMsg.kind m) ++ numsB [SMsg.epoch m] ++ segB (SMsg.digest m))]), (.o 2176, bs (putZ (SMsg.kind m) ++ numsB [SMsg.epoch m] ++ segB (SMsg.digest m)))]]
 | 6 => [decide (SMsg.kind m = (6 : Int)) = true, T Tryz.prog 53 [.ptr (.o 448) 0 0 0 0, .sl (.o 2112) 1 0 0 0 2 (some 2)] [(.o 448, .flat [sb (.o 832) (putZ (SMsg.kind m))]), (.o 832, bs (putZ (SMsg.kind m))), (.o 2112, .rows 1 2 (getL [[.int .i64 (SMsg.epoch m)], [.int .i64 (SMsg.slot m)]]) false)] (.tup []) [(.o 448, .flat [sb (.o 2176) (putZ (SMsg.kind m) ++ numsB [SMsg.epoch m, SMsg.slot m])]), (.o 2176, bs (putZ (SMsg.kind m) ++ numsB [SMsg.epoch m, SMsg.slot m])), (.o 2112, .rows 1 2 (getL [[.int .i64 (SMsg.epoch m)], [.int .i64 (SMsg.slot m)]]) false)]]
 | 7 => [decide (SMsg.kind m = (7 : Int)) = true, T Tryz.prog 54 [.ptr (.o 448) 0 0 0 0, .agg (SBatch.c (SMsg.batch m))] [(.o 448, .flat [sb (.o 832) (putZ (SMsg.kind m))]), (.o 832, bs (putZ (SMsg.kind m)))] (.tup []) [(.o 448, .flat [sb (.o 2112) (putZ (SMsg.kind m) ++ batchB (SMsg.batch m))]), (.o 2112, bs (putZ (SMsg.kind m) ++ batchB (SMsg.batch m)))], T Tryz.prog 61 [.ptr (.o 448) 0 0 0 0, .agg [.int .i64 (SVote.kind (SCert.vote (SMsg.cert m))), .int .i64 (SVote.epoch (SCert.vote (SMsg.cert m))), .int .i64 (SVote.view (SCert.vote (SMsg.cert m))), .int .i64 (SVote.slot (SCert.vote (SMsg.cert m))), .seg .u8 32 (SVote.digest (SCert.vote (SMsg.cert m))), sg (SCert.n (SMsg.cert m)) (SCert.sig (SMsg.cert m))]] [(.o 448, .flat [sb (.o 2112) (putZ (SMsg.kind m) ++ batchB (SMsg.batch m))]), (.o 2112, bs (putZ (SMsg.kind m) ++ batchB (SMsg.batch m)))] (.tup []) [(.o 448, .flat [sb (.o 2368) (putZ (SMsg.kind m) ++ batchB (SMsg.batch m) ++ certB (SMsg.cert m))]), (.o 2368, bs (putZ (SMsg.kind m) ++ batchB (SMsg.batch m) ++ certB (SMsg.cert m)))]]
 | 8 => [decide (SMsg.kind m = (7 : Int)) = false, decide (SMsg.kind m = (8 : Int)) = true, T Tryz.prog 62 [.ptr (.o 448) 0 0 0 0, .str (SMsg.state m)] [(.o 448, .flat [sb (.o 832) (putZ (SMsg.kind m))]), (.o 832, bs (putZ (SMsg.kind m)))] (.tup []) [(.o 448, .flat [sb (.o 2240) (putZ (SMsg.kind m) ++ textB (SMsg.state m))]), (.o 2240, bs (putZ (SMsg.kind m) ++ textB (SMsg.state m)))], T Tryz.prog 63 [.ptr (.o 448) 0 0 0 0, .ros 17 (SMsg.n m) (fun i => SSign.c (SMsg.sig m i)) false, .fn (.func 64) [.ptr (.o 448) 0 0 0 0] []] [(.o 448, .flat [sb (.o 2240) (putZ (SMsg.kind m) ++ textB (SMsg.state m))]), (.o 2240, bs (putZ (SMsg.kind m) ++ textB (SMsg.state m)))] (.tup []) [(.o 448, .flat [sb (.o 2624) (putZ (SMsg.kind m) ++ textB (SMsg.state m) ++ (numsB [(↑(SMsg.n m) : Int)] ++ signsB (SMsg.sig m) (SMsg.n m)))]), (.o 2624, bs (putZ (SMsg.kind m) ++ textB (SMsg.state m) ++ (numsB [(↑(SMsg.n m) : Int)] ++ signsB (SMsg.sig m) (SMsg.n m))))]]
 | _ => []
theorem bdEnc_p1 (m : SMsg) (g : Bool) :
 along Tryz.prog (bdEnc m g) [true] = (some (.tup [.str (ByteArray.mk (Array.mk [])), .int .i64 130], [], [T Tryz.prog 52 [.agg (SMsg.c m)] [] (.bool g) [], (!g) = true]) : Option (V × Heap × List Prop)) := by kernel_rfl
theorem bdEnc_p011 (m : SMsg) (g : Bool) :
 along Tryz.prog (bdEnc m g) [false, true, true] = (some (.tup [.str (ByteArray.mk (Array.mk [])), .int .i64 3], [], [T Tryz.prog 52 [.agg (SMsg.c m)] [] (.bool g) []] ++ (bdEnc_c m g 0 ++ (bdEnc_c m g 1 ++ ([decide ((4194304 : Int) < (↑(List.length (putZ (SMsg.kind m) ++ numsB [SMsg.epoch m, SMsg.slot m] ++ batchB (SMsg.batch m))) : Int)) = true])))) : Option (V × Heap × List Prop)) := by kernel_rfl
theorem bdEnc_p010 (m : SMsg) (g : Bool) :
 along Tryz.prog (bdEnc m g) [false, true, false] = (some (.tup [.str (bytesF (List.length (putZ (SMsg.kind m) ++ numsB [SMsg.epoch m, SMsg.slot m] ++ batchB (SMsg.batch m))) fun k => bl (putZ (SMsg.kind m) ++ numsB [SMsg.epoch m, SMsg.slot m] ++ batchB (SMsg.batch m)) (0 + k)), .int .i64 0], [], [T Tryz.prog 52 [.agg (SMsg.c m)] [] (.bool g) []] ++ (bdEnc_c m g 0 ++ (bdEnc_c m g 1 ++ ([decide ((4194304 : Int) < (↑(List.length (putZ (SMsg.kind m) ++ numsB [SMsg.epoch m, SMsg.slot m] ++ batchB (SMsg.batch m))) : Int)) = false, ∀ (k : Nat), k < List.length (putZ (SMsg.kind m) ++ numsB [SMsg.epoch m, SMsg.slot m] ++ batchB (SMsg.batch m)) → true = true, (0 : Nat) + List.length (putZ (SMsg.kind m) ++ numsB [SMsg.epoch m, SMsg.slot m] ++ batchB (SMsg.batch m)) ≤ List.length (putZ (SMsg.kind m) ++ numsB [SMsg.epoch m, SMsg.slot m] ++ batchB (SMsg.batch m)), ∀ (k : Nat), k < List.length (putZ (SMsg.kind m) ++ numsB [SMsg.epoch m, SMsg.slot m] ++ batchB (SMsg.batch m)) → true = true])))) : Option (V × Heap × List Prop)) := by kernel_rfl
theorem bdEnc_p0011 (m : SMsg) (g : Bool) :
 along Tryz.prog (bdEnc m g) [false, false, true, true] = (some (.tup [.str (ByteArray.mk (Array.mk [])), .int .i64 3], [], [T Tryz.prog 52 [.agg (SMsg.c m)] [] (.bool g) []] ++ (bdEnc_c m g 0 ++ ([decide (SMsg.kind m = (1 : Int)) = false] ++ (bdEnc_c m g 2 ++ ([decide ((4194304 : Int) < (↑(List.length (putZ (SMsg.kind m) ++ voteB (SMsg.vote m))) : Int)) = true]))))) : Option (V × Heap × List Prop)) := by kernel_rfl
theorem bdEnc_p0010 (m : SMsg) (g : Bool) :
 along Tryz.prog (bdEnc m g) [false, false, true, false] = (some (.tup [.str (bytesF (List.length (putZ (SMsg.kind m) ++ voteB (SMsg.vote m))) fun k => bl (putZ (SMsg.kind m) ++ voteB (SMsg.vote m)) (0 + k)), .int .i64 0], [], [T Tryz.prog 52 [.agg (SMsg.c m)] [] (.bool g) []] ++ (bdEnc_c m g 0 ++ ([decide (SMsg.kind m = (1 : Int)) = false] ++ (bdEnc_c m g 2 ++ ([decide ((4194304 : Int) < (↑(List.length (putZ (SMsg.kind m) ++ voteB (SMsg.vote m))) : Int)) = false, ∀ (k : Nat), k < List.length (putZ (SMsg.kind m) ++ voteB (SMsg.vote m)) → true = true, (0 : Nat) + List.length (putZ (SMsg.kind m) ++ voteB (SMsg.vote m)) ≤ List.length (putZ (SMsg.kind m) ++ voteB (SMsg.vote m)), ∀ (k : Nat), k < List.length (putZ (SMsg.kind m) ++ voteB (SMsg.vote m)) → true = true]))))) : Option (V × Heap × List Prop)) := by kernel_rfl
theorem bdEnc_p00011 (m : SMsg) (g : Bool) :
 along Tryz.prog (bdEnc m g) [false, false, false, true, true] = (some (.tup [.str (ByteArray.mk (Array.mk [])), .int .i64 3], [], [T Tryz.prog 52 [.agg (SMsg.c m)] [] (.bool g) []] ++ (bdEnc_c m g 0 ++ ([decide (SMsg.kind m = (1 : Int)) = false, decide (SMsg.kind m = (2 : Int)) = false] ++ (bdEnc_c m g 3 ++ ([decide ((4194304 : Int) < (↑(List.length (putZ (SMsg.kind m) ++ numsB [SMsg.cepoch m, SMsg.cleader m, SMsg.cview m] ++ (numsB [(↑(SMsg.nheld m) : Int)] ++ heldsB (SMsg.held m) (SMsg.nheld m)))) : Int)) = true]))))) : Option (V × Heap × List Prop)) := by kernel_rfl
theorem bdEnc_p00010 (m : SMsg) (g : Bool) :
 along Tryz.prog (bdEnc m g) [false, false, false, true, false] = (some (.tup [.str (bytesF (List.length (putZ (SMsg.kind m) ++ numsB [SMsg.cepoch m, SMsg.cleader m, SMsg.cview m] ++ (numsB [(↑(SMsg.nheld m) : Int)] ++ heldsB (SMsg.held m) (SMsg.nheld m)))) fun k => bl (putZ (SMsg.kind m) ++ numsB [SMsg.cepoch m, SMsg.cleader m, SMsg.cview m] ++ (numsB [(↑(SMsg.nheld m) : Int)] ++ heldsB (SMsg.held m) (SMsg.nheld m))) (0 + k)), .int .i64 0], [], [T Tryz.prog 52 [.agg (SMsg.c m)] [] (.bool g) []] ++ (bdEnc_c m g 0 ++ ([decide (SMsg.kind m = (1 : Int)) = false, decide (SMsg.kind m = (2 : Int)) = false] ++ (bdEnc_c m g 3 ++ ([decide ((4194304 : Int) < (↑(List.length (putZ (SMsg.kind m) ++ numsB [SMsg.cepoch m, SMsg.cleader m, SMsg.cview m] ++ (numsB [(↑(SMsg.nheld m) : Int)] ++ heldsB (SMsg.held m) (SMsg.nheld m)))) : Int)) = false, ∀ (k : Nat), k < List.length (putZ (SMsg.kind m) ++ numsB [SMsg.cepoch m, SMsg.cleader m, SMsg.cview m] ++ (numsB [(↑(SMsg.nheld m) : Int)] ++ heldsB (SMsg.held m) (SMsg.nheld m))) → true = true, (0 : Nat) + List.length (putZ (SMsg.kind m) ++ numsB [SMsg.cepoch m, SMsg.cleader m, SMsg.cview m] ++ (numsB [(↑(SMsg.nheld m) : Int)] ++ heldsB (SMsg.held m) (SMsg.nheld m))) ≤ List.length (putZ (SMsg.kind m) ++ numsB [SMsg.cepoch m, SMsg.cleader m, SMsg.cview m] ++ (numsB [(↑(SMsg.nheld m) : Int)] ++ heldsB (SMsg.held m) (SMsg.nheld m))), ∀ (k : Nat), k < List.length (putZ (SMsg.kind m) ++ numsB [SMsg.cepoch m, SMsg.cleader m, SMsg.cview m] ++ (numsB [(↑(SMsg.nheld m) : Int)] ++ heldsB (SMsg.held m) (SMsg.nheld m))) → true = true]))))) : Option (V × Heap × List Prop)) := by kernel_rfl
theorem bdEnc_p000011 (m : SMsg) (g : Bool) :
 along Tryz.prog (bdEnc m g) [false, false, false, false, true, true] = (some (.tup [.str (ByteArray.mk (Array.mk [])), .int .i64 3], [], [T Tryz.prog 52 [.agg (SMsg.c m)] [] (.bool g) []] ++ (bdEnc_c m g 0 ++ ([decide (SMsg.kind m = (1 : Int)) = false, decide (SMsg.kind m = (2 : Int)) = false, decide (SMsg.kind m = (3 : Int)) = false] ++ (bdEnc_c m g 4 ++ ([decide ((4194304 : Int) < (↑(List.length (putZ (SMsg.kind m) ++ numsB [SMsg.epoch m, SMsg.leader m, SMsg.view m] ++ (numsB [(↑(SMsg.nnews m) : Int)] ++ envsB (SMsg.news m) (SMsg.nnews m)))) : Int)) = true]))))) : Option (V × Heap × List Prop)) := by kernel_rfl
theorem bdEnc_p000010 (m : SMsg) (g : Bool) :
 along Tryz.prog (bdEnc m g) [false, false, false, false, true, false] = (some (.tup [.str (bytesF (List.length (putZ (SMsg.kind m) ++ numsB [SMsg.epoch m, SMsg.leader m, SMsg.view m] ++ (numsB [(↑(SMsg.nnews m) : Int)] ++ envsB (SMsg.news m) (SMsg.nnews m)))) fun k => bl (putZ (SMsg.kind m) ++ numsB [SMsg.epoch m, SMsg.leader m, SMsg.view m] ++ (numsB [(↑(SMsg.nnews m) : Int)] ++ envsB (SMsg.news m) (SMsg.nnews m))) (0 + k)), .int .i64 0], [], [T Tryz.prog 52 [.agg (SMsg.c m)] [] (.bool g) []] ++ (bdEnc_c m g 0 ++ ([decide (SMsg.kind m = (1 : Int)) = false, decide (SMsg.kind m = (2 : Int)) = false, decide (SMsg.kind m = (3 : Int)) = false] ++ (bdEnc_c m g 4 ++ ([decide ((4194304 : Int) < (↑(List.length (putZ (SMsg.kind m) ++ numsB [SMsg.epoch m, SMsg.leader m, SMsg.view m] ++ (numsB [(↑(SMsg.nnews m) : Int)] ++ envsB (SMsg.news m) (SMsg.nnews m)))) : Int)) = false, ∀ (k : Nat), k < List.length (putZ (SMsg.kind m) ++ numsB [SMsg.epoch m, SMsg.leader m, SMsg.view m] ++ (numsB [(↑(SMsg.nnews m) : Int)] ++ envsB (SMsg.news m) (SMsg.nnews m))) → true = true, (0 : Nat) + List.length (putZ (SMsg.kind m) ++ numsB [SMsg.epoch m, SMsg.leader m, SMsg.view m] ++ (numsB [(↑(SMsg.nnews m) : Int)] ++ envsB (SMsg.news m) (SMsg.nnews m))) ≤ List.length (putZ (SMsg.kind m) ++ numsB [SMsg.epoch m, SMsg.leader m, SMsg.view m] ++ (numsB [(↑(SMsg.nnews m) : Int)] ++ envsB (SMsg.news m) (SMsg.nnews m))), ∀ (k : Nat), k < List.length (putZ (SMsg.kind m) ++ numsB [SMsg.epoch m, SMsg.leader m, SMsg.view m] ++ (numsB [(↑(SMsg.nnews m) : Int)] ++ envsB (SMsg.news m) (SMsg.nnews m))) → true = true]))))) : Option (V × Heap × List Prop)) := by kernel_rfl
theorem bdEnc_p0000011 (m : SMsg) (g : Bool) :
 along Tryz.prog (bdEnc m g) [false, false, false, false, false, true, true] = (some (.tup [.str (ByteArray.mk (Array.mk [])), .int .i64 3], [], [T Tryz.prog 52 [.agg (SMsg.c m)] [] (.bool g) []] ++ (bdEnc_c m g 0 ++ ([decide (SMsg.kind m = (1 : Int)) = false, decide (SMsg.kind m = (2 : Int)) = false, decide (SMsg.kind m = (3 : Int)) = false, decide (SMsg.kind m = (4 : Int)) = false] ++ (bdEnc_c m g 5 ++ ([decide ((4194304 : Int) < (↑(List.length (putZ (SMsg.kind m) ++ numsB [SMsg.epoch m] ++ segB (SMsg.digest m))) : Int)) = true]))))) : Option (V × Heap × List Prop)) := by kernel_rfl
theorem bdEnc_p0000010 (m : SMsg) (g : Bool) :
 along Tryz.prog (bdEnc m g) [false, false, false, false, false, true, false] = (some (.tup [.str (bytesF (List.length (putZ (SMsg.kind m) ++ numsB [SMsg.epoch m] ++ segB (SMsg.digest m))) fun k => bl (putZ (SMsg.kind m) ++ numsB [SMsg.epoch m] ++ segB (SMsg.digest m)) (0 + k)), .int .i64 0], [], [T Tryz.prog 52 [.agg (SMsg.c m)] [] (.bool g) []] ++ (bdEnc_c m g 0 ++ ([decide (SMsg.kind m = (1 : Int)) = false, decide (SMsg.kind m = (2 : Int)) = false, decide (SMsg.kind m = (3 : Int)) = false, decide (SMsg.kind m = (4 : Int)) = false] ++ (bdEnc_c m g 5 ++ ([decide ((4194304 : Int) < (↑(List.length (putZ (SMsg.kind m) ++ numsB [SMsg.epoch m] ++ segB (SMsg.digest m))) : Int)) = false, ∀ (k : Nat), k < List.length (putZ (SMsg.kind m) ++ numsB [SMsg.epoch m] ++ segB (SMsg.digest m)) → true = true, (0 : Nat) + List.length (putZ (SMsg.kind m) ++ numsB [SMsg.epoch m] ++ segB (SMsg.digest m)) ≤ List.length (putZ (SMsg.kind m) ++ numsB [SMsg.epoch m] ++ segB (SMsg.digest m)), ∀ (k : Nat), k < List.length (putZ (SMsg.kind m) ++ numsB [SMsg.epoch m] ++ segB (SMsg.digest m)) → true = true]))))) : Option (V × Heap × List Prop)) := by kernel_rfl
theorem bdEnc_p00000011 (m : SMsg) (g : Bool) :
 along Tryz.prog (bdEnc m g) [false, false, false, false, false, false, true, true] = (some (.tup [.str (ByteArray.mk (Array.mk [])), .int .i64 3], [], [T Tryz.prog 52 [.agg (SMsg.c m)] [] (.bool g) []] ++ (bdEnc_c m g 0 ++ ([decide (SMsg.kind m = (1 : Int)) = false, decide (SMsg.kind m = (2 : Int)) = false, decide (SMsg.kind m = (3 : Int)) = false, decide (SMsg.kind m = (4 : Int)) = false, decide (SMsg.kind m = (5 : Int)) = false] ++ (bdEnc_c m g 6 ++ ([decide ((4194304 : Int) < (↑(List.length (putZ (SMsg.kind m) ++ numsB [SMsg.epoch m, SMsg.slot m])) : Int)) = true]))))) : Option (V × Heap × List Prop)) := by kernel_rfl
theorem bdEnc_p00000010 (m : SMsg) (g : Bool) :
 along Tryz.prog (bdEnc m g) [false, false, false, false, false, false, true, false] = (some (.tup [.str (bytesF (List.length (putZ (SMsg.kind m) ++ numsB [SMsg.epoch m, SMsg.slot m])) fun k => bl (putZ (SMsg.kind m) ++ numsB [SMsg.epoch m, SMsg.slot m]) (0 + k)), .int .i64 0], [], [T Tryz.prog 52 [.agg (SMsg.c m)] [] (.bool g) []] ++ (bdEnc_c m g 0 ++ ([decide (SMsg.kind m = (1 : Int)) = false, decide (SMsg.kind m = (2 : Int)) = false, decide (SMsg.kind m = (3 : Int)) = false, decide (SMsg.kind m = (4 : Int)) = false, decide (SMsg.kind m = (5 : Int)) = false] ++ (bdEnc_c m g 6 ++ ([decide ((4194304 : Int) < (↑(List.length (putZ (SMsg.kind m) ++ numsB [SMsg.epoch m, SMsg.slot m])) : Int)) = false, ∀ (k : Nat), k < List.length (putZ (SMsg.kind m) ++ numsB [SMsg.epoch m, SMsg.slot m]) → true = true, (0 : Nat) + List.length (putZ (SMsg.kind m) ++ numsB [SMsg.epoch m, SMsg.slot m]) ≤ List.length (putZ (SMsg.kind m) ++ numsB [SMsg.epoch m, SMsg.slot m]), ∀ (k : Nat), k < List.length (putZ (SMsg.kind m) ++ numsB [SMsg.epoch m, SMsg.slot m]) → true = true]))))) : Option (V × Heap × List Prop)) := by kernel_rfl
theorem bdEnc_p000000011 (m : SMsg) (g : Bool) :
 along Tryz.prog (bdEnc m g) [false, false, false, false, false, false, false, true, true] = (some (.tup [.str (ByteArray.mk (Array.mk [])), .int .i64 3], [], [T Tryz.prog 52 [.agg (SMsg.c m)] [] (.bool g) []] ++ (bdEnc_c m g 0 ++ ([decide (SMsg.kind m = (1 : Int)) = false, decide (SMsg.kind m = (2 : Int)) = false, decide (SMsg.kind m = (3 : Int)) = false, decide (SMsg.kind m = (4 : Int)) = false, decide (SMsg.kind m = (5 : Int)) = false, decide (SMsg.kind m = (6 : Int)) = false] ++ (bdEnc_c m g 7 ++ ([decide ((4194304 : Int) < (↑(List.length (putZ (SMsg.kind m) ++ batchB (SMsg.batch m) ++ certB (SMsg.cert m))) : Int)) = true]))))) : Option (V × Heap × List Prop)) := by kernel_rfl
theorem bdEnc_p000000010 (m : SMsg) (g : Bool) :
 along Tryz.prog (bdEnc m g) [false, false, false, false, false, false, false, true, false] = (some (.tup [.str (bytesF (List.length (putZ (SMsg.kind m) ++ batchB (SMsg.batch m) ++ certB (SMsg.cert m))) fun k => bl (putZ (SMsg.kind m) ++ batchB (SMsg.batch m) ++ certB (SMsg.cert m)) (0 + k)), .int .i64 0], [], [T Tryz.prog 52 [.agg (SMsg.c m)] [] (.bool g) []] ++ (bdEnc_c m g 0 ++ ([decide (SMsg.kind m = (1 : Int)) = false, decide (SMsg.kind m = (2 : Int)) = false, decide (SMsg.kind m = (3 : Int)) = false, decide (SMsg.kind m = (4 : Int)) = false, decide (SMsg.kind m = (5 : Int)) = false, decide (SMsg.kind m = (6 : Int)) = false] ++ (bdEnc_c m g 7 ++ ([decide ((4194304 : Int) < (↑(List.length (putZ (SMsg.kind m) ++ batchB (SMsg.batch m) ++ certB (SMsg.cert m))) : Int)) = false, ∀ (k : Nat), k < List.length (putZ (SMsg.kind m) ++ batchB (SMsg.batch m) ++ certB (SMsg.cert m)) → true = true, (0 : Nat) + List.length (putZ (SMsg.kind m) ++ batchB (SMsg.batch m) ++ certB (SMsg.cert m)) ≤ List.length (putZ (SMsg.kind m) ++ batchB (SMsg.batch m) ++ certB (SMsg.cert m)), ∀ (k : Nat), k < List.length (putZ (SMsg.kind m) ++ batchB (SMsg.batch m) ++ certB (SMsg.cert m)) → true = true]))))) : Option (V × Heap × List Prop)) := by kernel_rfl
theorem bdEnc_p0000000011 (m : SMsg) (g : Bool) :
 along Tryz.prog (bdEnc m g) [false, false, false, false, false, false, false, false, true, true] = (some (.tup [.str (ByteArray.mk (Array.mk [])), .int .i64 3], [], [T Tryz.prog 52 [.agg (SMsg.c m)] [] (.bool g) []] ++ (bdEnc_c m g 0 ++ ([decide (SMsg.kind m = (1 : Int)) = false, decide (SMsg.kind m = (2 : Int)) = false, decide (SMsg.kind m = (3 : Int)) = false, decide (SMsg.kind m = (4 : Int)) = false, decide (SMsg.kind m = (5 : Int)) = false, decide (SMsg.kind m = (6 : Int)) = false] ++ (bdEnc_c m g 8 ++ ([decide ((4194304 : Int) < (↑(List.length (putZ (SMsg.kind m) ++ textB (SMsg.state m) ++ (numsB [(↑(SMsg.n m) : Int)] ++ signsB (SMsg.sig m) (SMsg.n m)))) : Int)) = true]))))) : Option (V × Heap × List Prop)) := by kernel_rfl
theorem bdEnc_p0000000010 (m : SMsg) (g : Bool) :
 along Tryz.prog (bdEnc m g) [false, false, false, false, false, false, false, false, true, false] = (some (.tup [.str (bytesF (List.length (putZ (SMsg.kind m) ++ textB (SMsg.state m) ++ (numsB [(↑(SMsg.n m) : Int)] ++ signsB (SMsg.sig m) (SMsg.n m)))) fun k => bl (putZ (SMsg.kind m) ++ textB (SMsg.state m) ++ (numsB [(↑(SMsg.n m) : Int)] ++ signsB (SMsg.sig m) (SMsg.n m))) (0 + k)), .int .i64 0], [], [T Tryz.prog 52 [.agg (SMsg.c m)] [] (.bool g) []] ++ (bdEnc_c m g 0 ++ ([decide (SMsg.kind m = (1 : Int)) = false, decide (SMsg.kind m = (2 : Int)) = false, decide (SMsg.kind m = (3 : Int)) = false, decide (SMsg.kind m = (4 : Int)) = false, decide (SMsg.kind m = (5 : Int)) = false, decide (SMsg.kind m = (6 : Int)) = false] ++ (bdEnc_c m g 8 ++ ([decide ((4194304 : Int) < (↑(List.length (putZ (SMsg.kind m) ++ textB (SMsg.state m) ++ (numsB [(↑(SMsg.n m) : Int)] ++ signsB (SMsg.sig m) (SMsg.n m)))) : Int)) = false, ∀ (k : Nat), k < List.length (putZ (SMsg.kind m) ++ textB (SMsg.state m) ++ (numsB [(↑(SMsg.n m) : Int)] ++ signsB (SMsg.sig m) (SMsg.n m))) → true = true, (0 : Nat) + List.length (putZ (SMsg.kind m) ++ textB (SMsg.state m) ++ (numsB [(↑(SMsg.n m) : Int)] ++ signsB (SMsg.sig m) (SMsg.n m))) ≤ List.length (putZ (SMsg.kind m) ++ textB (SMsg.state m) ++ (numsB [(↑(SMsg.n m) : Int)] ++ signsB (SMsg.sig m) (SMsg.n m))), ∀ (k : Nat), k < List.length (putZ (SMsg.kind m) ++ textB (SMsg.state m) ++ (numsB [(↑(SMsg.n m) : Int)] ++ signsB (SMsg.sig m) (SMsg.n m))) → true = true]))))) : Option (V × Heap × List Prop)) := by kernel_rfl
theorem bytesF_bl (l : List UInt8) : bytesF l.length (fun k => bl l (0 + k)) = baL l := by
 unfold bytesF baL
 congr 2
 apply List.ext_getElem?
 intro i
 rcases Nat.lt_or_ge i l.length with h | h
 ·simp [h, bl, intOf, List.getD_eq_getElem?_getD]
 ·rw [List.getElem?_eq_none (by simpa using h), List.getElem?_eq_none h]
theorem numsB2_len {a b : Int} (ha : num63 a) (hb : num63 b) : (numsB [a, b]).length ≤ 18 := by
 have h1 := putZ_len ha
 have h2 := putZ_len hb
 simp only [numsB, List.length_append, List.length_nil]; omega
theorem numsB3_len {a b c : Int} (ha : num63 a) (hb : num63 b) (hc : num63 c) : (numsB [a, b, c]).length ≤ 27 := by
 have h1 := putZ_len ha
 have h2 := putZ_len hb
 have h3 := putZ_len hc
 simp only [numsB, List.length_append, List.length_nil]; omega
/-- What a message that may be has. -/
structure EncOk (m : SMsg) : Prop where
 kind : 1 ≤ m.kind ∧ m.kind ≤ 8
 epoch : num63 m.epoch
 leader : num63 m.leader
 view : num63 m.view
 slot : num63 m.slot
 cepoch : num63 m.cepoch
 cleader : num63 m.cleader
 cview : num63 m.cview
 batch : BatchOk m.batch
 vote : m.kind = 2 → VoteOk m.vote
 nheld : m.nheld ≤ 100
 held : ∀ k, k < m.nheld → HeldOk (m.held k)
 nnews : m.nnews ≤ 1000
 news : ∀ k, k < m.nnews → EnvOk (m.news k)
 digest : SegOk 32 m.digest
 cert : m.kind = 7 → CertOk m.cert
 state : m.state.size ≤ 10000000
 n : m.n ≤ 1000
 sig : ∀ k, k < m.n → SignOk (m.sig k)
def encV (m : SMsg) (g : Bool) : V := if g = true then (if 4194304 < (encB m).length then .tup [.str (ByteArray.mk (Array.mk [])), .int .i64 3] else .tup [.str (baL (encB m)), .int .i64 0]) else .tup [.str (ByteArray.mk (Array.mk [])), .int .i64 130]
theorem T_enc1 {m : SMsg} (hg : T Tryz.prog 52 [.agg m.c] [] (.bool true) []) (h : EncOk m) (hk : m.kind = 1) : T Tryz.prog 19 [.agg m.c] [] (encV m true) [] := by
 have e : encB m = putZ m.kind ++ numsB [m.epoch, m.slot] ++ batchB m.batch := by simp [encB, bodyB, hk]
 have h0 : num63 m.kind := by rw [hk]; exact ⟨by decide, by decide⟩
 have h9 := putZ_len h0
 have hs := h.state
 have hl0 := numsB2_len h.epoch h.slot
 by_cases hl : 4194304 < (encB m).length
 ·refine T.val (T_al (bdEnc_p011 m true) Tryz.func19 ?_) (by simp [encV, hl])
  rw [e] at hl
  simp only [All, All_append, bdEnc_c]
  and_intros
  all_goals first | exact hg | exact T_nu0 h0 (by decide) | exact T_nu2 (by first | omega | (simp only [List.length_append]; omega)) h.epoch h.slot (by decide) | exact T_wb (by first | omega | (simp only [List.length_append]; omega)) h.batch (by decide) | (rw [decide_eq_true_eq]; omega) | (simp [hk]; done)
 ·refine T.val (T_al (bdEnc_p010 m true) Tryz.func19 ?_) (by rw [bytesF_bl, ← e]; simp [encV, hl])
  rw [e] at hl
  simp only [All, All_append, bdEnc_c]
  and_intros
  all_goals first | exact hg | exact T_nu0 h0 (by decide) | exact T_nu2 (by first | omega | (simp only [List.length_append]; omega)) h.epoch h.slot (by decide) | exact T_wb (by first | omega | (simp only [List.length_append]; omega)) h.batch (by decide) | (rw [decide_eq_false_iff_not]; omega) | (simp [hk]; done)
theorem T_enc2 {m : SMsg} (hg : T Tryz.prog 52 [.agg m.c] [] (.bool true) []) (h : EncOk m) (hk : m.kind = 2) : T Tryz.prog 19 [.agg m.c] [] (encV m true) [] := by
 have e : encB m = putZ m.kind ++ voteB m.vote := by simp [encB, bodyB, hk]
 have h0 : num63 m.kind := by rw [hk]; exact ⟨by decide, by decide⟩
 have h9 := putZ_len h0
 have hs := h.state
 by_cases hl : 4194304 < (encB m).length
 ·refine T.val (T_al (bdEnc_p0011 m true) Tryz.func19 ?_) (by simp [encV, hl])
  rw [e] at hl
  simp only [All, All_append, bdEnc_c]
  and_intros
  all_goals first | exact hg | exact T_nu0 h0 (by decide) | exact T_vot (by first | omega | (simp only [List.length_append]; omega)) (h.vote hk) (by decide) | (rw [decide_eq_true_eq]; omega) | (simp [hk]; done)
 ·refine T.val (T_al (bdEnc_p0010 m true) Tryz.func19 ?_) (by rw [bytesF_bl, ← e]; simp [encV, hl])
  rw [e] at hl
  simp only [All, All_append, bdEnc_c]
  and_intros
  all_goals first | exact hg | exact T_nu0 h0 (by decide) | exact T_vot (by first | omega | (simp only [List.length_append]; omega)) (h.vote hk) (by decide) | (rw [decide_eq_false_iff_not]; omega) | (simp [hk]; done)
theorem T_enc3 {m : SMsg} (hg : T Tryz.prog 52 [.agg m.c] [] (.bool true) []) (h : EncOk m) (hk : m.kind = 3) : T Tryz.prog 19 [.agg m.c] [] (encV m true) [] := by
 have e : encB m = putZ m.kind ++ numsB [m.cepoch, m.cleader, m.cview] ++ (numsB [(m.nheld : Int)] ++ heldsB m.held m.nheld) := by simp [encB, bodyB, hk]
 have h0 : num63 m.kind := by rw [hk]; exact ⟨by decide, by decide⟩
 have h9 := putZ_len h0
 have hs := h.state
 have hl0 := numsB3_len h.cepoch h.cleader h.cview
 by_cases hl : 4194304 < (encB m).length
 ·refine T.val (T_al (bdEnc_p00011 m true) Tryz.func19 ?_) (by simp [encV, hl])
  rw [e] at hl
  simp only [All, All_append, bdEnc_c]
  and_intros
  all_goals first | exact hg | exact T_nu0 h0 (by decide) | exact T_nu3 (by first | omega | (simp only [List.length_append]; omega)) h.cepoch h.cleader h.cview (by decide) | exact T_pHl (by first | omega | (simp only [List.length_append]; omega)) h.nheld h.held (by decide) | (rw [decide_eq_true_eq]; omega) | (simp [hk]; done)
 ·refine T.val (T_al (bdEnc_p00010 m true) Tryz.func19 ?_) (by rw [bytesF_bl, ← e]; simp [encV, hl])
  rw [e] at hl
  simp only [All, All_append, bdEnc_c]
  and_intros
  all_goals first | exact hg | exact T_nu0 h0 (by decide) | exact T_nu3 (by first | omega | (simp only [List.length_append]; omega)) h.cepoch h.cleader h.cview (by decide) | exact T_pHl (by first | omega | (simp only [List.length_append]; omega)) h.nheld h.held (by decide) | (rw [decide_eq_false_iff_not]; omega) | (simp [hk]; done)
theorem T_enc4 {m : SMsg} (hg : T Tryz.prog 52 [.agg m.c] [] (.bool true) []) (h : EncOk m) (hk : m.kind = 4) : T Tryz.prog 19 [.agg m.c] [] (encV m true) [] := by
 have e : encB m = putZ m.kind ++ numsB [m.epoch, m.leader, m.view] ++ (numsB [(m.nnews : Int)] ++ envsB m.news m.nnews) := by simp [encB, bodyB, hk]
 have h0 : num63 m.kind := by rw [hk]; exact ⟨by decide, by decide⟩
 have h9 := putZ_len h0
 have hs := h.state
 have hl0 := numsB3_len h.epoch h.leader h.view
 by_cases hl : 4194304 < (encB m).length
 ·refine T.val (T_al (bdEnc_p000011 m true) Tryz.func19 ?_) (by simp [encV, hl])
  rw [e] at hl
  simp only [All, All_append, bdEnc_c]
  and_intros
  all_goals first | exact hg | exact T_nu0 h0 (by decide) | exact T_nu3 (by first | omega | (simp only [List.length_append]; omega)) h.epoch h.leader h.view (by decide) | exact T_pNw (by first | omega | (simp only [List.length_append]; omega)) h.nnews h.news (by decide) | (rw [decide_eq_true_eq]; omega) | (simp [hk]; done)
 ·refine T.val (T_al (bdEnc_p000010 m true) Tryz.func19 ?_) (by rw [bytesF_bl, ← e]; simp [encV, hl])
  rw [e] at hl
  simp only [All, All_append, bdEnc_c]
  and_intros
  all_goals first | exact hg | exact T_nu0 h0 (by decide) | exact T_nu3 (by first | omega | (simp only [List.length_append]; omega)) h.epoch h.leader h.view (by decide) | exact T_pNw (by first | omega | (simp only [List.length_append]; omega)) h.nnews h.news (by decide) | (rw [decide_eq_false_iff_not]; omega) | (simp [hk]; done)
theorem T_enc5 {m : SMsg} (hg : T Tryz.prog 52 [.agg m.c] [] (.bool true) []) (h : EncOk m) (hk : m.kind = 5) : T Tryz.prog 19 [.agg m.c] [] (encV m true) [] := by
 have e : encB m = putZ m.kind ++ numsB [m.epoch] ++ segB m.digest := by simp [encB, bodyB, hk]
 have h0 : num63 m.kind := by rw [hk]; exact ⟨by decide, by decide⟩
 have h9 := putZ_len h0
 have hs := h.state
 have hl0 := numsB1_len h.epoch
 by_cases hl : 4194304 < (encB m).length
 ·refine T.val (T_al (bdEnc_p0000011 m true) Tryz.func19 ?_) (by simp [encV, hl])
  rw [e] at hl
  simp only [All, All_append, bdEnc_c]
  and_intros
  all_goals first | exact hg | exact T_nu0 h0 (by decide) | exact T_nu1 (by first | omega | (simp only [List.length_append]; omega)) h.epoch (by decide) | exact T_dig (by first | omega | (simp only [List.length_append]; omega)) h.digest (by decide) | (rw [decide_eq_true_eq]; omega) | (simp [hk]; done)
 ·refine T.val (T_al (bdEnc_p0000010 m true) Tryz.func19 ?_) (by rw [bytesF_bl, ← e]; simp [encV, hl])
  rw [e] at hl
  simp only [All, All_append, bdEnc_c]
  and_intros
  all_goals first | exact hg | exact T_nu0 h0 (by decide) | exact T_nu1 (by first | omega | (simp only [List.length_append]; omega)) h.epoch (by decide) | exact T_dig (by first | omega | (simp only [List.length_append]; omega)) h.digest (by decide) | (rw [decide_eq_false_iff_not]; omega) | (simp [hk]; done)
theorem T_enc6 {m : SMsg} (hg : T Tryz.prog 52 [.agg m.c] [] (.bool true) []) (h : EncOk m) (hk : m.kind = 6) : T Tryz.prog 19 [.agg m.c] [] (encV m true) [] := by
 have e : encB m = putZ m.kind ++ numsB [m.epoch, m.slot] := by simp [encB, bodyB, hk]
 have h0 : num63 m.kind := by rw [hk]; exact ⟨by decide, by decide⟩
 have h9 := putZ_len h0
 have hs := h.state
 by_cases hl : 4194304 < (encB m).length
 ·refine T.val (T_al (bdEnc_p00000011 m true) Tryz.func19 ?_) (by simp [encV, hl])
  rw [e] at hl
  simp only [All, All_append, bdEnc_c]
  and_intros
  all_goals first | exact hg | exact T_nu0 h0 (by decide) | exact T_nu2 (by first | omega | (simp only [List.length_append]; omega)) h.epoch h.slot (by decide) | (rw [decide_eq_true_eq]; omega) | (simp [hk]; done)
 ·refine T.val (T_al (bdEnc_p00000010 m true) Tryz.func19 ?_) (by rw [bytesF_bl, ← e]; simp [encV, hl])
  rw [e] at hl
  simp only [All, All_append, bdEnc_c]
  and_intros
  all_goals first | exact hg | exact T_nu0 h0 (by decide) | exact T_nu2 (by first | omega | (simp only [List.length_append]; omega)) h.epoch h.slot (by decide) | (rw [decide_eq_false_iff_not]; omega) | (simp [hk]; done)
theorem T_enc7 {m : SMsg} (hg : T Tryz.prog 52 [.agg m.c] [] (.bool true) []) (h : EncOk m) (hk : m.kind = 7) : T Tryz.prog 19 [.agg m.c] [] (encV m true) [] := by
 have e : encB m = putZ m.kind ++ batchB m.batch ++ certB m.cert := by simp [encB, bodyB, hk]
 have h0 : num63 m.kind := by rw [hk]; exact ⟨by decide, by decide⟩
 have h9 := putZ_len h0
 have hs := h.state
 have hl0 := batchB_len h.batch
 by_cases hl : 4194304 < (encB m).length
 ·refine T.val (T_al (bdEnc_p000000011 m true) Tryz.func19 ?_) (by simp [encV, hl])
  rw [e] at hl
  simp only [All, All_append, bdEnc_c]
  and_intros
  all_goals first | exact hg | exact T_nu0 h0 (by decide) | exact T_wb (by first | omega | (simp only [List.length_append]; omega)) h.batch (by decide) | exact T_crt (by first | omega | (simp only [List.length_append]; omega)) (h.cert hk) (by decide) | (rw [decide_eq_true_eq]; omega) | (simp [hk]; done)
 ·refine T.val (T_al (bdEnc_p000000010 m true) Tryz.func19 ?_) (by rw [bytesF_bl, ← e]; simp [encV, hl])
  rw [e] at hl
  simp only [All, All_append, bdEnc_c]
  and_intros
  all_goals first | exact hg | exact T_nu0 h0 (by decide) | exact T_wb (by first | omega | (simp only [List.length_append]; omega)) h.batch (by decide) | exact T_crt (by first | omega | (simp only [List.length_append]; omega)) (h.cert hk) (by decide) | (rw [decide_eq_false_iff_not]; omega) | (simp [hk]; done)
theorem T_enc8 {m : SMsg} (hg : T Tryz.prog 52 [.agg m.c] [] (.bool true) []) (h : EncOk m) (hk : m.kind = 8) : T Tryz.prog 19 [.agg m.c] [] (encV m true) [] := by
 have e : encB m = putZ m.kind ++ textB m.state ++ (numsB [(m.n : Int)] ++ signsB m.sig m.n) := by simp [encB, bodyB, hk]
 have h0 : num63 m.kind := by rw [hk]; exact ⟨by decide, by decide⟩
 have h9 := putZ_len h0
 have hs := h.state
 have hl0 := textB_len (s := m.state) (by have := h.state; omega)
 by_cases hl : 4194304 < (encB m).length
 ·refine T.val (T_al (bdEnc_p0000000011 m true) Tryz.func19 ?_) (by simp [encV, hl])
  rw [e] at hl
  simp only [All, All_append, bdEnc_c]
  and_intros
  all_goals first | exact hg | exact T_nu0 h0 (by decide) | exact T_wt (by first | omega | (simp only [List.length_append]; omega)) (by have := h.state; omega) (by decide) | exact T_pSg (by first | omega | (simp only [List.length_append]; omega)) h.n h.sig (by decide) | (rw [decide_eq_true_eq]; omega) | (simp [hk]; done)
 ·refine T.val (T_al (bdEnc_p0000000010 m true) Tryz.func19 ?_) (by rw [bytesF_bl, ← e]; simp [encV, hl])
  rw [e] at hl
  simp only [All, All_append, bdEnc_c]
  and_intros
  all_goals first | exact hg | exact T_nu0 h0 (by decide) | exact T_wt (by first | omega | (simp only [List.length_append]; omega)) (by have := h.state; omega) (by decide) | exact T_pSg (by first | omega | (simp only [List.length_append]; omega)) h.n h.sig (by decide) | (rw [decide_eq_false_iff_not]; omega) | (simp [hk]; done)
theorem T_enc {m : SMsg} {g : Bool} (hg : T Tryz.prog 52 [.agg m.c] [] (.bool g) []) (h : g = true → EncOk m) : T Tryz.prog 19 [.agg m.c] [] (encV m g) [] := by
 cases g with
 | false => exact T_al (bdEnc_p1 m false) Tryz.func19 ⟨hg, rfl, trivial⟩
 | true =>
  have h := h rfl
  have hk := h.kind
  have : m.kind = 1 ∨ m.kind = 2 ∨ m.kind = 3 ∨ m.kind = 4 ∨ m.kind = 5 ∨ m.kind = 6 ∨ m.kind = 7 ∨ m.kind = 8 := by omega
  rcases this with h1 | h1 | h1 | h1 | h1 | h1 | h1 | h1
  ·exact T_enc1 hg h h1
  ·exact T_enc2 hg h h1
  ·exact T_enc3 hg h h1
  ·exact T_enc4 hg h h1
  ·exact T_enc5 hg h h1
  ·exact T_enc6 hg h h1
  ·exact T_enc7 hg h h1
  ·exact T_enc8 hg h h1
end Go.Proofs.YtnmccoincblecaaGreat
namespace Go.Proofs.YtnmccoincblecaaGreat
open Go Sy Go.Proofs
/-- What is left, the first error, whether a vote was none. -/
structure RS where
 l : List UInt8 := []
 e : Int := 0
 bad : Bool := false
def rdB (s : RS) : B := .flat [.ros 1 s.l.length (bl s.l) false, .int .i64 s.e, .bool true]
def beN (xs : List UInt8) : Nat := xs.foldl (fun a x => a * 256 + x.toNat) 0
def kOf (l : List UInt8) : Nat := (l.getD 0 0).toNat
def nE (l : List UInt8) : Int := if l.length = 0 then 10 else if 8 < kOf l then 11 else if l.length ≤ kOf l then 10 else if 0 < kOf l ∧ (l.getD 1 0).toNat = 0 then 11 else if kOf l = 8 ∧ 127 < (l.getD 1 0).toNat then 11 else 0
def nV (l : List UInt8) : Int := if nE l = 0 then (beN ((l.drop 1).take (kOf l)) : Nat) else 0
def nS (l : List UInt8) : Int := if nE l = 0 then (kOf l + 1 : Nat) else 0
def RS.fail (s : RS) (e : Int) : RS := { l := [], e := e, bad := s.bad }
def RS.drop (s : RS) (n : Nat) : RS := { l := s.l.drop n, e := s.e, bad := s.bad }
def nE1 (most : Int) (l : List UInt8) : Int := if nE l = 0 ∧ most < nV l then 3 else nE l
def numR (most : Int) (s : RS) : Int × RS := if s.e ≠ 0 then (0, s) else if nE1 most s.l ≠ 0 then (0, s.fail (nE1 most s.l)) else (nV s.l, s.drop (nS s.l).toNat)
def tE (most : Int) (l : List UInt8) : Int := if nE l ≠ 0 then nE l else if most < nV l then 3 else if (l.length : Int) - nS l < nV l then 10 else 0
def textR (most : Int) (s : RS) : ByteArray × RS := if s.e ≠ 0 then (baL [], s) else if tE most s.l ≠ 0 then (baL [], s.fail (tE most s.l)) else (baL ((s.l.drop (nS s.l).toNat).take (nV s.l).toNat), (s.drop (nS s.l).toNat).drop (nV s.l).toNat)
def rawR (n : Int) (s : RS) : List UInt8 × RS := if s.e ≠ 0 then ([], s) else if n < 0 then ([], s.fail 2) else if (s.l.length : Int) < n then ([], s.fail 10) else (s.l.take n.toNat, s.drop n.toNat)
def doneR (s : RS) : Int := if s.e ≠ 0 then s.e else if 0 < s.l.length then 12 else 0
def roB (l : List UInt8) : V := .ros 1 l.length (bl l) false
def p0 : V := .ptr (.o 0) 0 0 0 0
def kRd (s : RS) (l : List (Nat × V)) : Exit → St → Option W := fun _ st => some ⟨[], setsOf l, [(.o 0, .set (rdB s))], none, st.next⟩
def n0 : St → List Nm := fun _ => [.o 0]
def dbF (l : List (Nat × (List V → Heap → Nat → List Cl))) : Nat → List V → Heap → Nat → List Cl := fun k args h lo => match lookS l k with
 | some f => f args h lo
 | none => []
def cRd (v : V) (s : RS) : List V → Heap → Nat → List Cl := fun args _ _ => match args with
 | .ptr a _ _ _ _ :: _ => [{ pre := [a], val := v, post := [(a, rdB s)] }]
 | _ => []
def kRead (l : List UInt8) : Exit → St → Option W := fun _ st => match getV st.tmps 2 with
 | .ptr a _ _ _ _ => some ⟨[(.o 63, a)], [(2, .set (.ptr (.o 63) 0 0 0 0))], [(.o 63, .set (rdB { l := l }))], none, st.next⟩
 | _ => none
noncomputable def bdRead (l : List UInt8) : Bd := { f := Tryz.f24, args := [roB l], kb := kb0, k := kRead l, names := fun _ => [.o 63] }
noncomputable def bdStop (s : RS) : Bd := { f := Tryz.f73, args := [p0], pre := [(.o 0, rdB s)], base := 1, kb := kb0, names := n0 }
noncomputable def bdErr (s : RS) : Bd := { f := Tryz.f78, args := [p0], pre := [(.o 0, rdB s)], base := 1, kb := kb0, names := n0 }
noncomputable def bdLeft (s : RS) : Bd := { f := Tryz.f77, args := [p0], pre := [(.o 0, rdB s)], base := 1, kb := kb0, names := n0 }
noncomputable def bdDone (s : RS) : Bd := { f := Tryz.f28, args := [p0], pre := [(.o 0, rdB s)], base := 1, kb := { db := dbF [(78, cRd (.int .i64 s.e) s), (77, cRd (.int .i64 (s.l.length : Nat)) s)] }, names := n0 }
noncomputable def bdFail (s : RS) (e : Int) : Bd := { f := Tryz.f75, args := [p0, .int .i64 e], pre := [(.o 0, rdB s)], base := 1, kb := kb0, names := n0, k := kRd (s.fail e) [] }
noncomputable def bdTake (s : RS) (n : Nat) : Bd := { f := Tryz.f76, args := [p0, .int .i64 n], pre := [(.o 0, rdB s)], base := 1, kb := kb0, names := n0, k := kRd (s.drop n) [(4, .ros 1 n (bl (s.l.take n)) false)] }
def nbI (l : List UInt8) (s : RS) (k : Nat) : St := ⟨mkT 76 [(2, .int .i64 (beN ((l.drop 1).take k) : Nat)), (3, .int .i64 0), (4, .int .i64 0), (5, .int .i64 (kOf l : Nat)), (61, .ros 1 (kOf l) (bl (l.drop 1)) false), (62, .int .i64 (kOf l : Nat)), (63, .int .i64 k)], [(.o 0, rdB s)], 1, []⟩
noncomputable def bdNumber (s : RS) : Bd := { f := Tryz.f74, args := [p0], pre := [(.o 0, rdB s)], base := 1, kb := { db := fun _ _ _ _ => [], lp := fun _ _ => [(True, .loop (kOf s.l + 1) (wTo (nbI s.l s 0)) (.exit 1) (nbI s.l s (kOf s.l)))] }, names := n0 }
noncomputable def pcNumber (s : RS) (k : Nat) : Pc := { c := cB (cB (cR (cL (cR (cR (cR (cR (bodyOf Tryz.f74)))))))), st := nbI s.l s k, p := 1, kb := kb0, k := fun e _ => match e with
 | .normal => some (wTo (nbI s.l s (k + 1)))
 | _ => some (wTo (nbI s.l s (kOf s.l))) }
def numberV (l : List UInt8) : V := .tup [.int .i64 (nV l), .int .i64 (nS l), .int .i64 (nE l)]
def stopV (s : RS) : V := .bool (!decide (s.e = 0))
noncomputable def bdNum (most : Int) (s : RS) : Bd := { f := Tryz.f25, args := [p0, .int .i64 most], pre := [(.o 0, rdB s)], base := 1, kb := { db := dbF [(73, cRd (stopV s) s), (74, cRd (numberV s.l) s), (75, cRd (.tup []) (s.fail (nE1 most s.l))), (76, cRd (.ros 1 (nS s.l).toNat (bl (s.l.take (nS s.l).toNat)) false) (s.drop (nS s.l).toNat))] }, names := n0 }
def dbG (l : List (Nat × (List V → Heap → Nat → List Cl))) (g : List (Nat × (List V → Heap → Nat → List Cl))) : Nat → List V → Heap → Nat → List Cl := fun k args h lo => match lookS l k with
 | some f => f args h lo
 | none => match lookS g (lo / 64) with
  | some f => f args h lo
  | none => []
noncomputable def bdTextR (most : Int) (s : RS) : Bd := { f := Tryz.f26, args := [p0, .int .i64 most], pre := [(.o 0, rdB s)], base := 1, kb := { db := dbG [(73, cRd (stopV s) s), (74, cRd (numberV s.l) s), (77, cRd (.int .i64 (s.l.length : Nat)) s), (75, cRd (.tup []) (s.fail (tE most s.l)))] [(36, cRd (.ros 1 (nS s.l).toNat (bl (s.l.take (nS s.l).toNat)) false) (s.drop (nS s.l).toNat)), (41, cRd (.ros 1 (nV s.l).toNat (bl ((s.l.drop (nS s.l).toNat).take (nV s.l).toNat)) false) ((s.drop (nS s.l).toNat).drop (nV s.l).toNat))] }, names := n0 }
noncomputable def bdRawR (n : Int) (s : RS) : Bd := { f := Tryz.f27, args := [p0, .int .i64 n], pre := [(.o 0, rdB s)], base := 1, kb := { db := dbF [(73, cRd (stopV s) s), (77, cRd (.int .i64 (s.l.length : Nat)) s), (75, cRd (.tup []) (rawR n s).2), (76, cRd (.ros 1 n.toNat (bl (s.l.take n.toNat)) false) (s.drop n.toNat))] }, names := n0, k := kRd (rawR n s).2 [(4, roB (rawR n s).1)] }
end Go.Proofs.YtnmccoincblecaaGreat
namespace Go.Proofs.YtnmccoincblecaaGreat
open Go Sy Go.Proofs
theorem bdRead_p (l : List UInt8) :
  along Tryz.prog (bdRead l) [] = some (V.ptr (Nm.o (63 : Nat)) (0 : Nat) (0 : Nat) (0 : Nat) (0 : Nat), [(Nm.o (63 : Nat), B.flat [V.ros (1 : Nat) (List.length l) (bl l) false, V.int IntKind.i64 (0 : Int), V.bool true])], [(0 : Nat) = (0 : Nat), ∀ (k : Nat), k < List.length l → true = true, ((0 : Nat) + List.length l) * (1 : Nat) ≤ (140737488355328 : Nat), (0 : Nat) + List.length l = List.length l, (0 : Nat) + ((0 : Nat) + List.length l) ≤ (0 : Nat) + List.length l, ∀ (k : Nat), k < (0 : Nat) + List.length l → [V.int IntKind.u8 (↑(UInt8.toNat (List.getD l ((0 : Nat) + k - (0 : Nat)) (0 : UInt8))) : Int)] = bl l k, false = true → none = some ((0 : Nat) + List.length l), (0 : Int) = (0 : Int), true = true, (0 : Nat) = (0 : Nat), (0 : Nat) = (0 : Nat), (0 : Nat) = (0 : Nat)]) := by kernel_rfl

theorem bdStop_p00 (s : RS) :
  along Tryz.prog (bdStop s) [false, false] = (some (.bool !decide (RS.e s = (0 : Int)), [(.o 0, rdB s)], [q false, q false]) : Option (V × Heap × List Prop)) := by kernel_rfl

theorem bdErr_p00 (s : RS) :
  along Tryz.prog (bdErr s) [false, false] = (some (.int .i64 (RS.e s), [(.o 0, rdB s)], [q false, q false]) : Option (V × Heap × List Prop)) := by kernel_rfl

theorem bdLeft_p (s : RS) :
  along Tryz.prog (bdLeft s) [] = (some (.int .i64 (↑(List.length (RS.l s)) : Int), [(.o 0, rdB s)], []) : Option (V × Heap × List Prop)) := by kernel_rfl

noncomputable def bdDone_c (s : RS) : Nat → List Prop
 | 0 => [T Tryz.prog 78 [.ptr (.o 0) 0 0 0 0] [(.o 0, rdB s)] (.int .i64 (RS.e s)) [(.o 0, rdB s)]]
 | 1 => [(!decide (RS.e s = (0 : Int))) = false, T Tryz.prog 77 [.ptr (.o 0) 0 0 0 0] [(.o 0, rdB s)] (.int .i64 (↑(List.length (RS.l s)) : Int)) [(.o 0, rdB s)]]
 | _ => []
theorem bdDone_p1 (s : RS) :
 along Tryz.prog (bdDone s) [true] = (some (.int .i64 (RS.e s), [(.o 0, rdB s)], bdDone_c s 0 ++ [(!decide (RS.e s = (0 : Int))) = true]) : Option (V × Heap × List Prop)) := by kernel_rfl
theorem bdDone_p01 (s : RS) :
 along Tryz.prog (bdDone s) [false, true] = (some (.int .i64 12, [(.o 0, rdB s)], bdDone_c s 0 ++ (bdDone_c s 1 ++ [decide ((0 : Int) < (↑(List.length (RS.l s)) : Int)) = true])) : Option (V × Heap × List Prop)) := by kernel_rfl
theorem bdDone_p00 (s : RS) :
 along Tryz.prog (bdDone s) [false, false] = (some (.int .i64 0, [(.o 0, rdB s)], bdDone_c s 0 ++ (bdDone_c s 1 ++ [decide ((0 : Int) < (↑(List.length (RS.l s)) : Int)) = false])) : Option (V × Heap × List Prop)) := by kernel_rfl

theorem bdFail_p (s : RS) (e : Int) :
  along Tryz.prog (bdFail s e) [] = (some (.tup [], [(.o 0, .flat [.ros 1 0 (bl []) false, .int .i64 e, .bool true])], [nat_lit 0 = (0 : Nat), q e, q2]) : Option (V × Heap × List Prop)) := by kernel_rfl

theorem bdTake_p (s : RS) (n : Nat) :
  along Tryz.prog (bdTake s n) [] = (some (.ros 1 n (bl (List.take n (RS.l s))) false, [(.o 0, .flat [.ros 1 (List.length (List.drop n (RS.l s))) (bl (List.drop n (RS.l s))) false, .int .i64 (RS.e s), .bool true])], [(0 : Int) ≤ (↑n : Int) ∧ (↑n : Int) ≤ (↑(natO none (List.length (RS.l s))) : Int), (0 : Int) ≤ (↑n : Int) ∧ (↑n : Int) ≤ (↑(natO none (List.length (RS.l s))) : Int), natO none (List.length (RS.l s)) - natO (some (↑n : Int)) (0 : Nat) = List.length (List.drop n (RS.l s)), ∀ (k : Nat), k < natO none (List.length (RS.l s)) - natO (some (↑n : Int)) (0 : Nat) → [V.int IntKind.u8 (↑(UInt8.toNat (List.getD (RS.l s) (Int.toNat (↑n : Int) + k) (0 : UInt8))) : Int)] = bl (List.drop n (RS.l s)) k, false = true → false = true, q (RS.e s), q2, natO (some (↑n : Int)) (List.length (RS.l s)) - nat_lit 0 = n, ∀ (k : Nat), k < natO (some (↑n : Int)) (List.length (RS.l s)) - nat_lit 0 → [V.int IntKind.u8 (↑(UInt8.toNat (List.getD (RS.l s) k (0 : UInt8))) : Int)] = bl (List.take n (RS.l s)) k, false = true → false = true]) : Option (V × Heap × List Prop)) := by kernel_rfl

noncomputable def bdNumber_c (s : RS) : Nat → List Prop
 | 0 => [decide ((↑(List.length (RS.l s)) : Int) = (0 : Int)) = false, (0 : Int) ≤ (0 : Int) ∧ (0 : Int) < (↑(List.length (RS.l s)) : Int), InR IntKind.i64 (↑(UInt8.toNat (List.getD (RS.l s) (nat_lit 0) (0 : UInt8))) : Int)]
 | 1 => [decide ((8 : Int) < (↑(UInt8.toNat (List.getD (RS.l s) (nat_lit 0) (0 : UInt8))) : Int)) = false]
 | 2 => [decide ((↑(List.length (RS.l s)) : Int) ≤ (↑(UInt8.toNat (List.getD (RS.l s) (nat_lit 0) (0 : UInt8))) : Int)) = false]
 | 3 => [decide ((0 : Int) < (↑(UInt8.toNat (List.getD (RS.l s) (nat_lit 0) (0 : UInt8))) : Int)) = true, (0 : Int) ≤ (1 : Int) ∧ (1 : Int) < (↑(List.length (RS.l s)) : Int)]
 | 4 => [decide ((↑(UInt8.toNat (List.getD (RS.l s) (nat_lit 1) (0 : UInt8))) : Int) = (0 : Int)) = false]
 | 5 => [decide ((↑(UInt8.toNat (List.getD (RS.l s) (nat_lit 0) (0 : UInt8))) : Int) = (8 : Int)) = true, (0 : Int) ≤ (1 : Int) ∧ (1 : Int) < (↑(List.length (RS.l s)) : Int)]
 | _ => []
theorem bdNumber_p1 (s : RS) :
 along Tryz.prog (bdNumber s) [true] = (some (.tup [.int .i64 0, .int .i64 0, .int .i64 10], [(.o 0, rdB s)], [decide ((↑(List.length (RS.l s)) : Int) = (0 : Int)) = true]) : Option (V × Heap × List Prop)) := by kernel_rfl

theorem bdNumber_p01 (s : RS) :
 along Tryz.prog (bdNumber s) [false, true] = (some (.tup [.int .i64 0, .int .i64 0, .int .i64 11], [(.o 0, rdB s)], bdNumber_c s 0 ++ [decide ((8 : Int) < (↑(UInt8.toNat (List.getD (RS.l s) (nat_lit 0) (0 : UInt8))) : Int)) = true]) : Option (V × Heap × List Prop)) := by kernel_rfl

theorem bdNumber_p001 (s : RS) :
 along Tryz.prog (bdNumber s) [false, false, true] = (some (.tup [.int .i64 0, .int .i64 0, .int .i64 10], [(.o 0, rdB s)], bdNumber_c s 0 ++ (bdNumber_c s 1 ++ [decide ((↑(List.length (RS.l s)) : Int) ≤ (↑(UInt8.toNat (List.getD (RS.l s) (nat_lit 0) (0 : UInt8))) : Int)) = true])) : Option (V × Heap × List Prop)) := by kernel_rfl

theorem bdNumber_p000111 (s : RS) :
 along Tryz.prog (bdNumber s) [false, false, false, true, true, true] = (some (.tup [.int .i64 0, .int .i64 0, .int .i64 11], [(.o 0, rdB s)], bdNumber_c s 0 ++ (bdNumber_c s 1 ++ (bdNumber_c s 2 ++ (bdNumber_c s 3 ++ [decide ((↑(UInt8.toNat (List.getD (RS.l s) (nat_lit 1) (0 : UInt8))) : Int) = (0 : Int)) = true, decide ((↑(UInt8.toNat (List.getD (RS.l s) (nat_lit 1) (0 : UInt8))) : Int) = (0 : Int)) = true])))) : Option (V × Heap × List Prop)) := by kernel_rfl

theorem bdNumber_p0001011 (s : RS) :
 along Tryz.prog (bdNumber s) [false, false, false, true, false, true, true] = (some (.tup [.int .i64 0, .int .i64 0, .int .i64 11], [(.o 0, rdB s)], bdNumber_c s 0 ++ (bdNumber_c s 1 ++ (bdNumber_c s 2 ++ (bdNumber_c s 3 ++ (bdNumber_c s 4 ++ (bdNumber_c s 5 ++ [decide ((127 : Int) < (↑(UInt8.toNat (List.getD (RS.l s) (nat_lit 1) (0 : UInt8))) : Int)) = true])))))) : Option (V × Heap × List Prop)) := by kernel_rfl

theorem bdNumber_p0001010 (s : RS) :
 along Tryz.prog (bdNumber s) [false, false, false, true, false, true, false] = (some (.tup [.int .i64 (↑(beN (List.take (kOf (RS.l s)) (List.drop 1 (RS.l s)))) : Int), .int .i64 ((1 : Int) + (↑(kOf (RS.l s)) : Int)), .int .i64 0], [(.o 0, rdB s)], bdNumber_c s 0 ++ (bdNumber_c s 1 ++ (bdNumber_c s 2 ++ (bdNumber_c s 3 ++ (bdNumber_c s 4 ++ (bdNumber_c s 5 ++ [decide ((127 : Int) < (↑(UInt8.toNat (List.getD (RS.l s) (nat_lit 1) (0 : UInt8))) : Int)) = false, InR IntKind.i64 ((1 : Int) + (↑(UInt8.toNat (List.getD (RS.l s) (nat_lit 0) (0 : UInt8))) : Int)), (0 : Int) ≤ (1 : Int) + (↑(UInt8.toNat (List.getD (RS.l s) (nat_lit 0) (0 : UInt8))) : Int) ∧ (1 : Int) + (↑(UInt8.toNat (List.getD (RS.l s) (nat_lit 0) (0 : UInt8))) : Int) ≤ (↑(natO none (List.length (RS.l s))) : Int), (0 : Int) ≤ (1 : Int) ∧ (1 : Int) ≤ (↑(natO (some ((1 : Int) + (↑(UInt8.toNat (List.getD (RS.l s) (nat_lit 0) (0 : UInt8))) : Int))) (List.length (RS.l s))) : Int), RLoop Tryz.prog none 1 (cB (cB (cR (cL (cR (cR (cR (cR (bodyOf (Bd.f (bdNumber s))))))))))) (kOf (RS.l s) + 1) (St.mk (mkT 76 [(2, .int .i64 0), (3, .int .i64 0), (4, .int .i64 0), (5, .int .i64 (↑(kOf (RS.l s)) : Int)), (61, .ros 1 (kOf (RS.l s)) (bl (List.drop 1 (RS.l s))) false), (62, .int .i64 (↑(kOf (RS.l s)) : Int)), (63, .int .i64 0)]) [(.o 0, rdB s)] 1 []) (.exit 1) (St.mk (mkT 76 [(2, .int .i64 (↑(beN (List.take (kOf (RS.l s)) (List.drop 1 (RS.l s)))) : Int)), (3, .int .i64 0), (4, .int .i64 0), (5, .int .i64 (↑(kOf (RS.l s)) : Int)), (61, .ros 1 (kOf (RS.l s)) (bl (List.drop 1 (RS.l s))) false), (62, .int .i64 (↑(kOf (RS.l s)) : Int)), (63, .int .i64 (↑(kOf (RS.l s)) : Int))]) [(.o 0, rdB s)] 1 []), q (List.length (RS.l s)), ∀ (k : Nat), k < List.length (RS.l s) → bl (RS.l s) k = bl (RS.l s) k, false = true → false = true, q (RS.e s), q2, q1, q1, q1, (↑(UInt8.toNat (List.getD (RS.l s) (nat_lit 0) (0 : UInt8))) : Int) = (↑(kOf (RS.l s)) : Int), natO (some ((1 : Int) + (↑(UInt8.toNat (List.getD (RS.l s) (nat_lit 0) (0 : UInt8))) : Int))) (List.length (RS.l s)) - nat_lit 1 = kOf (RS.l s), ∀ (k : Nat), k < natO (some ((1 : Int) + (↑(UInt8.toNat (List.getD (RS.l s) (nat_lit 0) (0 : UInt8))) : Int))) (List.length (RS.l s)) - nat_lit 1 → [V.int IntKind.u8 (↑(UInt8.toNat (List.getD (RS.l s) (nat_lit 1 + k) (0 : UInt8))) : Int)] = bl (List.drop (1 : Nat) (RS.l s)) k, false = true → false = true, (↑(natO (some ((1 : Int) + (↑(UInt8.toNat (List.getD (RS.l s) (nat_lit 0) (0 : UInt8))) : Int))) (List.length (RS.l s)) - nat_lit 1) : Int) = (↑(kOf (RS.l s)) : Int), q1, InR IntKind.i64 ((1 : Int) + (↑(kOf (RS.l s)) : Int))])))))) : Option (V × Heap × List Prop)) := by kernel_rfl

theorem bdNumber_p0001000 (s : RS) :
 along Tryz.prog (bdNumber s) [false, false, false, true, false, false, false] = (some (.tup [.int .i64 (↑(beN (List.take (kOf (RS.l s)) (List.drop 1 (RS.l s)))) : Int), .int .i64 ((1 : Int) + (↑(kOf (RS.l s)) : Int)), .int .i64 0], [(.o 0, rdB s)], bdNumber_c s 0 ++ (bdNumber_c s 1 ++ (bdNumber_c s 2 ++ (bdNumber_c s 3 ++ (bdNumber_c s 4 ++ [decide ((↑(UInt8.toNat (List.getD (RS.l s) (nat_lit 0) (0 : UInt8))) : Int) = (8 : Int)) = false, q false, InR IntKind.i64 ((1 : Int) + (↑(UInt8.toNat (List.getD (RS.l s) (nat_lit 0) (0 : UInt8))) : Int)), (0 : Int) ≤ (1 : Int) + (↑(UInt8.toNat (List.getD (RS.l s) (nat_lit 0) (0 : UInt8))) : Int) ∧ (1 : Int) + (↑(UInt8.toNat (List.getD (RS.l s) (nat_lit 0) (0 : UInt8))) : Int) ≤ (↑(natO none (List.length (RS.l s))) : Int), (0 : Int) ≤ (1 : Int) ∧ (1 : Int) ≤ (↑(natO (some ((1 : Int) + (↑(UInt8.toNat (List.getD (RS.l s) (nat_lit 0) (0 : UInt8))) : Int))) (List.length (RS.l s))) : Int), RLoop Tryz.prog none 1 (cB (cB (cR (cL (cR (cR (cR (cR (bodyOf (Bd.f (bdNumber s))))))))))) (kOf (RS.l s) + 1) (St.mk (mkT 76 [(2, .int .i64 0), (3, .int .i64 0), (4, .int .i64 0), (5, .int .i64 (↑(kOf (RS.l s)) : Int)), (61, .ros 1 (kOf (RS.l s)) (bl (List.drop 1 (RS.l s))) false), (62, .int .i64 (↑(kOf (RS.l s)) : Int)), (63, .int .i64 0)]) [(.o 0, rdB s)] 1 []) (.exit 1) (St.mk (mkT 76 [(2, .int .i64 (↑(beN (List.take (kOf (RS.l s)) (List.drop 1 (RS.l s)))) : Int)), (3, .int .i64 0), (4, .int .i64 0), (5, .int .i64 (↑(kOf (RS.l s)) : Int)), (61, .ros 1 (kOf (RS.l s)) (bl (List.drop 1 (RS.l s))) false), (62, .int .i64 (↑(kOf (RS.l s)) : Int)), (63, .int .i64 (↑(kOf (RS.l s)) : Int))]) [(.o 0, rdB s)] 1 []), q (List.length (RS.l s)), ∀ (k : Nat), k < List.length (RS.l s) → bl (RS.l s) k = bl (RS.l s) k, false = true → false = true, q (RS.e s), q2, q1, q1, q1, (↑(UInt8.toNat (List.getD (RS.l s) (nat_lit 0) (0 : UInt8))) : Int) = (↑(kOf (RS.l s)) : Int), natO (some ((1 : Int) + (↑(UInt8.toNat (List.getD (RS.l s) (nat_lit 0) (0 : UInt8))) : Int))) (List.length (RS.l s)) - nat_lit 1 = kOf (RS.l s), ∀ (k : Nat), k < natO (some ((1 : Int) + (↑(UInt8.toNat (List.getD (RS.l s) (nat_lit 0) (0 : UInt8))) : Int))) (List.length (RS.l s)) - nat_lit 1 → [V.int IntKind.u8 (↑(UInt8.toNat (List.getD (RS.l s) (nat_lit 1 + k) (0 : UInt8))) : Int)] = bl (List.drop (1 : Nat) (RS.l s)) k, false = true → false = true, (↑(natO (some ((1 : Int) + (↑(UInt8.toNat (List.getD (RS.l s) (nat_lit 0) (0 : UInt8))) : Int))) (List.length (RS.l s)) - nat_lit 1) : Int) = (↑(kOf (RS.l s)) : Int), q1, InR IntKind.i64 ((1 : Int) + (↑(kOf (RS.l s)) : Int))]))))) : Option (V × Heap × List Prop)) := by kernel_rfl

theorem bdNumber_p0000000 (s : RS) :
 along Tryz.prog (bdNumber s) [false, false, false, false, false, false, false] = (some (.tup [.int .i64 (↑(beN (List.take (kOf (RS.l s)) (List.drop 1 (RS.l s)))) : Int), .int .i64 ((1 : Int) + (↑(kOf (RS.l s)) : Int)), .int .i64 0], [(.o 0, rdB s)], bdNumber_c s 0 ++ (bdNumber_c s 1 ++ (bdNumber_c s 2 ++ [decide ((0 : Int) < (↑(UInt8.toNat (List.getD (RS.l s) (nat_lit 0) (0 : UInt8))) : Int)) = false, q false, decide ((↑(UInt8.toNat (List.getD (RS.l s) (nat_lit 0) (0 : UInt8))) : Int) = (8 : Int)) = false, q false, InR IntKind.i64 ((1 : Int) + (↑(UInt8.toNat (List.getD (RS.l s) (nat_lit 0) (0 : UInt8))) : Int)), (0 : Int) ≤ (1 : Int) + (↑(UInt8.toNat (List.getD (RS.l s) (nat_lit 0) (0 : UInt8))) : Int) ∧ (1 : Int) + (↑(UInt8.toNat (List.getD (RS.l s) (nat_lit 0) (0 : UInt8))) : Int) ≤ (↑(natO none (List.length (RS.l s))) : Int), (0 : Int) ≤ (1 : Int) ∧ (1 : Int) ≤ (↑(natO (some ((1 : Int) + (↑(UInt8.toNat (List.getD (RS.l s) (nat_lit 0) (0 : UInt8))) : Int))) (List.length (RS.l s))) : Int), RLoop Tryz.prog none 1 (cB (cB (cR (cL (cR (cR (cR (cR (bodyOf (Bd.f (bdNumber s))))))))))) (kOf (RS.l s) + 1) (St.mk (mkT 76 [(2, .int .i64 0), (3, .int .i64 0), (4, .int .i64 0), (5, .int .i64 (↑(kOf (RS.l s)) : Int)), (61, .ros 1 (kOf (RS.l s)) (bl (List.drop 1 (RS.l s))) false), (62, .int .i64 (↑(kOf (RS.l s)) : Int)), (63, .int .i64 0)]) [(.o 0, rdB s)] 1 []) (.exit 1) (St.mk (mkT 76 [(2, .int .i64 (↑(beN (List.take (kOf (RS.l s)) (List.drop 1 (RS.l s)))) : Int)), (3, .int .i64 0), (4, .int .i64 0), (5, .int .i64 (↑(kOf (RS.l s)) : Int)), (61, .ros 1 (kOf (RS.l s)) (bl (List.drop 1 (RS.l s))) false), (62, .int .i64 (↑(kOf (RS.l s)) : Int)), (63, .int .i64 (↑(kOf (RS.l s)) : Int))]) [(.o 0, rdB s)] 1 []), q (List.length (RS.l s)), ∀ (k : Nat), k < List.length (RS.l s) → bl (RS.l s) k = bl (RS.l s) k, false = true → false = true, q (RS.e s), q2, q1, q1, q1, (↑(UInt8.toNat (List.getD (RS.l s) (nat_lit 0) (0 : UInt8))) : Int) = (↑(kOf (RS.l s)) : Int), natO (some ((1 : Int) + (↑(UInt8.toNat (List.getD (RS.l s) (nat_lit 0) (0 : UInt8))) : Int))) (List.length (RS.l s)) - nat_lit 1 = kOf (RS.l s), ∀ (k : Nat), k < natO (some ((1 : Int) + (↑(UInt8.toNat (List.getD (RS.l s) (nat_lit 0) (0 : UInt8))) : Int))) (List.length (RS.l s)) - nat_lit 1 → [V.int IntKind.u8 (↑(UInt8.toNat (List.getD (RS.l s) (nat_lit 1 + k) (0 : UInt8))) : Int)] = bl (List.drop (1 : Nat) (RS.l s)) k, false = true → false = true, (↑(natO (some ((1 : Int) + (↑(UInt8.toNat (List.getD (RS.l s) (nat_lit 0) (0 : UInt8))) : Int))) (List.length (RS.l s)) - nat_lit 1) : Int) = (↑(kOf (RS.l s)) : Int), q1, InR IntKind.i64 ((1 : Int) + (↑(kOf (RS.l s)) : Int))]))) : Option (V × Heap × List Prop)) := by kernel_rfl

theorem pcNumber_p1 (s : RS) (k : Nat) :
  alongPc Tryz.prog (pcNumber s k) [true] = (some (.normal, St.mk (mkT 76 [(2, .int .i64 (↑(beN (List.take (k + 1) (List.drop 1 (RS.l s)))) : Int)), (3, .int .i64 0), (4, .int .i64 0), (5, .int .i64 (↑(kOf (RS.l s)) : Int)), (61, .ros 1 (kOf (RS.l s)) (bl (List.drop 1 (RS.l s))) false), (62, .int .i64 (↑(kOf (RS.l s)) : Int)), (63, .int .i64 (↑(k + 1) : Int))]) [(.o 0, rdB s)] 1 [], [decide ((↑k : Int) < (↑(kOf (RS.l s)) : Int)) = true, (0 : Int) ≤ (↑k : Int) ∧ (↑k : Int) < (↑(kOf (RS.l s)) : Int), (0 : Int) ≤ (8 : Int) ∧ (8 : Int) ≤ (64 : Int), InR IntKind.i64 ((↑(beN (List.take k (List.drop (1 : Nat) (RS.l s)))) : Int) * (256 : Int)), InR IntKind.i64 (↑(UInt8.toNat (List.getD (List.drop (1 : Nat) (RS.l s)) (Int.toNat (↑k : Int)) (0 : UInt8))) : Int), InR IntKind.i64 ((↑k : Int) + (1 : Int)), q (List.length (RS.l s)), ∀ (k : Nat), k < List.length (RS.l s) → bl (RS.l s) k = bl (RS.l s) k, false = true → false = true, q (RS.e s), q2, ibits (fun x x_1 y => x_1 ||| y) IntKind.i64 ((↑(beN (List.take k (List.drop (1 : Nat) (RS.l s)))) : Int) * (256 : Int)) (↑(UInt8.toNat (List.getD (List.drop (1 : Nat) (RS.l s)) (Int.toNat (↑k : Int)) (0 : UInt8))) : Int) = (↑(beN (List.take (k + (1 : Nat)) (List.drop (1 : Nat) (RS.l s)))) : Int), q1, q1, q (↑(kOf (RS.l s)) : Int), q (kOf (RS.l s)), ∀ (k : Nat), k < kOf (RS.l s) → bl (List.drop (1 : Nat) (RS.l s)) k = bl (List.drop (1 : Nat) (RS.l s)) k, false = true → false = true, q (↑(kOf (RS.l s)) : Int), (↑k : Int) + (1 : Int) = (↑(k + (1 : Nat)) : Int)]) : Option (Exit × St × List Prop)) := by kernel_rfl
theorem pcNumber_p0 (s : RS) (k : Nat) :
  alongPc Tryz.prog (pcNumber s k) [false] = (some (.exit 1, St.mk (mkT 76 [(2, .int .i64 (↑(beN (List.take (kOf (RS.l s)) (List.drop 1 (RS.l s)))) : Int)), (3, .int .i64 0), (4, .int .i64 0), (5, .int .i64 (↑(kOf (RS.l s)) : Int)), (61, .ros 1 (kOf (RS.l s)) (bl (List.drop 1 (RS.l s))) false), (62, .int .i64 (↑(kOf (RS.l s)) : Int)), (63, .int .i64 (↑(kOf (RS.l s)) : Int))]) [(.o 0, rdB s)] 1 [], [decide ((↑k : Int) < (↑(kOf (RS.l s)) : Int)) = false, q (List.length (RS.l s)), ∀ (k : Nat), k < List.length (RS.l s) → bl (RS.l s) k = bl (RS.l s) k, false = true → false = true, q (RS.e s), q2, (↑(beN (List.take k (List.drop (1 : Nat) (RS.l s)))) : Int) = (↑(beN (List.take (kOf (RS.l s)) (List.drop (1 : Nat) (RS.l s)))) : Int), q1, q1, q (↑(kOf (RS.l s)) : Int), q (kOf (RS.l s)), ∀ (k : Nat), k < kOf (RS.l s) → bl (List.drop (1 : Nat) (RS.l s)) k = bl (List.drop (1 : Nat) (RS.l s)) k, false = true → false = true, q (↑(kOf (RS.l s)) : Int), (↑k : Int) = (↑(kOf (RS.l s)) : Int)]) : Option (Exit × St × List Prop)) := by kernel_rfl

noncomputable def bdNum_c (most : Int) (s : RS) : Nat → List Prop
 | 0 => [T Tryz.prog 73 [.ptr (.o 0) 0 0 0 0] [(.o 0, rdB s)] (.bool !decide (RS.e s = (0 : Int))) [(.o 0, rdB s)]]
 | 1 => [(!decide (RS.e s = (0 : Int))) = false, T Tryz.prog 74 [.ptr (.o 0) 0 0 0 0] [(.o 0, rdB s)] (.tup [.int .i64 (nV (RS.l s)), .int .i64 (nS (RS.l s)), .int .i64 (nE (RS.l s))]) [(.o 0, rdB s)]]
 | _ => []
theorem bdNum_p1 (most : Int) (s : RS) :
 along Tryz.prog (bdNum most s) [true] = (some (.int .i64 0, [(.o 0, rdB s)], bdNum_c most s 0 ++ [(!decide (RS.e s = (0 : Int))) = true]) : Option (V × Heap × List Prop)) := by kernel_rfl

theorem bdNum_p0111 (most : Int) (s : RS) :
 along Tryz.prog (bdNum most s) [false, true, true, true] = (some (.int .i64 0, [(.o 0, .flat [.ros 1 0 (bl []) false, .int .i64 (nE1 most (RS.l s)), .bool true])], bdNum_c most s 0 ++ (bdNum_c most s 1 ++ [decide (nE (RS.l s) = (0 : Int)) = true, decide (most < nV (RS.l s)) = true, q2, T Tryz.prog 75 [.ptr (.o 0) 0 0 0 0, .int .i64 3] [(.o 0, rdB s)] (.tup []) [(.o 0, .flat [.ros 1 0 (bl []) false, .int .i64 (nE1 most (RS.l s)), .bool true])]])) : Option (V × Heap × List Prop)) := by kernel_rfl

theorem bdNum_p0001 (most : Int) (s : RS) :
 along Tryz.prog (bdNum most s) [false, false, false, true] = (some (.int .i64 0, [(.o 0, .flat [.ros 1 0 (bl []) false, .int .i64 (nE1 most (RS.l s)), .bool true])], bdNum_c most s 0 ++ (bdNum_c most s 1 ++ [decide (nE (RS.l s) = (0 : Int)) = false, q false, (!decide (nE (RS.l s) = (0 : Int))) = true, T Tryz.prog 75 [.ptr (.o 0) 0 0 0 0, .int .i64 (nE (RS.l s))] [(.o 0, rdB s)] (.tup []) [(.o 0, .flat [.ros 1 0 (bl []) false, .int .i64 (nE1 most (RS.l s)), .bool true])]])) : Option (V × Heap × List Prop)) := by kernel_rfl

theorem bdNum_p0100 (most : Int) (s : RS) :
 along Tryz.prog (bdNum most s) [false, true, false, false] = (some (.int .i64 (nV (RS.l s)), [(.o 0, .flat [.ros 1 (List.length (List.drop (Int.toNat (nS (RS.l s))) (RS.l s))) (bl (List.drop (Int.toNat (nS (RS.l s))) (RS.l s))) false, .int .i64 (RS.e s), .bool true])], bdNum_c most s 0 ++ (bdNum_c most s 1 ++ [decide (nE (RS.l s) = (0 : Int)) = true, decide (most < nV (RS.l s)) = false, (!decide (nE (RS.l s) = (0 : Int))) = false, T Tryz.prog 76 [.ptr (.o 0) 0 0 0 0, .int .i64 (nS (RS.l s))] [(.o 0, rdB s)] (.ros 1 (Int.toNat (nS (RS.l s))) (bl (List.take (Int.toNat (nS (RS.l s))) (RS.l s))) false) [(.o 0, .flat [.ros 1 (List.length (List.drop (Int.toNat (nS (RS.l s))) (RS.l s))) (bl (List.drop (Int.toNat (nS (RS.l s))) (RS.l s))) false, .int .i64 (RS.e s), .bool true])]])) : Option (V × Heap × List Prop)) := by kernel_rfl

noncomputable def bdTextR_c (most : Int) (s : RS) : Nat → List Prop
 | 0 => [T Tryz.prog 73 [.ptr (.o 0) 0 0 0 0] [(.o 0, rdB s)] (.bool !decide (RS.e s = (0 : Int))) [(.o 0, rdB s)]]
 | 1 => [(!decide (RS.e s = (0 : Int))) = false, T Tryz.prog 74 [.ptr (.o 0) 0 0 0 0] [(.o 0, rdB s)] (.tup [.int .i64 (nV (RS.l s)), .int .i64 (nS (RS.l s)), .int .i64 (nE (RS.l s))]) [(.o 0, rdB s)]]
 | 2 => [decide (most < nV (RS.l s)) = false, T Tryz.prog 77 [.ptr (.o 0) 0 0 0 0] [(.o 0, rdB s)] (.int .i64 (↑(List.length (RS.l s)) : Int)) [(.o 0, rdB s)], InR IntKind.i64 ((↑(List.length (RS.l s)) : Int) - nS (RS.l s))]
 | _ => []
theorem bdTextR_p1 (most : Int) (s : RS) :
 along Tryz.prog (bdTextR most s) [true] = (some (.str (ByteArray.mk (Array.mk [])), [(.o 0, rdB s)], bdTextR_c most s 0 ++ [(!decide (RS.e s = (0 : Int))) = true]) : Option (V × Heap × List Prop)) := by kernel_rfl

theorem bdTextR_p011 (most : Int) (s : RS) :
 along Tryz.prog (bdTextR most s) [false, true, true] = (some (.str (ByteArray.mk (Array.mk [])), [(.o 0, .flat [.ros 1 0 (bl []) false, .int .i64 (tE most (RS.l s)), .bool true])], bdTextR_c most s 0 ++ (bdTextR_c most s 1 ++ [(!decide (nE (RS.l s) = (0 : Int))) = true, (!decide (nE (RS.l s) = (0 : Int))) = true, T Tryz.prog 75 [.ptr (.o 0) 0 0 0 0, .int .i64 (nE (RS.l s))] [(.o 0, rdB s)] (.tup []) [(.o 0, .flat [.ros 1 0 (bl []) false, .int .i64 (tE most (RS.l s)), .bool true])]])) : Option (V × Heap × List Prop)) := by kernel_rfl

theorem bdTextR_p0011 (most : Int) (s : RS) :
 along Tryz.prog (bdTextR most s) [false, false, true, true] = (some (.str (ByteArray.mk (Array.mk [])), [(.o 0, .flat [.ros 1 0 (bl []) false, .int .i64 (tE most (RS.l s)), .bool true])], bdTextR_c most s 0 ++ (bdTextR_c most s 1 ++ [(!decide (nE (RS.l s) = (0 : Int))) = false, decide (most < nV (RS.l s)) = true, q2, T Tryz.prog 75 [.ptr (.o 0) 0 0 0 0, .int .i64 3] [(.o 0, rdB s)] (.tup []) [(.o 0, .flat [.ros 1 0 (bl []) false, .int .i64 (tE most (RS.l s)), .bool true])]])) : Option (V × Heap × List Prop)) := by kernel_rfl

theorem bdTextR_p00011 (most : Int) (s : RS) :
 along Tryz.prog (bdTextR most s) [false, false, false, true, true] = (some (.str (ByteArray.mk (Array.mk [])), [(.o 0, .flat [.ros 1 0 (bl []) false, .int .i64 (tE most (RS.l s)), .bool true])], bdTextR_c most s 0 ++ (bdTextR_c most s 1 ++ ([(!decide (nE (RS.l s) = (0 : Int))) = false] ++ (bdTextR_c most s 2 ++ [decide ((↑(List.length (RS.l s)) : Int) - nS (RS.l s) < nV (RS.l s)) = true, q2, T Tryz.prog 75 [.ptr (.o 0) 0 0 0 0, .int .i64 10] [(.o 0, rdB s)] (.tup []) [(.o 0, .flat [.ros 1 0 (bl []) false, .int .i64 (tE most (RS.l s)), .bool true])]])))) : Option (V × Heap × List Prop)) := by kernel_rfl

theorem bdTextR_p00000 (most : Int) (s : RS) :
 along Tryz.prog (bdTextR most s) [false, false, false, false, false] = (some (.str (bytesF (Int.toNat (nV (RS.l s))) (bl (List.take (Int.toNat (nV (RS.l s))) (List.drop (Int.toNat (nS (RS.l s))) (RS.l s))))), [(.o 0, .flat [.ros 1 (List.length (List.drop (Int.toNat (nV (RS.l s))) (List.drop (Int.toNat (nS (RS.l s))) (RS.l s)))) (bl (List.drop (Int.toNat (nV (RS.l s))) (List.drop (Int.toNat (nS (RS.l s))) (RS.l s)))) false, .int .i64 (RS.e s), .bool true])], bdTextR_c most s 0 ++ (bdTextR_c most s 1 ++ ([(!decide (nE (RS.l s) = (0 : Int))) = false] ++ (bdTextR_c most s 2 ++ [decide ((↑(List.length (RS.l s)) : Int) - nS (RS.l s) < nV (RS.l s)) = false, (!decide (nE (RS.l s) = (0 : Int))) = false, T Tryz.prog 76 [.ptr (.o 0) 0 0 0 0, .int .i64 (nS (RS.l s))] [(.o 0, rdB s)] (.ros 1 (Int.toNat (nS (RS.l s))) (bl (List.take (Int.toNat (nS (RS.l s))) (RS.l s))) false) [(.o 0, .flat [.ros 1 (List.length (List.drop (Int.toNat (nS (RS.l s))) (RS.l s))) (bl (List.drop (Int.toNat (nS (RS.l s))) (RS.l s))) false, .int .i64 (RS.e s), .bool true])], T Tryz.prog 76 [.ptr (.o 0) 0 0 0 0, .int .i64 (nV (RS.l s))] [(.o 0, .flat [.ros 1 (List.length (List.drop (Int.toNat (nS (RS.l s))) (RS.l s))) (bl (List.drop (Int.toNat (nS (RS.l s))) (RS.l s))) false, .int .i64 (RS.e s), .bool true])] (.ros 1 (Int.toNat (nV (RS.l s))) (bl (List.take (Int.toNat (nV (RS.l s))) (List.drop (Int.toNat (nS (RS.l s))) (RS.l s)))) false) [(.o 0, .flat [.ros 1 (List.length (List.drop (Int.toNat (nV (RS.l s))) (List.drop (Int.toNat (nS (RS.l s))) (RS.l s)))) (bl (List.drop (Int.toNat (nV (RS.l s))) (List.drop (Int.toNat (nS (RS.l s))) (RS.l s)))) false, .int .i64 (RS.e s), .bool true])], ∀ (k : Nat), k < Int.toNat (nV (RS.l s)) → true = true, ∀ (k : Nat), k < Int.toNat (nV (RS.l s)) → true = true])))) : Option (V × Heap × List Prop)) := by kernel_rfl

noncomputable def bdRawR_c (n : Int) (s : RS) : Nat → List Prop
 | 0 => [T Tryz.prog 73 [.ptr (.o 0) 0 0 0 0] [(.o 0, rdB s)] (.bool !decide (RS.e s = (0 : Int))) [(.o 0, rdB s)]]
 | _ => []
theorem bdRawR_p1 (n : Int) (s : RS) :
 along Tryz.prog (bdRawR n s) [true] = (some (.ros 1 (List.length (Prod.fst (rawR n s))) (bl (Prod.fst (rawR n s))) false, [(.o 0, .flat [.ros 1 (List.length (RS.l (rawR n s).2)) (bl (RS.l (rawR n s).2)) false, .int .i64 (RS.e (rawR n s).2), .bool true])], bdRawR_c n s 0 ++ [(!decide (RS.e s = (0 : Int))) = true, List.length (RS.l s) = List.length (RS.l (rawR n s).2), ∀ (k : Nat), k < List.length (RS.l s) → bl (RS.l s) k = bl (RS.l (rawR n s).2) k, false = true → false = true, RS.e s = RS.e (rawR n s).2, q2, List.length (Prod.fst (rawR n s)) = (0 : Nat)]) : Option (V × Heap × List Prop)) := by kernel_rfl

theorem bdRawR_p01 (n : Int) (s : RS) :
 along Tryz.prog (bdRawR n s) [false, true] = (some (.ros 1 (List.length (Prod.fst (rawR n s))) (bl (Prod.fst (rawR n s))) false, [(.o 0, .flat [.ros 1 (List.length (RS.l (rawR n s).2)) (bl (RS.l (rawR n s).2)) false, .int .i64 (RS.e (rawR n s).2), .bool true])], bdRawR_c n s 0 ++ [(!decide (RS.e s = (0 : Int))) = false, decide (n < (0 : Int)) = true, T Tryz.prog 75 [.ptr (.o 0) 0 0 0 0, .int .i64 2] [(.o 0, rdB s)] (.tup []) [(.o 0, .flat [.ros 1 (List.length (RS.l (rawR n s).2)) (bl (RS.l (rawR n s).2)) false, .int .i64 (RS.e (rawR n s).2), .bool true])], q (List.length (RS.l (rawR n s).2)), ∀ (k : Nat), k < List.length (RS.l (rawR n s).2) → bl (RS.l (rawR n s).2) k = bl (RS.l (rawR n s).2) k, false = true → false = true, q (RS.e (rawR n s).2), q2, List.length (Prod.fst (rawR n s)) = (0 : Nat)]) : Option (V × Heap × List Prop)) := by kernel_rfl

theorem bdRawR_p001 (n : Int) (s : RS) :
 along Tryz.prog (bdRawR n s) [false, false, true] = (some (.ros 1 (List.length (Prod.fst (rawR n s))) (bl (Prod.fst (rawR n s))) false, [(.o 0, .flat [.ros 1 (List.length (RS.l (rawR n s).2)) (bl (RS.l (rawR n s).2)) false, .int .i64 (RS.e (rawR n s).2), .bool true])], bdRawR_c n s 0 ++ [(!decide (RS.e s = (0 : Int))) = false, decide (n < (0 : Int)) = false, T Tryz.prog 77 [.ptr (.o 0) 0 0 0 0] [(.o 0, rdB s)] (.int .i64 (↑(List.length (RS.l s)) : Int)) [(.o 0, rdB s)], decide ((↑(List.length (RS.l s)) : Int) < n) = true, T Tryz.prog 75 [.ptr (.o 0) 0 0 0 0, .int .i64 10] [(.o 0, rdB s)] (.tup []) [(.o 0, .flat [.ros 1 (List.length (RS.l (rawR n s).2)) (bl (RS.l (rawR n s).2)) false, .int .i64 (RS.e (rawR n s).2), .bool true])], q (List.length (RS.l (rawR n s).2)), ∀ (k : Nat), k < List.length (RS.l (rawR n s).2) → bl (RS.l (rawR n s).2) k = bl (RS.l (rawR n s).2) k, false = true → false = true, q (RS.e (rawR n s).2), q2, List.length (Prod.fst (rawR n s)) = (0 : Nat)]) : Option (V × Heap × List Prop)) := by kernel_rfl

theorem bdRawR_p000 (n : Int) (s : RS) :
  along Tryz.prog (bdRawR n s) [false, false, false] = some (V.ros (1 : Nat) (List.length (Prod.fst (rawR n s))) (bl (Prod.fst (rawR n s))) false, [(Nm.o (0 : Nat), B.flat [V.ros (1 : Nat) (List.length (RS.l (rawR n s).2)) (bl (RS.l (rawR n s).2)) false, V.int IntKind.i64 (RS.e (rawR n s).2), V.bool true])], [T Tryz.prog (73 : Nat) [V.ptr (Nm.o (0 : Nat)) (0 : Nat) (0 : Nat) (0 : Nat) (0 : Nat)] [(Nm.o (0 : Nat), rdB s)] (V.bool !decide (RS.e s = (0 : Int))) [(Nm.o (0 : Nat), rdB s)], (!decide (RS.e s = (0 : Int))) = false, decide (n < (0 : Int)) = false, T Tryz.prog (77 : Nat) [V.ptr (Nm.o (0 : Nat)) (0 : Nat) (0 : Nat) (nat_lit 0) (0 : Nat)] [(Nm.o (0 : Nat), rdB s)] (V.int IntKind.i64 (↑(List.length (RS.l s)) : Int)) [(Nm.o (0 : Nat), rdB s)], decide ((↑(List.length (RS.l s)) : Int) < n) = false, T Tryz.prog (76 : Nat) [V.ptr (Nm.o (0 : Nat)) (0 : Nat) (0 : Nat) (nat_lit 0) (0 : Nat), V.int IntKind.i64 n] [(Nm.o (0 : Nat), rdB s)] (V.ros (1 : Nat) (Int.toNat n) (bl (List.take (Int.toNat n) (RS.l s))) false) [(Nm.o (0 : Nat), B.flat [V.ros (1 : Nat) (List.length (List.drop (Int.toNat n) (RS.l s))) (bl (List.drop (Int.toNat n) (RS.l s))) false, V.int IntKind.i64 (RS.e s), V.bool true])], (0 : Nat) = (0 : Nat), ∀ (k : Nat), k < Int.toNat n → true = true, ((0 : Nat) + Int.toNat n) * (1 : Nat) ≤ (140737488355328 : Nat), List.length (List.drop (Int.toNat n) (RS.l s)) = List.length (RS.l (rawR n s).2), ∀ (k : Nat), k < List.length (List.drop (Int.toNat n) (RS.l s)) → bl (List.drop (Int.toNat n) (RS.l s)) k = bl (RS.l (rawR n s).2) k, false = true → false = true, RS.e s = RS.e (rawR n s).2, true = true, (0 : Nat) + Int.toNat n = List.length (Prod.fst (rawR n s)), (0 : Nat) + ((0 : Nat) + Int.toNat n) ≤ (0 : Nat) + Int.toNat n, ∀ (k : Nat), k < (0 : Nat) + Int.toNat n → [V.int IntKind.u8 (↑(UInt8.toNat (List.getD (List.take (Int.toNat n) (RS.l s)) ((0 : Nat) + k - (0 : Nat)) (0 : UInt8))) : Int)] = bl (Prod.fst (rawR n s)) k, false = true → none = some ((0 : Nat) + Int.toNat n)]) := by kernel_rfl

theorem e64 : (2 : Nat) ^ IntKind.i64.bits = 18446744073709551616 := by kernel_rfl
theorem inR1 {n : Int} (h : -9223372036854775808 ≤ n) (h2 : n ≤ 9223372036854775807) : IntKind.i64.min ≤ n := (InR64.2 ⟨h, h2⟩).1
theorem inR2 {n : Int} (h : -9223372036854775808 ≤ n) (h2 : n ≤ 9223372036854775807) : n ≤ IntKind.i64.max := (InR64.2 ⟨h, h2⟩).2
set_option maxRecDepth 8000 in
theorem or_add {a b : Nat} (h : a * 256 + b < 9223372036854775808) (hb : b < 256) : ibits (fun _ x y => x ||| y) IntKind.i64 ((a : Int) * 256) (b : Int) = ((a * 256 + b : Nat) : Int) := by
 have h1 : a * 256 ||| b = a * 256 + b := by
  have := Nat.shiftLeft_add_eq_or_of_lt (b := b) (i := 8) (by simpa using hb) a
  rw [Nat.shiftLeft_eq] at this
  simpa using this.symm
 have e1 : ((a : Int) * 256) = ((a * 256 : Nat) : Int) := by simp
 unfold ibits
 have hr : InR .i64 ((a * 256 + b : Nat) : Int) := InR64.2 ⟨by omega, by omega⟩
 have hc : ((BitVec.ofInt IntKind.i64.bits ((a : Int) * 256)) ||| (BitVec.ofInt IntKind.i64.bits (b : Int))).toNat = a * 256 + b := by
  rw [BitVec.toNat_or, e1, BitVec.ofInt_natCast, BitVec.ofInt_natCast, BitVec.toNat_ofNat, BitVec.toNat_ofNat, Nat.mod_eq_of_lt (a := a * 256), Nat.mod_eq_of_lt (a := b), h1]
  ·rw [e64]; omega
  ·rw [e64]; omega
 rw [hc]
 exact hr.wrap
theorem beN_snoc (xs : List UInt8) (x : UInt8) : beN (xs ++ [x]) = beN xs * 256 + x.toNat := by
 unfold beN
 rw [List.foldl_append]; rfl
theorem be_le : ∀ (xs : List UInt8) (a : Nat), xs.foldl (fun a x => a * 256 + x.toNat) a < (a + 1) * 256 ^ xs.length
 | [], a => by simp
 | x :: xs, a => by
  have h := be_le xs (a * 256 + x.toNat)
  have hx := x.toNat_lt
  rw [List.foldl_cons, List.length_cons, Nat.pow_succ]
  refine Nat.lt_of_lt_of_le h ?_
  have : (a * 256 + x.toNat + 1) ≤ (a + 1) * 256 := by omega
  calc (a * 256 + x.toNat + 1) * 256 ^ xs.length ≤ ((a + 1) * 256) * 256 ^ xs.length := Nat.mul_le_mul_right _ this
   _ = (a + 1) * (256 ^ xs.length * 256) := by rw [Nat.mul_assoc, Nat.mul_comm 256]
theorem beN_lt (xs : List UInt8) : beN xs < 256 ^ xs.length := by
 have := be_le xs 0
 simpa [beN] using this
theorem beN_lt8 {xs : List UInt8} (h : xs.length ≤ 8) (h1 : xs.length = 8 → (xs.getD 0 0).toNat ≤ 127) : beN xs < 9223372036854775808 := by
 by_cases e : xs.length = 8
 ·match xs, e, h1 with
  | x :: t, e, h1 =>
   have h2 := h1 e
   have h3 := be_le t (0 * 256 + x.toNat)
   have e4 : t.length = 7 := by simpa using e
   have h5 : x.toNat ≤ 127 := by simpa using h2
   rw [e4] at h3
   show List.foldl _ 0 (x :: t) < _
   rw [List.foldl_cons]
   refine Nat.lt_of_lt_of_le h3 ?_
   calc (0 * 256 + x.toNat + 1) * 256 ^ 7 ≤ 128 * 256 ^ 7 := Nat.mul_le_mul_right _ (by omega)
    _ ≤ _ := by decide
 ·have h2 := beN_lt xs
  have : 256 ^ xs.length ≤ 256 ^ 7 := Nat.pow_le_pow_right (by decide) (by omega)
  omega
theorem take_snoc {d : List UInt8} {k : Nat} (h : k < d.length) : d.take (k + 1) = d.take k ++ [d.getD k 0] := by
 rw [List.take_succ_eq_append_getElem h, List.getD_eq_getElem?_getD, List.getElem?_eq_getElem h, Option.getD_some]
/-- What a number's bytes are asked. -/
structure NumOk (l : List UInt8) : Prop where
 k : kOf l ≤ 8
 len : kOf l < l.length
 top : kOf l = 8 → (l.getD 1 0).toNat ≤ 127
theorem NumOk.lt {l : List UInt8} (h : NumOk l) : beN ((l.drop 1).take (kOf l)) < 9223372036854775808 := by
 have hl := h.len
 have hk := h.k
 refine beN_lt8 (by rw [List.length_take]; omega) fun e => ?_
 rw [List.length_take, List.length_drop] at e
 have := h.top (by omega)
 rw [List.getD_eq_getElem?_getD] at this ⊢
 rw [List.getElem?_take_of_lt (by omega), List.getElem?_drop]
 simpa using this
theorem beN_mono {d : List UInt8} : ∀ {j k : Nat}, j ≤ k → k ≤ d.length → beN (d.take j) ≤ beN (d.take k)
 | j, 0, h, _ => by have : j = 0 := by omega
                    subst this; exact Nat.le_refl _
 | j, k + 1, h, hk => by
  by_cases e : j = k + 1
  ·subst e; exact Nat.le_refl _
  ·have h1 := beN_mono (d := d) (j := j) (k := k) (by omega) (by omega)
   rw [take_snoc (by omega), beN_snoc]; omega
theorem or_goal {a b c : Nat} (h : a * 256 + b < 9223372036854775808) (hb : b < 256) (hc : c = a * 256 + b) : ibits (fun _ x y => x ||| y) IntKind.i64 ((a : Int) * 256) (b : Int) = (c : Int) := by
 rw [or_add h hb, hc]
theorem numStep {s : RS} (h : NumOk s.l) (k : Nat) (hk : k < kOf s.l) : R Tryz.prog none 1 (pcNumber s 0).c (nbI s.l s k) .normal (nbI s.l s (k + 1)) := by
 have hl := h.len
 have h8 := h.k
 have hd : k < (s.l.drop 1).length := by rw [List.length_drop]; omega
 have e := take_snoc hd
 have hx := ((s.l.drop 1).getD k 0).toNat_lt
 have hm := beN_mono (d := s.l.drop 1) (j := k + 1) (k := kOf s.l) (by omega) (by rw [List.length_drop]; omega)
 have hlt := h.lt
 have e2 := beN_snoc ((s.l.drop 1).take k) ((s.l.drop 1).getD k 0)
 rw [← e] at e2
 refine R_alongPc NG MO _ (pcNumber_p1 s k) ?_ (Nat.le_refl _)
 simp only [All, All_append, bdDone_c, bdNumber_c, bdNum_c, bdTextR_c, bdRawR_c]
 exact ⟨decide_eq_true (by omega), ⟨by omega, by omega⟩, ⟨by decide, by decide⟩, InR64.2 ⟨by omega, by omega⟩, InR64.2 ⟨by rw [Int.toNat_natCast]; omega, by rw [Int.toNat_natCast]; omega⟩, InR64.2 ⟨by omega, by omega⟩, trivial, fun _ _ => trivial, fun h => h, trivial, trivial, or_goal (by rw [Int.toNat_natCast]; omega) (by rw [Int.toNat_natCast]; omega) (by rw [Int.toNat_natCast, e2]), trivial, trivial, trivial, trivial, fun _ _ => trivial, fun h => h, trivial, by omega, trivial⟩
theorem numLoop {s : RS} (h : NumOk s.l) : RLoop Tryz.prog none 1 (pcNumber s 0).c (kOf s.l + 1) (nbI s.l s 0) (.exit 1) (nbI s.l s (kOf s.l)) :=
 RLoop.inv (nbI s.l s) (kOf s.l) (fun k hk => numStep h k hk) (R_alongPc NG MO _ (pcNumber_p0 s (kOf s.l)) (by simp [All, All_append, bdDone_c, bdNumber_c, bdNum_c, bdTextR_c, bdRawR_c]) (Nat.le_refl _)) (by simp)
theorem kOf_lt (l : List UInt8) : kOf l < 256 := (l.getD 0 0).toNat_lt
theorem T_number0 (s : RS) : T Tryz.prog 74 [p0] [(.o 0, rdB s)] (numberV s.l) [(.o 0, rdB s)] := by
 have hk := kOf_lt s.l
 have hk0 : (s.l.getD 0 0).toNat < 256 := kOf_lt s.l
 by_cases h1 : s.l.length = 0
 ·refine T.conv (T_al (bdNumber_p1 s) Tryz.func74 ?_) rfl rfl (by simp [numberV, nV, nS, nE, h1]) rfl
  simp [All, All_append, bdDone_c, bdNumber_c, bdNum_c, bdTextR_c, bdRawR_c, h1]
 by_cases h2 : 8 < kOf s.l
 ·refine T.conv (T_al (bdNumber_p01 s) Tryz.func74 ?_) rfl rfl (by simp [numberV, nV, nS, nE, h1, h2]) rfl
  have h2' : 8 < (s.l.getD 0 0).toNat := h2
  simp only [All, All_append, bdDone_c, bdNumber_c, bdNum_c, bdTextR_c, bdRawR_c]; and_intros
  all_goals first | (rw [decide_eq_false_iff_not]; omega) | (rw [decide_eq_true_eq]; omega) | omega | exact inR1 (by omega) (by omega) | exact inR2 (by omega) (by omega) | trivial
 by_cases h3 : s.l.length ≤ kOf s.l
 ·refine T.conv (T_al (bdNumber_p001 s) Tryz.func74 ?_) rfl rfl (by simp [numberV, nV, nS, nE, h1, h2, h3]) rfl
  have h2' : ¬ 8 < (s.l.getD 0 0).toNat := h2
  have h3' : s.l.length ≤ (s.l.getD 0 0).toNat := h3
  simp only [All, All_append, bdDone_c, bdNumber_c, bdNum_c, bdTextR_c, bdRawR_c]; and_intros
  all_goals first | (rw [decide_eq_false_iff_not]; omega) | (rw [decide_eq_true_eq]; omega) | omega | exact inR1 (by omega) (by omega) | exact inR2 (by omega) (by omega) | trivial
 by_cases h4 : 0 < kOf s.l ∧ (s.l.getD 1 0).toNat = 0
 ·refine T.conv (T_al (bdNumber_p000111 s) Tryz.func74 ?_) rfl rfl (by simp only [numberV, nV, nS, nE, if_neg h1, if_neg h2, if_neg h3, if_pos h4]; rfl) rfl
  have h2' : ¬ 8 < (s.l.getD 0 0).toNat := h2
  have h3' : ¬ s.l.length ≤ (s.l.getD 0 0).toNat := h3
  have h4' : 0 < (s.l.getD 0 0).toNat ∧ (s.l.getD 1 0).toNat = 0 := h4
  simp only [All, All_append, bdDone_c, bdNumber_c, bdNum_c, bdTextR_c, bdRawR_c]; and_intros
  all_goals first | (rw [decide_eq_false_iff_not]; omega) | (rw [decide_eq_true_eq]; omega) | omega | exact inR1 (by omega) (by omega) | exact inR2 (by omega) (by omega) | trivial
 by_cases h5 : kOf s.l = 8 ∧ 127 < (s.l.getD 1 0).toNat
 ·refine T.conv (T_al (bdNumber_p0001011 s) Tryz.func74 ?_) rfl rfl (by simp only [numberV, nV, nS, nE, if_neg h1, if_neg h2, if_neg h3, if_neg h4, if_pos h5]; rfl) rfl
  have h2' : ¬ 8 < (s.l.getD 0 0).toNat := h2
  have h3' : ¬ s.l.length ≤ (s.l.getD 0 0).toNat := h3
  have h4' : ¬ (0 < (s.l.getD 0 0).toNat ∧ (s.l.getD 1 0).toNat = 0) := h4
  have h5' : (s.l.getD 0 0).toNat = 8 ∧ 127 < (s.l.getD 1 0).toNat := h5
  simp only [All, All_append, bdDone_c, bdNumber_c, bdNum_c, bdTextR_c, bdRawR_c]; and_intros
  all_goals first | (rw [decide_eq_false_iff_not]; omega) | (rw [decide_eq_true_eq]; omega) | omega | exact inR1 (by omega) (by omega) | exact inR2 (by omega) (by omega) | trivial
 have hok : NumOk s.l := ⟨by omega, by omega, fun h => by omega⟩
 have hv : numberV s.l = .tup [.int .i64 (beN ((s.l.drop 1).take (kOf s.l)) : Nat), .int .i64 (1 + (kOf s.l : Int)), .int .i64 0] := by
  simp only [numberV, nV, nS, nE, if_neg h1, if_neg h2, if_neg h3, if_neg h4, if_neg h5, if_true]
  rw [Int.add_comm]; rfl
 have h2' : ¬ 8 < (s.l.getD 0 0).toNat := h2
 have h3' : ¬ s.l.length ≤ (s.l.getD 0 0).toNat := h3
 have h4' : ¬ (0 < (s.l.getD 0 0).toNat ∧ (s.l.getD 1 0).toNat = 0) := h4
 have h5' : ¬ ((s.l.getD 0 0).toNat = 8 ∧ 127 < (s.l.getD 1 0).toNat) := h5
 have hkk : (s.l.getD 0 0).toNat = kOf s.l := rfl
 by_cases h6 : 0 < kOf s.l
 ·by_cases h7 : kOf s.l = 8
  ·refine T.conv (T_al (bdNumber_p0001010 s) Tryz.func74 ?_) rfl rfl hv.symm rfl
   simp only [All, All_append, bdDone_c, bdNumber_c, bdNum_c, bdTextR_c, bdRawR_c]; and_intros
   all_goals first | exact numLoop hok | exact fun _ _ => trivial | (simp only [natO]; omega) | (intro k _; simp [bl, kOf, List.getD_eq_getElem?_getD, Nat.add_comm]; done) | (rw [decide_eq_false_iff_not]; omega) | (rw [decide_eq_true_eq]; omega) | omega | exact inR1 (by omega) (by omega) | exact inR2 (by omega) (by omega) | trivial
  ·refine T.conv (T_al (bdNumber_p0001000 s) Tryz.func74 ?_) rfl rfl hv.symm rfl
   simp only [All, All_append, bdDone_c, bdNumber_c, bdNum_c, bdTextR_c, bdRawR_c]; and_intros
   all_goals first | exact numLoop hok | exact fun _ _ => trivial | (simp only [natO]; omega) | (intro k _; simp [bl, kOf, List.getD_eq_getElem?_getD, Nat.add_comm]; done) | (rw [decide_eq_false_iff_not]; omega) | (rw [decide_eq_true_eq]; omega) | omega | exact inR1 (by omega) (by omega) | exact inR2 (by omega) (by omega) | trivial
 ·refine T.conv (T_al (bdNumber_p0000000 s) Tryz.func74 ?_) rfl rfl hv.symm rfl
  simp only [All, All_append, bdDone_c, bdNumber_c, bdNum_c, bdTextR_c, bdRawR_c]; and_intros
  all_goals first | exact numLoop hok | exact fun _ _ => trivial | (simp only [natO]; omega) | (rw [decide_eq_false_iff_not]; omega) | omega | exact inR1 (by omega) (by omega) | exact inR2 (by omega) (by omega) | trivial
theorem T_stop0 (s : RS) : T Tryz.prog 73 [p0] [(.o 0, rdB s)] (stopV s) [(.o 0, rdB s)] :=
 T_al (bdStop_p00 s) Tryz.func73 (by simp [All, All_append, bdDone_c, bdNumber_c, bdNum_c, bdTextR_c, bdRawR_c])
theorem T_err0 (s : RS) : T Tryz.prog 78 [p0] [(.o 0, rdB s)] (.int .i64 s.e) [(.o 0, rdB s)] :=
 T_al (bdErr_p00 s) Tryz.func78 (by simp [All, All_append, bdDone_c, bdNumber_c, bdNum_c, bdTextR_c, bdRawR_c])
theorem T_left0 (s : RS) : T Tryz.prog 77 [p0] [(.o 0, rdB s)] (.int .i64 (s.l.length : Nat)) [(.o 0, rdB s)] :=
 T_al (bdLeft_p s) Tryz.func77 (by simp [All, All_append, bdDone_c, bdNumber_c, bdNum_c, bdTextR_c, bdRawR_c])
theorem T_fail0 (s : RS) {e e' : Int} (h : e = e') : T Tryz.prog 75 [p0, .int .i64 e] [(.o 0, rdB s)] (.tup []) [(.o 0, rdB (s.fail e'))] := by
 subst h
 exact T_al (bdFail_p s e) Tryz.func75 (by simp [All, All_append, bdDone_c, bdNumber_c, bdNum_c, bdTextR_c, bdRawR_c])
theorem bl_drop (l : List UInt8) (n k : Nat) : bl (l.drop n) k = bl l (n + k) := by simp [bl, List.getD_eq_getElem?_getD]
theorem bl_take (l : List UInt8) {n k : Nat} (h : k < n) : bl (l.take n) k = bl l k := by simp [bl, List.getD_eq_getElem?_getD, List.getElem?_take_of_lt h]
theorem T_take0 (s : RS) {z : Int} {n : Nat} (hz : z = (n : Int)) (h : n ≤ s.l.length) : T Tryz.prog 76 [p0, .int .i64 z] [(.o 0, rdB s)] (.ros 1 n (bl (s.l.take n)) false) [(.o 0, rdB (s.drop n))] := by
 subst hz
 refine T_al (bdTake_p s n) Tryz.func76 ?_
 simp only [All, All_append, bdDone_c, bdNumber_c, bdNum_c, bdTextR_c, bdRawR_c, natO, Int.toNat_natCast]; and_intros
 all_goals first | omega | trivial | (rw [List.length_drop]; done) | (intro k hk; rw [bl_drop]; rfl) | (intro k hk; rw [bl_take _ (by omega)]; rfl)
theorem nS_le {l : List UInt8} : 0 ≤ nS l ∧ nS l ≤ l.length := by
 unfold nS
 split
 ·rename_i h
  unfold nE at h
  split at h <;> try contradiction
  split at h <;> try contradiction
  split at h <;> try contradiction
  omega
 ·omega
theorem nE_ok {l : List UInt8} (h : nE l = 0) : NumOk l := by
 unfold nE at h
 split at h <;> try contradiction
 split at h <;> try contradiction
 split at h <;> try contradiction
 split at h <;> try contradiction
 split at h <;> try contradiction
 exact ⟨by omega, by omega, fun e => by omega⟩
theorem nV_le {l : List UInt8} : 0 ≤ nV l ∧ nV l < 9223372036854775808 := by
 unfold nV
 split
 ·rename_i h
  have := (nE_ok h).lt
  omega
 ·omega
theorem T_num0 (most : Int) (s : RS) : T Tryz.prog 25 [p0, .int .i64 most] [(.o 0, rdB s)] (.int .i64 (numR most s).1) [(.o 0, rdB (numR most s).2)] := by
 have hS := @nS_le s.l
 by_cases h1 : s.e = 0
 ·by_cases h2 : nE s.l = 0
  ·by_cases h3 : most < nV s.l
   ·have e1 : nE1 most s.l = 3 := by simp [nE1, h2, h3]
    have e : numR most s = (0, s.fail (nE1 most s.l)) := by simp [numR, h1, e1]
    rw [e]
    refine T_al (bdNum_p0111 most s) Tryz.func25 ?_
    simp only [All, All_append, bdDone_c, bdNumber_c, bdNum_c, bdTextR_c, bdRawR_c]; and_intros
    all_goals first | exact T_stop0 s | exact T_number0 s | exact T_fail0 s e1.symm | (simp [h1, h2, h3]; done)
   ·have e1 : nE1 most s.l = 0 := by simp [nE1, h2, h3]
    have e : numR most s = (nV s.l, s.drop (nS s.l).toNat) := by simp [numR, h1, e1]
    rw [e]
    refine T_al (bdNum_p0100 most s) Tryz.func25 ?_
    simp only [All, All_append, bdDone_c, bdNumber_c, bdNum_c, bdTextR_c, bdRawR_c]; and_intros
    all_goals first | exact T_stop0 s | exact T_number0 s | exact T_take0 s (by omega) (by omega) | (simp [h1, h2, h3]; done)
  ·have e1 : nE1 most s.l = nE s.l := by simp [nE1, h2]
   have e : numR most s = (0, s.fail (nE1 most s.l)) := by simp [numR, h1, e1, h2]
   rw [e]
   refine T_al (bdNum_p0001 most s) Tryz.func25 ?_
   simp only [All, All_append, bdDone_c, bdNumber_c, bdNum_c, bdTextR_c, bdRawR_c]; and_intros
   all_goals first | exact T_stop0 s | exact T_number0 s | exact T_fail0 s e1.symm | (simp [h1, h2]; done)
 ·have e : numR most s = (0, s) := by simp [numR, h1]
  rw [e]
  refine T_al (bdNum_p1 most s) Tryz.func25 ?_
  simp only [All, All_append, bdDone_c, bdNumber_c, bdNum_c, bdTextR_c, bdRawR_c]; and_intros
  all_goals first | exact T_stop0 s | (simp [h1]; done)
theorem T_textR0 (most : Int) (s : RS) (hl : s.l.length ≤ 1000000000) : T Tryz.prog 26 [p0, .int .i64 most] [(.o 0, rdB s)] (.str (textR most s).1) [(.o 0, rdB (textR most s).2)] := by
 have hS := @nS_le s.l
 have hV := @nV_le s.l
 by_cases h1 : s.e = 0
 ·by_cases h2 : nE s.l = 0
  ·by_cases h3 : most < nV s.l
   ·have e1 : tE most s.l = 3 := by simp [tE, h2, h3]
    have e : textR most s = (baL [], s.fail (tE most s.l)) := by simp [textR, h1, e1]
    rw [e]
    refine T_al (bdTextR_p0011 most s) Tryz.func26 ?_
    simp only [All, All_append, bdDone_c, bdNumber_c, bdNum_c, bdTextR_c, bdRawR_c]; and_intros
    all_goals first | exact T_stop0 s | exact T_number0 s | exact T_fail0 s e1.symm | (simp [h1, h2, h3]; done)
   ·by_cases h4 : (s.l.length : Int) - nS s.l < nV s.l
    ·have e1 : tE most s.l = 10 := by simp [tE, h2, h3, h4]
     have e : textR most s = (baL [], s.fail (tE most s.l)) := by simp [textR, h1, e1]
     rw [e]
     refine T_al (bdTextR_p00011 most s) Tryz.func26 ?_
     simp only [All, All_append, bdDone_c, bdNumber_c, bdNum_c, bdTextR_c, bdRawR_c]; and_intros
     all_goals first | exact T_stop0 s | exact T_number0 s | exact T_left0 s | exact T_fail0 s e1.symm | exact inR1 (by omega) (by omega) | exact inR2 (by omega) (by omega) | (simp [h1, h2, h3, h4]; done)
    ·have e1 : tE most s.l = 0 := by simp [tE, h2, h3, h4]
     have e : textR most s = (baL ((s.l.drop (nS s.l).toNat).take (nV s.l).toNat), (s.drop (nS s.l).toNat).drop (nV s.l).toNat) := by simp [textR, h1, e1]
     rw [e]
     have hlen : ((s.l.drop (nS s.l).toNat).take (nV s.l).toNat).length = (nV s.l).toNat := by rw [List.length_take, List.length_drop]; omega
     have hb : bytesF (nV s.l).toNat (bl ((s.l.drop (nS s.l).toNat).take (nV s.l).toNat)) = baL ((s.l.drop (nS s.l).toNat).take (nV s.l).toNat) := by
      have := bytesF_bl ((s.l.drop (nS s.l).toNat).take (nV s.l).toNat)
      rw [hlen] at this
      simpa only [Nat.zero_add] using this
     refine T.conv (T_al (bdTextR_p00000 most s) Tryz.func26 ?_) rfl rfl (by rw [hb]) rfl
     simp only [All, All_append, bdDone_c, bdNumber_c, bdNum_c, bdTextR_c, bdRawR_c]; and_intros
     all_goals first | exact T_stop0 s | exact T_number0 s | exact T_left0 s | exact T_take0 s (by omega) (by omega) | exact T_take0 (s.drop (nS s.l).toNat) (by omega) (by simp only [RS.drop, List.length_drop]; omega) | exact inR1 (by omega) (by omega) | exact inR2 (by omega) (by omega) | (simp [h1, h2, h3, h4]; done)
  ·have e1 : tE most s.l = nE s.l := by simp [tE, h2]
   have e : textR most s = (baL [], s.fail (tE most s.l)) := by simp [textR, h1, e1, h2]
   rw [e]
   refine T_al (bdTextR_p011 most s) Tryz.func26 ?_
   simp only [All, All_append, bdDone_c, bdNumber_c, bdNum_c, bdTextR_c, bdRawR_c]; and_intros
   all_goals first | exact T_stop0 s | exact T_number0 s | exact T_fail0 s e1.symm | (simp [h1, h2]; done)
 ·have e : textR most s = (baL [], s) := by simp [textR, h1]
  rw [e]
  refine T_al (bdTextR_p1 most s) Tryz.func26 ?_
  simp only [All, All_append, bdDone_c, bdNumber_c, bdNum_c, bdTextR_c, bdRawR_c]; and_intros
  all_goals first | exact T_stop0 s | (simp [h1]; done)
theorem T_rawR0 (n : Int) (s : RS) (hl : s.l.length ≤ 1000000000) : T Tryz.prog 27 [p0, .int .i64 n] [(.o 0, rdB s)] (roB (rawR n s).1) [(.o 0, rdB (rawR n s).2)] := by
 by_cases h1 : s.e = 0
 ·by_cases h2 : n < 0
  ·have e : rawR n s = ([], s.fail 2) := by simp [rawR, h1, h2]
   refine T_al (bdRawR_p01 n s) Tryz.func27 ?_
   simp only [e, All]; and_intros
   all_goals first | exact T_stop0 s | exact T_fail0 s rfl | trivial | (simp [h1, h2]; done)
  ·by_cases h3 : (s.l.length : Int) < n
   ·have e : rawR n s = ([], s.fail 10) := by simp [rawR, h1, h2, h3]
    refine T_al (bdRawR_p001 n s) Tryz.func27 ?_
    simp only [e, All]; and_intros
    all_goals first | exact T_stop0 s | exact T_left0 s | exact T_fail0 s rfl | trivial | (simp [h1, h2, h3]; done)
   ·have e : rawR n s = (s.l.take n.toNat, s.drop n.toNat) := by simp [rawR, h1, h2, h3]
    have hlen : (s.l.take n.toNat).length = n.toNat := by rw [List.length_take]; omega
    refine T_al (bdRawR_p000 n s) Tryz.func27 ?_
    simp only [e, All, RS.drop]; and_intros
    all_goals first | exact T_stop0 s | exact T_left0 s | exact T_take0 s (by omega) (by omega) | trivial | omega | (simp [h1, h2, h3]; done) | (intro k hk; simp [bl]; done)
 ·have e : rawR n s = ([], s) := by simp [rawR, h1]
  refine T_al (bdRawR_p1 n s) Tryz.func27 ?_
  simp only [e, All]; and_intros
  all_goals first | exact T_stop0 s | trivial | (simp [h1]; done)
theorem T_done0 (s : RS) : T Tryz.prog 28 [p0] [(.o 0, rdB s)] (.int .i64 (doneR s)) [(.o 0, rdB s)] := by
 by_cases h1 : s.e = 0
 ·by_cases h2 : 0 < s.l.length
  ·refine T.val (T_al (bdDone_p01 s) Tryz.func28 ?_) (by simp [doneR, h1, h2])
   simp only [All, All_append, bdDone_c, bdNumber_c, bdNum_c, bdTextR_c, bdRawR_c]; and_intros
   all_goals first | exact T_err0 s | exact T_left0 s | (simp [h1]; done) | (rw [decide_eq_true_eq]; omega)
  ·refine T.val (T_al (bdDone_p00 s) Tryz.func28 ?_) (by simp [doneR, h1, h2])
   simp only [All, All_append, bdDone_c, bdNumber_c, bdNum_c, bdTextR_c, bdRawR_c]; and_intros
   all_goals first | exact T_err0 s | exact T_left0 s | (simp [h1]; done) | (rw [decide_eq_false_iff_not]; omega)
 ·refine T.val (T_al (bdDone_p1 s) Tryz.func28 ?_) (by simp [doneR, h1])
  simp only [All, All_append, bdDone_c, bdNumber_c, bdNum_c, bdTextR_c, bdRawR_c]; and_intros
  all_goals first | exact T_err0 s | (simp [h1]; done)
theorem T_read0 (l : List UInt8) (hl : l.length ≤ 1000000000) : T Tryz.prog 24 [roB l] [] (.ptr (.o 63) 0 0 0 0) [(.o 63, rdB { l := l })] := by
 refine T_al (bdRead_p l) Tryz.func24 ?_
 simp only [All, All_append, bdDone_c, bdNumber_c, bdNum_c, bdTextR_c, bdRawR_c]; and_intros
 all_goals first | trivial | omega | (intro k _; simp [bl]; done) | simp
end Go.Proofs.YtnmccoincblecaaGreat
namespace Go.Proofs.YtnmccoincblecaaGreat
open Go Sy Go.Proofs
def intsB (l : List UInt8) : List Int := l.map fun x => (x.toNat : Int)
def reqR1 (s : RS) : RS := (numR 8 s).2
def reqR2 (s : RS) : RS := (numR 1099511627776 (reqR1 s)).2
def reqR3 (s : RS) : RS := (textR 64 (reqR2 s)).2
def reqR4 (s : RS) : RS := (rawR 16 (reqR3 s)).2
def reqV (s : RS) : SReq := { client := (numR 8 s).1, num := (numR 1099511627776 (reqR1 s)).1, data := (textR 64 (reqR2 s)).1, tag := intsB (rawR 16 (reqR3 s)).1 }
def req0 : SReq := { data := baL [], tag := z16 }
def reqR (s : RS) : SReq × RS := (if (reqR4 s).e = 0 then reqV s else req0, reqR4 s)
/-- One after the other, so many times. -/
def itR {α : Type} (one : RS → α × RS) : Nat → RS → List α × RS
 | 0, s => ([], s)
 | k + 1, s => ((one s).1 :: (itR one k (one s).2).1, (itR one k (one s).2).2)
def batch1 (s : RS) : List SReq × RS := itR reqR ((numR 5 s).1.toNat - 1) (numR 5 s).2
def batchOf (b : Bool) (l : List SReq) : SBatch := { noop := b, n := l.length, req := fun i => l.getD i req0 }
def batchR (s : RS) : SBatch × RS := (if (batch1 s).2.e = 0 then batchOf (decide ((numR 5 s).1 = 0)) (batch1 s).1 else {}, (batch1 s).2)
/-- One after the other. -/
def cRdS (l : List (V × RS)) : List V → Heap → Nat → List Cl := fun args _ _ => match args with
 | .ptr a _ _ _ _ :: _ => l.map fun q => { pre := [a], val := q.1, post := [(a, rdB q.2)] }
 | _ => []
def kCell (cs : List V) (hs : Heap) : Exit → St → Option W := fun _ st => match getV st.tmps 2 with
 | .ptr a _ _ _ _ => some ⟨[], [(2, .set (.ptr a 0 0 0 0))], hsetsOf hs ++ [(a, .set (.flat cs))], none, st.next⟩
 | _ => none
def rawCl (n : Nat) (xs : List UInt8) (s : RS) : List (V × RS) := [(.ros 1 n (bl xs) false, s), (.ros 1 0 (bl []) false, s)]
noncomputable def bdReqR (s s1 s2 s3 s4 : RS) (a b : Int) (d : ByteArray) (xs : List UInt8) (r : SReq) : Bd := { f := Tryz.f139, args := [p0], pre := [(.o 0, rdB s)], base := 1, kb := { db := dbG [(26, cRd (.str d) s3), (27, cRdS (rawCl 16 xs s4))] [(2, cRd (.int .i64 a) s1), (6, cRd (.int .i64 b) s2)] }, names := n0, k := kCell r.c [(.o 0, rdB s4)] }
noncomputable def bdReqT (s s1 s2 s3 s4 : RS) (a b : Int) (d : ByteArray) (xs : List UInt8) : Bd := bdReqR s s1 s2 s3 s4 a b d xs { client := a, num := b, data := d, tag := intsB xs }
noncomputable def bdReqF (s s1 s2 s3 s4 : RS) (a b : Int) (d : ByteArray) (xs : List UInt8) : Bd := bdReqR s s1 s2 s3 s4 a b d xs req0
noncomputable def bdBatR (s s0 s1 s2 s3 s4 s5 : RS) (n : Int) (r1 r2 r3 r4 : SReq) (b : SBatch) : Bd := { f := Tryz.f107, args := [p0], pre := [(.o 0, rdB s)], base := 1, kb := { db := dbG [(25, cRd (.int .i64 n) s0), (78, cRd (.int .i64 s5.e) s5)] [(17, cRd (.agg r1.c) s1), (31, cRd (.agg r2.c) s2), (45, cRd (.agg r3.c) s3), (59, cRd (.agg r4.c) s4)], lp := fun _ _ => [(True, .rounds 6)] }, names := n0, k := kCell b.c [(.o 0, rdB s5)] }
noncomputable def bdBat0 (s s0 : RS) (n : Int) : Bd := bdBatR s s0 s0 s0 s0 s0 s0 n {} {} {} {} (batchOf (decide (n = 0)) [])
noncomputable def bdBad0 (s s0 : RS) (n : Int) : Bd := bdBatR s s0 s0 s0 s0 s0 s0 n {} {} {} {} {}
noncomputable def bdBat1 (s s0 s1 : RS) (n : Int) (r1 : SReq) : Bd := bdBatR s s0 s1 s1 s1 s1 s1 n r1 {} {} {} (batchOf (decide (n = 0)) [r1])
noncomputable def bdBad1 (s s0 s1 : RS) (n : Int) (r1 : SReq) : Bd := bdBatR s s0 s1 s1 s1 s1 s1 n r1 {} {} {} {}
noncomputable def bdBat2 (s s0 s1 s2 : RS) (n : Int) (r1 r2 : SReq) : Bd := bdBatR s s0 s1 s2 s2 s2 s2 n r1 r2 {} {} (batchOf (decide (n = 0)) [r1, r2])
noncomputable def bdBad2 (s s0 s1 s2 : RS) (n : Int) (r1 r2 : SReq) : Bd := bdBatR s s0 s1 s2 s2 s2 s2 n r1 r2 {} {} {}
noncomputable def bdBat3 (s s0 s1 s2 s3 : RS) (n : Int) (r1 r2 r3 : SReq) : Bd := bdBatR s s0 s1 s2 s3 s3 s3 n r1 r2 r3 {} (batchOf (decide (n = 0)) [r1, r2, r3])
noncomputable def bdBad3 (s s0 s1 s2 s3 : RS) (n : Int) (r1 r2 r3 : SReq) : Bd := bdBatR s s0 s1 s2 s3 s3 s3 n r1 r2 r3 {} {}
noncomputable def bdBat4 (s s0 s1 s2 s3 s4 : RS) (n : Int) (r1 r2 r3 r4 : SReq) : Bd := bdBatR s s0 s1 s2 s3 s4 s4 n r1 r2 r3 r4 (batchOf (decide (n = 0)) [r1, r2, r3, r4])
noncomputable def bdBad4 (s s0 s1 s2 s3 s4 : RS) (n : Int) (r1 r2 r3 r4 : SReq) : Bd := bdBatR s s0 s1 s2 s3 s4 s4 n r1 r2 r3 r4 {}
end Go.Proofs.YtnmccoincblecaaGreat
