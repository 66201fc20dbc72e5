/-
  Contracts and laws that the claim's theorem leans on, joined out of the texts Ta5 Ta9D Ta9 Tb0D (own work of this seat): Contracts: a message's bytes; Contracts: the reader of bytes; Contracts: the reader of bytes; Contracts: what is read of bytes.
-/
import Derived.Test.YtnmccoincblecaaGreatC06
set_option linter.unusedVariables false
set_option linter.unusedSimpArgs false
set_option maxHeartbeats 1000000
namespace Go.Proofs.YtnmccoincblecaaGreat
open Go Sy Go.Proofs
noncomputable def p5 (m : SMsg) (g : Bool) : Nat → List Prop
 | 0 => [(!g) = false, T zp 53 [.ptr (.o 448) 0 0 0 0, .sl (.o 768) 1 0 0 0 1 (some 1)] [(.o 448, .flat [.snil]), (.o 768, .rows 1 1 (j4 [[.int .i64 (SMsg.kind m)]]) false)] (.tup []) [(.o 448, .flat [sb (.o 832) (c6 (SMsg.kind m))]), (.o 832, bs (c6 (SMsg.kind m))), (.o 768, .rows 1 1 (j4 [[.int .i64 (SMsg.kind m)]]) false)]]
 | 1 => [decide (SMsg.kind m = (1 : Int)) = true, T zp 53 [.ptr (.o 448) 0 0 0 0, .sl (.o 1472) 1 0 0 0 2 (some 2)] [(.o 448, .flat [sb (.o 832) (c6 (SMsg.kind m))]), (.o 832, bs (c6 (SMsg.kind m))), (.o 1472, .rows 1 2 (j4 [[.int .i64 (SMsg.epoch m)], [.int .i64 (SMsg.slot m)]]) false)] (.tup []) [(.o 448, .flat [sb (.o 1536) (c6 (SMsg.kind m) ++ c9 [SMsg.epoch m, SMsg.slot m])]), (.o 1536, bs (c6 (SMsg.kind m) ++ c9 [SMsg.epoch m, SMsg.slot m])), (.o 1472, .rows 1 2 (j4 [[.int .i64 (SMsg.epoch m)], [.int .i64 (SMsg.slot m)]]) false)], T zp 54 [.ptr (.o 448) 0 0 0 0, .agg (SBatch.c (SMsg.batch m))] [(.o 448, .flat [sb (.o 1536) (c6 (SMsg.kind m) ++ c9 [SMsg.epoch m, SMsg.slot m])]), (.o 1536, bs (c6 (SMsg.kind m) ++ c9 [SMsg.epoch m, SMsg.slot m]))] (.tup []) [(.o 448, .flat [sb (.o 1792) (c6 (SMsg.kind m) ++ c9 [SMsg.epoch m, SMsg.slot m] ++ j6 (SMsg.batch m))]), (.o 1792, bs (c6 (SMsg.kind m) ++ c9 [SMsg.epoch m, SMsg.slot m] ++ j6 (SMsg.batch m)))]]
 | 2 => [decide (SMsg.kind m = (2 : Int)) = true, T zp 55 [.ptr (.o 448) 0 0 0 0, .agg (SVote.c (SMsg.vote m))] [(.o 448, .flat [sb (.o 832) (c6 (SMsg.kind m))]), (.o 832, bs (c6 (SMsg.kind m)))] (.tup []) [(.o 448, .flat [sb (.o 1472) (c6 (SMsg.kind m) ++ r7 (SMsg.vote m))]), (.o 1472, bs (c6 (SMsg.kind m) ++ r7 (SMsg.vote m)))]]
 | 3 => [decide (SMsg.kind m = (3 : Int)) = true, T zp 53 [.ptr (.o 448) 0 0 0 0, .sl (.o 2048) 1 0 0 0 3 (some 3)] [(.o 448, .flat [sb (.o 832) (c6 (SMsg.kind m))]), (.o 832, bs (c6 (SMsg.kind m))), (.o 2048, .rows 1 3 (j4 [[.int .i64 (SMsg.cepoch m)], [.int .i64 (SMsg.cleader m)], [.int .i64 (SMsg.cview m)]]) false)] (.tup []) [(.o 448, .flat [sb (.o 2112) (c6 (SMsg.kind m) ++ c9 [SMsg.cepoch m, SMsg.cleader m, SMsg.cview m])]), (.o 2112, bs (c6 (SMsg.kind m) ++ c9 [SMsg.cepoch m, SMsg.cleader m, SMsg.cview m])), (.o 2048, .rows 1 3 (j4 [[.int .i64 (SMsg.cepoch m)], [.int .i64 (SMsg.cleader m)], [.int .i64 (SMsg.cview m)]]) false)], T zp 56 [.ptr (.o 448) 0 0 0 0, .ros 39 (SMsg.nheld m) (fun i => SHeld.c (SMsg.held m i)) false, .fn (.func 57) [.ptr (.o 448) 0 0 0 0] []] [(.o 448, .flat [sb (.o 2112) (c6 (SMsg.kind m) ++ c9 [SMsg.cepoch m, SMsg.cleader m, SMsg.cview m])]), (.o 2112, bs (c6 (SMsg.kind m) ++ c9 [SMsg.cepoch m, SMsg.cleader m, SMsg.cview m]))] (.tup []) [(.o 448, .flat [sb (.o 2560) (c6 (SMsg.kind m) ++ c9 [SMsg.cepoch m, SMsg.cleader m, SMsg.cview m] ++ (c9 [(↑(SMsg.nheld m) : Int)] ++ m6 (SMsg.held m) (SMsg.nheld m)))]), (.o 2560, bs (c6 (SMsg.kind m) ++ c9 [SMsg.cepoch m, SMsg.cleader m, SMsg.cview m] ++ (c9 [(↑(SMsg.nheld m) : Int)] ++ m6 (SMsg.held m) (SMsg.nheld m))))]]
 | 4 => [decide (SMsg.kind m = (4 : Int)) = true, T zp 53 [.ptr (.o 448) 0 0 0 0, .sl (.o 1984) 1 0 0 0 3 (some 3)] [(.o 448, .flat [sb (.o 832) (c6 (SMsg.kind m))]), (.o 832, bs (c6 (SMsg.kind m))), (.o 1984, .rows 1 3 (j4 [[.int .i64 (SMsg.epoch m)], [.int .i64 (SMsg.leader m)], [.int .i64 (SMsg.view m)]]) false)] (.tup []) [(.o 448, .flat [sb (.o 2048) (c6 (SMsg.kind m) ++ c9 [SMsg.epoch m, SMsg.leader m, SMsg.view m])]), (.o 2048, bs (c6 (SMsg.kind m) ++ c9 [SMsg.epoch m, SMsg.leader m, SMsg.view m])), (.o 1984, .rows 1 3 (j4 [[.int .i64 (SMsg.epoch m)], [.int .i64 (SMsg.leader m)], [.int .i64 (SMsg.view m)]]) false)], T zp 58 [.ptr (.o 448) 0 0 0 0, .ros 18 (SMsg.nnews m) (fun i => SEnv.c (SMsg.news m i)) false, .fn (.func 59) [.ptr (.o 448) 0 0 0 0] []] [(.o 448, .flat [sb (.o 2048) (c6 (SMsg.kind m) ++ c9 [SMsg.epoch m, SMsg.leader m, SMsg.view m])]), (.o 2048, bs (c6 (SMsg.kind m) ++ c9 [SMsg.epoch m, SMsg.leader m, SMsg.view m]))] (.tup []) [(.o 448, .flat [sb (.o 2432) (c6 (SMsg.kind m) ++ c9 [SMsg.epoch m, SMsg.leader m, SMsg.view m] ++ (c9 [(↑(SMsg.nnews m) : Int)] ++ n9 (SMsg.news m) (SMsg.nnews m)))]), (.o 2432, bs (c6 (SMsg.kind m) ++ c9 [SMsg.epoch m, SMsg.leader m, SMsg.view m] ++ (c9 [(↑(SMsg.nnews m) : Int)] ++ n9 (SMsg.news m) (SMsg.nnews m))))]]
 | 5 => [decide (SMsg.kind m = (5 : Int)) = true, T zp 53 [.ptr (.o 448) 0 0 0 0, .sl (.o 1856) 1 0 0 0 1 (some 1)] [(.o 448, .flat [sb (.o 832) (c6 (SMsg.kind m))]), (.o 832, bs (c6 (SMsg.kind m))), (.o 1856, .rows 1 1 (j4 [[.int .i64 (SMsg.epoch m)]]) false)] (.tup []) [(.o 448, .flat [sb (.o 1920) (c6 (SMsg.kind m) ++ c9 [SMsg.epoch m])]), (.o 1920, bs (c6 (SMsg.kind m) ++ c9 [SMsg.epoch m])), (.o 1856, .rows 1 1 (j4 [[.int .i64 (SMsg.epoch m)]]) false)], T zp 60 [.ptr (.o 448) 0 0 0 0, .agg [.seg .u8 32 (SMsg.digest m)]] [(.o 448, .flat [sb (.o 1920) (c6 (SMsg.kind m) ++ c9 [SMsg.epoch m])]), (.o 1920, bs (c6 (SMsg.kind m) ++ c9 [SMsg.epoch m]))] (.tup []) [(.o 448, .flat [sb (.o 2176) (c6 (SMsg.kind m) ++ c9 [SMsg.epoch m] ++ l9 (SMsg.digest m))]), (.o 2176, bs (c6 (SMsg.kind m) ++ c9 [SMsg.epoch m] ++ l9 (SMsg.digest m)))]]
 | 6 => [decide (SMsg.kind m = (6 : Int)) = true, T zp 53 [.ptr (.o 448) 0 0 0 0, .sl (.o 2112) 1 0 0 0 2 (some 2)] [(.o 448, .flat [sb (.o 832) (c6 (SMsg.kind m))]), (.o 832, bs (c6 (SMsg.kind m))), (.o 2112, .rows 1 2 (j4 [[.int .i64 (SMsg.epoch m)], [.int .i64 (SMsg.slot m)]]) false)] (.tup []) [(.o 448, .flat [sb (.o 2176) (c6 (SMsg.kind m) ++ c9 [SMsg.epoch m, SMsg.slot m])]), (.o 2176, bs (c6 (SMsg.kind m) ++ c9 [SMsg.epoch m, SMsg.slot m])), (.o 2112, .rows 1 2 (j4 [[.int .i64 (SMsg.epoch m)], [.int .i64 (SMsg.slot m)]]) false)]]
 | 7 => [decide (SMsg.kind m = (7 : Int)) = true, T zp 54 [.ptr (.o 448) 0 0 0 0, .agg (SBatch.c (SMsg.batch m))] [(.o 448, .flat [sb (.o 832) (c6 (SMsg.kind m))]), (.o 832, bs (c6 (SMsg.kind m)))] (.tup []) [(.o 448, .flat [sb (.o 2112) (c6 (SMsg.kind m) ++ j6 (SMsg.batch m))]), (.o 2112, bs (c6 (SMsg.kind m) ++ j6 (SMsg.batch m)))], T zp 61 [.ptr (.o 448) 0 0 0 0, .agg [.int .i64 (SVote.kind (SCert.vote (SMsg.cert m))), .int .i64 (SVote.epoch (SCert.vote (SMsg.cert m))), .int .i64 (SVote.view (SCert.vote (SMsg.cert m))), .int .i64 (SVote.slot (SCert.vote (SMsg.cert m))), .seg .u8 32 (SVote.digest (SCert.vote (SMsg.cert m))), sg (SCert.n (SMsg.cert m)) (SCert.sig (SMsg.cert m))]] [(.o 448, .flat [sb (.o 2112) (c6 (SMsg.kind m) ++ j6 (SMsg.batch m))]), (.o 2112, bs (c6 (SMsg.kind m) ++ j6 (SMsg.batch m)))] (.tup []) [(.o 448, .flat [sb (.o 2368) (c6 (SMsg.kind m) ++ j6 (SMsg.batch m) ++ u9 (SMsg.cert m))]), (.o 2368, bs (c6 (SMsg.kind m) ++ j6 (SMsg.batch m) ++ u9 (SMsg.cert m)))]]
 | 8 => [decide (SMsg.kind m = (7 : Int)) = false, decide (SMsg.kind m = (8 : Int)) = true, T zp 62 [.ptr (.o 448) 0 0 0 0, .str (SMsg.state m)] [(.o 448, .flat [sb (.o 832) (c6 (SMsg.kind m))]), (.o 832, bs (c6 (SMsg.kind m)))] (.tup []) [(.o 448, .flat [sb (.o 2240) (c6 (SMsg.kind m) ++ j3 (SMsg.state m))]), (.o 2240, bs (c6 (SMsg.kind m) ++ j3 (SMsg.state m)))], T zp 63 [.ptr (.o 448) 0 0 0 0, .ros 17 (SMsg.n m) (fun i => SSign.c (SMsg.sig m i)) false, .fn (.func 64) [.ptr (.o 448) 0 0 0 0] []] [(.o 448, .flat [sb (.o 2240) (c6 (SMsg.kind m) ++ j3 (SMsg.state m))]), (.o 2240, bs (c6 (SMsg.kind m) ++ j3 (SMsg.state m)))] (.tup []) [(.o 448, .flat [sb (.o 2624) (c6 (SMsg.kind m) ++ j3 (SMsg.state m) ++ (c9 [(↑(SMsg.n m) : Int)] ++ l8 (SMsg.sig m) (SMsg.n m)))]), (.o 2624, bs (c6 (SMsg.kind m) ++ j3 (SMsg.state m) ++ (c9 [(↑(SMsg.n m) : Int)] ++ l8 (SMsg.sig m) (SMsg.n m))))]]
 | _ => []
theorem bx6 (m : SMsg) (g : Bool) :
 f4 zp (J7 m g) [true] = (some (.tup [.str (ByteArray.mk (Array.mk [])), .int .i64 130], [], [T zp 52 [.agg (SMsg.c m)] [] (.bool g) [], (!g) = true]) : Option (V × c5 × List Prop)) := by kernel_rfl
theorem bb0 (m : SMsg) (g : Bool) :
 f4 zp (J7 m g) [false, true, true] = (some (.tup [.str (ByteArray.mk (Array.mk [])), .int .i64 3], [], [T zp 52 [.agg (SMsg.c m)] [] (.bool g) []] ++ (p5 m g 0 ++ (p5 m g 1 ++ ([decide ((4194304 : Int) < (↑(List.length (c6 (SMsg.kind m) ++ c9 [SMsg.epoch m, SMsg.slot m] ++ j6 (SMsg.batch m))) : Int)) = true])))) : Option (V × c5 × List Prop)) := by kernel_rfl
theorem ba_ (m : SMsg) (g : Bool) :
 f4 zp (J7 m g) [false, true, false] = (some (.tup [.str (E9 (List.length (c6 (SMsg.kind m) ++ c9 [SMsg.epoch m, SMsg.slot m] ++ j6 (SMsg.batch m))) fun k => bl (c6 (SMsg.kind m) ++ c9 [SMsg.epoch m, SMsg.slot m] ++ j6 (SMsg.batch m)) (0 + k)), .int .i64 0], [], [T zp 52 [.agg (SMsg.c m)] [] (.bool g) []] ++ (p5 m g 0 ++ (p5 m g 1 ++ ([decide ((4194304 : Int) < (↑(List.length (c6 (SMsg.kind m) ++ c9 [SMsg.epoch m, SMsg.slot m] ++ j6 (SMsg.batch m))) : Int)) = false, ∀ (k : Nat), k < List.length (c6 (SMsg.kind m) ++ c9 [SMsg.epoch m, SMsg.slot m] ++ j6 (SMsg.batch m)) → true = true, (0 : Nat) + List.length (c6 (SMsg.kind m) ++ c9 [SMsg.epoch m, SMsg.slot m] ++ j6 (SMsg.batch m)) ≤ List.length (c6 (SMsg.kind m) ++ c9 [SMsg.epoch m, SMsg.slot m] ++ j6 (SMsg.batch m)), ∀ (k : Nat), k < List.length (c6 (SMsg.kind m) ++ c9 [SMsg.epoch m, SMsg.slot m] ++ j6 (SMsg.batch m)) → true = true])))) : Option (V × c5 × List Prop)) := by kernel_rfl
theorem aW0 (m : SMsg) (g : Bool) :
 f4 zp (J7 m g) [false, false, true, true] = (some (.tup [.str (ByteArray.mk (Array.mk [])), .int .i64 3], [], [T zp 52 [.agg (SMsg.c m)] [] (.bool g) []] ++ (p5 m g 0 ++ ([decide (SMsg.kind m = (1 : Int)) = false] ++ (p5 m g 2 ++ ([decide ((4194304 : Int) < (↑(List.length (c6 (SMsg.kind m) ++ r7 (SMsg.vote m))) : Int)) = true]))))) : Option (V × c5 × List Prop)) := by kernel_rfl
theorem aV_ (m : SMsg) (g : Bool) :
 f4 zp (J7 m g) [false, false, true, false] = (some (.tup [.str (E9 (List.length (c6 (SMsg.kind m) ++ r7 (SMsg.vote m))) fun k => bl (c6 (SMsg.kind m) ++ r7 (SMsg.vote m)) (0 + k)), .int .i64 0], [], [T zp 52 [.agg (SMsg.c m)] [] (.bool g) []] ++ (p5 m g 0 ++ ([decide (SMsg.kind m = (1 : Int)) = false] ++ (p5 m g 2 ++ ([decide ((4194304 : Int) < (↑(List.length (c6 (SMsg.kind m) ++ r7 (SMsg.vote m))) : Int)) = false, ∀ (k : Nat), k < List.length (c6 (SMsg.kind m) ++ r7 (SMsg.vote m)) → true = true, (0 : Nat) + List.length (c6 (SMsg.kind m) ++ r7 (SMsg.vote m)) ≤ List.length (c6 (SMsg.kind m) ++ r7 (SMsg.vote m)), ∀ (k : Nat), k < List.length (c6 (SMsg.kind m) ++ r7 (SMsg.vote m)) → true = true]))))) : Option (V × c5 × List Prop)) := by kernel_rfl
theorem aO8 (m : SMsg) (g : Bool) :
 f4 zp (J7 m g) [false, false, false, true, true] = (some (.tup [.str (ByteArray.mk (Array.mk [])), .int .i64 3], [], [T zp 52 [.agg (SMsg.c m)] [] (.bool g) []] ++ (p5 m g 0 ++ ([decide (SMsg.kind m = (1 : Int)) = false, decide (SMsg.kind m = (2 : Int)) = false] ++ (p5 m g 3 ++ ([decide ((4194304 : Int) < (↑(List.length (c6 (SMsg.kind m) ++ c9 [SMsg.cepoch m, SMsg.cleader m, SMsg.cview m] ++ (c9 [(↑(SMsg.nheld m) : Int)] ++ m6 (SMsg.held m) (SMsg.nheld m)))) : Int)) = true]))))) : Option (V × c5 × List Prop)) := by kernel_rfl
theorem aO7 (m : SMsg) (g : Bool) :
 f4 zp (J7 m g) [false, false, false, true, false] = (some (.tup [.str (E9 (List.length (c6 (SMsg.kind m) ++ c9 [SMsg.cepoch m, SMsg.cleader m, SMsg.cview m] ++ (c9 [(↑(SMsg.nheld m) : Int)] ++ m6 (SMsg.held m) (SMsg.nheld m)))) fun k => bl (c6 (SMsg.kind m) ++ c9 [SMsg.cepoch m, SMsg.cleader m, SMsg.cview m] ++ (c9 [(↑(SMsg.nheld m) : Int)] ++ m6 (SMsg.held m) (SMsg.nheld m))) (0 + k)), .int .i64 0], [], [T zp 52 [.agg (SMsg.c m)] [] (.bool g) []] ++ (p5 m g 0 ++ ([decide (SMsg.kind m = (1 : Int)) = false, decide (SMsg.kind m = (2 : Int)) = false] ++ (p5 m g 3 ++ ([decide ((4194304 : Int) < (↑(List.length (c6 (SMsg.kind m) ++ c9 [SMsg.cepoch m, SMsg.cleader m, SMsg.cview m] ++ (c9 [(↑(SMsg.nheld m) : Int)] ++ m6 (SMsg.held m) (SMsg.nheld m)))) : Int)) = false, ∀ (k : Nat), k < List.length (c6 (SMsg.kind m) ++ c9 [SMsg.cepoch m, SMsg.cleader m, SMsg.cview m] ++ (c9 [(↑(SMsg.nheld m) : Int)] ++ m6 (SMsg.held m) (SMsg.nheld m))) → true = true, (0 : Nat) + List.length (c6 (SMsg.kind m) ++ c9 [SMsg.cepoch m, SMsg.cleader m, SMsg.cview m] ++ (c9 [(↑(SMsg.nheld m) : Int)] ++ m6 (SMsg.held m) (SMsg.nheld m))) ≤ List.length (c6 (SMsg.kind m) ++ c9 [SMsg.cepoch m, SMsg.cleader m, SMsg.cview m] ++ (c9 [(↑(SMsg.nheld m) : Int)] ++ m6 (SMsg.held m) (SMsg.nheld m))), ∀ (k : Nat), k < List.length (c6 (SMsg.kind m) ++ c9 [SMsg.cepoch m, SMsg.cleader m, SMsg.cview m] ++ (c9 [(↑(SMsg.nheld m) : Int)] ++ m6 (SMsg.held m) (SMsg.nheld m))) → true = true]))))) : Option (V × c5 × List Prop)) := by kernel_rfl
theorem aK4 (m : SMsg) (g : Bool) :
 f4 zp (J7 m g) [false, false, false, false, true, true] = (some (.tup [.str (ByteArray.mk (Array.mk [])), .int .i64 3], [], [T zp 52 [.agg (SMsg.c m)] [] (.bool g) []] ++ (p5 m g 0 ++ ([decide (SMsg.kind m = (1 : Int)) = false, decide (SMsg.kind m = (2 : Int)) = false, decide (SMsg.kind m = (3 : Int)) = false] ++ (p5 m g 4 ++ ([decide ((4194304 : Int) < (↑(List.length (c6 (SMsg.kind m) ++ c9 [SMsg.epoch m, SMsg.leader m, SMsg.view m] ++ (c9 [(↑(SMsg.nnews m) : Int)] ++ n9 (SMsg.news m) (SMsg.nnews m)))) : Int)) = true]))))) : Option (V × c5 × List Prop)) := by kernel_rfl
theorem aK3 (m : SMsg) (g : Bool) :
 f4 zp (J7 m g) [false, false, false, false, true, false] = (some (.tup [.str (E9 (List.length (c6 (SMsg.kind m) ++ c9 [SMsg.epoch m, SMsg.leader m, SMsg.view m] ++ (c9 [(↑(SMsg.nnews m) : Int)] ++ n9 (SMsg.news m) (SMsg.nnews m)))) fun k => bl (c6 (SMsg.kind m) ++ c9 [SMsg.epoch m, SMsg.leader m, SMsg.view m] ++ (c9 [(↑(SMsg.nnews m) : Int)] ++ n9 (SMsg.news m) (SMsg.nnews m))) (0 + k)), .int .i64 0], [], [T zp 52 [.agg (SMsg.c m)] [] (.bool g) []] ++ (p5 m g 0 ++ ([decide (SMsg.kind m = (1 : Int)) = false, decide (SMsg.kind m = (2 : Int)) = false, decide (SMsg.kind m = (3 : Int)) = false] ++ (p5 m g 4 ++ ([decide ((4194304 : Int) < (↑(List.length (c6 (SMsg.kind m) ++ c9 [SMsg.epoch m, SMsg.leader m, SMsg.view m] ++ (c9 [(↑(SMsg.nnews m) : Int)] ++ n9 (SMsg.news m) (SMsg.nnews m)))) : Int)) = false, ∀ (k : Nat), k < List.length (c6 (SMsg.kind m) ++ c9 [SMsg.epoch m, SMsg.leader m, SMsg.view m] ++ (c9 [(↑(SMsg.nnews m) : Int)] ++ n9 (SMsg.news m) (SMsg.nnews m))) → true = true, (0 : Nat) + List.length (c6 (SMsg.kind m) ++ c9 [SMsg.epoch m, SMsg.leader m, SMsg.view m] ++ (c9 [(↑(SMsg.nnews m) : Int)] ++ n9 (SMsg.news m) (SMsg.nnews m))) ≤ List.length (c6 (SMsg.kind m) ++ c9 [SMsg.epoch m, SMsg.leader m, SMsg.view m] ++ (c9 [(↑(SMsg.nnews m) : Int)] ++ n9 (SMsg.news m) (SMsg.nnews m))), ∀ (k : Nat), k < List.length (c6 (SMsg.kind m) ++ c9 [SMsg.epoch m, SMsg.leader m, SMsg.view m] ++ (c9 [(↑(SMsg.nnews m) : Int)] ++ n9 (SMsg.news m) (SMsg.nnews m))) → true = true]))))) : Option (V × c5 × List Prop)) := by kernel_rfl
theorem aE0 (m : SMsg) (g : Bool) :
 f4 zp (J7 m g) [false, false, false, false, false, true, true] = (some (.tup [.str (ByteArray.mk (Array.mk [])), .int .i64 3], [], [T zp 52 [.agg (SMsg.c m)] [] (.bool g) []] ++ (p5 m g 0 ++ ([decide (SMsg.kind m = (1 : Int)) = false, decide (SMsg.kind m = (2 : Int)) = false, decide (SMsg.kind m = (3 : Int)) = false, decide (SMsg.kind m = (4 : Int)) = false] ++ (p5 m g 5 ++ ([decide ((4194304 : Int) < (↑(List.length (c6 (SMsg.kind m) ++ c9 [SMsg.epoch m] ++ l9 (SMsg.digest m))) : Int)) = true]))))) : Option (V × c5 × List Prop)) := by kernel_rfl
theorem aD_ (m : SMsg) (g : Bool) :
 f4 zp (J7 m g) [false, false, false, false, false, true, false] = (some (.tup [.str (E9 (List.length (c6 (SMsg.kind m) ++ c9 [SMsg.epoch m] ++ l9 (SMsg.digest m))) fun k => bl (c6 (SMsg.kind m) ++ c9 [SMsg.epoch m] ++ l9 (SMsg.digest m)) (0 + k)), .int .i64 0], [], [T zp 52 [.agg (SMsg.c m)] [] (.bool g) []] ++ (p5 m g 0 ++ ([decide (SMsg.kind m = (1 : Int)) = false, decide (SMsg.kind m = (2 : Int)) = false, decide (SMsg.kind m = (3 : Int)) = false, decide (SMsg.kind m = (4 : Int)) = false] ++ (p5 m g 5 ++ ([decide ((4194304 : Int) < (↑(List.length (c6 (SMsg.kind m) ++ c9 [SMsg.epoch m] ++ l9 (SMsg.digest m))) : Int)) = false, ∀ (k : Nat), k < List.length (c6 (SMsg.kind m) ++ c9 [SMsg.epoch m] ++ l9 (SMsg.digest m)) → true = true, (0 : Nat) + List.length (c6 (SMsg.kind m) ++ c9 [SMsg.epoch m] ++ l9 (SMsg.digest m)) ≤ List.length (c6 (SMsg.kind m) ++ c9 [SMsg.epoch m] ++ l9 (SMsg.digest m)), ∀ (k : Nat), k < List.length (c6 (SMsg.kind m) ++ c9 [SMsg.epoch m] ++ l9 (SMsg.digest m)) → true = true]))))) : Option (V × c5 × List Prop)) := by kernel_rfl
theorem az7 (m : SMsg) (g : Bool) :
 f4 zp (J7 m g) [false, false, false, false, false, false, true, true] = (some (.tup [.str (ByteArray.mk (Array.mk [])), .int .i64 3], [], [T zp 52 [.agg (SMsg.c m)] [] (.bool g) []] ++ (p5 m g 0 ++ ([decide (SMsg.kind m = (1 : Int)) = false, decide (SMsg.kind m = (2 : Int)) = false, decide (SMsg.kind m = (3 : Int)) = false, decide (SMsg.kind m = (4 : Int)) = false, decide (SMsg.kind m = (5 : Int)) = false] ++ (p5 m g 6 ++ ([decide ((4194304 : Int) < (↑(List.length (c6 (SMsg.kind m) ++ c9 [SMsg.epoch m, SMsg.slot m])) : Int)) = true]))))) : Option (V × c5 × List Prop)) := by kernel_rfl
theorem az6 (m : SMsg) (g : Bool) :
 f4 zp (J7 m g) [false, false, false, false, false, false, true, false] = (some (.tup [.str (E9 (List.length (c6 (SMsg.kind m) ++ c9 [SMsg.epoch m, SMsg.slot m])) fun k => bl (c6 (SMsg.kind m) ++ c9 [SMsg.epoch m, SMsg.slot m]) (0 + k)), .int .i64 0], [], [T zp 52 [.agg (SMsg.c m)] [] (.bool g) []] ++ (p5 m g 0 ++ ([decide (SMsg.kind m = (1 : Int)) = false, decide (SMsg.kind m = (2 : Int)) = false, decide (SMsg.kind m = (3 : Int)) = false, decide (SMsg.kind m = (4 : Int)) = false, decide (SMsg.kind m = (5 : Int)) = false] ++ (p5 m g 6 ++ ([decide ((4194304 : Int) < (↑(List.length (c6 (SMsg.kind m) ++ c9 [SMsg.epoch m, SMsg.slot m])) : Int)) = false, ∀ (k : Nat), k < List.length (c6 (SMsg.kind m) ++ c9 [SMsg.epoch m, SMsg.slot m]) → true = true, (0 : Nat) + List.length (c6 (SMsg.kind m) ++ c9 [SMsg.epoch m, SMsg.slot m]) ≤ List.length (c6 (SMsg.kind m) ++ c9 [SMsg.epoch m, SMsg.slot m]), ∀ (k : Nat), k < List.length (c6 (SMsg.kind m) ++ c9 [SMsg.epoch m, SMsg.slot m]) → true = true]))))) : Option (V × c5 × List Prop)) := by kernel_rfl
theorem au6 (m : SMsg) (g : Bool) :
 f4 zp (J7 m g) [false, false, false, false, false, false, false, true, true] = (some (.tup [.str (ByteArray.mk (Array.mk [])), .int .i64 3], [], [T zp 52 [.agg (SMsg.c m)] [] (.bool g) []] ++ (p5 m g 0 ++ ([decide (SMsg.kind m = (1 : Int)) = false, decide (SMsg.kind m = (2 : Int)) = false, decide (SMsg.kind m = (3 : Int)) = false, decide (SMsg.kind m = (4 : Int)) = false, decide (SMsg.kind m = (5 : Int)) = false, decide (SMsg.kind m = (6 : Int)) = false] ++ (p5 m g 7 ++ ([decide ((4194304 : Int) < (↑(List.length (c6 (SMsg.kind m) ++ j6 (SMsg.batch m) ++ u9 (SMsg.cert m))) : Int)) = true]))))) : Option (V × c5 × List Prop)) := by kernel_rfl
theorem au5 (m : SMsg) (g : Bool) :
 f4 zp (J7 m g) [false, false, false, false, false, false, false, true, false] = (some (.tup [.str (E9 (List.length (c6 (SMsg.kind m) ++ j6 (SMsg.batch m) ++ u9 (SMsg.cert m))) fun k => bl (c6 (SMsg.kind m) ++ j6 (SMsg.batch m) ++ u9 (SMsg.cert m)) (0 + k)), .int .i64 0], [], [T zp 52 [.agg (SMsg.c m)] [] (.bool g) []] ++ (p5 m g 0 ++ ([decide (SMsg.kind m = (1 : Int)) = false, decide (SMsg.kind m = (2 : Int)) = false, decide (SMsg.kind m = (3 : Int)) = false, decide (SMsg.kind m = (4 : Int)) = false, decide (SMsg.kind m = (5 : Int)) = false, decide (SMsg.kind m = (6 : Int)) = false] ++ (p5 m g 7 ++ ([decide ((4194304 : Int) < (↑(List.length (c6 (SMsg.kind m) ++ j6 (SMsg.batch m) ++ u9 (SMsg.cert m))) : Int)) = false, ∀ (k : Nat), k < List.length (c6 (SMsg.kind m) ++ j6 (SMsg.batch m) ++ u9 (SMsg.cert m)) → true = true, (0 : Nat) + List.length (c6 (SMsg.kind m) ++ j6 (SMsg.batch m) ++ u9 (SMsg.cert m)) ≤ List.length (c6 (SMsg.kind m) ++ j6 (SMsg.batch m) ++ u9 (SMsg.cert m)), ∀ (k : Nat), k < List.length (c6 (SMsg.kind m) ++ j6 (SMsg.batch m) ++ u9 (SMsg.cert m)) → true = true]))))) : Option (V × c5 × List Prop)) := by kernel_rfl
theorem as8 (m : SMsg) (g : Bool) :
 f4 zp (J7 m g) [false, false, false, false, false, false, false, false, true, true] = (some (.tup [.str (ByteArray.mk (Array.mk [])), .int .i64 3], [], [T zp 52 [.agg (SMsg.c m)] [] (.bool g) []] ++ (p5 m g 0 ++ ([decide (SMsg.kind m = (1 : Int)) = false, decide (SMsg.kind m = (2 : Int)) = false, decide (SMsg.kind m = (3 : Int)) = false, decide (SMsg.kind m = (4 : Int)) = false, decide (SMsg.kind m = (5 : Int)) = false, decide (SMsg.kind m = (6 : Int)) = false] ++ (p5 m g 8 ++ ([decide ((4194304 : Int) < (↑(List.length (c6 (SMsg.kind m) ++ j3 (SMsg.state m) ++ (c9 [(↑(SMsg.n m) : Int)] ++ l8 (SMsg.sig m) (SMsg.n m)))) : Int)) = true]))))) : Option (V × c5 × List Prop)) := by kernel_rfl
theorem as7 (m : SMsg) (g : Bool) :
 f4 zp (J7 m g) [false, false, false, false, false, false, false, false, true, false] = (some (.tup [.str (E9 (List.length (c6 (SMsg.kind m) ++ j3 (SMsg.state m) ++ (c9 [(↑(SMsg.n m) : Int)] ++ l8 (SMsg.sig m) (SMsg.n m)))) fun k => bl (c6 (SMsg.kind m) ++ j3 (SMsg.state m) ++ (c9 [(↑(SMsg.n m) : Int)] ++ l8 (SMsg.sig m) (SMsg.n m))) (0 + k)), .int .i64 0], [], [T zp 52 [.agg (SMsg.c m)] [] (.bool g) []] ++ (p5 m g 0 ++ ([decide (SMsg.kind m = (1 : Int)) = false, decide (SMsg.kind m = (2 : Int)) = false, decide (SMsg.kind m = (3 : Int)) = false, decide (SMsg.kind m = (4 : Int)) = false, decide (SMsg.kind m = (5 : Int)) = false, decide (SMsg.kind m = (6 : Int)) = false] ++ (p5 m g 8 ++ ([decide ((4194304 : Int) < (↑(List.length (c6 (SMsg.kind m) ++ j3 (SMsg.state m) ++ (c9 [(↑(SMsg.n m) : Int)] ++ l8 (SMsg.sig m) (SMsg.n m)))) : Int)) = false, ∀ (k : Nat), k < List.length (c6 (SMsg.kind m) ++ j3 (SMsg.state m) ++ (c9 [(↑(SMsg.n m) : Int)] ++ l8 (SMsg.sig m) (SMsg.n m))) → true = true, (0 : Nat) + List.length (c6 (SMsg.kind m) ++ j3 (SMsg.state m) ++ (c9 [(↑(SMsg.n m) : Int)] ++ l8 (SMsg.sig m) (SMsg.n m))) ≤ List.length (c6 (SMsg.kind m) ++ j3 (SMsg.state m) ++ (c9 [(↑(SMsg.n m) : Int)] ++ l8 (SMsg.sig m) (SMsg.n m))), ∀ (k : Nat), k < List.length (c6 (SMsg.kind m) ++ j3 (SMsg.state m) ++ (c9 [(↑(SMsg.n m) : Int)] ++ l8 (SMsg.sig m) (SMsg.n m))) → true = true]))))) : Option (V × c5 × List Prop)) := by kernel_rfl
theorem I3 (l : List UInt8) : E9 l.length (fun k => bl l (0 + k)) = baL l := by
 unfold E9 baL
 congr 2
 apply List.ext_getElem?
 intro i
 rcases Nat.lt_or_ge i l.length with h | h
 ·simp [h, bl, r5, List.getD_eq_getElem?_getD]
 ·rw [List.getElem?_eq_none (by simpa using h), List.getElem?_eq_none h]
theorem be6 {a b : Int} (ha : p9 a) (hb : p9 b) : (c9 [a, b]).length ≤ 18 := by
 have h1 := m9 ha
 have h2 := m9 hb
 simp only [c9, List.length_append, List.length_nil]; omega
theorem aB9 {a b c : Int} (ha : p9 a) (hb : p9 b) (hc : p9 c) : (c9 [a, b, c]).length ≤ 27 := by
 have h1 := m9 ha
 have h2 := m9 hb
 have h3 := m9 hc
 simp only [c9, List.length_append, List.length_nil]; omega
structure EncOk (m : SMsg) : Prop where
 kind : 1 ≤ m.kind ∧ m.kind ≤ 8
 epoch : p9 m.epoch
 leader : p9 m.leader
 view : p9 m.view
 slot : p9 m.slot
 cepoch : p9 m.cepoch
 cleader : p9 m.cleader
 cview : p9 m.cview
 batch : BatchOk m.batch
 vote : m.kind = 2 → VoteOk m.vote
 nheld : m.nheld ≤ 100
 held : ∀ k, k < m.nheld → HeldOk (m.held k)
 nnews : m.nnews ≤ 1000
 news : ∀ k, k < m.nnews → EnvOk (m.news k)
 digest : SegOk 32 m.digest
 cert : m.kind = 7 → CertOk m.cert
 state : m.state.size ≤ 10000000
 n : m.n ≤ 1000
 sig : ∀ k, k < m.n → SignOk (m.sig k)
def F2 (m : SMsg) (g : Bool) : V := if g = true then (if 4194304 < (p7 m).length then .tup [.str (ByteArray.mk (Array.mk [])), .int .i64 3] else .tup [.str (baL (p7 m)), .int .i64 0]) else .tup [.str (ByteArray.mk (Array.mk [])), .int .i64 130]
theorem cb4 {m : SMsg} (hg : T Tryz.prog 52 [.agg m.c] [] (.bool true) []) (h : EncOk m) (hk : m.kind = 1) : T Tryz.prog 19 [.agg m.c] [] (F2 m true) [] := by
 have e : p7 m = c6 m.kind ++ c9 [m.epoch, m.slot] ++ j6 m.batch := by simp [p7, u3, hk]
 have h0 : p9 m.kind := by rw [hk]; exact ⟨by decide, by decide⟩
 have h9 := m9 h0
 have hs := h.state
 have hl0 := be6 h.epoch h.slot
 by_cases hl : 4194304 < (p7 m).length
 ·refine T.val (f5 (bb0 m true) Tryz.func19 ?_) (by simp [F2, hl])
  rw [e] at hl
  simp only [All, f3, p5]
  and_intros
  all_goals first | exact hg | exact K7 h0 (by decide) | exact aL6 (by first | omega | (simp only [List.length_append]; omega)) h.epoch h.slot (by decide) | exact aN7 (by first | omega | (simp only [List.length_append]; omega)) h.batch (by decide) | (rw [decide_eq_true_eq]; omega) | (simp [hk]; done)
 ·refine T.val (f5 (ba_ m true) Tryz.func19 ?_) (by rw [I3, ← e]; simp [F2, hl])
  rw [e] at hl
  simp only [All, f3, p5]
  and_intros
  all_goals first | exact hg | exact K7 h0 (by decide) | exact aL6 (by first | omega | (simp only [List.length_append]; omega)) h.epoch h.slot (by decide) | exact aN7 (by first | omega | (simp only [List.length_append]; omega)) h.batch (by decide) | (rw [decide_eq_false_iff_not]; omega) | (simp [hk]; done)
theorem cb5 {m : SMsg} (hg : T Tryz.prog 52 [.agg m.c] [] (.bool true) []) (h : EncOk m) (hk : m.kind = 2) : T Tryz.prog 19 [.agg m.c] [] (F2 m true) [] := by
 have e : p7 m = c6 m.kind ++ r7 m.vote := by simp [p7, u3, hk]
 have h0 : p9 m.kind := by rw [hk]; exact ⟨by decide, by decide⟩
 have h9 := m9 h0
 have hs := h.state
 by_cases hl : 4194304 < (p7 m).length
 ·refine T.val (f5 (aW0 m true) Tryz.func19 ?_) (by simp [F2, hl])
  rw [e] at hl
  simp only [All, f3, p5]
  and_intros
  all_goals first | exact hg | exact K7 h0 (by decide) | exact a_9 (by first | omega | (simp only [List.length_append]; omega)) (h.vote hk) (by decide) | (rw [decide_eq_true_eq]; omega) | (simp [hk]; done)
 ·refine T.val (f5 (aV_ m true) Tryz.func19 ?_) (by rw [I3, ← e]; simp [F2, hl])
  rw [e] at hl
  simp only [All, f3, p5]
  and_intros
  all_goals first | exact hg | exact K7 h0 (by decide) | exact a_9 (by first | omega | (simp only [List.length_append]; omega)) (h.vote hk) (by decide) | (rw [decide_eq_false_iff_not]; omega) | (simp [hk]; done)
theorem cb6 {m : SMsg} (hg : T Tryz.prog 52 [.agg m.c] [] (.bool true) []) (h : EncOk m) (hk : m.kind = 3) : T Tryz.prog 19 [.agg m.c] [] (F2 m true) [] := by
 have e : p7 m = c6 m.kind ++ c9 [m.cepoch, m.cleader, m.cview] ++ (c9 [(m.nheld : Int)] ++ m6 m.held m.nheld) := by simp [p7, u3, hk]
 have h0 : p9 m.kind := by rw [hk]; exact ⟨by decide, by decide⟩
 have h9 := m9 h0
 have hs := h.state
 have hl0 := aB9 h.cepoch h.cleader h.cview
 by_cases hl : 4194304 < (p7 m).length
 ·refine T.val (f5 (aO8 m true) Tryz.func19 ?_) (by simp [F2, hl])
  rw [e] at hl
  simp only [All, f3, p5]
  and_intros
  all_goals first | exact hg | exact K7 h0 (by decide) | exact aL7 (by first | omega | (simp only [List.length_append]; omega)) h.cepoch h.cleader h.cview (by decide) | exact bK2 (by first | omega | (simp only [List.length_append]; omega)) h.nheld h.held (by decide) | (rw [decide_eq_true_eq]; omega) | (simp [hk]; done)
 ·refine T.val (f5 (aO7 m true) Tryz.func19 ?_) (by rw [I3, ← e]; simp [F2, hl])
  rw [e] at hl
  simp only [All, f3, p5]
  and_intros
  all_goals first | exact hg | exact K7 h0 (by decide) | exact aL7 (by first | omega | (simp only [List.length_append]; omega)) h.cepoch h.cleader h.cview (by decide) | exact bK2 (by first | omega | (simp only [List.length_append]; omega)) h.nheld h.held (by decide) | (rw [decide_eq_false_iff_not]; omega) | (simp [hk]; done)
theorem cb7 {m : SMsg} (hg : T Tryz.prog 52 [.agg m.c] [] (.bool true) []) (h : EncOk m) (hk : m.kind = 4) : T Tryz.prog 19 [.agg m.c] [] (F2 m true) [] := by
 have e : p7 m = c6 m.kind ++ c9 [m.epoch, m.leader, m.view] ++ (c9 [(m.nnews : Int)] ++ n9 m.news m.nnews) := by simp [p7, u3, hk]
 have h0 : p9 m.kind := by rw [hk]; exact ⟨by decide, by decide⟩
 have h9 := m9 h0
 have hs := h.state
 have hl0 := aB9 h.epoch h.leader h.view
 by_cases hl : 4194304 < (p7 m).length
 ·refine T.val (f5 (aK4 m true) Tryz.func19 ?_) (by simp [F2, hl])
  rw [e] at hl
  simp only [All, f3, p5]
  and_intros
  all_goals first | exact hg | exact K7 h0 (by decide) | exact aL7 (by first | omega | (simp only [List.length_append]; omega)) h.epoch h.leader h.view (by decide) | exact bK3 (by first | omega | (simp only [List.length_append]; omega)) h.nnews h.news (by decide) | (rw [decide_eq_true_eq]; omega) | (simp [hk]; done)
 ·refine T.val (f5 (aK3 m true) Tryz.func19 ?_) (by rw [I3, ← e]; simp [F2, hl])
  rw [e] at hl
  simp only [All, f3, p5]
  and_intros
  all_goals first | exact hg | exact K7 h0 (by decide) | exact aL7 (by first | omega | (simp only [List.length_append]; omega)) h.epoch h.leader h.view (by decide) | exact bK3 (by first | omega | (simp only [List.length_append]; omega)) h.nnews h.news (by decide) | (rw [decide_eq_false_iff_not]; omega) | (simp [hk]; done)
theorem cb8 {m : SMsg} (hg : T Tryz.prog 52 [.agg m.c] [] (.bool true) []) (h : EncOk m) (hk : m.kind = 5) : T Tryz.prog 19 [.agg m.c] [] (F2 m true) [] := by
 have e : p7 m = c6 m.kind ++ c9 [m.epoch] ++ l9 m.digest := by simp [p7, u3, hk]
 have h0 : p9 m.kind := by rw [hk]; exact ⟨by decide, by decide⟩
 have h9 := m9 h0
 have hs := h.state
 have hl0 := I0 h.epoch
 by_cases hl : 4194304 < (p7 m).length
 ·refine T.val (f5 (aE0 m true) Tryz.func19 ?_) (by simp [F2, hl])
  rw [e] at hl
  simp only [All, f3, p5]
  and_intros
  all_goals first | exact hg | exact K7 h0 (by decide) | exact aj4 (by first | omega | (simp only [List.length_append]; omega)) h.epoch (by decide) | exact a_5 (by first | omega | (simp only [List.length_append]; omega)) h.digest (by decide) | (rw [decide_eq_true_eq]; omega) | (simp [hk]; done)
 ·refine T.val (f5 (aD_ m true) Tryz.func19 ?_) (by rw [I3, ← e]; simp [F2, hl])
  rw [e] at hl
  simp only [All, f3, p5]
  and_intros
  all_goals first | exact hg | exact K7 h0 (by decide) | exact aj4 (by first | omega | (simp only [List.length_append]; omega)) h.epoch (by decide) | exact a_5 (by first | omega | (simp only [List.length_append]; omega)) h.digest (by decide) | (rw [decide_eq_false_iff_not]; omega) | (simp [hk]; done)
theorem cb9 {m : SMsg} (hg : T Tryz.prog 52 [.agg m.c] [] (.bool true) []) (h : EncOk m) (hk : m.kind = 6) : T Tryz.prog 19 [.agg m.c] [] (F2 m true) [] := by
 have e : p7 m = c6 m.kind ++ c9 [m.epoch, m.slot] := by simp [p7, u3, hk]
 have h0 : p9 m.kind := by rw [hk]; exact ⟨by decide, by decide⟩
 have h9 := m9 h0
 have hs := h.state
 by_cases hl : 4194304 < (p7 m).length
 ·refine T.val (f5 (az7 m true) Tryz.func19 ?_) (by simp [F2, hl])
  rw [e] at hl
  simp only [All, f3, p5]
  and_intros
  all_goals first | exact hg | exact K7 h0 (by decide) | exact aL6 (by first | omega | (simp only [List.length_append]; omega)) h.epoch h.slot (by decide) | (rw [decide_eq_true_eq]; omega) | (simp [hk]; done)
 ·refine T.val (f5 (az6 m true) Tryz.func19 ?_) (by rw [I3, ← e]; simp [F2, hl])
  rw [e] at hl
  simp only [All, f3, p5]
  and_intros
  all_goals first | exact hg | exact K7 h0 (by decide) | exact aL6 (by first | omega | (simp only [List.length_append]; omega)) h.epoch h.slot (by decide) | (rw [decide_eq_false_iff_not]; omega) | (simp [hk]; done)
theorem cb_ {m : SMsg} (hg : T Tryz.prog 52 [.agg m.c] [] (.bool true) []) (h : EncOk m) (hk : m.kind = 7) : T Tryz.prog 19 [.agg m.c] [] (F2 m true) [] := by
 have e : p7 m = c6 m.kind ++ j6 m.batch ++ u9 m.cert := by simp [p7, u3, hk]
 have h0 : p9 m.kind := by rw [hk]; exact ⟨by decide, by decide⟩
 have h9 := m9 h0
 have hs := h.state
 have hl0 := aj6 h.batch
 by_cases hl : 4194304 < (p7 m).length
 ·refine T.val (f5 (au6 m true) Tryz.func19 ?_) (by simp [F2, hl])
  rw [e] at hl
  simp only [All, f3, p5]
  and_intros
  all_goals first | exact hg | exact K7 h0 (by decide) | exact aN7 (by first | omega | (simp only [List.length_append]; omega)) h.batch (by decide) | exact a_4 (by first | omega | (simp only [List.length_append]; omega)) (h.cert hk) (by decide) | (rw [decide_eq_true_eq]; omega) | (simp [hk]; done)
 ·refine T.val (f5 (au5 m true) Tryz.func19 ?_) (by rw [I3, ← e]; simp [F2, hl])
  rw [e] at hl
  simp only [All, f3, p5]
  and_intros
  all_goals first | exact hg | exact K7 h0 (by decide) | exact aN7 (by first | omega | (simp only [List.length_append]; omega)) h.batch (by decide) | exact a_4 (by first | omega | (simp only [List.length_append]; omega)) (h.cert hk) (by decide) | (rw [decide_eq_false_iff_not]; omega) | (simp [hk]; done)
theorem cc0 {m : SMsg} (hg : T Tryz.prog 52 [.agg m.c] [] (.bool true) []) (h : EncOk m) (hk : m.kind = 8) : T Tryz.prog 19 [.agg m.c] [] (F2 m true) [] := by
 have e : p7 m = c6 m.kind ++ j3 m.state ++ (c9 [(m.n : Int)] ++ l8 m.sig m.n) := by simp [p7, u3, hk]
 have h0 : p9 m.kind := by rw [hk]; exact ⟨by decide, by decide⟩
 have h9 := m9 h0
 have hs := h.state
 have hl0 := Q2 (s := m.state) (by have := h.state; omega)
 by_cases hl : 4194304 < (p7 m).length
 ·refine T.val (f5 (as8 m true) Tryz.func19 ?_) (by simp [F2, hl])
  rw [e] at hl
  simp only [All, f3, p5]
  and_intros
  all_goals first | exact hg | exact K7 h0 (by decide) | exact bw3 (by first | omega | (simp only [List.length_append]; omega)) (by have := h.state; omega) (by decide) | exact a_8 (by first | omega | (simp only [List.length_append]; omega)) h.n h.sig (by decide) | (rw [decide_eq_true_eq]; omega) | (simp [hk]; done)
 ·refine T.val (f5 (as7 m true) Tryz.func19 ?_) (by rw [I3, ← e]; simp [F2, hl])
  rw [e] at hl
  simp only [All, f3, p5]
  and_intros
  all_goals first | exact hg | exact K7 h0 (by decide) | exact bw3 (by first | omega | (simp only [List.length_append]; omega)) (by have := h.state; omega) (by decide) | exact a_8 (by first | omega | (simp only [List.length_append]; omega)) h.n h.sig (by decide) | (rw [decide_eq_false_iff_not]; omega) | (simp [hk]; done)
theorem cr1 {m : SMsg} {g : Bool} (hg : T Tryz.prog 52 [.agg m.c] [] (.bool g) []) (h : g = true → EncOk m) : T Tryz.prog 19 [.agg m.c] [] (F2 m g) [] := by
 cases g with
 | false => exact f5 (bx6 m false) Tryz.func19 ⟨hg, rfl, trivial⟩
 | true =>
  have h := h rfl
  have hk := h.kind
  have : m.kind = 1 ∨ m.kind = 2 ∨ m.kind = 3 ∨ m.kind = 4 ∨ m.kind = 5 ∨ m.kind = 6 ∨ m.kind = 7 ∨ m.kind = 8 := by omega
  rcases this with h1 | h1 | h1 | h1 | h1 | h1 | h1 | h1
  ·exact cb4 hg h h1
  ·exact cb5 hg h h1
  ·exact cb6 hg h h1
  ·exact cb7 hg h h1
  ·exact cb8 hg h h1
  ·exact cb9 hg h h1
  ·exact cb_ hg h h1
  ·exact cc0 hg h h1
structure RS where
 l : List UInt8 := []
 e : Int := 0
 bad : Bool := false
def rdB (s : RS) : B := .flat [.ros 1 s.l.length (bl s.l) false, .int .i64 s.e, .bool true]
def beN (xs : List UInt8) : Nat := xs.foldl (fun a x => a * 256 + x.toNat) 0
def kOf (l : List UInt8) : Nat := (l.getD 0 0).toNat
def nE (l : List UInt8) : Int := if l.length = 0 then 10 else if 8 < kOf l then 11 else if l.length ≤ kOf l then 10 else if 0 < kOf l ∧ (l.getD 1 0).toNat = 0 then 11 else if kOf l = 8 ∧ 127 < (l.getD 1 0).toNat then 11 else 0
def nV (l : List UInt8) : Int := if nE l = 0 then (beN ((l.drop 1).take (kOf l)) : Nat) else 0
def nS (l : List UInt8) : Int := if nE l = 0 then (kOf l + 1 : Nat) else 0
def RS.fail (s : RS) (e : Int) : RS := { l := [], e := e, bad := s.bad }
def RS.drop (s : RS) (n : Nat) : RS := { l := s.l.drop n, e := s.e, bad := s.bad }
def nE1 (most : Int) (l : List UInt8) : Int := if nE l = 0 ∧ most < nV l then 3 else nE l
def f1 (most : Int) (s : RS) : Int × RS := if s.e ≠ 0 then (0, s) else if nE1 most s.l ≠ 0 then (0, s.fail (nE1 most s.l)) else (nV s.l, s.drop (nS s.l).toNat)
def tE (most : Int) (l : List UInt8) : Int := if nE l ≠ 0 then nE l else if most < nV l then 3 else if (l.length : Int) - nS l < nV l then 10 else 0
def v6 (most : Int) (s : RS) : ByteArray × RS := if s.e ≠ 0 then (baL [], s) else if tE most s.l ≠ 0 then (baL [], s.fail (tE most s.l)) else (baL ((s.l.drop (nS s.l).toNat).take (nV s.l).toNat), (s.drop (nS s.l).toNat).drop (nV s.l).toNat)
def l6 (n : Int) (s : RS) : List UInt8 × RS := if s.e ≠ 0 then ([], s) else if n < 0 then ([], s.fail 2) else if (s.l.length : Int) < n then ([], s.fail 10) else (s.l.take n.toNat, s.drop n.toNat)
def D6 (s : RS) : Int := if s.e ≠ 0 then s.e else if 0 < s.l.length then 12 else 0
def roB (l : List UInt8) : V := .ros 1 l.length (bl l) false
def p0 : V := .ptr (.o 0) 0 0 0 0
def kRd (s : RS) (l : List (Nat × V)) : Exit → St → Option W := fun _ st => some ⟨[], aC7 l, [(.o 0, .set (rdB s))], none, st.next⟩
def n0 : St → List Nm := fun _ => [.o 0]
def dbF (l : List (Nat × (List V → c5 → Nat → List Cl))) : Nat → List V → c5 → Nat → List Cl := fun k args h lo => match ak8 l k with
 | some f => f args h lo
 | none => []
def cRd (v : V) (s : RS) : List V → c5 → Nat → List Cl := fun args _ _ => match args with
 | .ptr a _ _ _ _ :: _ => [{ pre := [a], val := v, post := [(a, rdB s)] }]
 | _ => []
def cw8 (l : List UInt8) : Exit → St → Option W := fun _ st => match r9 st.tmps 2 with
 | .ptr a _ _ _ _ => some ⟨[(.o 63, a)], [(2, .set (.ptr (.o 63) 0 0 0 0))], [(.o 63, .set (rdB { l := l }))], none, st.next⟩
 | _ => none
noncomputable def cj0 (l : List UInt8) : Bd := { f := Tryz.f24, args := [roB l], kb := kb0, k := cw8 l, names := fun _ => [.o 63] }
noncomputable def cj9 (s : RS) : Bd := { f := Tryz.f73, args := [p0], pre := [(.o 0, rdB s)], base := 1, kb := kb0, names := n0 }
noncomputable def cu9 (s : RS) : Bd := { f := Tryz.f78, args := [p0], pre := [(.o 0, rdB s)], base := 1, kb := kb0, names := n0 }
noncomputable def ch6 (s : RS) : Bd := { f := Tryz.f77, args := [p0], pre := [(.o 0, rdB s)], base := 1, kb := kb0, names := n0 }
noncomputable def aO6 (s : RS) : Bd := { f := Tryz.f28, args := [p0], pre := [(.o 0, rdB s)], base := 1, kb := { db := dbF [(78, cRd (.int .i64 s.e) s), (77, cRd (.int .i64 (s.l.length : Nat)) s)] }, names := n0 }
noncomputable def ch0 (s : RS) (e : Int) : Bd := { f := Tryz.f75, args := [p0, .int .i64 e], pre := [(.o 0, rdB s)], base := 1, kb := kb0, names := n0, k := kRd (s.fail e) [] }
noncomputable def cj_ (s : RS) (n : Nat) : Bd := { f := Tryz.f76, args := [p0, .int .i64 n], pre := [(.o 0, rdB s)], base := 1, kb := kb0, names := n0, k := kRd (s.drop n) [(4, .ros 1 n (bl (s.l.take n)) false)] }
def nbI (l : List UInt8) (s : RS) (k : Nat) : St := ⟨mkT 76 [(2, .int .i64 (beN ((l.drop 1).take k) : Nat)), (3, .int .i64 0), (4, .int .i64 0), (5, .int .i64 (kOf l : Nat)), (61, .ros 1 (kOf l) (bl (l.drop 1)) false), (62, .int .i64 (kOf l : Nat)), (63, .int .i64 k)], [(.o 0, rdB s)], 1, []⟩
noncomputable def I5 (s : RS) : Bd := { f := Tryz.f74, args := [p0], pre := [(.o 0, rdB s)], base := 1, kb := { db := fun _ _ _ _ => [], lp := fun _ _ => [(True, .loop (kOf s.l + 1) (wTo (nbI s.l s 0)) (.exit 1) (nbI s.l s (kOf s.l)))] }, names := n0 }
noncomputable def al3 (s : RS) (k : Nat) : Pc := { c := cB (cB (cR (cL (cR (cR (cR (cR (f8 Tryz.f74)))))))), st := nbI s.l s k, p := 1, kb := kb0, k := fun e _ => match e with
 | .normal => some (wTo (nbI s.l s (k + 1)))
 | _ => some (wTo (nbI s.l s (kOf s.l))) }
def O0 (l : List UInt8) : V := .tup [.int .i64 (nV l), .int .i64 (nS l), .int .i64 (nE l)]
def aM6 (s : RS) : V := .bool (!decide (s.e = 0))
noncomputable def aM0 (most : Int) (s : RS) : Bd := { f := Tryz.f25, args := [p0, .int .i64 most], pre := [(.o 0, rdB s)], base := 1, kb := { db := dbF [(73, cRd (aM6 s) s), (74, cRd (O0 s.l) s), (75, cRd (.tup []) (s.fail (nE1 most s.l))), (76, cRd (.ros 1 (nS s.l).toNat (bl (s.l.take (nS s.l).toNat)) false) (s.drop (nS s.l).toNat))] }, names := n0 }
def dbG (l : List (Nat × (List V → c5 → Nat → List Cl))) (g : List (Nat × (List V → c5 → Nat → List Cl))) : Nat → List V → c5 → Nat → List Cl := fun k args h lo => match ak8 l k with
 | some f => f args h lo
 | none => match ak8 g (lo / 64) with
  | some f => f args h lo
  | none => []
noncomputable def ai3 (most : Int) (s : RS) : Bd := { f := Tryz.f26, args := [p0, .int .i64 most], pre := [(.o 0, rdB s)], base := 1, kb := { db := dbG [(73, cRd (aM6 s) s), (74, cRd (O0 s.l) s), (77, cRd (.int .i64 (s.l.length : Nat)) s), (75, cRd (.tup []) (s.fail (tE most s.l)))] [(36, cRd (.ros 1 (nS s.l).toNat (bl (s.l.take (nS s.l).toNat)) false) (s.drop (nS s.l).toNat)), (41, cRd (.ros 1 (nV s.l).toNat (bl ((s.l.drop (nS s.l).toNat).take (nV s.l).toNat)) false) ((s.drop (nS s.l).toNat).drop (nV s.l).toNat))] }, names := n0 }
noncomputable def az9 (n : Int) (s : RS) : Bd := { f := Tryz.f27, args := [p0, .int .i64 n], pre := [(.o 0, rdB s)], base := 1, kb := { db := dbF [(73, cRd (aM6 s) s), (77, cRd (.int .i64 (s.l.length : Nat)) s), (75, cRd (.tup []) (l6 n s).2), (76, cRd (.ros 1 n.toNat (bl (s.l.take n.toNat)) false) (s.drop n.toNat))] }, names := n0, k := kRd (l6 n s).2 [(4, roB (l6 n s).1)] }
theorem bz7 (l : List UInt8) :
  f4 zp (cj0 l) [] = some (V.ptr (Nm.o (63 : Nat)) (0 : Nat) (0 : Nat) (0 : Nat) (0 : Nat), [(Nm.o (63 : Nat), B.flat [V.ros (1 : Nat) (List.length l) (bl l) false, V.int .i64 (0 : Int), V.bool true])], [(0 : Nat) = (0 : Nat), ∀ (k : Nat), k < List.length l → true = true, ((0 : Nat) + List.length l) * (1 : Nat) ≤ (140737488355328 : Nat), (0 : Nat) + List.length l = List.length l, (0 : Nat) + ((0 : Nat) + List.length l) ≤ (0 : Nat) + List.length l, ∀ (k : Nat), k < (0 : Nat) + List.length l → [V.int .u8 (↑(UInt8.toNat (List.getD l ((0 : Nat) + k - (0 : Nat)) (0 : UInt8))) : Int)] = bl l k, false = true → none = some ((0 : Nat) + List.length l), (0 : Int) = (0 : Int), true = true, (0 : Nat) = (0 : Nat), (0 : Nat) = (0 : Nat), (0 : Nat) = (0 : Nat)]) := by kernel_rfl
theorem bd0 (s : RS) :
  f4 zp (cj9 s) [false, false] = (some (.bool !decide (RS.e s = (0 : Int)), [(.o 0, rdB s)], [q false, q false]) : Option (V × c5 × List Prop)) := by kernel_rfl
theorem bj6 (s : RS) :
  f4 zp (cu9 s) [false, false] = (some (.int .i64 (RS.e s), [(.o 0, rdB s)], [q false, q false]) : Option (V × c5 × List Prop)) := by kernel_rfl
theorem by1 (s : RS) :
  f4 zp (ch6 s) [] = (some (.int .i64 (↑(List.length (RS.l s)) : Int), [(.o 0, rdB s)], []) : Option (V × c5 × List Prop)) := by kernel_rfl
noncomputable def P5 (s : RS) : Nat → List Prop
 | 0 => [T zp 78 [.ptr (.o 0) 0 0 0 0] [(.o 0, rdB s)] (.int .i64 (RS.e s)) [(.o 0, rdB s)]]
 | 1 => [(!decide (RS.e s = (0 : Int))) = false, T zp 77 [.ptr (.o 0) 0 0 0 0] [(.o 0, rdB s)] (.int .i64 (↑(List.length (RS.l s)) : Int)) [(.o 0, rdB s)]]
 | _ => []
theorem bj5 (s : RS) :
 f4 zp (aO6 s) [true] = (some (.int .i64 (RS.e s), [(.o 0, rdB s)], P5 s 0 ++ [(!decide (RS.e s = (0 : Int))) = true]) : Option (V × c5 × List Prop)) := by kernel_rfl
theorem ba8 (s : RS) :
 f4 zp (aO6 s) [false, true] = (some (.int .i64 12, [(.o 0, rdB s)], P5 s 0 ++ (P5 s 1 ++ [decide ((0 : Int) < (↑(List.length (RS.l s)) : Int)) = true])) : Option (V × c5 × List Prop)) := by kernel_rfl
theorem ba7 (s : RS) :
 f4 zp (aO6 s) [false, false] = (some (.int .i64 0, [(.o 0, rdB s)], P5 s 0 ++ (P5 s 1 ++ [decide ((0 : Int) < (↑(List.length (RS.l s)) : Int)) = false])) : Option (V × c5 × List Prop)) := by kernel_rfl
theorem bx8 (s : RS) (e : Int) :
  f4 zp (ch0 s e) [] = (some (.tup [], [(.o 0, .flat [.ros 1 0 (bl []) false, .int .i64 e, .bool true])], [0 = (0 : Nat), q e, q2]) : Option (V × c5 × List Prop)) := by kernel_rfl
theorem bB2 (s : RS) (n : Nat) :
  f4 zp (cj_ s n) [] = (some (.ros 1 n (bl (List.take n (RS.l s))) false, [(.o 0, .flat [.ros 1 (List.length (List.drop n (RS.l s))) (bl (List.drop n (RS.l s))) false, .int .i64 (RS.e s), .bool true])], [(0 : Int) ≤ (↑n : Int) ∧ (↑n : Int) ≤ (↑(i3 none (List.length (RS.l s))) : Int), (0 : Int) ≤ (↑n : Int) ∧ (↑n : Int) ≤ (↑(i3 none (List.length (RS.l s))) : Int), i3 none (List.length (RS.l s)) - i3 (some (↑n : Int)) (0 : Nat) = List.length (List.drop n (RS.l s)), ∀ (k : Nat), k < i3 none (List.length (RS.l s)) - i3 (some (↑n : Int)) (0 : Nat) → [V.int .u8 (↑(UInt8.toNat (List.getD (RS.l s) (Int.toNat (↑n : Int) + k) (0 : UInt8))) : Int)] = bl (List.drop n (RS.l s)) k, false = true → false = true, q (RS.e s), q2, i3 (some (↑n : Int)) (List.length (RS.l s)) - 0 = n, ∀ (k : Nat), k < i3 (some (↑n : Int)) (List.length (RS.l s)) - 0 → [V.int .u8 (↑(UInt8.toNat (List.getD (RS.l s) k (0 : UInt8))) : Int)] = bl (List.take n (RS.l s)) k, false = true → false = true]) : Option (V × c5 × List Prop)) := by kernel_rfl
noncomputable def n7 (s : RS) : Nat → List Prop
 | 0 => [decide ((↑(List.length (RS.l s)) : Int) = (0 : Int)) = false, (0 : Int) ≤ (0 : Int) ∧ (0 : Int) < (↑(List.length (RS.l s)) : Int), InR .i64 (↑(UInt8.toNat (List.getD (RS.l s) 0 (0 : UInt8))) : Int)]
 | 1 => [decide ((8 : Int) < (↑(UInt8.toNat (List.getD (RS.l s) 0 (0 : UInt8))) : Int)) = false]
 | 2 => [decide ((↑(List.length (RS.l s)) : Int) ≤ (↑(UInt8.toNat (List.getD (RS.l s) 0 (0 : UInt8))) : Int)) = false]
 | 3 => [decide ((0 : Int) < (↑(UInt8.toNat (List.getD (RS.l s) 0 (0 : UInt8))) : Int)) = true, (0 : Int) ≤ (1 : Int) ∧ (1 : Int) < (↑(List.length (RS.l s)) : Int)]
 | 4 => [decide ((↑(UInt8.toNat (List.getD (RS.l s) 1 (0 : UInt8))) : Int) = (0 : Int)) = false]
 | 5 => [decide ((↑(UInt8.toNat (List.getD (RS.l s) 0 (0 : UInt8))) : Int) = (8 : Int)) = true, (0 : Int) ≤ (1 : Int) ∧ (1 : Int) < (↑(List.length (RS.l s)) : Int)]
 | _ => []
theorem aW_ (s : RS) :
 f4 zp (I5 s) [true] = (some (.tup [.int .i64 0, .int .i64 0, .int .i64 10], [(.o 0, rdB s)], [decide ((↑(List.length (RS.l s)) : Int) = (0 : Int)) = true]) : Option (V × c5 × List Prop)) := by kernel_rfl
theorem aP6 (s : RS) :
 f4 zp (I5 s) [false, true] = (some (.tup [.int .i64 0, .int .i64 0, .int .i64 11], [(.o 0, rdB s)], n7 s 0 ++ [decide ((8 : Int) < (↑(UInt8.toNat (List.getD (RS.l s) 0 (0 : UInt8))) : Int)) = true]) : Option (V × c5 × List Prop)) := by kernel_rfl
theorem aK8 (s : RS) :
 f4 zp (I5 s) [false, false, true] = (some (.tup [.int .i64 0, .int .i64 0, .int .i64 10], [(.o 0, rdB s)], n7 s 0 ++ (n7 s 1 ++ [decide ((↑(List.length (RS.l s)) : Int) ≤ (↑(UInt8.toNat (List.getD (RS.l s) 0 (0 : UInt8))) : Int)) = true])) : Option (V × c5 × List Prop)) := by kernel_rfl
theorem au8 (s : RS) :
 f4 zp (I5 s) [false, false, false, true, true, true] = (some (.tup [.int .i64 0, .int .i64 0, .int .i64 11], [(.o 0, rdB s)], n7 s 0 ++ (n7 s 1 ++ (n7 s 2 ++ (n7 s 3 ++ [decide ((↑(UInt8.toNat (List.getD (RS.l s) 1 (0 : UInt8))) : Int) = (0 : Int)) = true, decide ((↑(UInt8.toNat (List.getD (RS.l s) 1 (0 : UInt8))) : Int) = (0 : Int)) = true])))) : Option (V × c5 × List Prop)) := by kernel_rfl
theorem at2 (s : RS) :
 f4 zp (I5 s) [false, false, false, true, false, true, true] = (some (.tup [.int .i64 0, .int .i64 0, .int .i64 11], [(.o 0, rdB s)], n7 s 0 ++ (n7 s 1 ++ (n7 s 2 ++ (n7 s 3 ++ (n7 s 4 ++ (n7 s 5 ++ [decide ((127 : Int) < (↑(UInt8.toNat (List.getD (RS.l s) 1 (0 : UInt8))) : Int)) = true])))))) : Option (V × c5 × List Prop)) := by kernel_rfl
theorem at0 (s : RS) :
 f4 zp (I5 s) [false, false, false, true, false, true, false] = (some (.tup [.int .i64 (↑(beN (List.take (kOf (RS.l s)) (List.drop 1 (RS.l s)))) : Int), .int .i64 ((1 : Int) + (↑(kOf (RS.l s)) : Int)), .int .i64 0], [(.o 0, rdB s)], n7 s 0 ++ (n7 s 1 ++ (n7 s 2 ++ (n7 s 3 ++ (n7 s 4 ++ (n7 s 5 ++ [decide ((127 : Int) < (↑(UInt8.toNat (List.getD (RS.l s) 1 (0 : UInt8))) : Int)) = false, InR .i64 ((1 : Int) + (↑(UInt8.toNat (List.getD (RS.l s) 0 (0 : UInt8))) : Int)), (0 : Int) ≤ (1 : Int) + (↑(UInt8.toNat (List.getD (RS.l s) 0 (0 : UInt8))) : Int) ∧ (1 : Int) + (↑(UInt8.toNat (List.getD (RS.l s) 0 (0 : UInt8))) : Int) ≤ (↑(i3 none (List.length (RS.l s))) : Int), (0 : Int) ≤ (1 : Int) ∧ (1 : Int) ≤ (↑(i3 (some ((1 : Int) + (↑(UInt8.toNat (List.getD (RS.l s) 0 (0 : UInt8))) : Int))) (List.length (RS.l s))) : Int), i5 zp none 1 (cB (cB (cR (cL (cR (cR (cR (cR (f8 (Bd.f (I5 s))))))))))) (kOf (RS.l s) + 1) (St.mk (mkT 76 [(2, .int .i64 0), (3, .int .i64 0), (4, .int .i64 0), (5, .int .i64 (↑(kOf (RS.l s)) : Int)), (61, .ros 1 (kOf (RS.l s)) (bl (List.drop 1 (RS.l s))) false), (62, .int .i64 (↑(kOf (RS.l s)) : Int)), (63, .int .i64 0)]) [(.o 0, rdB s)] 1 []) (.exit 1) (St.mk (mkT 76 [(2, .int .i64 (↑(beN (List.take (kOf (RS.l s)) (List.drop 1 (RS.l s)))) : Int)), (3, .int .i64 0), (4, .int .i64 0), (5, .int .i64 (↑(kOf (RS.l s)) : Int)), (61, .ros 1 (kOf (RS.l s)) (bl (List.drop 1 (RS.l s))) false), (62, .int .i64 (↑(kOf (RS.l s)) : Int)), (63, .int .i64 (↑(kOf (RS.l s)) : Int))]) [(.o 0, rdB s)] 1 []), q (List.length (RS.l s)), ∀ (k : Nat), k < List.length (RS.l s) → bl (RS.l s) k = bl (RS.l s) k, false = true → false = true, q (RS.e s), q2, q1, q1, q1, (↑(UInt8.toNat (List.getD (RS.l s) 0 (0 : UInt8))) : Int) = (↑(kOf (RS.l s)) : Int), i3 (some ((1 : Int) + (↑(UInt8.toNat (List.getD (RS.l s) 0 (0 : UInt8))) : Int))) (List.length (RS.l s)) - 1 = kOf (RS.l s), ∀ (k : Nat), k < i3 (some ((1 : Int) + (↑(UInt8.toNat (List.getD (RS.l s) 0 (0 : UInt8))) : Int))) (List.length (RS.l s)) - 1 → [V.int .u8 (↑(UInt8.toNat (List.getD (RS.l s) (1 + k) (0 : UInt8))) : Int)] = bl (List.drop (1 : Nat) (RS.l s)) k, false = true → false = true, (↑(i3 (some ((1 : Int) + (↑(UInt8.toNat (List.getD (RS.l s) 0 (0 : UInt8))) : Int))) (List.length (RS.l s)) - 1) : Int) = (↑(kOf (RS.l s)) : Int), q1, InR .i64 ((1 : Int) + (↑(kOf (RS.l s)) : Int))])))))) : Option (V × c5 × List Prop)) := by kernel_rfl
theorem as_ (s : RS) :
 f4 zp (I5 s) [false, false, false, true, false, false, false] = (some (.tup [.int .i64 (↑(beN (List.take (kOf (RS.l s)) (List.drop 1 (RS.l s)))) : Int), .int .i64 ((1 : Int) + (↑(kOf (RS.l s)) : Int)), .int .i64 0], [(.o 0, rdB s)], n7 s 0 ++ (n7 s 1 ++ (n7 s 2 ++ (n7 s 3 ++ (n7 s 4 ++ [decide ((↑(UInt8.toNat (List.getD (RS.l s) 0 (0 : UInt8))) : Int) = (8 : Int)) = false, q false, InR .i64 ((1 : Int) + (↑(UInt8.toNat (List.getD (RS.l s) 0 (0 : UInt8))) : Int)), (0 : Int) ≤ (1 : Int) + (↑(UInt8.toNat (List.getD (RS.l s) 0 (0 : UInt8))) : Int) ∧ (1 : Int) + (↑(UInt8.toNat (List.getD (RS.l s) 0 (0 : UInt8))) : Int) ≤ (↑(i3 none (List.length (RS.l s))) : Int), (0 : Int) ≤ (1 : Int) ∧ (1 : Int) ≤ (↑(i3 (some ((1 : Int) + (↑(UInt8.toNat (List.getD (RS.l s) 0 (0 : UInt8))) : Int))) (List.length (RS.l s))) : Int), i5 zp none 1 (cB (cB (cR (cL (cR (cR (cR (cR (f8 (Bd.f (I5 s))))))))))) (kOf (RS.l s) + 1) (St.mk (mkT 76 [(2, .int .i64 0), (3, .int .i64 0), (4, .int .i64 0), (5, .int .i64 (↑(kOf (RS.l s)) : Int)), (61, .ros 1 (kOf (RS.l s)) (bl (List.drop 1 (RS.l s))) false), (62, .int .i64 (↑(kOf (RS.l s)) : Int)), (63, .int .i64 0)]) [(.o 0, rdB s)] 1 []) (.exit 1) (St.mk (mkT 76 [(2, .int .i64 (↑(beN (List.take (kOf (RS.l s)) (List.drop 1 (RS.l s)))) : Int)), (3, .int .i64 0), (4, .int .i64 0), (5, .int .i64 (↑(kOf (RS.l s)) : Int)), (61, .ros 1 (kOf (RS.l s)) (bl (List.drop 1 (RS.l s))) false), (62, .int .i64 (↑(kOf (RS.l s)) : Int)), (63, .int .i64 (↑(kOf (RS.l s)) : Int))]) [(.o 0, rdB s)] 1 []), q (List.length (RS.l s)), ∀ (k : Nat), k < List.length (RS.l s) → bl (RS.l s) k = bl (RS.l s) k, false = true → false = true, q (RS.e s), q2, q1, q1, q1, (↑(UInt8.toNat (List.getD (RS.l s) 0 (0 : UInt8))) : Int) = (↑(kOf (RS.l s)) : Int), i3 (some ((1 : Int) + (↑(UInt8.toNat (List.getD (RS.l s) 0 (0 : UInt8))) : Int))) (List.length (RS.l s)) - 1 = kOf (RS.l s), ∀ (k : Nat), k < i3 (some ((1 : Int) + (↑(UInt8.toNat (List.getD (RS.l s) 0 (0 : UInt8))) : Int))) (List.length (RS.l s)) - 1 → [V.int .u8 (↑(UInt8.toNat (List.getD (RS.l s) (1 + k) (0 : UInt8))) : Int)] = bl (List.drop (1 : Nat) (RS.l s)) k, false = true → false = true, (↑(i3 (some ((1 : Int) + (↑(UInt8.toNat (List.getD (RS.l s) 0 (0 : UInt8))) : Int))) (List.length (RS.l s)) - 1) : Int) = (↑(kOf (RS.l s)) : Int), q1, InR .i64 ((1 : Int) + (↑(kOf (RS.l s)) : Int))]))))) : Option (V × c5 × List Prop)) := by kernel_rfl
theorem as9 (s : RS) :
 f4 zp (I5 s) [false, false, false, false, false, false, false] = (some (.tup [.int .i64 (↑(beN (List.take (kOf (RS.l s)) (List.drop 1 (RS.l s)))) : Int), .int .i64 ((1 : Int) + (↑(kOf (RS.l s)) : Int)), .int .i64 0], [(.o 0, rdB s)], n7 s 0 ++ (n7 s 1 ++ (n7 s 2 ++ [decide ((0 : Int) < (↑(UInt8.toNat (List.getD (RS.l s) 0 (0 : UInt8))) : Int)) = false, q false, decide ((↑(UInt8.toNat (List.getD (RS.l s) 0 (0 : UInt8))) : Int) = (8 : Int)) = false, q false, InR .i64 ((1 : Int) + (↑(UInt8.toNat (List.getD (RS.l s) 0 (0 : UInt8))) : Int)), (0 : Int) ≤ (1 : Int) + (↑(UInt8.toNat (List.getD (RS.l s) 0 (0 : UInt8))) : Int) ∧ (1 : Int) + (↑(UInt8.toNat (List.getD (RS.l s) 0 (0 : UInt8))) : Int) ≤ (↑(i3 none (List.length (RS.l s))) : Int), (0 : Int) ≤ (1 : Int) ∧ (1 : Int) ≤ (↑(i3 (some ((1 : Int) + (↑(UInt8.toNat (List.getD (RS.l s) 0 (0 : UInt8))) : Int))) (List.length (RS.l s))) : Int), i5 zp none 1 (cB (cB (cR (cL (cR (cR (cR (cR (f8 (Bd.f (I5 s))))))))))) (kOf (RS.l s) + 1) (St.mk (mkT 76 [(2, .int .i64 0), (3, .int .i64 0), (4, .int .i64 0), (5, .int .i64 (↑(kOf (RS.l s)) : Int)), (61, .ros 1 (kOf (RS.l s)) (bl (List.drop 1 (RS.l s))) false), (62, .int .i64 (↑(kOf (RS.l s)) : Int)), (63, .int .i64 0)]) [(.o 0, rdB s)] 1 []) (.exit 1) (St.mk (mkT 76 [(2, .int .i64 (↑(beN (List.take (kOf (RS.l s)) (List.drop 1 (RS.l s)))) : Int)), (3, .int .i64 0), (4, .int .i64 0), (5, .int .i64 (↑(kOf (RS.l s)) : Int)), (61, .ros 1 (kOf (RS.l s)) (bl (List.drop 1 (RS.l s))) false), (62, .int .i64 (↑(kOf (RS.l s)) : Int)), (63, .int .i64 (↑(kOf (RS.l s)) : Int))]) [(.o 0, rdB s)] 1 []), q (List.length (RS.l s)), ∀ (k : Nat), k < List.length (RS.l s) → bl (RS.l s) k = bl (RS.l s) k, false = true → false = true, q (RS.e s), q2, q1, q1, q1, (↑(UInt8.toNat (List.getD (RS.l s) 0 (0 : UInt8))) : Int) = (↑(kOf (RS.l s)) : Int), i3 (some ((1 : Int) + (↑(UInt8.toNat (List.getD (RS.l s) 0 (0 : UInt8))) : Int))) (List.length (RS.l s)) - 1 = kOf (RS.l s), ∀ (k : Nat), k < i3 (some ((1 : Int) + (↑(UInt8.toNat (List.getD (RS.l s) 0 (0 : UInt8))) : Int))) (List.length (RS.l s)) - 1 → [V.int .u8 (↑(UInt8.toNat (List.getD (RS.l s) (1 + k) (0 : UInt8))) : Int)] = bl (List.drop (1 : Nat) (RS.l s)) k, false = true → false = true, (↑(i3 (some ((1 : Int) + (↑(UInt8.toNat (List.getD (RS.l s) 0 (0 : UInt8))) : Int))) (List.length (RS.l s)) - 1) : Int) = (↑(kOf (RS.l s)) : Int), q1, InR .i64 ((1 : Int) + (↑(kOf (RS.l s)) : Int))]))) : Option (V × c5 × List Prop)) := by kernel_rfl
theorem aY0 (s : RS) (k : Nat) :
  i6 zp (al3 s k) [true] = (some (.normal, St.mk (mkT 76 [(2, .int .i64 (↑(beN (List.take (k + 1) (List.drop 1 (RS.l s)))) : Int)), (3, .int .i64 0), (4, .int .i64 0), (5, .int .i64 (↑(kOf (RS.l s)) : Int)), (61, .ros 1 (kOf (RS.l s)) (bl (List.drop 1 (RS.l s))) false), (62, .int .i64 (↑(kOf (RS.l s)) : Int)), (63, .int .i64 (↑(k + 1) : Int))]) [(.o 0, rdB s)] 1 [], [decide ((↑k : Int) < (↑(kOf (RS.l s)) : Int)) = true, (0 : Int) ≤ (↑k : Int) ∧ (↑k : Int) < (↑(kOf (RS.l s)) : Int), (0 : Int) ≤ (8 : Int) ∧ (8 : Int) ≤ (64 : Int), InR .i64 ((↑(beN (List.take k (List.drop (1 : Nat) (RS.l s)))) : Int) * (256 : Int)), InR .i64 (↑(UInt8.toNat (List.getD (List.drop (1 : Nat) (RS.l s)) (Int.toNat (↑k : Int)) (0 : UInt8))) : Int), InR .i64 ((↑k : Int) + (1 : Int)), q (List.length (RS.l s)), ∀ (k : Nat), k < List.length (RS.l s) → bl (RS.l s) k = bl (RS.l s) k, false = true → false = true, q (RS.e s), q2, n6 (fun x x_1 y => x_1 ||| y) .i64 ((↑(beN (List.take k (List.drop (1 : Nat) (RS.l s)))) : Int) * (256 : Int)) (↑(UInt8.toNat (List.getD (List.drop (1 : Nat) (RS.l s)) (Int.toNat (↑k : Int)) (0 : UInt8))) : Int) = (↑(beN (List.take (k + (1 : Nat)) (List.drop (1 : Nat) (RS.l s)))) : Int), q1, q1, q (↑(kOf (RS.l s)) : Int), q (kOf (RS.l s)), ∀ (k : Nat), k < kOf (RS.l s) → bl (List.drop (1 : Nat) (RS.l s)) k = bl (List.drop (1 : Nat) (RS.l s)) k, false = true → false = true, q (↑(kOf (RS.l s)) : Int), (↑k : Int) + (1 : Int) = (↑(k + (1 : Nat)) : Int)]) : Option (Exit × St × List Prop)) := by kernel_rfl
theorem aX_ (s : RS) (k : Nat) :
  i6 zp (al3 s k) [false] = (some (.exit 1, St.mk (mkT 76 [(2, .int .i64 (↑(beN (List.take (kOf (RS.l s)) (List.drop 1 (RS.l s)))) : Int)), (3, .int .i64 0), (4, .int .i64 0), (5, .int .i64 (↑(kOf (RS.l s)) : Int)), (61, .ros 1 (kOf (RS.l s)) (bl (List.drop 1 (RS.l s))) false), (62, .int .i64 (↑(kOf (RS.l s)) : Int)), (63, .int .i64 (↑(kOf (RS.l s)) : Int))]) [(.o 0, rdB s)] 1 [], [decide ((↑k : Int) < (↑(kOf (RS.l s)) : Int)) = false, q (List.length (RS.l s)), ∀ (k : Nat), k < List.length (RS.l s) → bl (RS.l s) k = bl (RS.l s) k, false = true → false = true, q (RS.e s), q2, (↑(beN (List.take k (List.drop (1 : Nat) (RS.l s)))) : Int) = (↑(beN (List.take (kOf (RS.l s)) (List.drop (1 : Nat) (RS.l s)))) : Int), q1, q1, q (↑(kOf (RS.l s)) : Int), q (kOf (RS.l s)), ∀ (k : Nat), k < kOf (RS.l s) → bl (List.drop (1 : Nat) (RS.l s)) k = bl (List.drop (1 : Nat) (RS.l s)) k, false = true → false = true, q (↑(kOf (RS.l s)) : Int), (↑k : Int) = (↑(kOf (RS.l s)) : Int)]) : Option (Exit × St × List Prop)) := by kernel_rfl
noncomputable def L9 (most : Int) (s : RS) : Nat → List Prop
 | 0 => [T zp 73 [.ptr (.o 0) 0 0 0 0] [(.o 0, rdB s)] (.bool !decide (RS.e s = (0 : Int))) [(.o 0, rdB s)]]
 | 1 => [(!decide (RS.e s = (0 : Int))) = false, T zp 74 [.ptr (.o 0) 0 0 0 0] [(.o 0, rdB s)] (.tup [.int .i64 (nV (RS.l s)), .int .i64 (nS (RS.l s)), .int .i64 (nE (RS.l s))]) [(.o 0, rdB s)]]
 | _ => []
theorem by_ (most : Int) (s : RS) :
 f4 zp (aM0 most s) [true] = (some (.int .i64 0, [(.o 0, rdB s)], L9 most s 0 ++ [(!decide (RS.e s = (0 : Int))) = true]) : Option (V × c5 × List Prop)) := by kernel_rfl
theorem aW9 (most : Int) (s : RS) :
 f4 zp (aM0 most s) [false, true, true, true] = (some (.int .i64 0, [(.o 0, .flat [.ros 1 0 (bl []) false, .int .i64 (nE1 most (RS.l s)), .bool true])], L9 most s 0 ++ (L9 most s 1 ++ [decide (nE (RS.l s) = (0 : Int)) = true, decide (most < nV (RS.l s)) = true, q2, T zp 75 [.ptr (.o 0) 0 0 0 0, .int .i64 3] [(.o 0, rdB s)] (.tup []) [(.o 0, .flat [.ros 1 0 (bl []) false, .int .i64 (nE1 most (RS.l s)), .bool true])]])) : Option (V × c5 × List Prop)) := by kernel_rfl
theorem aW7 (most : Int) (s : RS) :
 f4 zp (aM0 most s) [false, false, false, true] = (some (.int .i64 0, [(.o 0, .flat [.ros 1 0 (bl []) false, .int .i64 (nE1 most (RS.l s)), .bool true])], L9 most s 0 ++ (L9 most s 1 ++ [decide (nE (RS.l s) = (0 : Int)) = false, q false, (!decide (nE (RS.l s) = (0 : Int))) = true, T zp 75 [.ptr (.o 0) 0 0 0 0, .int .i64 (nE (RS.l s))] [(.o 0, rdB s)] (.tup []) [(.o 0, .flat [.ros 1 0 (bl []) false, .int .i64 (nE1 most (RS.l s)), .bool true])]])) : Option (V × c5 × List Prop)) := by kernel_rfl
theorem aW8 (most : Int) (s : RS) :
 f4 zp (aM0 most s) [false, true, false, false] = (some (.int .i64 (nV (RS.l s)), [(.o 0, .flat [.ros 1 (List.length (List.drop (Int.toNat (nS (RS.l s))) (RS.l s))) (bl (List.drop (Int.toNat (nS (RS.l s))) (RS.l s))) false, .int .i64 (RS.e s), .bool true])], L9 most s 0 ++ (L9 most s 1 ++ [decide (nE (RS.l s) = (0 : Int)) = true, decide (most < nV (RS.l s)) = false, (!decide (nE (RS.l s) = (0 : Int))) = false, T zp 76 [.ptr (.o 0) 0 0 0 0, .int .i64 (nS (RS.l s))] [(.o 0, rdB s)] (.ros 1 (Int.toNat (nS (RS.l s))) (bl (List.take (Int.toNat (nS (RS.l s))) (RS.l s))) false) [(.o 0, .flat [.ros 1 (List.length (List.drop (Int.toNat (nS (RS.l s))) (RS.l s))) (bl (List.drop (Int.toNat (nS (RS.l s))) (RS.l s))) false, .int .i64 (RS.e s), .bool true])]])) : Option (V × c5 × List Prop)) := by kernel_rfl
noncomputable def B4 (most : Int) (s : RS) : Nat → List Prop
 | 0 => [T zp 73 [.ptr (.o 0) 0 0 0 0] [(.o 0, rdB s)] (.bool !decide (RS.e s = (0 : Int))) [(.o 0, rdB s)]]
 | 1 => [(!decide (RS.e s = (0 : Int))) = false, T zp 74 [.ptr (.o 0) 0 0 0 0] [(.o 0, rdB s)] (.tup [.int .i64 (nV (RS.l s)), .int .i64 (nS (RS.l s)), .int .i64 (nE (RS.l s))]) [(.o 0, rdB s)]]
 | 2 => [decide (most < nV (RS.l s)) = false, T zp 77 [.ptr (.o 0) 0 0 0 0] [(.o 0, rdB s)] (.int .i64 (↑(List.length (RS.l s)) : Int)) [(.o 0, rdB s)], InR .i64 ((↑(List.length (RS.l s)) : Int) - nS (RS.l s))]
 | _ => []
theorem bd1 (most : Int) (s : RS) :
 f4 zp (ai3 most s) [true] = (some (.str (ByteArray.mk (Array.mk [])), [(.o 0, rdB s)], B4 most s 0 ++ [(!decide (RS.e s = (0 : Int))) = true]) : Option (V × c5 × List Prop)) := by kernel_rfl
theorem aP_ (most : Int) (s : RS) :
 f4 zp (ai3 most s) [false, true, true] = (some (.str (ByteArray.mk (Array.mk [])), [(.o 0, .flat [.ros 1 0 (bl []) false, .int .i64 (tE most (RS.l s)), .bool true])], B4 most s 0 ++ (B4 most s 1 ++ [(!decide (nE (RS.l s) = (0 : Int))) = true, (!decide (nE (RS.l s) = (0 : Int))) = true, T zp 75 [.ptr (.o 0) 0 0 0 0, .int .i64 (nE (RS.l s))] [(.o 0, rdB s)] (.tup []) [(.o 0, .flat [.ros 1 0 (bl []) false, .int .i64 (tE most (RS.l s)), .bool true])]])) : Option (V × c5 × List Prop)) := by kernel_rfl
theorem aK_ (most : Int) (s : RS) :
 f4 zp (ai3 most s) [false, false, true, true] = (some (.str (ByteArray.mk (Array.mk [])), [(.o 0, .flat [.ros 1 0 (bl []) false, .int .i64 (tE most (RS.l s)), .bool true])], B4 most s 0 ++ (B4 most s 1 ++ [(!decide (nE (RS.l s) = (0 : Int))) = false, decide (most < nV (RS.l s)) = true, q2, T zp 75 [.ptr (.o 0) 0 0 0 0, .int .i64 3] [(.o 0, rdB s)] (.tup []) [(.o 0, .flat [.ros 1 0 (bl []) false, .int .i64 (tE most (RS.l s)), .bool true])]])) : Option (V × c5 × List Prop)) := by kernel_rfl
theorem aE_ (most : Int) (s : RS) :
 f4 zp (ai3 most s) [false, false, false, true, true] = (some (.str (ByteArray.mk (Array.mk [])), [(.o 0, .flat [.ros 1 0 (bl []) false, .int .i64 (tE most (RS.l s)), .bool true])], B4 most s 0 ++ (B4 most s 1 ++ ([(!decide (nE (RS.l s) = (0 : Int))) = false] ++ (B4 most s 2 ++ [decide ((↑(List.length (RS.l s)) : Int) - nS (RS.l s) < nV (RS.l s)) = true, q2, T zp 75 [.ptr (.o 0) 0 0 0 0, .int .i64 10] [(.o 0, rdB s)] (.tup []) [(.o 0, .flat [.ros 1 0 (bl []) false, .int .i64 (tE most (RS.l s)), .bool true])]])))) : Option (V × c5 × List Prop)) := by kernel_rfl
theorem aE9 (most : Int) (s : RS) :
 f4 zp (ai3 most s) [false, false, false, false, false] = (some (.str (E9 (Int.toNat (nV (RS.l s))) (bl (List.take (Int.toNat (nV (RS.l s))) (List.drop (Int.toNat (nS (RS.l s))) (RS.l s))))), [(.o 0, .flat [.ros 1 (List.length (List.drop (Int.toNat (nV (RS.l s))) (List.drop (Int.toNat (nS (RS.l s))) (RS.l s)))) (bl (List.drop (Int.toNat (nV (RS.l s))) (List.drop (Int.toNat (nS (RS.l s))) (RS.l s)))) false, .int .i64 (RS.e s), .bool true])], B4 most s 0 ++ (B4 most s 1 ++ ([(!decide (nE (RS.l s) = (0 : Int))) = false] ++ (B4 most s 2 ++ [decide ((↑(List.length (RS.l s)) : Int) - nS (RS.l s) < nV (RS.l s)) = false, (!decide (nE (RS.l s) = (0 : Int))) = false, T zp 76 [.ptr (.o 0) 0 0 0 0, .int .i64 (nS (RS.l s))] [(.o 0, rdB s)] (.ros 1 (Int.toNat (nS (RS.l s))) (bl (List.take (Int.toNat (nS (RS.l s))) (RS.l s))) false) [(.o 0, .flat [.ros 1 (List.length (List.drop (Int.toNat (nS (RS.l s))) (RS.l s))) (bl (List.drop (Int.toNat (nS (RS.l s))) (RS.l s))) false, .int .i64 (RS.e s), .bool true])], T zp 76 [.ptr (.o 0) 0 0 0 0, .int .i64 (nV (RS.l s))] [(.o 0, .flat [.ros 1 (List.length (List.drop (Int.toNat (nS (RS.l s))) (RS.l s))) (bl (List.drop (Int.toNat (nS (RS.l s))) (RS.l s))) false, .int .i64 (RS.e s), .bool true])] (.ros 1 (Int.toNat (nV (RS.l s))) (bl (List.take (Int.toNat (nV (RS.l s))) (List.drop (Int.toNat (nS (RS.l s))) (RS.l s)))) false) [(.o 0, .flat [.ros 1 (List.length (List.drop (Int.toNat (nV (RS.l s))) (List.drop (Int.toNat (nS (RS.l s))) (RS.l s)))) (bl (List.drop (Int.toNat (nV (RS.l s))) (List.drop (Int.toNat (nS (RS.l s))) (RS.l s)))) false, .int .i64 (RS.e s), .bool true])], ∀ (k : Nat), k < Int.toNat (nV (RS.l s)) → true = true, ∀ (k : Nat), k < Int.toNat (nV (RS.l s)) → true = true])))) : Option (V × c5 × List Prop)) := by kernel_rfl
noncomputable def au9 (n : Int) (s : RS) : Nat → List Prop
 | 0 => [T zp 73 [.ptr (.o 0) 0 0 0 0] [(.o 0, rdB s)] (.bool !decide (RS.e s = (0 : Int))) [(.o 0, rdB s)]]
 | _ => []
theorem bl4 (n : Int) (s : RS) :
 f4 zp (az9 n s) [true] = (some (.ros 1 (List.length (Prod.fst (l6 n s))) (bl (Prod.fst (l6 n s))) false, [(.o 0, .flat [.ros 1 (List.length (RS.l (l6 n s).2)) (bl (RS.l (l6 n s).2)) false, .int .i64 (RS.e (l6 n s).2), .bool true])], au9 n s 0 ++ [(!decide (RS.e s = (0 : Int))) = true, List.length (RS.l s) = List.length (RS.l (l6 n s).2), ∀ (k : Nat), k < List.length (RS.l s) → bl (RS.l s) k = bl (RS.l (l6 n s).2) k, false = true → false = true, RS.e s = RS.e (l6 n s).2, q2, List.length (Prod.fst (l6 n s)) = (0 : Nat)]) : Option (V × c5 × List Prop)) := by kernel_rfl
theorem bc6 (n : Int) (s : RS) :
 f4 zp (az9 n s) [false, true] = (some (.ros 1 (List.length (Prod.fst (l6 n s))) (bl (Prod.fst (l6 n s))) false, [(.o 0, .flat [.ros 1 (List.length (RS.l (l6 n s).2)) (bl (RS.l (l6 n s).2)) false, .int .i64 (RS.e (l6 n s).2), .bool true])], au9 n s 0 ++ [(!decide (RS.e s = (0 : Int))) = false, decide (n < (0 : Int)) = true, T zp 75 [.ptr (.o 0) 0 0 0 0, .int .i64 2] [(.o 0, rdB s)] (.tup []) [(.o 0, .flat [.ros 1 (List.length (RS.l (l6 n s).2)) (bl (RS.l (l6 n s).2)) false, .int .i64 (RS.e (l6 n s).2), .bool true])], q (List.length (RS.l (l6 n s).2)), ∀ (k : Nat), k < List.length (RS.l (l6 n s).2) → bl (RS.l (l6 n s).2) k = bl (RS.l (l6 n s).2) k, false = true → false = true, q (RS.e (l6 n s).2), q2, List.length (Prod.fst (l6 n s)) = (0 : Nat)]) : Option (V × c5 × List Prop)) := by kernel_rfl
theorem aX7 (n : Int) (s : RS) :
 f4 zp (az9 n s) [false, false, true] = (some (.ros 1 (List.length (Prod.fst (l6 n s))) (bl (Prod.fst (l6 n s))) false, [(.o 0, .flat [.ros 1 (List.length (RS.l (l6 n s).2)) (bl (RS.l (l6 n s).2)) false, .int .i64 (RS.e (l6 n s).2), .bool true])], au9 n s 0 ++ [(!decide (RS.e s = (0 : Int))) = false, decide (n < (0 : Int)) = false, T zp 77 [.ptr (.o 0) 0 0 0 0] [(.o 0, rdB s)] (.int .i64 (↑(List.length (RS.l s)) : Int)) [(.o 0, rdB s)], decide ((↑(List.length (RS.l s)) : Int) < n) = true, T zp 75 [.ptr (.o 0) 0 0 0 0, .int .i64 10] [(.o 0, rdB s)] (.tup []) [(.o 0, .flat [.ros 1 (List.length (RS.l (l6 n s).2)) (bl (RS.l (l6 n s).2)) false, .int .i64 (RS.e (l6 n s).2), .bool true])], q (List.length (RS.l (l6 n s).2)), ∀ (k : Nat), k < List.length (RS.l (l6 n s).2) → bl (RS.l (l6 n s).2) k = bl (RS.l (l6 n s).2) k, false = true → false = true, q (RS.e (l6 n s).2), q2, List.length (Prod.fst (l6 n s)) = (0 : Nat)]) : Option (V × c5 × List Prop)) := by kernel_rfl
theorem aX6 (n : Int) (s : RS) :
  f4 zp (az9 n s) [false, false, false] = some (V.ros (1 : Nat) (List.length (Prod.fst (l6 n s))) (bl (Prod.fst (l6 n s))) false, [(Nm.o (0 : Nat), B.flat [V.ros (1 : Nat) (List.length (RS.l (l6 n s).2)) (bl (RS.l (l6 n s).2)) false, V.int .i64 (RS.e (l6 n s).2), V.bool true])], [T zp (73 : Nat) [V.ptr (Nm.o (0 : Nat)) (0 : Nat) (0 : Nat) (0 : Nat) (0 : Nat)] [(Nm.o (0 : Nat), rdB s)] (V.bool !decide (RS.e s = (0 : Int))) [(Nm.o (0 : Nat), rdB s)], (!decide (RS.e s = (0 : Int))) = false, decide (n < (0 : Int)) = false, T zp (77 : Nat) [V.ptr (Nm.o (0 : Nat)) (0 : Nat) (0 : Nat) 0 (0 : Nat)] [(Nm.o (0 : Nat), rdB s)] (V.int .i64 (↑(List.length (RS.l s)) : Int)) [(Nm.o (0 : Nat), rdB s)], decide ((↑(List.length (RS.l s)) : Int) < n) = false, T zp (76 : Nat) [V.ptr (Nm.o (0 : Nat)) (0 : Nat) (0 : Nat) 0 (0 : Nat), V.int .i64 n] [(Nm.o (0 : Nat), rdB s)] (V.ros (1 : Nat) (Int.toNat n) (bl (List.take (Int.toNat n) (RS.l s))) false) [(Nm.o (0 : Nat), B.flat [V.ros (1 : Nat) (List.length (List.drop (Int.toNat n) (RS.l s))) (bl (List.drop (Int.toNat n) (RS.l s))) false, V.int .i64 (RS.e s), V.bool true])], (0 : Nat) = (0 : Nat), ∀ (k : Nat), k < Int.toNat n → true = true, ((0 : Nat) + Int.toNat n) * (1 : Nat) ≤ (140737488355328 : Nat), List.length (List.drop (Int.toNat n) (RS.l s)) = List.length (RS.l (l6 n s).2), ∀ (k : Nat), k < List.length (List.drop (Int.toNat n) (RS.l s)) → bl (List.drop (Int.toNat n) (RS.l s)) k = bl (RS.l (l6 n s).2) k, false = true → false = true, RS.e s = RS.e (l6 n s).2, true = true, (0 : Nat) + Int.toNat n = List.length (Prod.fst (l6 n s)), (0 : Nat) + ((0 : Nat) + Int.toNat n) ≤ (0 : Nat) + Int.toNat n, ∀ (k : Nat), k < (0 : Nat) + Int.toNat n → [V.int .u8 (↑(UInt8.toNat (List.getD (List.take (Int.toNat n) (RS.l s)) ((0 : Nat) + k - (0 : Nat)) (0 : UInt8))) : Int)] = bl (Prod.fst (l6 n s)) k, false = true → none = some ((0 : Nat) + Int.toNat n)]) := by kernel_rfl
theorem e64 : (2 : Nat) ^ IntKind.i64.bits = 18446744073709551616 := by kernel_rfl
theorem N2 {n : Int} (h : -9223372036854775808 ≤ n) (h2 : n ≤ 9223372036854775807) : IntKind.i64.min ≤ n := (M5.2 ⟨h, h2⟩).1
theorem N3 {n : Int} (h : -9223372036854775808 ≤ n) (h2 : n ≤ 9223372036854775807) : n ≤ IntKind.i64.max := (M5.2 ⟨h, h2⟩).2
set_option maxRecDepth 8000 in
theorem cl8 {a b : Nat} (h : a * 256 + b < 9223372036854775808) (hb : b < 256) : n6 (fun _ x y => x ||| y) IntKind.i64 ((a : Int) * 256) (b : Int) = ((a * 256 + b : Nat) : Int) := by
 have h1 : a * 256 ||| b = a * 256 + b := by
  have := Nat.shiftLeft_add_eq_or_of_lt (b := b) (i := 8) (by simpa using hb) a
  rw [Nat.shiftLeft_eq] at this
  simpa using this.symm
 have e1 : ((a : Int) * 256) = ((a * 256 : Nat) : Int) := by simp
 unfold n6
 have hr : InR .i64 ((a * 256 + b : Nat) : Int) := M5.2 ⟨by omega, by omega⟩
 have hc : ((BitVec.ofInt IntKind.i64.bits ((a : Int) * 256)) ||| (BitVec.ofInt IntKind.i64.bits (b : Int))).toNat = a * 256 + b := by
  rw [BitVec.toNat_or, e1, BitVec.ofInt_natCast, BitVec.ofInt_natCast, BitVec.toNat_ofNat, BitVec.toNat_ofNat, Nat.mod_eq_of_lt (a := a * 256), Nat.mod_eq_of_lt (a := b), h1]
  ·rw [e64]; omega
  ·rw [e64]; omega
 rw [hc]
 exact hr.wrap
theorem aj9 (xs : List UInt8) (x : UInt8) : beN (xs ++ [x]) = beN xs * 256 + x.toNat := by
 unfold beN
 rw [List.foldl_append]; rfl
theorem bd4 : ∀ (xs : List UInt8) (a : Nat), xs.foldl (fun a x => a * 256 + x.toNat) a < (a + 1) * 256 ^ xs.length
 | [], a => by simp
 | x :: xs, a => by
  have h := bd4 xs (a * 256 + x.toNat)
  have hx := x.toNat_lt
  rw [List.foldl_cons, List.length_cons, Nat.pow_succ]
  refine Nat.lt_of_lt_of_le h ?_
  have : (a * 256 + x.toNat + 1) ≤ (a + 1) * 256 := by omega
  calc (a * 256 + x.toNat + 1) * 256 ^ xs.length ≤ ((a + 1) * 256) * 256 ^ xs.length := Nat.mul_le_mul_right _ this
   _ = (a + 1) * (256 ^ xs.length * 256) := by rw [Nat.mul_assoc, Nat.mul_comm 256]
theorem ck7 (xs : List UInt8) : beN xs < 256 ^ xs.length := by
 have := bd4 xs 0
 simpa [beN] using this
theorem bT6 {xs : List UInt8} (h : xs.length ≤ 8) (h1 : xs.length = 8 → (xs.getD 0 0).toNat ≤ 127) : beN xs < 9223372036854775808 := by
 by_cases e : xs.length = 8
 ·match xs, e, h1 with
  | x :: t, e, h1 =>
   have h2 := h1 e
   have h3 := bd4 t (0 * 256 + x.toNat)
   have e4 : t.length = 7 := by simpa using e
   have h5 : x.toNat ≤ 127 := by simpa using h2
   rw [e4] at h3
   show List.foldl _ 0 (x :: t) < _
   rw [List.foldl_cons]
   refine Nat.lt_of_lt_of_le h3 ?_
   calc (0 * 256 + x.toNat + 1) * 256 ^ 7 ≤ 128 * 256 ^ 7 := Nat.mul_le_mul_right _ (by omega)
    _ ≤ _ := by decide
 ·have h2 := ck7 xs
  have : 256 ^ xs.length ≤ 256 ^ 7 := Nat.pow_le_pow_right (by decide) (by omega)
  omega
theorem aJ5 {d : List UInt8} {k : Nat} (h : k < d.length) : d.take (k + 1) = d.take k ++ [d.getD k 0] := by
 rw [List.take_succ_eq_append_getElem h, List.getD_eq_getElem?_getD, List.getElem?_eq_getElem h, Option.getD_some]
structure NumOk (l : List UInt8) : Prop where
 k : kOf l ≤ 8
 len : kOf l < l.length
 top : kOf l = 8 → (l.getD 1 0).toNat ≤ 127
theorem NumOk.lt {l : List UInt8} (h : NumOk l) : beN ((l.drop 1).take (kOf l)) < 9223372036854775808 := by
 have hl := h.len
 have hk := h.k
 refine bT6 (by rw [List.length_take]; omega) fun e => ?_
 rw [List.length_take, List.length_drop] at e
 have := h.top (by omega)
 rw [List.getD_eq_getElem?_getD] at this ⊢
 rw [List.getElem?_take_of_lt (by omega), List.getElem?_drop]
 simpa using this
theorem aQ1 {d : List UInt8} : ∀ {j k : Nat}, j ≤ k → k ≤ d.length → beN (d.take j) ≤ beN (d.take k)
 | j, 0, h, _ => by have : j = 0 := by omega
                    subst this; exact Nat.le_refl _
 | j, k + 1, h, hk => by
  by_cases e : j = k + 1
  ·subst e; exact Nat.le_refl _
  ·have h1 := aQ1 (d := d) (j := j) (k := k) (by omega) (by omega)
   rw [aJ5 (by omega), aj9]; omega
theorem bX0 {a b c : Nat} (h : a * 256 + b < 9223372036854775808) (hb : b < 256) (hc : c = a * 256 + b) : n6 (fun _ x y => x ||| y) IntKind.i64 ((a : Int) * 256) (b : Int) = (c : Int) := by
 rw [cl8 h hb, hc]
theorem bW_ {s : RS} (h : NumOk s.l) (k : Nat) (hk : k < kOf s.l) : R Tryz.prog none 1 (al3 s 0).c (nbI s.l s k) .normal (nbI s.l s (k + 1)) := by
 have hl := h.len
 have h8 := h.k
 have hd : k < (s.l.drop 1).length := by rw [List.length_drop]; omega
 have e := aJ5 hd
 have hx := ((s.l.drop 1).getD k 0).toNat_lt
 have hm := aQ1 (d := s.l.drop 1) (j := k + 1) (k := kOf s.l) (by omega) (by rw [List.length_drop]; omega)
 have hlt := h.lt
 have e2 := aj9 ((s.l.drop 1).take k) ((s.l.drop 1).getD k 0)
 rw [← e] at e2
 refine f9 NG MO _ (aY0 s k) ?_ (Nat.le_refl _)
 simp only [All]
 exact ⟨decide_eq_true (by omega), ⟨by omega, by omega⟩, ⟨by decide, by decide⟩, M5.2 ⟨by omega, by omega⟩, M5.2 ⟨by rw [Int.toNat_natCast]; omega, by rw [Int.toNat_natCast]; omega⟩, M5.2 ⟨by omega, by omega⟩, trivial, fun _ _ => trivial, fun h => h, trivial, trivial, bX0 (by rw [Int.toNat_natCast]; omega) (by rw [Int.toNat_natCast]; omega) (by rw [Int.toNat_natCast, e2]), trivial, trivial, trivial, trivial, fun _ _ => trivial, fun h => h, trivial, by omega, trivial⟩
theorem aG5 {s : RS} (h : NumOk s.l) : i5 Tryz.prog none 1 (al3 s 0).c (kOf s.l + 1) (nbI s.l s 0) (.exit 1) (nbI s.l s (kOf s.l)) :=
 i5.inv (nbI s.l s) (kOf s.l) (fun k hk => bW_ h k hk) (f9 NG MO _ (aX_ s (kOf s.l)) (by simp [All]) (Nat.le_refl _)) (by simp)
theorem bq5 (l : List UInt8) : kOf l < 256 := (l.getD 0 0).toNat_lt
theorem P3 (s : RS) : T Tryz.prog 74 [p0] [(.o 0, rdB s)] (O0 s.l) [(.o 0, rdB s)] := by
 have hk := bq5 s.l
 have hk0 : (s.l.getD 0 0).toNat < 256 := bq5 s.l
 by_cases h1 : s.l.length = 0
 ·refine T.conv (f5 (aW_ s) Tryz.func74 ?_) rfl rfl (by simp [O0, nV, nS, nE, h1]) rfl
  simp [All, f3, n7, h1]
 by_cases h2 : 8 < kOf s.l
 ·refine T.conv (f5 (aP6 s) Tryz.func74 ?_) rfl rfl (by simp [O0, nV, nS, nE, h1, h2]) rfl
  have h2' : 8 < (s.l.getD 0 0).toNat := h2
  simp only [All, f3, n7]; and_intros
  all_goals first | (rw [decide_eq_false_iff_not]; omega) | (rw [decide_eq_true_eq]; omega) | omega | exact N2 (by omega) (by omega) | exact N3 (by omega) (by omega) | trivial
 by_cases h3 : s.l.length ≤ kOf s.l
 ·refine T.conv (f5 (aK8 s) Tryz.func74 ?_) rfl rfl (by simp [O0, nV, nS, nE, h1, h2, h3]) rfl
  have h2' : ¬ 8 < (s.l.getD 0 0).toNat := h2
  have h3' : s.l.length ≤ (s.l.getD 0 0).toNat := h3
  simp only [All, f3, n7]; and_intros
  all_goals first | (rw [decide_eq_false_iff_not]; omega) | (rw [decide_eq_true_eq]; omega) | omega | exact N2 (by omega) (by omega) | exact N3 (by omega) (by omega) | trivial
 by_cases h4 : 0 < kOf s.l ∧ (s.l.getD 1 0).toNat = 0
 ·refine T.conv (f5 (au8 s) Tryz.func74 ?_) rfl rfl (by simp only [O0, nV, nS, nE, if_neg h1, if_neg h2, if_neg h3, if_pos h4]; rfl) rfl
  have h2' : ¬ 8 < (s.l.getD 0 0).toNat := h2
  have h3' : ¬ s.l.length ≤ (s.l.getD 0 0).toNat := h3
  have h4' : 0 < (s.l.getD 0 0).toNat ∧ (s.l.getD 1 0).toNat = 0 := h4
  simp only [All, f3, n7]; and_intros
  all_goals first | (rw [decide_eq_false_iff_not]; omega) | (rw [decide_eq_true_eq]; omega) | omega | exact N2 (by omega) (by omega) | exact N3 (by omega) (by omega) | trivial
 by_cases h5 : kOf s.l = 8 ∧ 127 < (s.l.getD 1 0).toNat
 ·refine T.conv (f5 (at2 s) Tryz.func74 ?_) rfl rfl (by simp only [O0, nV, nS, nE, if_neg h1, if_neg h2, if_neg h3, if_neg h4, if_pos h5]; rfl) rfl
  have h2' : ¬ 8 < (s.l.getD 0 0).toNat := h2
  have h3' : ¬ s.l.length ≤ (s.l.getD 0 0).toNat := h3
  have h4' : ¬ (0 < (s.l.getD 0 0).toNat ∧ (s.l.getD 1 0).toNat = 0) := h4
  have h5' : (s.l.getD 0 0).toNat = 8 ∧ 127 < (s.l.getD 1 0).toNat := h5
  simp only [All, f3, n7]; and_intros
  all_goals first | (rw [decide_eq_false_iff_not]; omega) | (rw [decide_eq_true_eq]; omega) | omega | exact N2 (by omega) (by omega) | exact N3 (by omega) (by omega) | trivial
 have hok : NumOk s.l := ⟨by omega, by omega, fun h => by omega⟩
 have hv : O0 s.l = .tup [.int .i64 (beN ((s.l.drop 1).take (kOf s.l)) : Nat), .int .i64 (1 + (kOf s.l : Int)), .int .i64 0] := by
  simp only [O0, nV, nS, nE, if_neg h1, if_neg h2, if_neg h3, if_neg h4, if_neg h5, if_true]
  rw [Int.add_comm]; rfl
 have h2' : ¬ 8 < (s.l.getD 0 0).toNat := h2
 have h3' : ¬ s.l.length ≤ (s.l.getD 0 0).toNat := h3
 have h4' : ¬ (0 < (s.l.getD 0 0).toNat ∧ (s.l.getD 1 0).toNat = 0) := h4
 have h5' : ¬ ((s.l.getD 0 0).toNat = 8 ∧ 127 < (s.l.getD 1 0).toNat) := h5
 have hkk : (s.l.getD 0 0).toNat = kOf s.l := rfl
 by_cases h6 : 0 < kOf s.l
 ·by_cases h7 : kOf s.l = 8
  ·refine T.conv (f5 (at0 s) Tryz.func74 ?_) rfl rfl hv.symm rfl
   simp only [All, f3, n7]; and_intros
   all_goals first | exact aG5 hok | exact fun _ _ => trivial | (simp only [i3]; omega) | (intro k _; simp [bl, kOf, List.getD_eq_getElem?_getD, Nat.add_comm]; done) | (rw [decide_eq_false_iff_not]; omega) | (rw [decide_eq_true_eq]; omega) | omega | exact N2 (by omega) (by omega) | exact N3 (by omega) (by omega) | trivial
  ·refine T.conv (f5 (as_ s) Tryz.func74 ?_) rfl rfl hv.symm rfl
   simp only [All, f3, n7]; and_intros
   all_goals first | exact aG5 hok | exact fun _ _ => trivial | (simp only [i3]; omega) | (intro k _; simp [bl, kOf, List.getD_eq_getElem?_getD, Nat.add_comm]; done) | (rw [decide_eq_false_iff_not]; omega) | (rw [decide_eq_true_eq]; omega) | omega | exact N2 (by omega) (by omega) | exact N3 (by omega) (by omega) | trivial
 ·refine T.conv (f5 (as9 s) Tryz.func74 ?_) rfl rfl hv.symm rfl
  simp only [All, f3, n7]; and_intros
  all_goals first | exact aG5 hok | exact fun _ _ => trivial | (simp only [i3]; omega) | (rw [decide_eq_false_iff_not]; omega) | omega | exact N2 (by omega) (by omega) | exact N3 (by omega) (by omega) | trivial
theorem I4 (s : RS) : T Tryz.prog 73 [p0] [(.o 0, rdB s)] (aM6 s) [(.o 0, rdB s)] :=
 f5 (bd0 s) Tryz.func73 (by simp [All])
theorem ay3 (s : RS) : T Tryz.prog 78 [p0] [(.o 0, rdB s)] (.int .i64 s.e) [(.o 0, rdB s)] :=
 f5 (bj6 s) Tryz.func78 (by simp [All])
theorem aa2 (s : RS) : T Tryz.prog 77 [p0] [(.o 0, rdB s)] (.int .i64 (s.l.length : Nat)) [(.o 0, rdB s)] :=
 f5 (by1 s) Tryz.func77 (by simp [All])
theorem V3 (s : RS) {e e' : Int} (h : e = e') : T Tryz.prog 75 [p0, .int .i64 e] [(.o 0, rdB s)] (.tup []) [(.o 0, rdB (s.fail e'))] := by
 subst h
 exact f5 (bx8 s e) Tryz.func75 (by simp [All])
theorem bT9 (l : List UInt8) (n k : Nat) : bl (l.drop n) k = bl l (n + k) := by simp [bl, List.getD_eq_getElem?_getD]
theorem bT_ (l : List UInt8) {n k : Nat} (h : k < n) : bl (l.take n) k = bl l k := by simp [bl, List.getD_eq_getElem?_getD, List.getElem?_take_of_lt h]
theorem aq_ (s : RS) {z : Int} {n : Nat} (hz : z = (n : Int)) (h : n ≤ s.l.length) : T Tryz.prog 76 [p0, .int .i64 z] [(.o 0, rdB s)] (.ros 1 n (bl (s.l.take n)) false) [(.o 0, rdB (s.drop n))] := by
 subst hz
 refine f5 (bB2 s n) Tryz.func76 ?_
 simp only [All, i3, Int.toNat_natCast]; and_intros
 all_goals first | omega | trivial | (rw [List.length_drop]; done) | (intro k hk; rw [bT9]; rfl) | (intro k hk; rw [bT_ _ (by omega)]; rfl)
theorem bM0 {l : List UInt8} : 0 ≤ nS l ∧ nS l ≤ l.length := by
 unfold nS
 split
 ·rename_i h
  unfold nE at h
  split at h <;> try contradiction
  split at h <;> try contradiction
  split at h <;> try contradiction
  omega
 ·omega
theorem be5 {l : List UInt8} (h : nE l = 0) : NumOk l := by
 unfold nE at h
 split at h <;> try contradiction
 split at h <;> try contradiction
 split at h <;> try contradiction
 split at h <;> try contradiction
 split at h <;> try contradiction
 exact ⟨by omega, by omega, fun e => by omega⟩
theorem bM1 {l : List UInt8} : 0 ≤ nV l ∧ nV l < 9223372036854775808 := by
 unfold nV
 split
 ·rename_i h
  have := (be5 h).lt
  omega
 ·omega
theorem cd9 (most : Int) (s : RS) : T Tryz.prog 25 [p0, .int .i64 most] [(.o 0, rdB s)] (.int .i64 (f1 most s).1) [(.o 0, rdB (f1 most s).2)] := by
 have hS := @bM0 s.l
 by_cases h1 : s.e = 0
 ·by_cases h2 : nE s.l = 0
  ·by_cases h3 : most < nV s.l
   ·have e1 : nE1 most s.l = 3 := by simp [nE1, h2, h3]
    have e : f1 most s = (0, s.fail (nE1 most s.l)) := by simp [f1, h1, e1]
    rw [e]
    refine f5 (aW9 most s) Tryz.func25 ?_
    simp only [All, f3, L9]; and_intros
    all_goals first | exact I4 s | exact P3 s | exact V3 s e1.symm | (simp [h1, h2, h3]; done)
   ·have e1 : nE1 most s.l = 0 := by simp [nE1, h2, h3]
    have e : f1 most s = (nV s.l, s.drop (nS s.l).toNat) := by simp [f1, h1, e1]
    rw [e]
    refine f5 (aW8 most s) Tryz.func25 ?_
    simp only [All, f3, L9]; and_intros
    all_goals first | exact I4 s | exact P3 s | exact aq_ s (by omega) (by omega) | (simp [h1, h2, h3]; done)
  ·have e1 : nE1 most s.l = nE s.l := by simp [nE1, h2]
   have e : f1 most s = (0, s.fail (nE1 most s.l)) := by simp [f1, h1, e1, h2]
   rw [e]
   refine f5 (aW7 most s) Tryz.func25 ?_
   simp only [All, f3, L9]; and_intros
   all_goals first | exact I4 s | exact P3 s | exact V3 s e1.symm | (simp [h1, h2]; done)
 ·have e : f1 most s = (0, s) := by simp [f1, h1]
  rw [e]
  refine f5 (by_ most s) Tryz.func25 ?_
  simp only [All, f3, L9]; and_intros
  all_goals first | exact I4 s | (simp [h1]; done)
theorem bw2 (most : Int) (s : RS) (hl : s.l.length ≤ 1000000000) : T Tryz.prog 26 [p0, .int .i64 most] [(.o 0, rdB s)] (.str (v6 most s).1) [(.o 0, rdB (v6 most s).2)] := by
 have hS := @bM0 s.l
 have hV := @bM1 s.l
 by_cases h1 : s.e = 0
 ·by_cases h2 : nE s.l = 0
  ·by_cases h3 : most < nV s.l
   ·have e1 : tE most s.l = 3 := by simp [tE, h2, h3]
    have e : v6 most s = (baL [], s.fail (tE most s.l)) := by simp [v6, h1, e1]
    rw [e]
    refine f5 (aK_ most s) Tryz.func26 ?_
    simp only [All, f3, B4]; and_intros
    all_goals first | exact I4 s | exact P3 s | exact V3 s e1.symm | (simp [h1, h2, h3]; done)
   ·by_cases h4 : (s.l.length : Int) - nS s.l < nV s.l
    ·have e1 : tE most s.l = 10 := by simp [tE, h2, h3, h4]
     have e : v6 most s = (baL [], s.fail (tE most s.l)) := by simp [v6, h1, e1]
     rw [e]
     refine f5 (aE_ most s) Tryz.func26 ?_
     simp only [All, f3, B4]; and_intros
     all_goals first | exact I4 s | exact P3 s | exact aa2 s | exact V3 s e1.symm | exact N2 (by omega) (by omega) | exact N3 (by omega) (by omega) | (simp [h1, h2, h3, h4]; done)
    ·have e1 : tE most s.l = 0 := by simp [tE, h2, h3, h4]
     have e : v6 most s = (baL ((s.l.drop (nS s.l).toNat).take (nV s.l).toNat), (s.drop (nS s.l).toNat).drop (nV s.l).toNat) := by simp [v6, h1, e1]
     rw [e]
     have hlen : ((s.l.drop (nS s.l).toNat).take (nV s.l).toNat).length = (nV s.l).toNat := by rw [List.length_take, List.length_drop]; omega
     have hb : E9 (nV s.l).toNat (bl ((s.l.drop (nS s.l).toNat).take (nV s.l).toNat)) = baL ((s.l.drop (nS s.l).toNat).take (nV s.l).toNat) := by
      have := I3 ((s.l.drop (nS s.l).toNat).take (nV s.l).toNat)
      rw [hlen] at this
      simpa only [Nat.zero_add] using this
     refine T.conv (f5 (aE9 most s) Tryz.func26 ?_) rfl rfl (by rw [hb]) rfl
     simp only [All, f3, B4]; and_intros
     all_goals first | exact I4 s | exact P3 s | exact aa2 s | exact aq_ s (by omega) (by omega) | exact aq_ (s.drop (nS s.l).toNat) (by omega) (by simp only [RS.drop, List.length_drop]; omega) | exact N2 (by omega) (by omega) | exact N3 (by omega) (by omega) | (simp [h1, h2, h3, h4]; done)
  ·have e1 : tE most s.l = nE s.l := by simp [tE, h2]
   have e : v6 most s = (baL [], s.fail (tE most s.l)) := by simp [v6, h1, e1, h2]
   rw [e]
   refine f5 (aP_ most s) Tryz.func26 ?_
   simp only [All, f3, B4]; and_intros
   all_goals first | exact I4 s | exact P3 s | exact V3 s e1.symm | (simp [h1, h2]; done)
 ·have e : v6 most s = (baL [], s) := by simp [v6, h1]
  rw [e]
  refine f5 (bd1 most s) Tryz.func26 ?_
  simp only [All, f3, B4]; and_intros
  all_goals first | exact I4 s | (simp [h1]; done)
theorem bO3 (n : Int) (s : RS) (hl : s.l.length ≤ 1000000000) : T Tryz.prog 27 [p0, .int .i64 n] [(.o 0, rdB s)] (roB (l6 n s).1) [(.o 0, rdB (l6 n s).2)] := by
 by_cases h1 : s.e = 0
 ·by_cases h2 : n < 0
  ·have e : l6 n s = ([], s.fail 2) := by simp [l6, h1, h2]
   refine f5 (bc6 n s) Tryz.func27 ?_
   simp only [e, All]; and_intros
   all_goals first | exact I4 s | exact V3 s rfl | trivial | (simp [h1, h2]; done)
  ·by_cases h3 : (s.l.length : Int) < n
   ·have e : l6 n s = ([], s.fail 10) := by simp [l6, h1, h2, h3]
    refine f5 (aX7 n s) Tryz.func27 ?_
    simp only [e, All]; and_intros
    all_goals first | exact I4 s | exact aa2 s | exact V3 s rfl | trivial | (simp [h1, h2, h3]; done)
   ·have e : l6 n s = (s.l.take n.toNat, s.drop n.toNat) := by simp [l6, h1, h2, h3]
    have hlen : (s.l.take n.toNat).length = n.toNat := by rw [List.length_take]; omega
    refine f5 (aX6 n s) Tryz.func27 ?_
    simp only [e, All, RS.drop]; and_intros
    all_goals first | exact I4 s | exact aa2 s | exact aq_ s (by omega) (by omega) | trivial | omega | (simp [h1, h2, h3]; done) | (intro k hk; simp [bl]; done)
 ·have e : l6 n s = ([], s) := by simp [l6, h1]
  refine f5 (bl4 n s) Tryz.func27 ?_
  simp only [e, All]; and_intros
  all_goals first | exact I4 s | trivial | (simp [h1]; done)
theorem bN_ (s : RS) : T Tryz.prog 28 [p0] [(.o 0, rdB s)] (.int .i64 (D6 s)) [(.o 0, rdB s)] := by
 by_cases h1 : s.e = 0
 ·by_cases h2 : 0 < s.l.length
  ·refine T.val (f5 (ba8 s) Tryz.func28 ?_) (by simp [D6, h1, h2])
   simp only [All, f3, P5]; and_intros
   all_goals first | exact ay3 s | exact aa2 s | (simp [h1]; done) | (rw [decide_eq_true_eq]; omega)
  ·refine T.val (f5 (ba7 s) Tryz.func28 ?_) (by simp [D6, h1, h2])
   simp only [All, f3, P5]; and_intros
   all_goals first | exact ay3 s | exact aa2 s | (simp [h1]; done) | (rw [decide_eq_false_iff_not]; omega)
 ·refine T.val (f5 (bj5 s) Tryz.func28 ?_) (by simp [D6, h1])
  simp only [All, f3, P5]; and_intros
  all_goals first | exact ay3 s | (simp [h1]; done)
theorem bO4 (l : List UInt8) (hl : l.length ≤ 1000000000) : T Tryz.prog 24 [roB l] [] (.ptr (.o 63) 0 0 0 0) [(.o 63, rdB { l := l })] := by
 refine f5 (bz7 l) Tryz.func24 ?_
 simp only [All]; and_intros
 all_goals first | trivial | omega | (intro k _; simp [bl]; done) | simp
def D1 (l : List UInt8) : List Int := l.map fun x => (x.toNat : Int)
def Q7 (s : RS) : RS := (f1 8 s).2
def L3 (s : RS) : RS := (f1 1099511627776 (Q7 s)).2
def D7 (s : RS) : RS := (v6 64 (L3 s)).2
def S5 (s : RS) : RS := (l6 16 (D7 s)).2
def bg6 (s : RS) : SReq := { client := (f1 8 s).1, num := (f1 1099511627776 (Q7 s)).1, data := (v6 64 (L3 s)).1, tag := D1 (l6 16 (D7 s)).1 }
def al8 : SReq := { data := baL [], tag := z16 }
def i7 (s : RS) : SReq × RS := (if (S5 s).e = 0 then bg6 s else al8, S5 s)
def itR {α : Type} (one : RS → α × RS) : Nat → RS → List α × RS
 | 0, s => ([], s)
 | k + 1, s => ((one s).1 :: (itR one k (one s).2).1, (itR one k (one s).2).2)
def s8 (s : RS) : List SReq × RS := itR i7 ((f1 5 s).1.toNat - 1) (f1 5 s).2
def D3 (b : Bool) (l : List SReq) : SBatch := { noop := b, n := l.length, req := fun i => l.getD i al8 }
def l7 (s : RS) : SBatch × RS := (if (s8 s).2.e = 0 then D3 (decide ((f1 5 s).1 = 0)) (s8 s).1 else {}, (s8 s).2)
def aQ3 (l : List (V × RS)) : List V → c5 → Nat → List Cl := fun args _ _ => match args with
 | .ptr a _ _ _ _ :: _ => l.map fun q => { pre := [a], val := q.1, post := [(a, rdB q.2)] }
 | _ => []
def be0 (cs : List V) (hs : c5) : Exit → St → Option W := fun _ st => match r9 st.tmps 2 with
 | .ptr a _ _ _ _ => some ⟨[], [(2, .set (.ptr a 0 0 0 0))], Q3 hs ++ [(a, .set (.flat cs))], none, st.next⟩
 | _ => none
def aC1 (n : Nat) (xs : List UInt8) (s : RS) : List (V × RS) := [(.ros 1 n (bl xs) false, s), (.ros 1 0 (bl []) false, s)]
noncomputable def bl6 (s s1 s2 s3 s4 : RS) (a b : Int) (d : ByteArray) (xs : List UInt8) (r : SReq) : Bd := { f := Tryz.f139, args := [p0], pre := [(.o 0, rdB s)], base := 1, kb := { db := dbG [(26, cRd (.str d) s3), (27, aQ3 (aC1 16 xs s4))] [(2, cRd (.int .i64 a) s1), (6, cRd (.int .i64 b) s2)] }, names := n0, k := be0 r.c [(.o 0, rdB s4)] }
noncomputable def cj2 (s s1 s2 s3 s4 : RS) (a b : Int) (d : ByteArray) (xs : List UInt8) : Bd := bl6 s s1 s2 s3 s4 a b d xs { client := a, num := b, data := d, tag := D1 xs }
noncomputable def cj1 (s s1 s2 s3 s4 : RS) (a b : Int) (d : ByteArray) (xs : List UInt8) : Bd := bl6 s s1 s2 s3 s4 a b d xs al8
noncomputable def S0 (s s0 s1 s2 s3 s4 s5 : RS) (n : Int) (r1 r2 r3 r4 : SReq) (b : SBatch) : Bd := { f := Tryz.f107, args := [p0], pre := [(.o 0, rdB s)], base := 1, kb := { db := dbG [(25, cRd (.int .i64 n) s0), (78, cRd (.int .i64 s5.e) s5)] [(17, cRd (.agg r1.c) s1), (31, cRd (.agg r2.c) s2), (45, cRd (.agg r3.c) s3), (59, cRd (.agg r4.c) s4)], lp := fun _ _ => [(True, .rounds 6)] }, names := n0, k := be0 b.c [(.o 0, rdB s5)] }
noncomputable def cf8 (s s0 : RS) (n : Int) : Bd := S0 s s0 s0 s0 s0 s0 s0 n {} {} {} {} (D3 (decide (n = 0)) [])
noncomputable def cf3 (s s0 : RS) (n : Int) : Bd := S0 s s0 s0 s0 s0 s0 s0 n {} {} {} {} {}
noncomputable def cf9 (s s0 s1 : RS) (n : Int) (r1 : SReq) : Bd := S0 s s0 s1 s1 s1 s1 s1 n r1 {} {} {} (D3 (decide (n = 0)) [r1])
noncomputable def cf4 (s s0 s1 : RS) (n : Int) (r1 : SReq) : Bd := S0 s s0 s1 s1 s1 s1 s1 n r1 {} {} {} {}
noncomputable def cf_ (s s0 s1 s2 : RS) (n : Int) (r1 r2 : SReq) : Bd := S0 s s0 s1 s2 s2 s2 s2 n r1 r2 {} {} (D3 (decide (n = 0)) [r1, r2])
noncomputable def cf5 (s s0 s1 s2 : RS) (n : Int) (r1 r2 : SReq) : Bd := S0 s s0 s1 s2 s2 s2 s2 n r1 r2 {} {} {}
noncomputable def cg0 (s s0 s1 s2 s3 : RS) (n : Int) (r1 r2 r3 : SReq) : Bd := S0 s s0 s1 s2 s3 s3 s3 n r1 r2 r3 {} (D3 (decide (n = 0)) [r1, r2, r3])
noncomputable def cf6 (s s0 s1 s2 s3 : RS) (n : Int) (r1 r2 r3 : SReq) : Bd := S0 s s0 s1 s2 s3 s3 s3 n r1 r2 r3 {} {}
noncomputable def cg1 (s s0 s1 s2 s3 s4 : RS) (n : Int) (r1 r2 r3 r4 : SReq) : Bd := S0 s s0 s1 s2 s3 s4 s4 n r1 r2 r3 r4 (D3 (decide (n = 0)) [r1, r2, r3, r4])
noncomputable def cf7 (s s0 s1 s2 s3 s4 : RS) (n : Int) (r1 r2 r3 r4 : SReq) : Bd := S0 s s0 s1 s2 s3 s4 s4 n r1 r2 r3 r4 {}
end Go.Proofs.YtnmccoincblecaaGreat
