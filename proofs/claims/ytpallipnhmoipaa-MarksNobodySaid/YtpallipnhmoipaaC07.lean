/-
  Contracts and laws that the claim's theorem leans on, joined out of the texts Na3 Nb0D Nb0 Ng0 (own work of this seat): Contracts: that the law of marks lives; marks that no call made; Contract: marks that no call made take nothing; Contract: marks that no call made take nothing; The shapes of acts on marks that are handed in.
-/
import Derived.Test.YtpallipnhmoipaaC04
import Derived.Test.YtpallipnhmoipaaC06
set_option linter.unusedVariables false
set_option linter.unusedSimpArgs false
set_option maxHeartbeats 1000000
namespace Go.Proofs.Ytpallipnhmoipaa
open Go Sy Go.Proofs
theorem bdLv3_p :
  along Try.prog (bdLv3) [] = (some (.bool true, [], [T Try.prog 29 [.int .i64 4] [] (.ptr (.o 64) 0 0 0 0) [(.o 64, .flat [.int .i64 4, .mp (.o 65)]), (.o 65, .map [] 0)], q false, q2, (0 : Int) ≤ (0 : Int) ∧ (0 : Int) < (3 : Int), nat_lit 0 < (3 : Nat), T Try.prog 31 [.ptr (.o 64) 0 0 0 0, .int .i64 3, .int .i64 1, .agg [.seg .u8 32 [(7 : Int), (0 : Int), (0 : Int), (0 : Int), (0 : Int), (0 : Int), (0 : Int), (0 : Int), (0 : Int), (0 : Int), (0 : Int), (0 : Int), (0 : Int), (0 : Int), (0 : Int), (0 : Int), (0 : Int), (0 : Int), (0 : Int), (0 : Int), (0 : Int), (0 : Int), (0 : Int), (0 : Int), (0 : Int), (0 : Int), (0 : Int), (0 : Int), (0 : Int), (0 : Int), (0 : Int), (0 : Int)]], .agg [.seg .u8 16 [(3 : Int), (0 : Int), (0 : Int), (0 : Int), (0 : Int), (0 : Int), (0 : Int), (0 : Int), (0 : Int), (0 : Int), (0 : Int), (0 : Int), (0 : Int), (0 : Int), (0 : Int), (0 : Int)]]] [(.o 64, .flat [.int .i64 4, .mp (.o 65)]), (.o 65, .map [] 0)] (.int .i64 0) [(.o 64, .flat [.int .i64 4, .mp (.o 65)]), (.o 65, .map [(0, .int .i64 3, .agg [.int .i64 1, .seg .u8 32 [(7 : Int), (0 : Int), (0 : Int), (0 : Int), (0 : Int), (0 : Int), (0 : Int), (0 : Int), (0 : Int), (0 : Int), (0 : Int), (0 : Int), (0 : Int), (0 : Int), (0 : Int), (0 : Int), (0 : Int), (0 : Int), (0 : Int), (0 : Int), (0 : Int), (0 : Int), (0 : Int), (0 : Int), (0 : Int), (0 : Int), (0 : Int), (0 : Int), (0 : Int), (0 : Int), (0 : Int), (0 : Int)], .seg .u8 16 [(3 : Int), (0 : Int), (0 : Int), (0 : Int), (0 : Int), (0 : Int), (0 : Int), (0 : Int), (0 : Int), (0 : Int), (0 : Int), (0 : Int), (0 : Int), (0 : Int), (0 : Int), (0 : Int)]])] 1)], q false, InR IntKind.i64 (1 : Int), q2, (0 : Int) ≤ (1 : Int) ∧ (1 : Int) < (3 : Int), nat_lit 1 < (3 : Nat), T Try.prog 31 [.ptr (.o 64) 0 0 0 0, .int .i64 0, .int .i64 1, .agg [.seg .u8 32 [(7 : Int), (0 : Int), (0 : Int), (0 : Int), (0 : Int), (0 : Int), (0 : Int), (0 : Int), (0 : Int), (0 : Int), (0 : Int), (0 : Int), (0 : Int), (0 : Int), (0 : Int), (0 : Int), (0 : Int), (0 : Int), (0 : Int), (0 : Int), (0 : Int), (0 : Int), (0 : Int), (0 : Int), (0 : Int), (0 : Int), (0 : Int), (0 : Int), (0 : Int), (0 : Int), (0 : Int), (0 : Int)]], .agg [.seg .u8 16 z16]] [(.o 64, .flat [.int .i64 4, .mp (.o 65)]), (.o 65, .map [(0, .int .i64 3, .agg [.int .i64 1, .seg .u8 32 [(7 : Int), (0 : Int), (0 : Int), (0 : Int), (0 : Int), (0 : Int), (0 : Int), (0 : Int), (0 : Int), (0 : Int), (0 : Int), (0 : Int), (0 : Int), (0 : Int), (0 : Int), (0 : Int), (0 : Int), (0 : Int), (0 : Int), (0 : Int), (0 : Int), (0 : Int), (0 : Int), (0 : Int), (0 : Int), (0 : Int), (0 : Int), (0 : Int), (0 : Int), (0 : Int), (0 : Int), (0 : Int)], .seg .u8 16 [(3 : Int), (0 : Int), (0 : Int), (0 : Int), (0 : Int), (0 : Int), (0 : Int), (0 : Int), (0 : Int), (0 : Int), (0 : Int), (0 : Int), (0 : Int), (0 : Int), (0 : Int), (0 : Int)]])] 1)] (.int .i64 0) [(.o 64, .flat [.int .i64 4, .mp (.o 65)]), (.o 65, .map [(0, .int .i64 3, .agg [.int .i64 1, .seg .u8 32 [(7 : Int), (0 : Int), (0 : Int), (0 : Int), (0 : Int), (0 : Int), (0 : Int), (0 : Int), (0 : Int), (0 : Int), (0 : Int), (0 : Int), (0 : Int), (0 : Int), (0 : Int), (0 : Int), (0 : Int), (0 : Int), (0 : Int), (0 : Int), (0 : Int), (0 : Int), (0 : Int), (0 : Int), (0 : Int), (0 : Int), (0 : Int), (0 : Int), (0 : Int), (0 : Int), (0 : Int), (0 : Int)], .seg .u8 16 [(3 : Int), (0 : Int), (0 : Int), (0 : Int), (0 : Int), (0 : Int), (0 : Int), (0 : Int), (0 : Int), (0 : Int), (0 : Int), (0 : Int), (0 : Int), (0 : Int), (0 : Int), (0 : Int)]]), (nat_lit 1, .int .i64 0, .agg [.int .i64 1, .seg .u8 32 [(7 : Int), (0 : Int), (0 : Int), (0 : Int), (0 : Int), (0 : Int), (0 : Int), (0 : Int), (0 : Int), (0 : Int), (0 : Int), (0 : Int), (0 : Int), (0 : Int), (0 : Int), (0 : Int), (0 : Int), (0 : Int), (0 : Int), (0 : Int), (0 : Int), (0 : Int), (0 : Int), (0 : Int), (0 : Int), (0 : Int), (0 : Int), (0 : Int), (0 : Int), (0 : Int), (0 : Int), (0 : Int)], .seg .u8 16 z16])] 2)], q false, InR IntKind.i64 (2 : Int), q2, (0 : Int) ≤ (2 : Int) ∧ (2 : Int) < (3 : Int), nat_lit 2 < (3 : Nat), T Try.prog 31 [.ptr (.o 64) 0 0 0 0, .int .i64 1, .int .i64 1, .agg [.seg .u8 32 [(7 : Int), (0 : Int), (0 : Int), (0 : Int), (0 : Int), (0 : Int), (0 : Int), (0 : Int), (0 : Int), (0 : Int), (0 : Int), (0 : Int), (0 : Int), (0 : Int), (0 : Int), (0 : Int), (0 : Int), (0 : Int), (0 : Int), (0 : Int), (0 : Int), (0 : Int), (0 : Int), (0 : Int), (0 : Int), (0 : Int), (0 : Int), (0 : Int), (0 : Int), (0 : Int), (0 : Int), (0 : Int)]], .agg [.seg .u8 16 [(1 : Int), (0 : Int), (0 : Int), (0 : Int), (0 : Int), (0 : Int), (0 : Int), (0 : Int), (0 : Int), (0 : Int), (0 : Int), (0 : Int), (0 : Int), (0 : Int), (0 : Int), (0 : Int)]]] [(.o 64, .flat [.int .i64 4, .mp (.o 65)]), (.o 65, .map [(0, .int .i64 3, .agg [.int .i64 1, .seg .u8 32 [(7 : Int), (0 : Int), (0 : Int), (0 : Int), (0 : Int), (0 : Int), (0 : Int), (0 : Int), (0 : Int), (0 : Int), (0 : Int), (0 : Int), (0 : Int), (0 : Int), (0 : Int), (0 : Int), (0 : Int), (0 : Int), (0 : Int), (0 : Int), (0 : Int), (0 : Int), (0 : Int), (0 : Int), (0 : Int), (0 : Int), (0 : Int), (0 : Int), (0 : Int), (0 : Int), (0 : Int), (0 : Int)], .seg .u8 16 [(3 : Int), (0 : Int), (0 : Int), (0 : Int), (0 : Int), (0 : Int), (0 : Int), (0 : Int), (0 : Int), (0 : Int), (0 : Int), (0 : Int), (0 : Int), (0 : Int), (0 : Int), (0 : Int)]]), (nat_lit 1, .int .i64 0, .agg [.int .i64 1, .seg .u8 32 [(7 : Int), (0 : Int), (0 : Int), (0 : Int), (0 : Int), (0 : Int), (0 : Int), (0 : Int), (0 : Int), (0 : Int), (0 : Int), (0 : Int), (0 : Int), (0 : Int), (0 : Int), (0 : Int), (0 : Int), (0 : Int), (0 : Int), (0 : Int), (0 : Int), (0 : Int), (0 : Int), (0 : Int), (0 : Int), (0 : Int), (0 : Int), (0 : Int), (0 : Int), (0 : Int), (0 : Int), (0 : Int)], .seg .u8 16 z16])] 2)] (.int .i64 0) [(.o 64, .flat [.int .i64 4, .mp (.o 65)]), (.o 65, .map [(0, .int .i64 3, .agg [.int .i64 1, .seg .u8 32 [(7 : Int), (0 : Int), (0 : Int), (0 : Int), (0 : Int), (0 : Int), (0 : Int), (0 : Int), (0 : Int), (0 : Int), (0 : Int), (0 : Int), (0 : Int), (0 : Int), (0 : Int), (0 : Int), (0 : Int), (0 : Int), (0 : Int), (0 : Int), (0 : Int), (0 : Int), (0 : Int), (0 : Int), (0 : Int), (0 : Int), (0 : Int), (0 : Int), (0 : Int), (0 : Int), (0 : Int), (0 : Int)], .seg .u8 16 [(3 : Int), (0 : Int), (0 : Int), (0 : Int), (0 : Int), (0 : Int), (0 : Int), (0 : Int), (0 : Int), (0 : Int), (0 : Int), (0 : Int), (0 : Int), (0 : Int), (0 : Int), (0 : Int)]]), (nat_lit 1, .int .i64 0, .agg [.int .i64 1, .seg .u8 32 [(7 : Int), (0 : Int), (0 : Int), (0 : Int), (0 : Int), (0 : Int), (0 : Int), (0 : Int), (0 : Int), (0 : Int), (0 : Int), (0 : Int), (0 : Int), (0 : Int), (0 : Int), (0 : Int), (0 : Int), (0 : Int), (0 : Int), (0 : Int), (0 : Int), (0 : Int), (0 : Int), (0 : Int), (0 : Int), (0 : Int), (0 : Int), (0 : Int), (0 : Int), (0 : Int), (0 : Int), (0 : Int)], .seg .u8 16 z16]), (nat_lit 2, .int .i64 1, .agg [.int .i64 1, .seg .u8 32 [(7 : Int), (0 : Int), (0 : Int), (0 : Int), (0 : Int), (0 : Int), (0 : Int), (0 : Int), (0 : Int), (0 : Int), (0 : Int), (0 : Int), (0 : Int), (0 : Int), (0 : Int), (0 : Int), (0 : Int), (0 : Int), (0 : Int), (0 : Int), (0 : Int), (0 : Int), (0 : Int), (0 : Int), (0 : Int), (0 : Int), (0 : Int), (0 : Int), (0 : Int), (0 : Int), (0 : Int), (0 : Int)], .seg .u8 16 [(1 : Int), (0 : Int), (0 : Int), (0 : Int), (0 : Int), (0 : Int), (0 : Int), (0 : Int), (0 : Int), (0 : Int), (0 : Int), (0 : Int), (0 : Int), (0 : Int), (0 : Int), (0 : Int)]])] 3)], q false, InR IntKind.i64 (3 : Int), q false, T Try.prog 32 [.ptr (.o 64) 0 0 0 0, .int .i64 1, .agg [.seg .u8 32 [(7 : Int), (0 : Int), (0 : Int), (0 : Int), (0 : Int), (0 : Int), (0 : Int), (0 : Int), (0 : Int), (0 : Int), (0 : Int), (0 : Int), (0 : Int), (0 : Int), (0 : Int), (0 : Int), (0 : Int), (0 : Int), (0 : Int), (0 : Int), (0 : Int), (0 : Int), (0 : Int), (0 : Int), (0 : Int), (0 : Int), (0 : Int), (0 : Int), (0 : Int), (0 : Int), (0 : Int), (0 : Int)]], .int .i64 3] [(.o 64, .flat [.int .i64 4, .mp (.o 65)]), (.o 65, .map [(0, .int .i64 3, .agg [.int .i64 1, .seg .u8 32 [(7 : Int), (0 : Int), (0 : Int), (0 : Int), (0 : Int), (0 : Int), (0 : Int), (0 : Int), (0 : Int), (0 : Int), (0 : Int), (0 : Int), (0 : Int), (0 : Int), (0 : Int), (0 : Int), (0 : Int), (0 : Int), (0 : Int), (0 : Int), (0 : Int), (0 : Int), (0 : Int), (0 : Int), (0 : Int), (0 : Int), (0 : Int), (0 : Int), (0 : Int), (0 : Int), (0 : Int), (0 : Int)], .seg .u8 16 [(3 : Int), (0 : Int), (0 : Int), (0 : Int), (0 : Int), (0 : Int), (0 : Int), (0 : Int), (0 : Int), (0 : Int), (0 : Int), (0 : Int), (0 : Int), (0 : Int), (0 : Int), (0 : Int)]]), (nat_lit 1, .int .i64 0, .agg [.int .i64 1, .seg .u8 32 [(7 : Int), (0 : Int), (0 : Int), (0 : Int), (0 : Int), (0 : Int), (0 : Int), (0 : Int), (0 : Int), (0 : Int), (0 : Int), (0 : Int), (0 : Int), (0 : Int), (0 : Int), (0 : Int), (0 : Int), (0 : Int), (0 : Int), (0 : Int), (0 : Int), (0 : Int), (0 : Int), (0 : Int), (0 : Int), (0 : Int), (0 : Int), (0 : Int), (0 : Int), (0 : Int), (0 : Int), (0 : Int)], .seg .u8 16 z16]), (nat_lit 2, .int .i64 1, .agg [.int .i64 1, .seg .u8 32 [(7 : Int), (0 : Int), (0 : Int), (0 : Int), (0 : Int), (0 : Int), (0 : Int), (0 : Int), (0 : Int), (0 : Int), (0 : Int), (0 : Int), (0 : Int), (0 : Int), (0 : Int), (0 : Int), (0 : Int), (0 : Int), (0 : Int), (0 : Int), (0 : Int), (0 : Int), (0 : Int), (0 : Int), (0 : Int), (0 : Int), (0 : Int), (0 : Int), (0 : Int), (0 : Int), (0 : Int), (0 : Int)], .seg .u8 16 [(1 : Int), (0 : Int), (0 : Int), (0 : Int), (0 : Int), (0 : Int), (0 : Int), (0 : Int), (0 : Int), (0 : Int), (0 : Int), (0 : Int), (0 : Int), (0 : Int), (0 : Int), (0 : Int)]])] 3)] (.sl (.o 3392) 17 0 0 0 3 none) [(.o 64, .flat [.int .i64 4, .mp (.o 65)]), (.o 65, .map [(0, .int .i64 3, .agg [.int .i64 1, .seg .u8 32 [(7 : Int), (0 : Int), (0 : Int), (0 : Int), (0 : Int), (0 : Int), (0 : Int), (0 : Int), (0 : Int), (0 : Int), (0 : Int), (0 : Int), (0 : Int), (0 : Int), (0 : Int), (0 : Int), (0 : Int), (0 : Int), (0 : Int), (0 : Int), (0 : Int), (0 : Int), (0 : Int), (0 : Int), (0 : Int), (0 : Int), (0 : Int), (0 : Int), (0 : Int), (0 : Int), (0 : Int), (0 : Int)], .seg .u8 16 [(3 : Int), (0 : Int), (0 : Int), (0 : Int), (0 : Int), (0 : Int), (0 : Int), (0 : Int), (0 : Int), (0 : Int), (0 : Int), (0 : Int), (0 : Int), (0 : Int), (0 : Int), (0 : Int)]]), (nat_lit 1, .int .i64 0, .agg [.int .i64 1, .seg .u8 32 [(7 : Int), (0 : Int), (0 : Int), (0 : Int), (0 : Int), (0 : Int), (0 : Int), (0 : Int), (0 : Int), (0 : Int), (0 : Int), (0 : Int), (0 : Int), (0 : Int), (0 : Int), (0 : Int), (0 : Int), (0 : Int), (0 : Int), (0 : Int), (0 : Int), (0 : Int), (0 : Int), (0 : Int), (0 : Int), (0 : Int), (0 : Int), (0 : Int), (0 : Int), (0 : Int), (0 : Int), (0 : Int)], .seg .u8 16 z16]), (nat_lit 2, .int .i64 1, .agg [.int .i64 1, .seg .u8 32 [(7 : Int), (0 : Int), (0 : Int), (0 : Int), (0 : Int), (0 : Int), (0 : Int), (0 : Int), (0 : Int), (0 : Int), (0 : Int), (0 : Int), (0 : Int), (0 : Int), (0 : Int), (0 : Int), (0 : Int), (0 : Int), (0 : Int), (0 : Int), (0 : Int), (0 : Int), (0 : Int), (0 : Int), (0 : Int), (0 : Int), (0 : Int), (0 : Int), (0 : Int), (0 : Int), (0 : Int), (0 : Int)], .seg .u8 16 [(1 : Int), (0 : Int), (0 : Int), (0 : Int), (0 : Int), (0 : Int), (0 : Int), (0 : Int), (0 : Int), (0 : Int), (0 : Int), (0 : Int), (0 : Int), (0 : Int), (0 : Int), (0 : Int)]])] 3), (.o 3392, .rows 17 3 (gn (siF [SSign.mk (0 : Int) z16, SSign.mk (1 : Int) [(1 : Int), (0 : Int), (0 : Int), (0 : Int), (0 : Int), (0 : Int), (0 : Int), (0 : Int), (0 : Int), (0 : Int), (0 : Int), (0 : Int), (0 : Int), (0 : Int), (0 : Int), (0 : Int)], SSign.mk (3 : Int) [(3 : Int), (0 : Int), (0 : Int), (0 : Int), (0 : Int), (0 : Int), (0 : Int), (0 : Int), (0 : Int), (0 : Int), (0 : Int), (0 : Int), (0 : Int), (0 : Int), (0 : Int), (0 : Int)]])) true)], q2, (0 : Int) ≤ (2 : Int) ∧ (2 : Int) < (3 : Int), nat_lit 2 < nat_lit 3, q2, T Try.prog 35 [.ptr (.o 64) 0 0 0 0, .int .i64 3] [(.o 64, .flat [.int .i64 4, .mp (.o 65)]), (.o 65, .map [(0, .int .i64 3, .agg [.int .i64 1, .seg .u8 32 [(7 : Int), (0 : Int), (0 : Int), (0 : Int), (0 : Int), (0 : Int), (0 : Int), (0 : Int), (0 : Int), (0 : Int), (0 : Int), (0 : Int), (0 : Int), (0 : Int), (0 : Int), (0 : Int), (0 : Int), (0 : Int), (0 : Int), (0 : Int), (0 : Int), (0 : Int), (0 : Int), (0 : Int), (0 : Int), (0 : Int), (0 : Int), (0 : Int), (0 : Int), (0 : Int), (0 : Int), (0 : Int)], .seg .u8 16 [(3 : Int), (0 : Int), (0 : Int), (0 : Int), (0 : Int), (0 : Int), (0 : Int), (0 : Int), (0 : Int), (0 : Int), (0 : Int), (0 : Int), (0 : Int), (0 : Int), (0 : Int), (0 : Int)]]), (nat_lit 1, .int .i64 0, .agg [.int .i64 1, .seg .u8 32 [(7 : Int), (0 : Int), (0 : Int), (0 : Int), (0 : Int), (0 : Int), (0 : Int), (0 : Int), (0 : Int), (0 : Int), (0 : Int), (0 : Int), (0 : Int), (0 : Int), (0 : Int), (0 : Int), (0 : Int), (0 : Int), (0 : Int), (0 : Int), (0 : Int), (0 : Int), (0 : Int), (0 : Int), (0 : Int), (0 : Int), (0 : Int), (0 : Int), (0 : Int), (0 : Int), (0 : Int), (0 : Int)], .seg .u8 16 z16]), (nat_lit 2, .int .i64 1, .agg [.int .i64 1, .seg .u8 32 [(7 : Int), (0 : Int), (0 : Int), (0 : Int), (0 : Int), (0 : Int), (0 : Int), (0 : Int), (0 : Int), (0 : Int), (0 : Int), (0 : Int), (0 : Int), (0 : Int), (0 : Int), (0 : Int), (0 : Int), (0 : Int), (0 : Int), (0 : Int), (0 : Int), (0 : Int), (0 : Int), (0 : Int), (0 : Int), (0 : Int), (0 : Int), (0 : Int), (0 : Int), (0 : Int), (0 : Int), (0 : Int)], .seg .u8 16 [(1 : Int), (0 : Int), (0 : Int), (0 : Int), (0 : Int), (0 : Int), (0 : Int), (0 : Int), (0 : Int), (0 : Int), (0 : Int), (0 : Int), (0 : Int), (0 : Int), (0 : Int), (0 : Int)]])] 3)] (.int .i64 1) [(.o 64, .flat [.int .i64 4, .mp (.o 65)]), (.o 65, .map [(0, .int .i64 3, .agg [.int .i64 1, .seg .u8 32 [(7 : Int), (0 : Int), (0 : Int), (0 : Int), (0 : Int), (0 : Int), (0 : Int), (0 : Int), (0 : Int), (0 : Int), (0 : Int), (0 : Int), (0 : Int), (0 : Int), (0 : Int), (0 : Int), (0 : Int), (0 : Int), (0 : Int), (0 : Int), (0 : Int), (0 : Int), (0 : Int), (0 : Int), (0 : Int), (0 : Int), (0 : Int), (0 : Int), (0 : Int), (0 : Int), (0 : Int), (0 : Int)], .seg .u8 16 [(3 : Int), (0 : Int), (0 : Int), (0 : Int), (0 : Int), (0 : Int), (0 : Int), (0 : Int), (0 : Int), (0 : Int), (0 : Int), (0 : Int), (0 : Int), (0 : Int), (0 : Int), (0 : Int)]]), (nat_lit 1, .int .i64 0, .agg [.int .i64 1, .seg .u8 32 [(7 : Int), (0 : Int), (0 : Int), (0 : Int), (0 : Int), (0 : Int), (0 : Int), (0 : Int), (0 : Int), (0 : Int), (0 : Int), (0 : Int), (0 : Int), (0 : Int), (0 : Int), (0 : Int), (0 : Int), (0 : Int), (0 : Int), (0 : Int), (0 : Int), (0 : Int), (0 : Int), (0 : Int), (0 : Int), (0 : Int), (0 : Int), (0 : Int), (0 : Int), (0 : Int), (0 : Int), (0 : Int)], .seg .u8 16 z16]), (nat_lit 2, .int .i64 1, .agg [.int .i64 1, .seg .u8 32 [(7 : Int), (0 : Int), (0 : Int), (0 : Int), (0 : Int), (0 : Int), (0 : Int), (0 : Int), (0 : Int), (0 : Int), (0 : Int), (0 : Int), (0 : Int), (0 : Int), (0 : Int), (0 : Int), (0 : Int), (0 : Int), (0 : Int), (0 : Int), (0 : Int), (0 : Int), (0 : Int), (0 : Int), (0 : Int), (0 : Int), (0 : Int), (0 : Int), (0 : Int), (0 : Int), (0 : Int), (0 : Int)], .seg .u8 16 [(1 : Int), (0 : Int), (0 : Int), (0 : Int), (0 : Int), (0 : Int), (0 : Int), (0 : Int), (0 : Int), (0 : Int), (0 : Int), (0 : Int), (0 : Int), (0 : Int), (0 : Int), (0 : Int)]])] 3)], q2, T Try.prog 35 [.ptr (.o 64) 0 0 0 0, .int .i64 4] [(.o 64, .flat [.int .i64 4, .mp (.o 65)]), (.o 65, .map [(0, .int .i64 3, .agg [.int .i64 1, .seg .u8 32 [(7 : Int), (0 : Int), (0 : Int), (0 : Int), (0 : Int), (0 : Int), (0 : Int), (0 : Int), (0 : Int), (0 : Int), (0 : Int), (0 : Int), (0 : Int), (0 : Int), (0 : Int), (0 : Int), (0 : Int), (0 : Int), (0 : Int), (0 : Int), (0 : Int), (0 : Int), (0 : Int), (0 : Int), (0 : Int), (0 : Int), (0 : Int), (0 : Int), (0 : Int), (0 : Int), (0 : Int), (0 : Int)], .seg .u8 16 [(3 : Int), (0 : Int), (0 : Int), (0 : Int), (0 : Int), (0 : Int), (0 : Int), (0 : Int), (0 : Int), (0 : Int), (0 : Int), (0 : Int), (0 : Int), (0 : Int), (0 : Int), (0 : Int)]]), (nat_lit 1, .int .i64 0, .agg [.int .i64 1, .seg .u8 32 [(7 : Int), (0 : Int), (0 : Int), (0 : Int), (0 : Int), (0 : Int), (0 : Int), (0 : Int), (0 : Int), (0 : Int), (0 : Int), (0 : Int), (0 : Int), (0 : Int), (0 : Int), (0 : Int), (0 : Int), (0 : Int), (0 : Int), (0 : Int), (0 : Int), (0 : Int), (0 : Int), (0 : Int), (0 : Int), (0 : Int), (0 : Int), (0 : Int), (0 : Int), (0 : Int), (0 : Int), (0 : Int)], .seg .u8 16 z16]), (nat_lit 2, .int .i64 1, .agg [.int .i64 1, .seg .u8 32 [(7 : Int), (0 : Int), (0 : Int), (0 : Int), (0 : Int), (0 : Int), (0 : Int), (0 : Int), (0 : Int), (0 : Int), (0 : Int), (0 : Int), (0 : Int), (0 : Int), (0 : Int), (0 : Int), (0 : Int), (0 : Int), (0 : Int), (0 : Int), (0 : Int), (0 : Int), (0 : Int), (0 : Int), (0 : Int), (0 : Int), (0 : Int), (0 : Int), (0 : Int), (0 : Int), (0 : Int), (0 : Int)], .seg .u8 16 [(1 : Int), (0 : Int), (0 : Int), (0 : Int), (0 : Int), (0 : Int), (0 : Int), (0 : Int), (0 : Int), (0 : Int), (0 : Int), (0 : Int), (0 : Int), (0 : Int), (0 : Int), (0 : Int)]])] 3)] (.int .i64 0) [(.o 64, .flat [.int .i64 4, .mp (.o 65)]), (.o 65, .map [(0, .int .i64 3, .agg [.int .i64 1, .seg .u8 32 [(7 : Int), (0 : Int), (0 : Int), (0 : Int), (0 : Int), (0 : Int), (0 : Int), (0 : Int), (0 : Int), (0 : Int), (0 : Int), (0 : Int), (0 : Int), (0 : Int), (0 : Int), (0 : Int), (0 : Int), (0 : Int), (0 : Int), (0 : Int), (0 : Int), (0 : Int), (0 : Int), (0 : Int), (0 : Int), (0 : Int), (0 : Int), (0 : Int), (0 : Int), (0 : Int), (0 : Int), (0 : Int)], .seg .u8 16 [(3 : Int), (0 : Int), (0 : Int), (0 : Int), (0 : Int), (0 : Int), (0 : Int), (0 : Int), (0 : Int), (0 : Int), (0 : Int), (0 : Int), (0 : Int), (0 : Int), (0 : Int), (0 : Int)]]), (nat_lit 1, .int .i64 0, .agg [.int .i64 1, .seg .u8 32 [(7 : Int), (0 : Int), (0 : Int), (0 : Int), (0 : Int), (0 : Int), (0 : Int), (0 : Int), (0 : Int), (0 : Int), (0 : Int), (0 : Int), (0 : Int), (0 : Int), (0 : Int), (0 : Int), (0 : Int), (0 : Int), (0 : Int), (0 : Int), (0 : Int), (0 : Int), (0 : Int), (0 : Int), (0 : Int), (0 : Int), (0 : Int), (0 : Int), (0 : Int), (0 : Int), (0 : Int), (0 : Int)], .seg .u8 16 z16]), (nat_lit 2, .int .i64 1, .agg [.int .i64 1, .seg .u8 32 [(7 : Int), (0 : Int), (0 : Int), (0 : Int), (0 : Int), (0 : Int), (0 : Int), (0 : Int), (0 : Int), (0 : Int), (0 : Int), (0 : Int), (0 : Int), (0 : Int), (0 : Int), (0 : Int), (0 : Int), (0 : Int), (0 : Int), (0 : Int), (0 : Int), (0 : Int), (0 : Int), (0 : Int), (0 : Int), (0 : Int), (0 : Int), (0 : Int), (0 : Int), (0 : Int), (0 : Int), (0 : Int)], .seg .u8 16 [(1 : Int), (0 : Int), (0 : Int), (0 : Int), (0 : Int), (0 : Int), (0 : Int), (0 : Int), (0 : Int), (0 : Int), (0 : Int), (0 : Int), (0 : Int), (0 : Int), (0 : Int), (0 : Int)]])] 3)]]) : Option (V × Heap × List Prop)) := by kernel_rfl

theorem T_nwA {n : Int} (h : goodN n = true) {m q : Nat} (hmq : m ≠ q) : T Try.prog 29 [.int .i64 n] [] (mP m) (mH m q n []) := by
 obtain ⟨σ, hσ, h1⟩ := T.at (T_nw h) [.o 448, .o 320] [.o m, .o q] (by decide) (by simp [hmq]) rfl
 simp only [List.map_cons, List.map_nil, List.cons.injEq, and_true] at hσ
 simpa [V.rens, V.ren, Heap.ren, B.ren, mP, mH, mB, mpB, dgV, tgV, sgL, sgs, sbL, sgB, hσ.1, hσ.2] using h1
theorem T_amA (n : Int) (l : List (Int × MK)) (k e : Int) (d t : List Int) {m q : Nat} (hmq : m ≠ q) : T Try.prog 31 [mP m, .int .i64 k, .int .i64 e, dgV d, tgV t] (mH m q n l) (.int .i64 (addM n l k e d t).1) (mH m q n (addM n l k e d t).2) := by
 obtain ⟨σ, hσ, h1⟩ := T.at (T_am n l k e d t) [.o 0, .o 1] [.o m, .o q] (by decide) (by simp [hmq]) rfl
 simp only [List.map_cons, List.map_nil, List.cons.injEq, and_true] at hσ
 simpa [V.rens, V.ren, Heap.ren, B.ren, mP, mH, mB, mpB, dgV, tgV, sgL, sgs, sbL, sgB, hσ.1, hσ.2] using h1
theorem T_ofA (n : Int) (l : List (Int × MK)) (k : Int) {m q : Nat} (hmq : m ≠ q) : T Try.prog 38 [mP m, .int .i64 k] (mH m q n l) (.tup [.int .i64 (ofM l k).1, dgV (ofM l k).2.1]) (mH m q n l) := by
 obtain ⟨σ, hσ, h1⟩ := T.at (T_of n l k) [.o 0, .o 1] [.o m, .o q] (by decide) (by simp [hmq]) rfl
 simp only [List.map_cons, List.map_nil, List.cons.injEq, and_true] at hσ
 simpa [V.rens, V.ren, Heap.ren, B.ren, mP, mH, mB, mpB, dgV, tgV, sgL, sgs, sbL, sgB, hσ.1, hσ.2] using h1
theorem T_laA {N : Nat} (hN : N ≤ 64) {l : List (Int × MK)} (ho : okM N l) (need : Int) {m q : Nat} (hmq : m ≠ q) : T Try.prog 35 [mP m, .int .i64 need] (mH m q N l) (.int .i64 (nthV (epM N l) need)) (mH m q N l) := by
 obtain ⟨σ, hσ, h1⟩ := T.at (T_la hN ho need) [.o 0, .o 1] [.o m, .o q] (by decide) (by simp [hmq]) rfl
 simp only [List.map_cons, List.map_nil, List.cons.injEq, and_true] at hσ
 simpa [V.rens, V.ren, Heap.ren, B.ren, mP, mH, mB, mpB, dgV, tgV, sgL, sgs, sbL, sgB, hσ.1, hσ.2] using h1
theorem T_sgNA {n : Nat} (hn : n ≤ 64) {l : List (Int × MK)} {e : Int} {d : List Int} {need : Int} (h : sgsM n l e d need = false) {m q : Nat} (hmq : m ≠ q) : T Try.prog 32 [mP m, .int .i64 e, dgV d, .int .i64 need] (mH m q n l) .snil (mH m q n l) := by
 obtain ⟨σ, hσ, h1⟩ := T.at (T_sgN hn h) [.o 0, .o 1] [.o m, .o q] (by decide) (by simp [hmq]) rfl
 simp only [List.map_cons, List.map_nil, List.cons.injEq, and_true] at hσ
 simpa [V.rens, V.ren, Heap.ren, B.ren, mP, mH, mB, mpB, dgV, tgV, sgL, sgs, sbL, sgB, hσ.1, hσ.2] using h1
theorem T_sgYA {n : Nat} (hn : n ≤ 64) {l : List (Int × MK)} {e : Int} {d : List Int} {need : Int} (h : sgsM n l e d need = true) {m q a : Nat} (hmq : [Nm.o m, Nm.o q, Nm.o a].Nodup) : T Try.prog 32 [mP m, .int .i64 e, dgV d, .int .i64 need] (mH m q n l) (sgL a (selS l e d need n)) (mH m q n l ++ [(.o a, sbL (selS l e d need n))]) := by
 obtain ⟨σ, hσ, h1⟩ := T.at (T_sgY hn h) [.o 0, .o 1, .o 770] [.o m, .o q, .o a] (by decide) hmq rfl
 simp only [List.map_cons, List.map_nil, List.cons.injEq, and_true] at hσ
 simpa [V.rens, V.ren, Heap.ren, B.ren, mP, mH, mB, mpB, dgV, tgV, sgL, sgs, sbL, sgB, hσ.1, hσ.2.1, hσ.2.2] using h1
theorem T_lv3 : T Try.prog 30 [] [] (.bool true) [] := by
 have h0 := T_nwA (n := 4) (by decide) (m := 64) (q := 65) (by decide)
 have h1 := T_amA 4 [] 3 1 d7 (tgN 3) (m := 64) (q := 65) (by decide)
 have h2 := T_amA 4 (lvM 3) 0 1 d7 (tgN 0) (m := 64) (q := 65) (by decide)
 have h3 := T_amA 4 (lvM 0) 1 1 d7 (tgN 1) (m := 64) (q := 65) (by decide)
 rw [show addM 4 [] 3 1 d7 (tgN 3) = (0, lvM 3) by rfl] at h1
 rw [show addM 4 (lvM 3) 0 1 d7 (tgN 0) = (0, lvM 0) by rfl] at h2
 rw [show addM 4 (lvM 0) 1 1 d7 (tgN 1) = (0, lvM 1) by rfl] at h3
 have h4 := T_sgYA (n := 4) (by decide) (l := lvM 1) (e := 1) (d := d7) (need := 3) (by rfl) (m := 64) (q := 65) (a := 3392) (by decide)
 rw [show selS (lvM 1) 1 d7 3 4 = lvS by rfl] at h4
 have hok : okM 4 (lvM 1) := by
  constructor
  ·decide
  ·intro p hp
   simp [lvM] at hp
   rcases hp with rfl | rfl | rfl <;> decide
 have h5 := T_laA (N := 4) (by decide) hok 3 (m := 64) (q := 65) (by decide)
 have h6 := T_laA (N := 4) (by decide) hok 4 (m := 64) (q := 65) (by decide)
 rw [show epM 4 (lvM 1) = [1, 1, 0, 1] by rfl] at h5 h6
 rw [show nthV [1, 1, 0, 1] 3 = 1 from (nth_found (by decide)).symm] at h5
 rw [show nthV [1, 1, 0, 1] 4 = 0 from (nth_found (by decide)).symm] at h6
 refine T_al bdLv3_p Try.func30 ?_
 simp only [All]; and_intros
 all_goals first
  | exact True.intro
  | exact h0
  | exact h1
  | exact h2
  | exact h3
  | exact h4
  | exact h5
  | exact h6
  | rfl
  | (with_reducible assumption)
  | (rw [decide_eq_true_eq]; omega)
  | (rw [decide_eq_false_iff_not]; omega)
  | with_reducible rfl
  | (intro _ _; exact True.intro)
  | (intro _ _; with_reducible rfl)
  | (intro _ _; rfl)
  | (simp only [IntKind.min, IntKind.max, IntKind.signed, IntKind.bits, if_true]; omega)
  | omega
  | (intro h; exact h)
  | exact .inl rfl
  | (simp; done)
end Go.Proofs.Ytpallipnhmoipaa
namespace Go.Proofs.Ytpallipnhmoipaa
open Go Sy Go.Proofs
/-- An Add's arguments. -/
structure SAct where
 node : Int := 0
 epoch : Int := 0
 d : List Int := []
 tag : List Int := []
def SAct.c (a : SAct) : List V := [.int .i64 a.node, .int .i64 a.epoch, .seg .u8 32 a.d, .seg .u8 16 a.tag]
def z32 : List Int := List.replicate 32 0
noncomputable def nbDb (b : Bool) : Nat → List V → Heap → Nat → List Cl := dbQ [
 (38, fun a _ _ => match a with | [.ptr m _ _ _ _, _] => [{ rd := [m], val := .tup [.int .i64 0, dgV z32] }] | _ => [{ val := .tup [.int .i64 0, dgV z32] }]),
 (31, fun a _ _ => match a with | [.ptr m _ _ _ _, _, _, _, _] => [{ rd := [m], val := .int .i64 1 }] | _ => [{ val := .int .i64 1 }]),
 (32, fun a _ _ => match a with | [.ptr m _ _ _ _, _, _, _] => [{ rd := [m], val := .snil }] | _ => [{ val := .snil }]),
 (35, fun a _ _ => match a with | [.ptr m _ _ _ _, _] => [{ rd := [m], val := .int .i64 0 }] | _ => [{ val := .int .i64 0 }]),
 (30, cVal (.bool b))]
noncomputable def bdNb (a : SAct) : Bd := { f := Try.f9, args := [.agg a.c], kb := { db := nbDb true, lp := fun _ _ => [(True, .rounds 3)], lit := true } }
end Go.Proofs.Ytpallipnhmoipaa
namespace Go.Proofs.Ytpallipnhmoipaa
open Go Sy Go.Proofs
theorem bdNb_p (a : SAct) :
  along Try.prog (bdNb a) [] = (some (.bool true, [], [q2, (0 : Int) ≤ (0 : Int) ∧ (0 : Int) < (2 : Int), T Try.prog 38 [.pnil, .int .i64 (SAct.node a)] [] (.tup [.int .i64 0, .agg [.seg .u8 32 z32]]) [], T Try.prog 31 [.pnil, .int .i64 (SAct.node a), .int .i64 (SAct.epoch a), .agg [.seg .u8 32 (SAct.d a)], .agg [.seg .u8 16 (SAct.tag a)]] [] (.int .i64 1) [], q false, q false, q false, T Try.prog 32 [.pnil, .int .i64 (SAct.epoch a), .agg [.seg .u8 32 (SAct.d a)], .int .i64 1] [] .snil [], q false, T Try.prog 35 [.pnil, .int .i64 1] [] (.int .i64 0) [], q false, InR IntKind.i64 (1 : Int), q2, (0 : Int) ≤ (1 : Int) ∧ (1 : Int) < (2 : Int), T Try.prog 38 [.ptr (.o 192) 0 0 0 0, .int .i64 (SAct.node a)] [(.o 192, .flat [.int .i64 0, V.mpnil])] (.tup [.int .i64 0, .agg [.seg .u8 32 z32]]) [(.o 192, .flat [.int .i64 0, V.mpnil])], T Try.prog 31 [.ptr (.o 192) 0 0 0 0, .int .i64 (SAct.node a), .int .i64 (SAct.epoch a), .agg [.seg .u8 32 (SAct.d a)], .agg [.seg .u8 16 (SAct.tag a)]] [(.o 192, .flat [.int .i64 0, V.mpnil])] (.int .i64 1) [(.o 192, .flat [.int .i64 0, V.mpnil])], q false, q false, q false, T Try.prog 32 [.ptr (.o 192) 0 0 0 0, .int .i64 (SAct.epoch a), .agg [.seg .u8 32 (SAct.d a)], .int .i64 1] [(.o 192, .flat [.int .i64 0, V.mpnil])] .snil [(.o 192, .flat [.int .i64 0, V.mpnil])], q false, T Try.prog 35 [.ptr (.o 192) 0 0 0 0, .int .i64 1] [(.o 192, .flat [.int .i64 0, V.mpnil])] (.int .i64 0) [(.o 192, .flat [.int .i64 0, V.mpnil])], q false, InR IntKind.i64 (2 : Int), q false, T Try.prog 30 [] [] (.bool true) []]) : Option (V × Heap × List Prop)) := by kernel_rfl

theorem T_of1A (n k : Int) (m : Nat) : T Try.prog 38 [mP m, .int .i64 k] [(.o m, .flat [.int .i64 n, .mpnil])] (.tup [.int .i64 0, dgV (List.replicate 32 0)]) [(.o m, .flat [.int .i64 n, .mpnil])] := by
 obtain ⟨σ, hσ, h1⟩ := T.at (T_of1 n k) [.o 0] [.o m] (by decide) (by simp) rfl
 simp only [List.map_cons, List.map_nil, List.cons.injEq, and_true] at hσ
 simpa [V.rens, V.ren, Heap.ren, B.ren, mP, dgV, hσ] using h1
theorem T_am1A (n k e : Int) (d t : List Int) (m : Nat) : T Try.prog 31 [mP m, .int .i64 k, .int .i64 e, dgV d, tgV t] [(.o m, .flat [.int .i64 n, .mpnil])] (.int .i64 1) [(.o m, .flat [.int .i64 n, .mpnil])] := by
 obtain ⟨σ, hσ, h1⟩ := T.at (T_am1 n k e d t) [.o 0] [.o m] (by decide) (by simp) rfl
 simp only [List.map_cons, List.map_nil, List.cons.injEq, and_true] at hσ
 simpa [V.rens, V.ren, Heap.ren, B.ren, mP, dgV, tgV, hσ] using h1
theorem T_sg1A (n e : Int) (d : List Int) (need : Int) (m : Nat) : T Try.prog 32 [mP m, .int .i64 e, dgV d, .int .i64 need] [(.o m, .flat [.int .i64 n, .mpnil])] .snil [(.o m, .flat [.int .i64 n, .mpnil])] := by
 obtain ⟨σ, hσ, h1⟩ := T.at (T_sg1 n e d need) [.o 0] [.o m] (by decide) (by simp) rfl
 simp only [List.map_cons, List.map_nil, List.cons.injEq, and_true] at hσ
 simpa [V.rens, V.ren, Heap.ren, B.ren, mP, dgV, hσ] using h1
theorem T_la1A (n need : Int) (m : Nat) : T Try.prog 35 [mP m, .int .i64 need] [(.o m, .flat [.int .i64 n, .mpnil])] (.int .i64 0) [(.o m, .flat [.int .i64 n, .mpnil])] := by
 obtain ⟨σ, hσ, h1⟩ := T.at (T_la1 n need) [.o 0] [.o m] (by decide) (by simp) rfl
 simp only [List.map_cons, List.map_nil, List.cons.injEq, and_true] at hσ
 simpa [V.rens, V.ren, Heap.ren, B.ren, mP, hσ] using h1
theorem T_nb (a : SAct) : T Try.prog 9 [.agg a.c] [] (.bool true) [] := by
 have h1 := T_of0 a.node
 have h2 := T_am0 a.node a.epoch a.d a.tag
 have h3 := T_sg0 a.epoch a.d 1
 have h4 := T_la0 1
 have g1 := T_of1A 0 a.node 192
 have g2 := T_am1A 0 a.node a.epoch a.d a.tag 192
 have g3 := T_sg1A 0 a.epoch a.d 1 192
 have g4 := T_la1A 0 1 192
 have h9 := T_lv3
 refine T_al (bdNb_p a) Try.func9 ?_
 simp only [All]; and_intros
 all_goals first
  | exact True.intro
  | exact h1
  | exact h2
  | exact h3
  | exact h4
  | exact h9
  | exact g1
  | exact g2
  | exact g3
  | exact g4
  | with_reducible rfl
  | decide
end Go.Proofs.Ytpallipnhmoipaa
namespace Go.Proofs.Ytpallipnhmoipaa
open Go Sy Go.Proofs
theorem cellsAct : Try.prog.cellsOf 48 = 50 := by kernel_rfl
theorem sg_act {d : Nat} {cs : List V} (h : ShC Try.prog d 48 cs) : ∃ s : SAct, cs = s.c ∧ (s.d.length = 32 ∧ s.tag.length = 16) := by
 obtain ⟨d, a, _, rfl, ha, b, _, rfl, hb, x, _, rfl, hx, y, _, rfl, hy, rfl⟩ := sh_struct h Try.underlying48
 obtain ⟨n, rfl, _⟩ := sh_int ha Try.underlying3
 obtain ⟨e, rfl, _⟩ := sh_int hb Try.underlying3
 obtain ⟨xs, rfl, h1, h2⟩ := sh_arr hx Try.underlying46 Try.underlying5
 obtain ⟨ys, rfl, h3, h4⟩ := sh_arr hy Try.underlying35 Try.underlying5
 exact ⟨⟨n, e, xs, ys⟩, rfl, h1, h3⟩
end Go.Proofs.Ytpallipnhmoipaa
