/-
  Contracts and laws that the claim's theorem leans on, joined out of the texts Na3 Nb0D Nb0 Nb1D Nb1 Nb2D (own work of this seat): Contracts: that the law of marks lives; marks that no call made; Contract: marks that no call made take nothing; Contract: marks that no call made take nothing; Contracts: marks by the document; Contracts: marks by the document; Contract: whatever marks come, what is kept, told and refused is as the document says.
-/
import Derived.Test.YtpallipnhmoipaaC06
set_option linter.unusedVariables false
set_option linter.unusedSimpArgs false
set_option maxHeartbeats 1000000
namespace Go.Proofs.Ytpallipnhmoipaa
open Go Sy Go.Proofs
theorem bdLv3_p :
  along Try.prog (bdLv3) [] = (some (.bool true, [], [T Try.prog 29 [.int .i64 4] [] (.ptr (.o 64) 0 0 0 0) [(.o 64, .flat [.int .i64 4, .mp (.o 65)]), (.o 65, .map [] 0)], q false, q2, (0 : Int) ≤ (0 : Int) ∧ (0 : Int) < (3 : Int), nat_lit 0 < (3 : Nat), T Try.prog 31 [.ptr (.o 64) 0 0 0 0, .int .i64 3, .int .i64 1, .agg [.seg .u8 32 [(7 : Int), (0 : Int), (0 : Int), (0 : Int), (0 : Int), (0 : Int), (0 : Int), (0 : Int), (0 : Int), (0 : Int), (0 : Int), (0 : Int), (0 : Int), (0 : Int), (0 : Int), (0 : Int), (0 : Int), (0 : Int), (0 : Int), (0 : Int), (0 : Int), (0 : Int), (0 : Int), (0 : Int), (0 : Int), (0 : Int), (0 : Int), (0 : Int), (0 : Int), (0 : Int), (0 : Int), (0 : Int)]], .agg [.seg .u8 16 [(3 : Int), (0 : Int), (0 : Int), (0 : Int), (0 : Int), (0 : Int), (0 : Int), (0 : Int), (0 : Int), (0 : Int), (0 : Int), (0 : Int), (0 : Int), (0 : Int), (0 : Int), (0 : Int)]]] [(.o 64, .flat [.int .i64 4, .mp (.o 65)]), (.o 65, .map [] 0)] (.int .i64 0) [(.o 64, .flat [.int .i64 4, .mp (.o 65)]), (.o 65, .map [(0, .int .i64 3, .agg [.int .i64 1, .seg .u8 32 [(7 : Int), (0 : Int), (0 : Int), (0 : Int), (0 : Int), (0 : Int), (0 : Int), (0 : Int), (0 : Int), (0 : Int), (0 : Int), (0 : Int), (0 : Int), (0 : Int), (0 : Int), (0 : Int), (0 : Int), (0 : Int), (0 : Int), (0 : Int), (0 : Int), (0 : Int), (0 : Int), (0 : Int), (0 : Int), (0 : Int), (0 : Int), (0 : Int), (0 : Int), (0 : Int), (0 : Int), (0 : Int)], .seg .u8 16 [(3 : Int), (0 : Int), (0 : Int), (0 : Int), (0 : Int), (0 : Int), (0 : Int), (0 : Int), (0 : Int), (0 : Int), (0 : Int), (0 : Int), (0 : Int), (0 : Int), (0 : Int), (0 : Int)]])] 1)], q false, InR IntKind.i64 (1 : Int), q2, (0 : Int) ≤ (1 : Int) ∧ (1 : Int) < (3 : Int), nat_lit 1 < (3 : Nat), T Try.prog 31 [.ptr (.o 64) 0 0 0 0, .int .i64 0, .int .i64 1, .agg [.seg .u8 32 [(7 : Int), (0 : Int), (0 : Int), (0 : Int), (0 : Int), (0 : Int), (0 : Int), (0 : Int), (0 : Int), (0 : Int), (0 : Int), (0 : Int), (0 : Int), (0 : Int), (0 : Int), (0 : Int), (0 : Int), (0 : Int), (0 : Int), (0 : Int), (0 : Int), (0 : Int), (0 : Int), (0 : Int), (0 : Int), (0 : Int), (0 : Int), (0 : Int), (0 : Int), (0 : Int), (0 : Int), (0 : Int)]], .agg [.seg .u8 16 z16]] [(.o 64, .flat [.int .i64 4, .mp (.o 65)]), (.o 65, .map [(0, .int .i64 3, .agg [.int .i64 1, .seg .u8 32 [(7 : Int), (0 : Int), (0 : Int), (0 : Int), (0 : Int), (0 : Int), (0 : Int), (0 : Int), (0 : Int), (0 : Int), (0 : Int), (0 : Int), (0 : Int), (0 : Int), (0 : Int), (0 : Int), (0 : Int), (0 : Int), (0 : Int), (0 : Int), (0 : Int), (0 : Int), (0 : Int), (0 : Int), (0 : Int), (0 : Int), (0 : Int), (0 : Int), (0 : Int), (0 : Int), (0 : Int), (0 : Int)], .seg .u8 16 [(3 : Int), (0 : Int), (0 : Int), (0 : Int), (0 : Int), (0 : Int), (0 : Int), (0 : Int), (0 : Int), (0 : Int), (0 : Int), (0 : Int), (0 : Int), (0 : Int), (0 : Int), (0 : Int)]])] 1)] (.int .i64 0) [(.o 64, .flat [.int .i64 4, .mp (.o 65)]), (.o 65, .map [(0, .int .i64 3, .agg [.int .i64 1, .seg .u8 32 [(7 : Int), (0 : Int), (0 : Int), (0 : Int), (0 : Int), (0 : Int), (0 : Int), (0 : Int), (0 : Int), (0 : Int), (0 : Int), (0 : Int), (0 : Int), (0 : Int), (0 : Int), (0 : Int), (0 : Int), (0 : Int), (0 : Int), (0 : Int), (0 : Int), (0 : Int), (0 : Int), (0 : Int), (0 : Int), (0 : Int), (0 : Int), (0 : Int), (0 : Int), (0 : Int), (0 : Int), (0 : Int)], .seg .u8 16 [(3 : Int), (0 : Int), (0 : Int), (0 : Int), (0 : Int), (0 : Int), (0 : Int), (0 : Int), (0 : Int), (0 : Int), (0 : Int), (0 : Int), (0 : Int), (0 : Int), (0 : Int), (0 : Int)]]), (nat_lit 1, .int .i64 0, .agg [.int .i64 1, .seg .u8 32 [(7 : Int), (0 : Int), (0 : Int), (0 : Int), (0 : Int), (0 : Int), (0 : Int), (0 : Int), (0 : Int), (0 : Int), (0 : Int), (0 : Int), (0 : Int), (0 : Int), (0 : Int), (0 : Int), (0 : Int), (0 : Int), (0 : Int), (0 : Int), (0 : Int), (0 : Int), (0 : Int), (0 : Int), (0 : Int), (0 : Int), (0 : Int), (0 : Int), (0 : Int), (0 : Int), (0 : Int), (0 : Int)], .seg .u8 16 z16])] 2)], q false, InR IntKind.i64 (2 : Int), q2, (0 : Int) ≤ (2 : Int) ∧ (2 : Int) < (3 : Int), nat_lit 2 < (3 : Nat), T Try.prog 31 [.ptr (.o 64) 0 0 0 0, .int .i64 1, .int .i64 1, .agg [.seg .u8 32 [(7 : Int), (0 : Int), (0 : Int), (0 : Int), (0 : Int), (0 : Int), (0 : Int), (0 : Int), (0 : Int), (0 : Int), (0 : Int), (0 : Int), (0 : Int), (0 : Int), (0 : Int), (0 : Int), (0 : Int), (0 : Int), (0 : Int), (0 : Int), (0 : Int), (0 : Int), (0 : Int), (0 : Int), (0 : Int), (0 : Int), (0 : Int), (0 : Int), (0 : Int), (0 : Int), (0 : Int), (0 : Int)]], .agg [.seg .u8 16 [(1 : Int), (0 : Int), (0 : Int), (0 : Int), (0 : Int), (0 : Int), (0 : Int), (0 : Int), (0 : Int), (0 : Int), (0 : Int), (0 : Int), (0 : Int), (0 : Int), (0 : Int), (0 : Int)]]] [(.o 64, .flat [.int .i64 4, .mp (.o 65)]), (.o 65, .map [(0, .int .i64 3, .agg [.int .i64 1, .seg .u8 32 [(7 : Int), (0 : Int), (0 : Int), (0 : Int), (0 : Int), (0 : Int), (0 : Int), (0 : Int), (0 : Int), (0 : Int), (0 : Int), (0 : Int), (0 : Int), (0 : Int), (0 : Int), (0 : Int), (0 : Int), (0 : Int), (0 : Int), (0 : Int), (0 : Int), (0 : Int), (0 : Int), (0 : Int), (0 : Int), (0 : Int), (0 : Int), (0 : Int), (0 : Int), (0 : Int), (0 : Int), (0 : Int)], .seg .u8 16 [(3 : Int), (0 : Int), (0 : Int), (0 : Int), (0 : Int), (0 : Int), (0 : Int), (0 : Int), (0 : Int), (0 : Int), (0 : Int), (0 : Int), (0 : Int), (0 : Int), (0 : Int), (0 : Int)]]), (nat_lit 1, .int .i64 0, .agg [.int .i64 1, .seg .u8 32 [(7 : Int), (0 : Int), (0 : Int), (0 : Int), (0 : Int), (0 : Int), (0 : Int), (0 : Int), (0 : Int), (0 : Int), (0 : Int), (0 : Int), (0 : Int), (0 : Int), (0 : Int), (0 : Int), (0 : Int), (0 : Int), (0 : Int), (0 : Int), (0 : Int), (0 : Int), (0 : Int), (0 : Int), (0 : Int), (0 : Int), (0 : Int), (0 : Int), (0 : Int), (0 : Int), (0 : Int), (0 : Int)], .seg .u8 16 z16])] 2)] (.int .i64 0) [(.o 64, .flat [.int .i64 4, .mp (.o 65)]), (.o 65, .map [(0, .int .i64 3, .agg [.int .i64 1, .seg .u8 32 [(7 : Int), (0 : Int), (0 : Int), (0 : Int), (0 : Int), (0 : Int), (0 : Int), (0 : Int), (0 : Int), (0 : Int), (0 : Int), (0 : Int), (0 : Int), (0 : Int), (0 : Int), (0 : Int), (0 : Int), (0 : Int), (0 : Int), (0 : Int), (0 : Int), (0 : Int), (0 : Int), (0 : Int), (0 : Int), (0 : Int), (0 : Int), (0 : Int), (0 : Int), (0 : Int), (0 : Int), (0 : Int)], .seg .u8 16 [(3 : Int), (0 : Int), (0 : Int), (0 : Int), (0 : Int), (0 : Int), (0 : Int), (0 : Int), (0 : Int), (0 : Int), (0 : Int), (0 : Int), (0 : Int), (0 : Int), (0 : Int), (0 : Int)]]), (nat_lit 1, .int .i64 0, .agg [.int .i64 1, .seg .u8 32 [(7 : Int), (0 : Int), (0 : Int), (0 : Int), (0 : Int), (0 : Int), (0 : Int), (0 : Int), (0 : Int), (0 : Int), (0 : Int), (0 : Int), (0 : Int), (0 : Int), (0 : Int), (0 : Int), (0 : Int), (0 : Int), (0 : Int), (0 : Int), (0 : Int), (0 : Int), (0 : Int), (0 : Int), (0 : Int), (0 : Int), (0 : Int), (0 : Int), (0 : Int), (0 : Int), (0 : Int), (0 : Int)], .seg .u8 16 z16]), (nat_lit 2, .int .i64 1, .agg [.int .i64 1, .seg .u8 32 [(7 : Int), (0 : Int), (0 : Int), (0 : Int), (0 : Int), (0 : Int), (0 : Int), (0 : Int), (0 : Int), (0 : Int), (0 : Int), (0 : Int), (0 : Int), (0 : Int), (0 : Int), (0 : Int), (0 : Int), (0 : Int), (0 : Int), (0 : Int), (0 : Int), (0 : Int), (0 : Int), (0 : Int), (0 : Int), (0 : Int), (0 : Int), (0 : Int), (0 : Int), (0 : Int), (0 : Int), (0 : Int)], .seg .u8 16 [(1 : Int), (0 : Int), (0 : Int), (0 : Int), (0 : Int), (0 : Int), (0 : Int), (0 : Int), (0 : Int), (0 : Int), (0 : Int), (0 : Int), (0 : Int), (0 : Int), (0 : Int), (0 : Int)]])] 3)], q false, InR IntKind.i64 (3 : Int), q false, T Try.prog 32 [.ptr (.o 64) 0 0 0 0, .int .i64 1, .agg [.seg .u8 32 [(7 : Int), (0 : Int), (0 : Int), (0 : Int), (0 : Int), (0 : Int), (0 : Int), (0 : Int), (0 : Int), (0 : Int), (0 : Int), (0 : Int), (0 : Int), (0 : Int), (0 : Int), (0 : Int), (0 : Int), (0 : Int), (0 : Int), (0 : Int), (0 : Int), (0 : Int), (0 : Int), (0 : Int), (0 : Int), (0 : Int), (0 : Int), (0 : Int), (0 : Int), (0 : Int), (0 : Int), (0 : Int)]], .int .i64 3] [(.o 64, .flat [.int .i64 4, .mp (.o 65)]), (.o 65, .map [(0, .int .i64 3, .agg [.int .i64 1, .seg .u8 32 [(7 : Int), (0 : Int), (0 : Int), (0 : Int), (0 : Int), (0 : Int), (0 : Int), (0 : Int), (0 : Int), (0 : Int), (0 : Int), (0 : Int), (0 : Int), (0 : Int), (0 : Int), (0 : Int), (0 : Int), (0 : Int), (0 : Int), (0 : Int), (0 : Int), (0 : Int), (0 : Int), (0 : Int), (0 : Int), (0 : Int), (0 : Int), (0 : Int), (0 : Int), (0 : Int), (0 : Int), (0 : Int)], .seg .u8 16 [(3 : Int), (0 : Int), (0 : Int), (0 : Int), (0 : Int), (0 : Int), (0 : Int), (0 : Int), (0 : Int), (0 : Int), (0 : Int), (0 : Int), (0 : Int), (0 : Int), (0 : Int), (0 : Int)]]), (nat_lit 1, .int .i64 0, .agg [.int .i64 1, .seg .u8 32 [(7 : Int), (0 : Int), (0 : Int), (0 : Int), (0 : Int), (0 : Int), (0 : Int), (0 : Int), (0 : Int), (0 : Int), (0 : Int), (0 : Int), (0 : Int), (0 : Int), (0 : Int), (0 : Int), (0 : Int), (0 : Int), (0 : Int), (0 : Int), (0 : Int), (0 : Int), (0 : Int), (0 : Int), (0 : Int), (0 : Int), (0 : Int), (0 : Int), (0 : Int), (0 : Int), (0 : Int), (0 : Int)], .seg .u8 16 z16]), (nat_lit 2, .int .i64 1, .agg [.int .i64 1, .seg .u8 32 [(7 : Int), (0 : Int), (0 : Int), (0 : Int), (0 : Int), (0 : Int), (0 : Int), (0 : Int), (0 : Int), (0 : Int), (0 : Int), (0 : Int), (0 : Int), (0 : Int), (0 : Int), (0 : Int), (0 : Int), (0 : Int), (0 : Int), (0 : Int), (0 : Int), (0 : Int), (0 : Int), (0 : Int), (0 : Int), (0 : Int), (0 : Int), (0 : Int), (0 : Int), (0 : Int), (0 : Int), (0 : Int)], .seg .u8 16 [(1 : Int), (0 : Int), (0 : Int), (0 : Int), (0 : Int), (0 : Int), (0 : Int), (0 : Int), (0 : Int), (0 : Int), (0 : Int), (0 : Int), (0 : Int), (0 : Int), (0 : Int), (0 : Int)]])] 3)] (.sl (.o 3392) 17 0 0 0 3 none) [(.o 64, .flat [.int .i64 4, .mp (.o 65)]), (.o 65, .map [(0, .int .i64 3, .agg [.int .i64 1, .seg .u8 32 [(7 : Int), (0 : Int), (0 : Int), (0 : Int), (0 : Int), (0 : Int), (0 : Int), (0 : Int), (0 : Int), (0 : Int), (0 : Int), (0 : Int), (0 : Int), (0 : Int), (0 : Int), (0 : Int), (0 : Int), (0 : Int), (0 : Int), (0 : Int), (0 : Int), (0 : Int), (0 : Int), (0 : Int), (0 : Int), (0 : Int), (0 : Int), (0 : Int), (0 : Int), (0 : Int), (0 : Int), (0 : Int)], .seg .u8 16 [(3 : Int), (0 : Int), (0 : Int), (0 : Int), (0 : Int), (0 : Int), (0 : Int), (0 : Int), (0 : Int), (0 : Int), (0 : Int), (0 : Int), (0 : Int), (0 : Int), (0 : Int), (0 : Int)]]), (nat_lit 1, .int .i64 0, .agg [.int .i64 1, .seg .u8 32 [(7 : Int), (0 : Int), (0 : Int), (0 : Int), (0 : Int), (0 : Int), (0 : Int), (0 : Int), (0 : Int), (0 : Int), (0 : Int), (0 : Int), (0 : Int), (0 : Int), (0 : Int), (0 : Int), (0 : Int), (0 : Int), (0 : Int), (0 : Int), (0 : Int), (0 : Int), (0 : Int), (0 : Int), (0 : Int), (0 : Int), (0 : Int), (0 : Int), (0 : Int), (0 : Int), (0 : Int), (0 : Int)], .seg .u8 16 z16]), (nat_lit 2, .int .i64 1, .agg [.int .i64 1, .seg .u8 32 [(7 : Int), (0 : Int), (0 : Int), (0 : Int), (0 : Int), (0 : Int), (0 : Int), (0 : Int), (0 : Int), (0 : Int), (0 : Int), (0 : Int), (0 : Int), (0 : Int), (0 : Int), (0 : Int), (0 : Int), (0 : Int), (0 : Int), (0 : Int), (0 : Int), (0 : Int), (0 : Int), (0 : Int), (0 : Int), (0 : Int), (0 : Int), (0 : Int), (0 : Int), (0 : Int), (0 : Int), (0 : Int)], .seg .u8 16 [(1 : Int), (0 : Int), (0 : Int), (0 : Int), (0 : Int), (0 : Int), (0 : Int), (0 : Int), (0 : Int), (0 : Int), (0 : Int), (0 : Int), (0 : Int), (0 : Int), (0 : Int), (0 : Int)]])] 3), (.o 3392, .rows 17 3 (gn (siF [SSign.mk (0 : Int) z16, SSign.mk (1 : Int) [(1 : Int), (0 : Int), (0 : Int), (0 : Int), (0 : Int), (0 : Int), (0 : Int), (0 : Int), (0 : Int), (0 : Int), (0 : Int), (0 : Int), (0 : Int), (0 : Int), (0 : Int), (0 : Int)], SSign.mk (3 : Int) [(3 : Int), (0 : Int), (0 : Int), (0 : Int), (0 : Int), (0 : Int), (0 : Int), (0 : Int), (0 : Int), (0 : Int), (0 : Int), (0 : Int), (0 : Int), (0 : Int), (0 : Int), (0 : Int)]])) true)], q2, (0 : Int) ≤ (2 : Int) ∧ (2 : Int) < (3 : Int), nat_lit 2 < nat_lit 3, q2, T Try.prog 35 [.ptr (.o 64) 0 0 0 0, .int .i64 3] [(.o 64, .flat [.int .i64 4, .mp (.o 65)]), (.o 65, .map [(0, .int .i64 3, .agg [.int .i64 1, .seg .u8 32 [(7 : Int), (0 : Int), (0 : Int), (0 : Int), (0 : Int), (0 : Int), (0 : Int), (0 : Int), (0 : Int), (0 : Int), (0 : Int), (0 : Int), (0 : Int), (0 : Int), (0 : Int), (0 : Int), (0 : Int), (0 : Int), (0 : Int), (0 : Int), (0 : Int), (0 : Int), (0 : Int), (0 : Int), (0 : Int), (0 : Int), (0 : Int), (0 : Int), (0 : Int), (0 : Int), (0 : Int), (0 : Int)], .seg .u8 16 [(3 : Int), (0 : Int), (0 : Int), (0 : Int), (0 : Int), (0 : Int), (0 : Int), (0 : Int), (0 : Int), (0 : Int), (0 : Int), (0 : Int), (0 : Int), (0 : Int), (0 : Int), (0 : Int)]]), (nat_lit 1, .int .i64 0, .agg [.int .i64 1, .seg .u8 32 [(7 : Int), (0 : Int), (0 : Int), (0 : Int), (0 : Int), (0 : Int), (0 : Int), (0 : Int), (0 : Int), (0 : Int), (0 : Int), (0 : Int), (0 : Int), (0 : Int), (0 : Int), (0 : Int), (0 : Int), (0 : Int), (0 : Int), (0 : Int), (0 : Int), (0 : Int), (0 : Int), (0 : Int), (0 : Int), (0 : Int), (0 : Int), (0 : Int), (0 : Int), (0 : Int), (0 : Int), (0 : Int)], .seg .u8 16 z16]), (nat_lit 2, .int .i64 1, .agg [.int .i64 1, .seg .u8 32 [(7 : Int), (0 : Int), (0 : Int), (0 : Int), (0 : Int), (0 : Int), (0 : Int), (0 : Int), (0 : Int), (0 : Int), (0 : Int), (0 : Int), (0 : Int), (0 : Int), (0 : Int), (0 : Int), (0 : Int), (0 : Int), (0 : Int), (0 : Int), (0 : Int), (0 : Int), (0 : Int), (0 : Int), (0 : Int), (0 : Int), (0 : Int), (0 : Int), (0 : Int), (0 : Int), (0 : Int), (0 : Int)], .seg .u8 16 [(1 : Int), (0 : Int), (0 : Int), (0 : Int), (0 : Int), (0 : Int), (0 : Int), (0 : Int), (0 : Int), (0 : Int), (0 : Int), (0 : Int), (0 : Int), (0 : Int), (0 : Int), (0 : Int)]])] 3)] (.int .i64 1) [(.o 64, .flat [.int .i64 4, .mp (.o 65)]), (.o 65, .map [(0, .int .i64 3, .agg [.int .i64 1, .seg .u8 32 [(7 : Int), (0 : Int), (0 : Int), (0 : Int), (0 : Int), (0 : Int), (0 : Int), (0 : Int), (0 : Int), (0 : Int), (0 : Int), (0 : Int), (0 : Int), (0 : Int), (0 : Int), (0 : Int), (0 : Int), (0 : Int), (0 : Int), (0 : Int), (0 : Int), (0 : Int), (0 : Int), (0 : Int), (0 : Int), (0 : Int), (0 : Int), (0 : Int), (0 : Int), (0 : Int), (0 : Int), (0 : Int)], .seg .u8 16 [(3 : Int), (0 : Int), (0 : Int), (0 : Int), (0 : Int), (0 : Int), (0 : Int), (0 : Int), (0 : Int), (0 : Int), (0 : Int), (0 : Int), (0 : Int), (0 : Int), (0 : Int), (0 : Int)]]), (nat_lit 1, .int .i64 0, .agg [.int .i64 1, .seg .u8 32 [(7 : Int), (0 : Int), (0 : Int), (0 : Int), (0 : Int), (0 : Int), (0 : Int), (0 : Int), (0 : Int), (0 : Int), (0 : Int), (0 : Int), (0 : Int), (0 : Int), (0 : Int), (0 : Int), (0 : Int), (0 : Int), (0 : Int), (0 : Int), (0 : Int), (0 : Int), (0 : Int), (0 : Int), (0 : Int), (0 : Int), (0 : Int), (0 : Int), (0 : Int), (0 : Int), (0 : Int), (0 : Int)], .seg .u8 16 z16]), (nat_lit 2, .int .i64 1, .agg [.int .i64 1, .seg .u8 32 [(7 : Int), (0 : Int), (0 : Int), (0 : Int), (0 : Int), (0 : Int), (0 : Int), (0 : Int), (0 : Int), (0 : Int), (0 : Int), (0 : Int), (0 : Int), (0 : Int), (0 : Int), (0 : Int), (0 : Int), (0 : Int), (0 : Int), (0 : Int), (0 : Int), (0 : Int), (0 : Int), (0 : Int), (0 : Int), (0 : Int), (0 : Int), (0 : Int), (0 : Int), (0 : Int), (0 : Int), (0 : Int)], .seg .u8 16 [(1 : Int), (0 : Int), (0 : Int), (0 : Int), (0 : Int), (0 : Int), (0 : Int), (0 : Int), (0 : Int), (0 : Int), (0 : Int), (0 : Int), (0 : Int), (0 : Int), (0 : Int), (0 : Int)]])] 3)], q2, T Try.prog 35 [.ptr (.o 64) 0 0 0 0, .int .i64 4] [(.o 64, .flat [.int .i64 4, .mp (.o 65)]), (.o 65, .map [(0, .int .i64 3, .agg [.int .i64 1, .seg .u8 32 [(7 : Int), (0 : Int), (0 : Int), (0 : Int), (0 : Int), (0 : Int), (0 : Int), (0 : Int), (0 : Int), (0 : Int), (0 : Int), (0 : Int), (0 : Int), (0 : Int), (0 : Int), (0 : Int), (0 : Int), (0 : Int), (0 : Int), (0 : Int), (0 : Int), (0 : Int), (0 : Int), (0 : Int), (0 : Int), (0 : Int), (0 : Int), (0 : Int), (0 : Int), (0 : Int), (0 : Int), (0 : Int)], .seg .u8 16 [(3 : Int), (0 : Int), (0 : Int), (0 : Int), (0 : Int), (0 : Int), (0 : Int), (0 : Int), (0 : Int), (0 : Int), (0 : Int), (0 : Int), (0 : Int), (0 : Int), (0 : Int), (0 : Int)]]), (nat_lit 1, .int .i64 0, .agg [.int .i64 1, .seg .u8 32 [(7 : Int), (0 : Int), (0 : Int), (0 : Int), (0 : Int), (0 : Int), (0 : Int), (0 : Int), (0 : Int), (0 : Int), (0 : Int), (0 : Int), (0 : Int), (0 : Int), (0 : Int), (0 : Int), (0 : Int), (0 : Int), (0 : Int), (0 : Int), (0 : Int), (0 : Int), (0 : Int), (0 : Int), (0 : Int), (0 : Int), (0 : Int), (0 : Int), (0 : Int), (0 : Int), (0 : Int), (0 : Int)], .seg .u8 16 z16]), (nat_lit 2, .int .i64 1, .agg [.int .i64 1, .seg .u8 32 [(7 : Int), (0 : Int), (0 : Int), (0 : Int), (0 : Int), (0 : Int), (0 : Int), (0 : Int), (0 : Int), (0 : Int), (0 : Int), (0 : Int), (0 : Int), (0 : Int), (0 : Int), (0 : Int), (0 : Int), (0 : Int), (0 : Int), (0 : Int), (0 : Int), (0 : Int), (0 : Int), (0 : Int), (0 : Int), (0 : Int), (0 : Int), (0 : Int), (0 : Int), (0 : Int), (0 : Int), (0 : Int)], .seg .u8 16 [(1 : Int), (0 : Int), (0 : Int), (0 : Int), (0 : Int), (0 : Int), (0 : Int), (0 : Int), (0 : Int), (0 : Int), (0 : Int), (0 : Int), (0 : Int), (0 : Int), (0 : Int), (0 : Int)]])] 3)] (.int .i64 0) [(.o 64, .flat [.int .i64 4, .mp (.o 65)]), (.o 65, .map [(0, .int .i64 3, .agg [.int .i64 1, .seg .u8 32 [(7 : Int), (0 : Int), (0 : Int), (0 : Int), (0 : Int), (0 : Int), (0 : Int), (0 : Int), (0 : Int), (0 : Int), (0 : Int), (0 : Int), (0 : Int), (0 : Int), (0 : Int), (0 : Int), (0 : Int), (0 : Int), (0 : Int), (0 : Int), (0 : Int), (0 : Int), (0 : Int), (0 : Int), (0 : Int), (0 : Int), (0 : Int), (0 : Int), (0 : Int), (0 : Int), (0 : Int), (0 : Int)], .seg .u8 16 [(3 : Int), (0 : Int), (0 : Int), (0 : Int), (0 : Int), (0 : Int), (0 : Int), (0 : Int), (0 : Int), (0 : Int), (0 : Int), (0 : Int), (0 : Int), (0 : Int), (0 : Int), (0 : Int)]]), (nat_lit 1, .int .i64 0, .agg [.int .i64 1, .seg .u8 32 [(7 : Int), (0 : Int), (0 : Int), (0 : Int), (0 : Int), (0 : Int), (0 : Int), (0 : Int), (0 : Int), (0 : Int), (0 : Int), (0 : Int), (0 : Int), (0 : Int), (0 : Int), (0 : Int), (0 : Int), (0 : Int), (0 : Int), (0 : Int), (0 : Int), (0 : Int), (0 : Int), (0 : Int), (0 : Int), (0 : Int), (0 : Int), (0 : Int), (0 : Int), (0 : Int), (0 : Int), (0 : Int)], .seg .u8 16 z16]), (nat_lit 2, .int .i64 1, .agg [.int .i64 1, .seg .u8 32 [(7 : Int), (0 : Int), (0 : Int), (0 : Int), (0 : Int), (0 : Int), (0 : Int), (0 : Int), (0 : Int), (0 : Int), (0 : Int), (0 : Int), (0 : Int), (0 : Int), (0 : Int), (0 : Int), (0 : Int), (0 : Int), (0 : Int), (0 : Int), (0 : Int), (0 : Int), (0 : Int), (0 : Int), (0 : Int), (0 : Int), (0 : Int), (0 : Int), (0 : Int), (0 : Int), (0 : Int), (0 : Int)], .seg .u8 16 [(1 : Int), (0 : Int), (0 : Int), (0 : Int), (0 : Int), (0 : Int), (0 : Int), (0 : Int), (0 : Int), (0 : Int), (0 : Int), (0 : Int), (0 : Int), (0 : Int), (0 : Int), (0 : Int)]])] 3)]]) : Option (V × Heap × List Prop)) := by kernel_rfl

theorem T_nwA {n : Int} (h : goodN n = true) {m q : Nat} (hmq : m ≠ q) : T Try.prog 29 [.int .i64 n] [] (mP m) (mH m q n []) := by
 obtain ⟨σ, hσ, h1⟩ := T.at (T_nw h) [.o 448, .o 320] [.o m, .o q] (by decide) (by simp [hmq]) rfl
 simp only [List.map_cons, List.map_nil, List.cons.injEq, and_true] at hσ
 simpa [V.rens, V.ren, Heap.ren, B.ren, mP, mH, mB, mpB, dgV, tgV, sgL, sgs, sbL, sgB, hσ.1, hσ.2] using h1
theorem T_amA (n : Int) (l : List (Int × MK)) (k e : Int) (d t : List Int) {m q : Nat} (hmq : m ≠ q) : T Try.prog 31 [mP m, .int .i64 k, .int .i64 e, dgV d, tgV t] (mH m q n l) (.int .i64 (addM n l k e d t).1) (mH m q n (addM n l k e d t).2) := by
 obtain ⟨σ, hσ, h1⟩ := T.at (T_am n l k e d t) [.o 0, .o 1] [.o m, .o q] (by decide) (by simp [hmq]) rfl
 simp only [List.map_cons, List.map_nil, List.cons.injEq, and_true] at hσ
 simpa [V.rens, V.ren, Heap.ren, B.ren, mP, mH, mB, mpB, dgV, tgV, sgL, sgs, sbL, sgB, hσ.1, hσ.2] using h1
theorem T_ofA (n : Int) (l : List (Int × MK)) (k : Int) {m q : Nat} (hmq : m ≠ q) : T Try.prog 38 [mP m, .int .i64 k] (mH m q n l) (.tup [.int .i64 (ofM l k).1, dgV (ofM l k).2.1]) (mH m q n l) := by
 obtain ⟨σ, hσ, h1⟩ := T.at (T_of n l k) [.o 0, .o 1] [.o m, .o q] (by decide) (by simp [hmq]) rfl
 simp only [List.map_cons, List.map_nil, List.cons.injEq, and_true] at hσ
 simpa [V.rens, V.ren, Heap.ren, B.ren, mP, mH, mB, mpB, dgV, tgV, sgL, sgs, sbL, sgB, hσ.1, hσ.2] using h1
theorem T_laA {N : Nat} (hN : N ≤ 64) {l : List (Int × MK)} (ho : okM N l) (need : Int) {m q : Nat} (hmq : m ≠ q) : T Try.prog 35 [mP m, .int .i64 need] (mH m q N l) (.int .i64 (nthV (epM N l) need)) (mH m q N l) := by
 obtain ⟨σ, hσ, h1⟩ := T.at (T_la hN ho need) [.o 0, .o 1] [.o m, .o q] (by decide) (by simp [hmq]) rfl
 simp only [List.map_cons, List.map_nil, List.cons.injEq, and_true] at hσ
 simpa [V.rens, V.ren, Heap.ren, B.ren, mP, mH, mB, mpB, dgV, tgV, sgL, sgs, sbL, sgB, hσ.1, hσ.2] using h1
theorem T_sgNA {n : Nat} (hn : n ≤ 64) {l : List (Int × MK)} {e : Int} {d : List Int} {need : Int} (h : sgsM n l e d need = false) {m q : Nat} (hmq : m ≠ q) : T Try.prog 32 [mP m, .int .i64 e, dgV d, .int .i64 need] (mH m q n l) .snil (mH m q n l) := by
 obtain ⟨σ, hσ, h1⟩ := T.at (T_sgN hn h) [.o 0, .o 1] [.o m, .o q] (by decide) (by simp [hmq]) rfl
 simp only [List.map_cons, List.map_nil, List.cons.injEq, and_true] at hσ
 simpa [V.rens, V.ren, Heap.ren, B.ren, mP, mH, mB, mpB, dgV, tgV, sgL, sgs, sbL, sgB, hσ.1, hσ.2] using h1
theorem T_sgYA {n : Nat} (hn : n ≤ 64) {l : List (Int × MK)} {e : Int} {d : List Int} {need : Int} (h : sgsM n l e d need = true) {m q a : Nat} (hmq : [Nm.o m, Nm.o q, Nm.o a].Nodup) : T Try.prog 32 [mP m, .int .i64 e, dgV d, .int .i64 need] (mH m q n l) (sgL a (selS l e d need n)) (mH m q n l ++ [(.o a, sbL (selS l e d need n))]) := by
 obtain ⟨σ, hσ, h1⟩ := T.at (T_sgY hn h) [.o 0, .o 1, .o 770] [.o m, .o q, .o a] (by decide) hmq rfl
 simp only [List.map_cons, List.map_nil, List.cons.injEq, and_true] at hσ
 simpa [V.rens, V.ren, Heap.ren, B.ren, mP, mH, mB, mpB, dgV, tgV, sgL, sgs, sbL, sgB, hσ.1, hσ.2.1, hσ.2.2] using h1
theorem T_lv3 : T Try.prog 30 [] [] (.bool true) [] := by
 have h0 := T_nwA (n := 4) (by decide) (m := 64) (q := 65) (by decide)
 have h1 := T_amA 4 [] 3 1 d7 (tgN 3) (m := 64) (q := 65) (by decide)
 have h2 := T_amA 4 (lvM 3) 0 1 d7 (tgN 0) (m := 64) (q := 65) (by decide)
 have h3 := T_amA 4 (lvM 0) 1 1 d7 (tgN 1) (m := 64) (q := 65) (by decide)
 rw [show addM 4 [] 3 1 d7 (tgN 3) = (0, lvM 3) by rfl] at h1
 rw [show addM 4 (lvM 3) 0 1 d7 (tgN 0) = (0, lvM 0) by rfl] at h2
 rw [show addM 4 (lvM 0) 1 1 d7 (tgN 1) = (0, lvM 1) by rfl] at h3
 have h4 := T_sgYA (n := 4) (by decide) (l := lvM 1) (e := 1) (d := d7) (need := 3) (by rfl) (m := 64) (q := 65) (a := 3392) (by decide)
 rw [show selS (lvM 1) 1 d7 3 4 = lvS by rfl] at h4
 have hok : okM 4 (lvM 1) := by
  constructor
  ·decide
  ·intro p hp
   simp [lvM] at hp
   rcases hp with rfl | rfl | rfl <;> decide
 have h5 := T_laA (N := 4) (by decide) hok 3 (m := 64) (q := 65) (by decide)
 have h6 := T_laA (N := 4) (by decide) hok 4 (m := 64) (q := 65) (by decide)
 rw [show epM 4 (lvM 1) = [1, 1, 0, 1] by rfl] at h5 h6
 rw [show nthV [1, 1, 0, 1] 3 = 1 from (nth_found (by decide)).symm] at h5
 rw [show nthV [1, 1, 0, 1] 4 = 0 from (nth_found (by decide)).symm] at h6
 refine T_al bdLv3_p Try.func30 ?_
 simp only [All]; and_intros
 all_goals first
  | exact True.intro
  | exact h0
  | exact h1
  | exact h2
  | exact h3
  | exact h4
  | exact h5
  | exact h6
  | rfl
  | (with_reducible assumption)
  | (rw [decide_eq_true_eq]; omega)
  | (rw [decide_eq_false_iff_not]; omega)
  | with_reducible rfl
  | (intro _ _; exact True.intro)
  | (intro _ _; with_reducible rfl)
  | (intro _ _; rfl)
  | (simp only [IntKind.min, IntKind.max, IntKind.signed, IntKind.bits, if_true]; omega)
  | omega
  | (intro h; exact h)
  | exact .inl rfl
  | (simp; done)
end Go.Proofs.Ytpallipnhmoipaa
namespace Go.Proofs.Ytpallipnhmoipaa
open Go Sy Go.Proofs
/-- An Add's arguments. -/
structure SAct where
 node : Int := 0
 epoch : Int := 0
 d : List Int := []
 tag : List Int := []
def SAct.c (a : SAct) : List V := [.int .i64 a.node, .int .i64 a.epoch, .seg .u8 32 a.d, .seg .u8 16 a.tag]
def z32 : List Int := List.replicate 32 0
noncomputable def nbDb (b : Bool) : Nat → List V → Heap → Nat → List Cl := dbQ [
 (38, fun a _ _ => match a with | [.ptr m _ _ _ _, _] => [{ rd := [m], val := .tup [.int .i64 0, dgV z32] }] | _ => [{ val := .tup [.int .i64 0, dgV z32] }]),
 (31, fun a _ _ => match a with | [.ptr m _ _ _ _, _, _, _, _] => [{ rd := [m], val := .int .i64 1 }] | _ => [{ val := .int .i64 1 }]),
 (32, fun a _ _ => match a with | [.ptr m _ _ _ _, _, _, _] => [{ rd := [m], val := .snil }] | _ => [{ val := .snil }]),
 (35, fun a _ _ => match a with | [.ptr m _ _ _ _, _] => [{ rd := [m], val := .int .i64 0 }] | _ => [{ val := .int .i64 0 }]),
 (30, cVal (.bool b))]
noncomputable def bdNb (a : SAct) : Bd := { f := Try.f9, args := [.agg a.c], kb := { db := nbDb true, lp := fun _ _ => [(True, .rounds 3)], lit := true } }
end Go.Proofs.Ytpallipnhmoipaa
namespace Go.Proofs.Ytpallipnhmoipaa
open Go Sy Go.Proofs
theorem bdNb_p (a : SAct) :
  along Try.prog (bdNb a) [] = (some (.bool true, [], [q2, (0 : Int) ≤ (0 : Int) ∧ (0 : Int) < (2 : Int), T Try.prog 38 [.pnil, .int .i64 (SAct.node a)] [] (.tup [.int .i64 0, .agg [.seg .u8 32 z32]]) [], T Try.prog 31 [.pnil, .int .i64 (SAct.node a), .int .i64 (SAct.epoch a), .agg [.seg .u8 32 (SAct.d a)], .agg [.seg .u8 16 (SAct.tag a)]] [] (.int .i64 1) [], q false, q false, q false, T Try.prog 32 [.pnil, .int .i64 (SAct.epoch a), .agg [.seg .u8 32 (SAct.d a)], .int .i64 1] [] .snil [], q false, T Try.prog 35 [.pnil, .int .i64 1] [] (.int .i64 0) [], q false, InR IntKind.i64 (1 : Int), q2, (0 : Int) ≤ (1 : Int) ∧ (1 : Int) < (2 : Int), T Try.prog 38 [.ptr (.o 192) 0 0 0 0, .int .i64 (SAct.node a)] [(.o 192, .flat [.int .i64 0, V.mpnil])] (.tup [.int .i64 0, .agg [.seg .u8 32 z32]]) [(.o 192, .flat [.int .i64 0, V.mpnil])], T Try.prog 31 [.ptr (.o 192) 0 0 0 0, .int .i64 (SAct.node a), .int .i64 (SAct.epoch a), .agg [.seg .u8 32 (SAct.d a)], .agg [.seg .u8 16 (SAct.tag a)]] [(.o 192, .flat [.int .i64 0, V.mpnil])] (.int .i64 1) [(.o 192, .flat [.int .i64 0, V.mpnil])], q false, q false, q false, T Try.prog 32 [.ptr (.o 192) 0 0 0 0, .int .i64 (SAct.epoch a), .agg [.seg .u8 32 (SAct.d a)], .int .i64 1] [(.o 192, .flat [.int .i64 0, V.mpnil])] .snil [(.o 192, .flat [.int .i64 0, V.mpnil])], q false, T Try.prog 35 [.ptr (.o 192) 0 0 0 0, .int .i64 1] [(.o 192, .flat [.int .i64 0, V.mpnil])] (.int .i64 0) [(.o 192, .flat [.int .i64 0, V.mpnil])], q false, InR IntKind.i64 (2 : Int), q false, T Try.prog 30 [] [] (.bool true) []]) : Option (V × Heap × List Prop)) := by kernel_rfl

theorem T_of1A (n k : Int) (m : Nat) : T Try.prog 38 [mP m, .int .i64 k] [(.o m, .flat [.int .i64 n, .mpnil])] (.tup [.int .i64 0, dgV (List.replicate 32 0)]) [(.o m, .flat [.int .i64 n, .mpnil])] := by
 obtain ⟨σ, hσ, h1⟩ := T.at (T_of1 n k) [.o 0] [.o m] (by decide) (by simp) rfl
 simp only [List.map_cons, List.map_nil, List.cons.injEq, and_true] at hσ
 simpa [V.rens, V.ren, Heap.ren, B.ren, mP, dgV, hσ] using h1
theorem T_am1A (n k e : Int) (d t : List Int) (m : Nat) : T Try.prog 31 [mP m, .int .i64 k, .int .i64 e, dgV d, tgV t] [(.o m, .flat [.int .i64 n, .mpnil])] (.int .i64 1) [(.o m, .flat [.int .i64 n, .mpnil])] := by
 obtain ⟨σ, hσ, h1⟩ := T.at (T_am1 n k e d t) [.o 0] [.o m] (by decide) (by simp) rfl
 simp only [List.map_cons, List.map_nil, List.cons.injEq, and_true] at hσ
 simpa [V.rens, V.ren, Heap.ren, B.ren, mP, dgV, tgV, hσ] using h1
theorem T_sg1A (n e : Int) (d : List Int) (need : Int) (m : Nat) : T Try.prog 32 [mP m, .int .i64 e, dgV d, .int .i64 need] [(.o m, .flat [.int .i64 n, .mpnil])] .snil [(.o m, .flat [.int .i64 n, .mpnil])] := by
 obtain ⟨σ, hσ, h1⟩ := T.at (T_sg1 n e d need) [.o 0] [.o m] (by decide) (by simp) rfl
 simp only [List.map_cons, List.map_nil, List.cons.injEq, and_true] at hσ
 simpa [V.rens, V.ren, Heap.ren, B.ren, mP, dgV, hσ] using h1
theorem T_la1A (n need : Int) (m : Nat) : T Try.prog 35 [mP m, .int .i64 need] [(.o m, .flat [.int .i64 n, .mpnil])] (.int .i64 0) [(.o m, .flat [.int .i64 n, .mpnil])] := by
 obtain ⟨σ, hσ, h1⟩ := T.at (T_la1 n need) [.o 0] [.o m] (by decide) (by simp) rfl
 simp only [List.map_cons, List.map_nil, List.cons.injEq, and_true] at hσ
 simpa [V.rens, V.ren, Heap.ren, B.ren, mP, hσ] using h1
theorem T_nb (a : SAct) : T Try.prog 9 [.agg a.c] [] (.bool true) [] := by
 have h1 := T_of0 a.node
 have h2 := T_am0 a.node a.epoch a.d a.tag
 have h3 := T_sg0 a.epoch a.d 1
 have h4 := T_la0 1
 have g1 := T_of1A 0 a.node 192
 have g2 := T_am1A 0 a.node a.epoch a.d a.tag 192
 have g3 := T_sg1A 0 a.epoch a.d 1 192
 have g4 := T_la1A 0 1 192
 have h9 := T_lv3
 refine T_al (bdNb_p a) Try.func9 ?_
 simp only [All]; and_intros
 all_goals first
  | exact True.intro
  | exact h1
  | exact h2
  | exact h3
  | exact h4
  | exact h9
  | exact g1
  | exact g2
  | exact g3
  | exact g4
  | with_reducible rfl
  | decide
end Go.Proofs.Ytpallipnhmoipaa
namespace Go.Proofs.Ytpallipnhmoipaa
open Go Sy Go.Proofs
def eR (l : List (Int × MK)) : Nat → List V := fun i => [.int .i64 (ofM l (i : Nat)).1]
def dR (l : List (Int × MK)) : Nat → List V := fun i => [.seg .u8 32 (ofM l (i : Nat)).2.1]
def tR (l : List (Int × MK)) : Nat → List V := fun i => [.seg .u8 16 (ofM l (i : Nat)).2.2]
def rfB (n : Nat) : B := .flat [.int .i64 (n : Int), .sl (.o 3) 1 0 0 0 n none, .sl (.o 4) 32 0 0 0 n none, .sl (.o 5) 16 0 0 0 n none]
def rH (n : Nat) (l : List (Int × MK)) : Heap := [(.o 2, rfB n), (.o 3, .rows 1 n (eR l) false), (.o 4, .rows 32 n (dR l) false), (.o 5, .rows 16 n (tR l) false)]
def rwM (a : Nm) (h : Heap) : List Nm := match pull a h with
 | some (.flat [_, .sl b _ _ _ _ _ _, .sl c _ _ _ _ _ _, .sl d _ _ _ _ _ _], _) => [a, b, c, d]
 | _ => [a]
def rwN (t : St) : List Nm := match getV t.tmps 2 with
 | .ptr a _ _ _ _ => rwM a t.heap
 | _ => []
noncomputable def bdRw (n : Int) (g : Bool) : Bd := { f := Try.f33, args := [.int .i64 n], kb := { db := dbQ [(13, cVal (.bool g))] }, names := rwN }
def raS (n : Nat) (l : List (Int × MK)) : St := ⟨mkT 77 [(10, .int .i64 0)], rH n l, 6, []⟩
noncomputable def bdRk (n : Nat) (l : List (Int × MK)) (k e : Int) (d t : List Int) : Bd := { f := Try.f34, args := [mP 2, .int .i64 k, .int .i64 e, dgV d, tgV t], pre := rH n l, base := 6, kb := kb0, names := fun _ => [.o 2, .o 3, .o 4, .o 5] }
noncomputable def bdRu (n : Nat) (l : List (Int × MK)) (k e : Int) (d t : List Int) (l2 : List (Int × MK)) : Bd := { f := Try.f34, args := [mP 2, .int .i64 k, .int .i64 e, dgV d, tgV t], pre := rH n l, base := 6, kb := kb0, k := fun _ _ => some (wTo (raS n l2)), names := fun _ => [.o 2, .o 3, .o 4, .o 5] }
noncomputable def bdRe (n : Nat) (l : List (Int × MK)) (need v : Int) : Bd := { f := Try.f36, args := [mP 2, .int .i64 need], pre := rH n l, base := 6, kb := { db := dbQ [(22, fun _ _ _ => [{ rd := [.o 3], val := .int .i64 v }])] }, names := fun _ => [.o 2, .o 3, .o 4, .o 5] }
def rsI (n : Nat) (l : List (Int × MK)) (e : Int) (d : List Int) (need : Int) (L : List SSign) (k : Nat) : St := ⟨mkT 76 [(0, mP 2), (1, .int .i64 e), (3, .int .i64 need), (6, .ptr (.o 6) 0 0 0 0), (9, sgL 7 L), (10, .int .i64 k)], rH n l ++ [(.o 6, .flat [.seg .u8 32 d]), (.o 7, sbL L)], 8, []⟩
noncomputable def bdRs (n : Nat) (l : List (Int × MK)) (e : Int) (d : List Int) (need : Int) (L : List SSign) : Bd := { f := Try.f37, args := [mP 2, .int .i64 e, dgV d, .int .i64 need], pre := rH n l, base := 6, kb := { db := fun _ _ _ _ => [], fx := fun id _ => bif Nat.beq id 2 then [.virt 9 17] else [], lp := fun _ t => [(True, .loop (n + 1) (wToS [(.o 6, nmV (getV t.tmps 6)), (.o 7, nmV (getV t.tmps 9))] (rsI n l e d need [] 0)) (.exit 0) (rsI n l e d need L n))] }, names := fun t => match getV t.tmps 8 with | .sl a _ _ _ _ _ _ => [.o 2, .o 3, .o 4, .o 5, a] | _ => [.o 2, .o 3, .o 4, .o 5] }
noncomputable def pcRs (n : Nat) (l : List (Int × MK)) (e : Int) (d : List Int) (need : Int) (L : List SSign) (k : Nat) (L2 : List SSign) : Pc := { c := cB (cB (cR (cL (cR (cR (bodyOf Try.f37)))))), st := rsI n l e d need L k, p := 6, kb := kb0, k := fun x_ t => match x_ with
 | .normal => some (wToS [(.o 7, nmV (getV t.tmps 9))] (rsI n l e d need L2 (k + 1)))
 | _ => some (wTo (rsI n l e d need L n)) }
end Go.Proofs.Ytpallipnhmoipaa
namespace Go.Proofs.Ytpallipnhmoipaa
open Go Sy Go.Proofs
theorem bdRw_p1 (n : Int) (g : Bool) :
  along Try.prog (bdRw n g) [true] = (some (.pnil, [], [T Try.prog 13 [.int .i64 n] [] (.bool g) [], (!g) = true]) : Option (V × Heap × List Prop)) := by kernel_rfl
theorem bdRw_p0 (n : Int) (g : Bool) :
  along Try.prog (bdRw n g) [false] = (some (.ptr (.o 768) 0 0 0 0, [(.o 768, .flat [.int .i64 n, .sl (.o 384) 1 0 0 0 (Int.toNat n) (some (Int.toNat n)), .sl (.o 512) 32 0 0 0 (Int.toNat n) (some (Int.toNat n)), .sl (.o 640) 16 0 0 0 (Int.toNat n) (some (Int.toNat n))]), (.o 384, .rows 1 (Int.toNat n) (fun x => [.int .i64 0]) false), (.o 512, .rows 32 (Int.toNat n) (fun x => [.seg .u8 32 z32]) false), (.o 640, .rows 16 (Int.toNat n) (fun x => [.seg .u8 16 z16]) false)], [T Try.prog 13 [.int .i64 n] [] (.bool g) [], (!g) = false, (0 : Int) ≤ n ∧ n ≤ n, (8 : Int) * n ≤ (281474976710656 : Int), n ≤ (281474976710656 : Int), (0 : Int) ≤ n ∧ n ≤ n, (32 : Int) * n ≤ (281474976710656 : Int), n ≤ (281474976710656 : Int), (0 : Int) ≤ n ∧ n ≤ n, (16 : Int) * n ≤ (281474976710656 : Int), n ≤ (281474976710656 : Int)]) : Option (V × Heap × List Prop)) := by kernel_rfl

theorem bdRk_p1111 (n : Nat) (l : List (Int × MK)) (k : Int) (e : Int) (d : List Int) (t : List Int) :
  along Try.prog (bdRk n l k e d t) [true, true, true, true] = (some (.int .i64 2, [(.o 2, .flat [.int .i64 ↑n, .sl (.o 3) 1 0 0 0 n none, .sl (.o 4) 32 0 0 0 n none, .sl (.o 5) 16 0 0 0 n none]), (.o 3, .rows 1 n (eR l) false), (.o 4, .rows 32 n (dR l) false), (.o 5, .rows 16 n (tR l) false)], [decide (k < (0 : Int)) = true, q2, q2, q2]) : Option (V × Heap × List Prop)) := by kernel_rfl
theorem bdRk_p0111 (n : Nat) (l : List (Int × MK)) (k : Int) (e : Int) (d : List Int) (t : List Int) :
  along Try.prog (bdRk n l k e d t) [false, true, true, true] = (some (.int .i64 2, [(.o 2, .flat [.int .i64 ↑n, .sl (.o 3) 1 0 0 0 n none, .sl (.o 4) 32 0 0 0 n none, .sl (.o 5) 16 0 0 0 n none]), (.o 3, .rows 1 n (eR l) false), (.o 4, .rows 32 n (dR l) false), (.o 5, .rows 16 n (tR l) false)], [decide (k < (0 : Int)) = false, decide ((↑n : Int) ≤ k) = true, q2, q2]) : Option (V × Heap × List Prop)) := by kernel_rfl
theorem bdRk_p0011 (n : Nat) (l : List (Int × MK)) (k : Int) (e : Int) (d : List Int) (t : List Int) :
  along Try.prog (bdRk n l k e d t) [false, false, true, true] = (some (.int .i64 2, [(.o 2, .flat [.int .i64 ↑n, .sl (.o 3) 1 0 0 0 n none, .sl (.o 4) 32 0 0 0 n none, .sl (.o 5) 16 0 0 0 n none]), (.o 3, .rows 1 n (eR l) false), (.o 4, .rows 32 n (dR l) false), (.o 5, .rows 16 n (tR l) false)], [decide (k < (0 : Int)) = false, decide ((↑n : Int) ≤ k) = false, decide (e < (1 : Int)) = true, q2]) : Option (V × Heap × List Prop)) := by kernel_rfl
theorem bdRk_p0001 (n : Nat) (l : List (Int × MK)) (k : Int) (e : Int) (d : List Int) (t : List Int) :
  along Try.prog (bdRk n l k e d t) [false, false, false, true] = (some (.int .i64 2, [(.o 2, .flat [.int .i64 ↑n, .sl (.o 3) 1 0 0 0 n none, .sl (.o 4) 32 0 0 0 n none, .sl (.o 5) 16 0 0 0 n none]), (.o 3, .rows 1 n (eR l) false), (.o 4, .rows 32 n (dR l) false), (.o 5, .rows 16 n (tR l) false)], [decide (k < (0 : Int)) = false, decide ((↑n : Int) ≤ k) = false, decide (e < (1 : Int)) = false, decide ((1048576 : Int) < e) = true]) : Option (V × Heap × List Prop)) := by kernel_rfl
theorem bdRk_p000011 (n : Nat) (l : List (Int × MK)) (k : Int) (e : Int) (d : List Int) (t : List Int) :
  along Try.prog (bdRk n l k e d t) [false, false, false, false, true, true] = (some (.int .i64 0, [(.o 2, .flat [.int .i64 ↑n, .sl (.o 3) 1 0 0 0 n none, .sl (.o 4) 32 0 0 0 n none, .sl (.o 5) 16 0 0 0 n none]), (.o 3, .rows 1 n (eR l) false), (.o 4, .rows 32 n (dR l) false), (.o 5, .rows 16 n (tR l) false)], [decide (k < (0 : Int)) = false, decide ((↑n : Int) ≤ k) = false, decide (e < (1 : Int)) = false, decide ((1048576 : Int) < e) = false, (0 : Int) ≤ k ∧ k < (↑n : Int), (0 : Nat) + Int.toNat k < n, decide ((ofM l (↑((0 : Nat) + Int.toNat k) : Int)).1 = e) = true, (0 : Int) ≤ k ∧ k < (↑n : Int), (0 : Nat) + Int.toNat k < n, decide ((Prod.snd (ofM l (↑((0 : Nat) + Int.toNat k) : Int))).1 = d) = true]) : Option (V × Heap × List Prop)) := by kernel_rfl
theorem bdRk_p000010 (n : Nat) (l : List (Int × MK)) (k : Int) (e : Int) (d : List Int) (t : List Int) :
  along Try.prog (bdRk n l k e d t) [false, false, false, false, true, false] = (some (.int .i64 181, [(.o 2, .flat [.int .i64 ↑n, .sl (.o 3) 1 0 0 0 n none, .sl (.o 4) 32 0 0 0 n none, .sl (.o 5) 16 0 0 0 n none]), (.o 3, .rows 1 n (eR l) false), (.o 4, .rows 32 n (dR l) false), (.o 5, .rows 16 n (tR l) false)], [decide (k < (0 : Int)) = false, decide ((↑n : Int) ≤ k) = false, decide (e < (1 : Int)) = false, decide ((1048576 : Int) < e) = false, (0 : Int) ≤ k ∧ k < (↑n : Int), (0 : Nat) + Int.toNat k < n, decide ((ofM l (↑((0 : Nat) + Int.toNat k) : Int)).1 = e) = true, (0 : Int) ≤ k ∧ k < (↑n : Int), (0 : Nat) + Int.toNat k < n, decide ((Prod.snd (ofM l (↑((0 : Nat) + Int.toNat k) : Int))).1 = d) = false]) : Option (V × Heap × List Prop)) := by kernel_rfl
theorem bdRk_p000001 (n : Nat) (l : List (Int × MK)) (k : Int) (e : Int) (d : List Int) (t : List Int) :
  along Try.prog (bdRk n l k e d t) [false, false, false, false, false, true] = (some (.int .i64 90, [(.o 2, .flat [.int .i64 ↑n, .sl (.o 3) 1 0 0 0 n none, .sl (.o 4) 32 0 0 0 n none, .sl (.o 5) 16 0 0 0 n none]), (.o 3, .rows 1 n (eR l) false), (.o 4, .rows 32 n (dR l) false), (.o 5, .rows 16 n (tR l) false)], [decide (k < (0 : Int)) = false, decide ((↑n : Int) ≤ k) = false, decide (e < (1 : Int)) = false, decide ((1048576 : Int) < e) = false, (0 : Int) ≤ k ∧ k < (↑n : Int), (0 : Nat) + Int.toNat k < n, decide ((ofM l (↑((0 : Nat) + Int.toNat k) : Int)).1 = e) = false, (0 : Int) ≤ k ∧ k < (↑n : Int), (0 : Nat) + Int.toNat k < n, decide (e < (ofM l (↑((0 : Nat) + Int.toNat k) : Int)).1) = true]) : Option (V × Heap × List Prop)) := by kernel_rfl
theorem bdRk_p000000 (n : Nat) (l : List (Int × MK)) (k : Int) (e : Int) (d : List Int) (t : List Int) :
  along Try.prog (bdRk n l k e d t) [false, false, false, false, false, false] = (some (.int .i64 0, [(.o 2, .flat [.int .i64 ↑n, .sl (.o 3) 1 0 0 0 n none, .sl (.o 4) 32 0 0 0 n none, .sl (.o 5) 16 0 0 0 n none]), (.o 3, .rows 1 n (fun k_1 => Bool.rec [.int .i64 (ofM l (↑k_1 : Int)).1] [.int .i64 e] (Nat.beq k_1 (0 + Int.toNat k))) false), (.o 4, .rows 32 n (fun k_1 => Bool.rec [.seg .u8 32 (Prod.snd (ofM l (↑k_1 : Int))).1] [.seg .u8 32 d] (Nat.beq k_1 (0 + Int.toNat k))) false), (.o 5, .rows 16 n (fun k_1 => Bool.rec [.seg .u8 16 (Prod.snd (ofM l (↑k_1 : Int))).2] [.seg .u8 16 t] (Nat.beq k_1 (0 + Int.toNat k))) false)], [decide (k < (0 : Int)) = false, decide ((↑n : Int) ≤ k) = false, decide (e < (1 : Int)) = false, decide ((1048576 : Int) < e) = false, (0 : Int) ≤ k ∧ k < (↑n : Int), (0 : Nat) + Int.toNat k < n, decide ((ofM l (↑((0 : Nat) + Int.toNat k) : Int)).1 = e) = false, (0 : Int) ≤ k ∧ k < (↑n : Int), (0 : Nat) + Int.toNat k < n, decide (e < (ofM l (↑((0 : Nat) + Int.toNat k) : Int)).1) = false, (0 : Int) ≤ k ∧ k < (↑n : Int), (0 : Nat) + Int.toNat k < n, (0 : Int) ≤ k ∧ k < (↑n : Int), (0 : Nat) + Int.toNat k < n, (0 : Int) ≤ k ∧ k < (↑n : Int), (0 : Nat) + Int.toNat k < n]) : Option (V × Heap × List Prop)) := by kernel_rfl

theorem bdRu_p000000 (n : Nat) (l : List (Int × MK)) (k : Int) (e : Int) (d : List Int) (t : List Int) (l2 : List (Int × MK)) :
  along Try.prog (bdRu n l k e d t l2) [false, false, false, false, false, false] = (some (.int .i64 0, [(.o 2, .flat [.int .i64 ↑n, .sl (.o 3) 1 0 0 0 n none, .sl (.o 4) 32 0 0 0 n none, .sl (.o 5) 16 0 0 0 n none]), (.o 3, .rows 1 n (eR l2) false), (.o 4, .rows 32 n (dR l2) false), (.o 5, .rows 16 n (tR l2) false)], [decide (k < (0 : Int)) = false, decide ((↑n : Int) ≤ k) = false, decide (e < (1 : Int)) = false, decide ((1048576 : Int) < e) = false, (0 : Int) ≤ k ∧ k < (↑n : Int), (0 : Nat) + Int.toNat k < n, decide ((ofM l (↑((0 : Nat) + Int.toNat k) : Int)).1 = e) = false, (0 : Int) ≤ k ∧ k < (↑n : Int), (0 : Nat) + Int.toNat k < n, decide (e < (ofM l (↑((0 : Nat) + Int.toNat k) : Int)).1) = false, (0 : Int) ≤ k ∧ k < (↑n : Int), (0 : Nat) + Int.toNat k < n, (0 : Int) ≤ k ∧ k < (↑n : Int), (0 : Nat) + Int.toNat k < n, (0 : Int) ≤ k ∧ k < (↑n : Int), (0 : Nat) + Int.toNat k < n, q (↑n : Int), q0, q0, q0, q n, (none : Option Nat) = none ∨ (none : Option Nat) = none, q0, q0, q0, q n, (none : Option Nat) = none ∨ (none : Option Nat) = none, q0, q0, q0, q n, (none : Option Nat) = none ∨ (none : Option Nat) = none, q n, ∀ (k_1 : Nat), k_1 < n → Bool.rec [V.int IntKind.i64 (ofM l (↑k_1 : Int)).1] [V.int IntKind.i64 e] (Nat.beq k_1 ((0 : Nat) + Int.toNat k)) = [V.int IntKind.i64 (ofM l2 (↑k_1 : Int)).1], false = false → false = false, q n, ∀ (k_1 : Nat), k_1 < n → Bool.rec [V.seg IntKind.u8 (32 : Nat) (Prod.snd (ofM l (↑k_1 : Int))).1] [V.seg IntKind.u8 (32 : Nat) d] (Nat.beq k_1 ((0 : Nat) + Int.toNat k)) = [V.seg IntKind.u8 (32 : Nat) (Prod.snd (ofM l2 (↑k_1 : Int))).1], false = false → false = false, q n, ∀ (k_1 : Nat), k_1 < n → Bool.rec [V.seg IntKind.u8 (16 : Nat) (Prod.snd (ofM l (↑k_1 : Int))).2] [V.seg IntKind.u8 (16 : Nat) t] (Nat.beq k_1 ((0 : Nat) + Int.toNat k)) = [V.seg IntKind.u8 (16 : Nat) (Prod.snd (ofM l2 (↑k_1 : Int))).2], false = false → false = false, q1]) : Option (V × Heap × List Prop)) := by kernel_rfl

theorem bdRe_p11 (n : Nat) (l : List (Int × MK)) (need : Int) (v : Int) :
  along Try.prog (bdRe n l need v) [true, true] = (some (.int .i64 0, [(.o 2, .flat [.int .i64 ↑n, .sl (.o 3) 1 0 0 0 n none, .sl (.o 4) 32 0 0 0 n none, .sl (.o 5) 16 0 0 0 n none]), (.o 3, .rows 1 n (eR l) false), (.o 4, .rows 32 n (dR l) false), (.o 5, .rows 16 n (tR l) false)], [decide (need < (1 : Int)) = true, q2]) : Option (V × Heap × List Prop)) := by kernel_rfl
theorem bdRe_p01 (n : Nat) (l : List (Int × MK)) (need : Int) (v : Int) :
  along Try.prog (bdRe n l need v) [false, true] = (some (.int .i64 0, [(.o 2, .flat [.int .i64 ↑n, .sl (.o 3) 1 0 0 0 n none, .sl (.o 4) 32 0 0 0 n none, .sl (.o 5) 16 0 0 0 n none]), (.o 3, .rows 1 n (eR l) false), (.o 4, .rows 32 n (dR l) false), (.o 5, .rows 16 n (tR l) false)], [decide (need < (1 : Int)) = false, decide ((↑n : Int) < need) = true]) : Option (V × Heap × List Prop)) := by kernel_rfl
theorem bdRe_p00 (n : Nat) (l : List (Int × MK)) (need : Int) (v : Int) :
  along Try.prog (bdRe n l need v) [false, false] = (some (.int .i64 v, [(.o 2, .flat [.int .i64 ↑n, .sl (.o 3) 1 0 0 0 n none, .sl (.o 4) 32 0 0 0 n none, .sl (.o 5) 16 0 0 0 n none]), (.o 3, .rows 1 n (eR l) false), (.o 4, .rows 32 n (dR l) false), (.o 5, .rows 16 n (tR l) false)], [decide (need < (1 : Int)) = false, decide ((↑n : Int) < need) = false, T Try.prog 22 [.sl (.o 3) 1 0 0 0 n none, .int .i64 need] [(.o 3, .rows 1 n (eR l) false)] (.int .i64 v) [(.o 3, .rows 1 n (eR l) false)]]) : Option (V × Heap × List Prop)) := by kernel_rfl

noncomputable def bdRs_c (n : Nat) (l : List (Int × MK)) (e : Int) (d : List Int) (need : Int) (L : List SSign) : Nat → List Prop
 | 0 => [RLoop Try.prog none 6 (cB (cB (cR (cL (cR (cR (bodyOf (Bd.f (bdRs n l e d need L))))))))) (n + 1) (St.mk [.ptr (.o 2) 0 0 0 0, .int .i64 e, .any, .int .i64 need, .any, .any, .ptr (.o 6) 0 0 0 0, .any, .any, .sl (.o 7) 17 0 0 0 0 none, .int .i64 0, .any, .any, .any, .any, .any, .any, .any, .any, .any, .any, .any, .any, .any, .any, .any, .any, .any, .any, .any, .any, .any, .any, .any, .any, .any, .any, .any, .any, .any, .any, .any, .any, .any, .any, .any, .any, .any, .any, .any, .any, .any, .any, .any, .any, .any, .any, .any, .any, .any, .any, .any, .any, .any, .any, .any, .any, .any, .any, .any, .any, .any, .any, .any, .any, .any] [(.o 2, .flat [.int .i64 ↑n, .sl (.o 3) 1 0 0 0 n none, .sl (.o 4) 32 0 0 0 n none, .sl (.o 5) 16 0 0 0 n none]), (.o 3, .rows 1 n (eR l) false), (.o 4, .rows 32 n (dR l) false), (.o 5, .rows 16 n (tR l) false), (.o 6, .flat [.seg .u8 32 d]), (.o 7, .rows 17 0 (gn (siF [])) true)] 8 []) (.exit 0) (St.mk [.ptr (.o 2) 0 0 0 0, .int .i64 e, .any, .int .i64 need, .any, .any, .ptr (.o 6) 0 0 0 0, .any, .any, .sl (.o 7) 17 0 0 0 (List.length L) none, .int .i64 ↑n, .any, .any, .any, .any, .any, .any, .any, .any, .any, .any, .any, .any, .any, .any, .any, .any, .any, .any, .any, .any, .any, .any, .any, .any, .any, .any, .any, .any, .any, .any, .any, .any, .any, .any, .any, .any, .any, .any, .any, .any, .any, .any, .any, .any, .any, .any, .any, .any, .any, .any, .any, .any, .any, .any, .any, .any, .any, .any, .any, .any, .any, .any, .any, .any, .any] [(.o 2, .flat [.int .i64 ↑n, .sl (.o 3) 1 0 0 0 n none, .sl (.o 4) 32 0 0 0 n none, .sl (.o 5) 16 0 0 0 n none]), (.o 3, .rows 1 n (eR l) false), (.o 4, .rows 32 n (dR l) false), (.o 5, .rows 16 n (tR l) false), (.o 6, .flat [.seg .u8 32 d]), (.o 7, .rows 17 (List.length L) (gn (siF L)) true)] 8 []), q (↑n : Int), q0, q0, q0, q n, (none : Option Nat) = none ∨ (none : Option Nat) = none, q0, q0, q0, q n, (none : Option Nat) = none ∨ (none : Option Nat) = none, q0, q0, q0, q n, (none : Option Nat) = none ∨ (none : Option Nat) = none, q n, ∀ (k : Nat), k < n → [V.int IntKind.i64 (ofM l (↑k : Int)).1] = [V.int IntKind.i64 (ofM l (↑k : Int)).1], false = false → false = false, q n, ∀ (k : Nat), k < n → [V.seg IntKind.u8 (32 : Nat) (Prod.snd (ofM l (↑k : Int))).1] = [V.seg IntKind.u8 (32 : Nat) (Prod.snd (ofM l (↑k : Int))).1], false = false → false = false, q n, ∀ (k : Nat), k < n → [V.seg IntKind.u8 (16 : Nat) (Prod.snd (ofM l (↑k : Int))).2] = [V.seg IntKind.u8 (16 : Nat) (Prod.snd (ofM l (↑k : Int))).2], false = false → false = false, q (32 : Nat), q d, (0 : Nat) = nat_lit 0, ∀ (k : Nat), k < (0 : Nat) → [] = [V.int IntKind.i64 (0 : Int), V.seg IntKind.u8 (16 : Nat) []], true = false → true = false, q0, q0, q0, q e, q need, q0, q0, q0, q0, q0, q0, (0 : Nat) = nat_lit 0, (none : Option Nat) = none ∨ (none : Option Nat) = none, q1]
 | _ => []
theorem bdRs_p11 (n : Nat) (l : List (Int × MK)) (e : Int) (d : List Int) (need : Int) (L : List SSign) :
 along Try.prog (bdRs n l e d need L) [true, true] = (some (.snil, [(.o 2, .flat [.int .i64 ↑n, .sl (.o 3) 1 0 0 0 n none, .sl (.o 4) 32 0 0 0 n none, .sl (.o 5) 16 0 0 0 n none]), (.o 3, .rows 1 n (eR l) false), (.o 4, .rows 32 n (dR l) false), (.o 5, .rows 16 n (tR l) false)], bdRs_c n l e d need L 0 ++ [decide (need < (1 : Int)) = true, q2]) : Option (V × Heap × List Prop)) := by kernel_rfl
theorem bdRs_p01 (n : Nat) (l : List (Int × MK)) (e : Int) (d : List Int) (need : Int) (L : List SSign) :
 along Try.prog (bdRs n l e d need L) [false, true] = (some (.snil, [(.o 2, .flat [.int .i64 ↑n, .sl (.o 3) 1 0 0 0 n none, .sl (.o 4) 32 0 0 0 n none, .sl (.o 5) 16 0 0 0 n none]), (.o 3, .rows 1 n (eR l) false), (.o 4, .rows 32 n (dR l) false), (.o 5, .rows 16 n (tR l) false)], bdRs_c n l e d need L 0 ++ [decide (need < (1 : Int)) = false, decide ((↑(List.length L) : Int) < need) = true]) : Option (V × Heap × List Prop)) := by kernel_rfl
theorem bdRs_p00 (n : Nat) (l : List (Int × MK)) (e : Int) (d : List Int) (need : Int) (L : List SSign) :
 along Try.prog (bdRs n l e d need L) [false, false] = (some (.sl (.o 7) 17 0 0 0 (List.length L) none, [(.o 2, .flat [.int .i64 ↑n, .sl (.o 3) 1 0 0 0 n none, .sl (.o 4) 32 0 0 0 n none, .sl (.o 5) 16 0 0 0 n none]), (.o 3, .rows 1 n (eR l) false), (.o 4, .rows 32 n (dR l) false), (.o 5, .rows 16 n (tR l) false), (.o 7, .rows 17 (List.length L) (gn (siF L)) true)], bdRs_c n l e d need L 0 ++ [decide (need < (1 : Int)) = false, decide ((↑(List.length L) : Int) < need) = false]) : Option (V × Heap × List Prop)) := by kernel_rfl

noncomputable def pcRs_c (n : Nat) (l : List (Int × MK)) (e : Int) (d : List Int) (need : Int) (L : List SSign) (k : Nat) (L2 : List SSign) : Nat → List Prop
 | 0 => [decide ((↑k : Int) < (↑n : Int)) = true, (0 : Int) ≤ (↑k : Int) ∧ (↑k : Int) < (↑n : Int), (0 : Nat) + Int.toNat (↑k : Int) < n]
 | 1 => [decide ((0 : Int) < (ofM l (↑((0 : Nat) + Int.toNat (↑k : Int)) : Int)).1) = true, (0 : Int) ≤ (↑k : Int) ∧ (↑k : Int) < (↑n : Int), (0 : Nat) + Int.toNat (↑k : Int) < n]
 | 2 => [decide ((ofM l (↑((0 : Nat) + Int.toNat (↑k : Int)) : Int)).1 = e) = true, (0 : Int) ≤ (↑k : Int) ∧ (↑k : Int) < (↑n : Int), (0 : Nat) + Int.toNat (↑k : Int) < n]
 | _ => []
theorem pcRs_p11111 (n : Nat) (l : List (Int × MK)) (e : Int) (d : List Int) (need : Int) (L : List SSign) (k : Nat) (L2 : List SSign) :
 alongPc Try.prog (pcRs n l e d need L k L2) [true, true, true, true, true] = (some (.normal, St.mk [.ptr (.o 2) 0 0 0 0, .int .i64 e, .any, .int .i64 need, .any, .any, .ptr (.o 6) 0 0 0 0, .any, .any, .sl (.o 7) 17 0 0 0 (List.length L2) none, .int .i64 (↑(k + 1) : Int), .any, .any, .any, .any, .any, .any, .any, .any, .any, .any, .any, .any, .any, .any, .any, .any, .any, .any, .any, .any, .any, .any, .any, .any, .any, .any, .any, .any, .any, .any, .any, .any, .any, .any, .any, .any, .any, .any, .any, .any, .any, .any, .any, .any, .any, .any, .any, .any, .any, .any, .any, .any, .any, .any, .any, .any, .any, .any, .any, .any, .any, .any, .any, .any, .any] [(.o 2, .flat [.int .i64 ↑n, .sl (.o 3) 1 0 0 0 n none, .sl (.o 4) 32 0 0 0 n none, .sl (.o 5) 16 0 0 0 n none]), (.o 3, .rows 1 n (eR l) false), (.o 4, .rows 32 n (dR l) false), (.o 5, .rows 16 n (tR l) false), (.o 6, .flat [.seg .u8 32 d]), (.o 7, .rows 17 (List.length L2) (gn (siF L2)) true)] 8 [], pcRs_c n l e d need L k L2 0 ++ (pcRs_c n l e d need L k L2 1 ++ (pcRs_c n l e d need L k L2 2 ++ [decide ((Prod.snd (ofM l (↑((0 : Nat) + Int.toNat (↑k : Int)) : Int))).1 = d) = true, decide ((↑(List.length L) : Int) < need) = true, (0 : Int) ≤ (↑k : Int) ∧ (↑k : Int) < (↑n : Int), (0 : Nat) + Int.toNat (↑k : Int) < n, q (List.length L), nat_lit 1 ≤ (1 : Nat), ∀ (k_1 : Nat), k_1 < (1 : Nat) → solid (getL [[V.int IntKind.i64 (↑k : Int), V.seg IntKind.u8 (16 : Nat) (Prod.snd (ofM l (↑((0 : Nat) + Int.toNat (↑k : Int)) : Int))).2]] ((0 : Nat) + k_1)) = true, (List.length L + (1 : Nat)) * (24 : Nat) ≤ (140737488355328 : Nat), InR IntKind.i64 ((↑k : Int) + (1 : Int)), q (↑n : Int), q0, q0, q0, q n, (none : Option Nat) = none ∨ (none : Option Nat) = none, q0, q0, q0, q n, (none : Option Nat) = none ∨ (none : Option Nat) = none, q0, q0, q0, q n, (none : Option Nat) = none ∨ (none : Option Nat) = none, q n, ∀ (k : Nat), k < n → [V.int IntKind.i64 (ofM l (↑k : Int)).1] = [V.int IntKind.i64 (ofM l (↑k : Int)).1], false = false → false = false, q n, ∀ (k : Nat), k < n → [V.seg IntKind.u8 (32 : Nat) (Prod.snd (ofM l (↑k : Int))).1] = [V.seg IntKind.u8 (32 : Nat) (Prod.snd (ofM l (↑k : Int))).1], false = false → false = false, q n, ∀ (k : Nat), k < n → [V.seg IntKind.u8 (16 : Nat) (Prod.snd (ofM l (↑k : Int))).2] = [V.seg IntKind.u8 (16 : Nat) (Prod.snd (ofM l (↑k : Int))).2], false = false → false = false, q (32 : Nat), q d, List.length L + (1 : Nat) = List.length L2, ∀ (k_1 : Nat), k_1 < List.length L + (1 : Nat) → catF (List.length L) (gn (siF L)) (fun k_2 => getL [[V.int IntKind.i64 (↑k : Int), V.seg IntKind.u8 (16 : Nat) (Prod.snd (ofM l (↑((0 : Nat) + Int.toNat (↑k : Int)) : Int))).2]] ((0 : Nat) + k_2)) k_1 = [V.int IntKind.i64 (SSign.node (siF L2 k_1)), V.seg IntKind.u8 (16 : Nat) (SSign.tag (siF L2 k_1))], true = false → true = false, q0, q0, q0, q e, q need, q0, q0, q0, q0, q0, q0, List.length L + (1 : Nat) = List.length L2, (none : Option Nat) = none ∨ (none : Option Nat) = none, (↑k : Int) + (1 : Int) = (↑(k + (1 : Nat)) : Int)]))) : Option (Exit × St × List Prop)) := by kernel_rfl
theorem pcRs_p11110 (n : Nat) (l : List (Int × MK)) (e : Int) (d : List Int) (need : Int) (L : List SSign) (k : Nat) (L2 : List SSign) :
 alongPc Try.prog (pcRs n l e d need L k L2) [true, true, true, true, false] = (some (.normal, St.mk [.ptr (.o 2) 0 0 0 0, .int .i64 e, .any, .int .i64 need, .any, .any, .ptr (.o 6) 0 0 0 0, .any, .any, .sl (.o 7) 17 0 0 0 (List.length L2) none, .int .i64 (↑(k + 1) : Int), .any, .any, .any, .any, .any, .any, .any, .any, .any, .any, .any, .any, .any, .any, .any, .any, .any, .any, .any, .any, .any, .any, .any, .any, .any, .any, .any, .any, .any, .any, .any, .any, .any, .any, .any, .any, .any, .any, .any, .any, .any, .any, .any, .any, .any, .any, .any, .any, .any, .any, .any, .any, .any, .any, .any, .any, .any, .any, .any, .any, .any, .any, .any, .any, .any] [(.o 2, .flat [.int .i64 ↑n, .sl (.o 3) 1 0 0 0 n none, .sl (.o 4) 32 0 0 0 n none, .sl (.o 5) 16 0 0 0 n none]), (.o 3, .rows 1 n (eR l) false), (.o 4, .rows 32 n (dR l) false), (.o 5, .rows 16 n (tR l) false), (.o 6, .flat [.seg .u8 32 d]), (.o 7, .rows 17 (List.length L2) (gn (siF L2)) true)] 8 [], pcRs_c n l e d need L k L2 0 ++ (pcRs_c n l e d need L k L2 1 ++ (pcRs_c n l e d need L k L2 2 ++ [decide ((Prod.snd (ofM l (↑((0 : Nat) + Int.toNat (↑k : Int)) : Int))).1 = d) = true, decide ((↑(List.length L) : Int) < need) = false, InR IntKind.i64 ((↑k : Int) + (1 : Int)), q (↑n : Int), q0, q0, q0, q n, (none : Option Nat) = none ∨ (none : Option Nat) = none, q0, q0, q0, q n, (none : Option Nat) = none ∨ (none : Option Nat) = none, q0, q0, q0, q n, (none : Option Nat) = none ∨ (none : Option Nat) = none, q n, ∀ (k : Nat), k < n → [V.int IntKind.i64 (ofM l (↑k : Int)).1] = [V.int IntKind.i64 (ofM l (↑k : Int)).1], false = false → false = false, q n, ∀ (k : Nat), k < n → [V.seg IntKind.u8 (32 : Nat) (Prod.snd (ofM l (↑k : Int))).1] = [V.seg IntKind.u8 (32 : Nat) (Prod.snd (ofM l (↑k : Int))).1], false = false → false = false, q n, ∀ (k : Nat), k < n → [V.seg IntKind.u8 (16 : Nat) (Prod.snd (ofM l (↑k : Int))).2] = [V.seg IntKind.u8 (16 : Nat) (Prod.snd (ofM l (↑k : Int))).2], false = false → false = false, q (32 : Nat), q d, List.length L = List.length L2, ∀ (k : Nat), k < List.length L → [V.int IntKind.i64 (SSign.node (siF L k)), V.seg IntKind.u8 (16 : Nat) (SSign.tag (siF L k))] = [V.int IntKind.i64 (SSign.node (siF L2 k)), V.seg IntKind.u8 (16 : Nat) (SSign.tag (siF L2 k))], true = false → true = false, q0, q0, q0, q e, q need, q0, q0, q0, q0, q0, q0, List.length L = List.length L2, (none : Option Nat) = none ∨ (none : Option Nat) = none, (↑k : Int) + (1 : Int) = (↑(k + (1 : Nat)) : Int)]))) : Option (Exit × St × List Prop)) := by kernel_rfl
theorem pcRs_p11100 (n : Nat) (l : List (Int × MK)) (e : Int) (d : List Int) (need : Int) (L : List SSign) (k : Nat) (L2 : List SSign) :
 alongPc Try.prog (pcRs n l e d need L k L2) [true, true, true, false, false] = (some (.normal, St.mk [.ptr (.o 2) 0 0 0 0, .int .i64 e, .any, .int .i64 need, .any, .any, .ptr (.o 6) 0 0 0 0, .any, .any, .sl (.o 7) 17 0 0 0 (List.length L2) none, .int .i64 (↑(k + 1) : Int), .any, .any, .any, .any, .any, .any, .any, .any, .any, .any, .any, .any, .any, .any, .any, .any, .any, .any, .any, .any, .any, .any, .any, .any, .any, .any, .any, .any, .any, .any, .any, .any, .any, .any, .any, .any, .any, .any, .any, .any, .any, .any, .any, .any, .any, .any, .any, .any, .any, .any, .any, .any, .any, .any, .any, .any, .any, .any, .any, .any, .any, .any, .any, .any, .any] [(.o 2, .flat [.int .i64 ↑n, .sl (.o 3) 1 0 0 0 n none, .sl (.o 4) 32 0 0 0 n none, .sl (.o 5) 16 0 0 0 n none]), (.o 3, .rows 1 n (eR l) false), (.o 4, .rows 32 n (dR l) false), (.o 5, .rows 16 n (tR l) false), (.o 6, .flat [.seg .u8 32 d]), (.o 7, .rows 17 (List.length L2) (gn (siF L2)) true)] 8 [], pcRs_c n l e d need L k L2 0 ++ (pcRs_c n l e d need L k L2 1 ++ (pcRs_c n l e d need L k L2 2 ++ [decide ((Prod.snd (ofM l (↑((0 : Nat) + Int.toNat (↑k : Int)) : Int))).1 = d) = false, q false, InR IntKind.i64 ((↑k : Int) + (1 : Int)), q (↑n : Int), q0, q0, q0, q n, (none : Option Nat) = none ∨ (none : Option Nat) = none, q0, q0, q0, q n, (none : Option Nat) = none ∨ (none : Option Nat) = none, q0, q0, q0, q n, (none : Option Nat) = none ∨ (none : Option Nat) = none, q n, ∀ (k : Nat), k < n → [V.int IntKind.i64 (ofM l (↑k : Int)).1] = [V.int IntKind.i64 (ofM l (↑k : Int)).1], false = false → false = false, q n, ∀ (k : Nat), k < n → [V.seg IntKind.u8 (32 : Nat) (Prod.snd (ofM l (↑k : Int))).1] = [V.seg IntKind.u8 (32 : Nat) (Prod.snd (ofM l (↑k : Int))).1], false = false → false = false, q n, ∀ (k : Nat), k < n → [V.seg IntKind.u8 (16 : Nat) (Prod.snd (ofM l (↑k : Int))).2] = [V.seg IntKind.u8 (16 : Nat) (Prod.snd (ofM l (↑k : Int))).2], false = false → false = false, q (32 : Nat), q d, List.length L = List.length L2, ∀ (k : Nat), k < List.length L → [V.int IntKind.i64 (SSign.node (siF L k)), V.seg IntKind.u8 (16 : Nat) (SSign.tag (siF L k))] = [V.int IntKind.i64 (SSign.node (siF L2 k)), V.seg IntKind.u8 (16 : Nat) (SSign.tag (siF L2 k))], true = false → true = false, q0, q0, q0, q e, q need, q0, q0, q0, q0, q0, q0, List.length L = List.length L2, (none : Option Nat) = none ∨ (none : Option Nat) = none, (↑k : Int) + (1 : Int) = (↑(k + (1 : Nat)) : Int)]))) : Option (Exit × St × List Prop)) := by kernel_rfl
theorem pcRs_p11000 (n : Nat) (l : List (Int × MK)) (e : Int) (d : List Int) (need : Int) (L : List SSign) (k : Nat) (L2 : List SSign) :
 alongPc Try.prog (pcRs n l e d need L k L2) [true, true, false, false, false] = (some (.normal, St.mk [.ptr (.o 2) 0 0 0 0, .int .i64 e, .any, .int .i64 need, .any, .any, .ptr (.o 6) 0 0 0 0, .any, .any, .sl (.o 7) 17 0 0 0 (List.length L2) none, .int .i64 (↑(k + 1) : Int), .any, .any, .any, .any, .any, .any, .any, .any, .any, .any, .any, .any, .any, .any, .any, .any, .any, .any, .any, .any, .any, .any, .any, .any, .any, .any, .any, .any, .any, .any, .any, .any, .any, .any, .any, .any, .any, .any, .any, .any, .any, .any, .any, .any, .any, .any, .any, .any, .any, .any, .any, .any, .any, .any, .any, .any, .any, .any, .any, .any, .any, .any, .any, .any, .any] [(.o 2, .flat [.int .i64 ↑n, .sl (.o 3) 1 0 0 0 n none, .sl (.o 4) 32 0 0 0 n none, .sl (.o 5) 16 0 0 0 n none]), (.o 3, .rows 1 n (eR l) false), (.o 4, .rows 32 n (dR l) false), (.o 5, .rows 16 n (tR l) false), (.o 6, .flat [.seg .u8 32 d]), (.o 7, .rows 17 (List.length L2) (gn (siF L2)) true)] 8 [], pcRs_c n l e d need L k L2 0 ++ (pcRs_c n l e d need L k L2 1 ++ [decide ((ofM l (↑((0 : Nat) + Int.toNat (↑k : Int)) : Int)).1 = e) = false, q false, q false, InR IntKind.i64 ((↑k : Int) + (1 : Int)), q (↑n : Int), q0, q0, q0, q n, (none : Option Nat) = none ∨ (none : Option Nat) = none, q0, q0, q0, q n, (none : Option Nat) = none ∨ (none : Option Nat) = none, q0, q0, q0, q n, (none : Option Nat) = none ∨ (none : Option Nat) = none, q n, ∀ (k : Nat), k < n → [V.int IntKind.i64 (ofM l (↑k : Int)).1] = [V.int IntKind.i64 (ofM l (↑k : Int)).1], false = false → false = false, q n, ∀ (k : Nat), k < n → [V.seg IntKind.u8 (32 : Nat) (Prod.snd (ofM l (↑k : Int))).1] = [V.seg IntKind.u8 (32 : Nat) (Prod.snd (ofM l (↑k : Int))).1], false = false → false = false, q n, ∀ (k : Nat), k < n → [V.seg IntKind.u8 (16 : Nat) (Prod.snd (ofM l (↑k : Int))).2] = [V.seg IntKind.u8 (16 : Nat) (Prod.snd (ofM l (↑k : Int))).2], false = false → false = false, q (32 : Nat), q d, List.length L = List.length L2, ∀ (k : Nat), k < List.length L → [V.int IntKind.i64 (SSign.node (siF L k)), V.seg IntKind.u8 (16 : Nat) (SSign.tag (siF L k))] = [V.int IntKind.i64 (SSign.node (siF L2 k)), V.seg IntKind.u8 (16 : Nat) (SSign.tag (siF L2 k))], true = false → true = false, q0, q0, q0, q e, q need, q0, q0, q0, q0, q0, q0, List.length L = List.length L2, (none : Option Nat) = none ∨ (none : Option Nat) = none, (↑k : Int) + (1 : Int) = (↑(k + (1 : Nat)) : Int)])) : Option (Exit × St × List Prop)) := by kernel_rfl
theorem pcRs_p10000 (n : Nat) (l : List (Int × MK)) (e : Int) (d : List Int) (need : Int) (L : List SSign) (k : Nat) (L2 : List SSign) :
 alongPc Try.prog (pcRs n l e d need L k L2) [true, false, false, false, false] = (some (.normal, St.mk [.ptr (.o 2) 0 0 0 0, .int .i64 e, .any, .int .i64 need, .any, .any, .ptr (.o 6) 0 0 0 0, .any, .any, .sl (.o 7) 17 0 0 0 (List.length L2) none, .int .i64 (↑(k + 1) : Int), .any, .any, .any, .any, .any, .any, .any, .any, .any, .any, .any, .any, .any, .any, .any, .any, .any, .any, .any, .any, .any, .any, .any, .any, .any, .any, .any, .any, .any, .any, .any, .any, .any, .any, .any, .any, .any, .any, .any, .any, .any, .any, .any, .any, .any, .any, .any, .any, .any, .any, .any, .any, .any, .any, .any, .any, .any, .any, .any, .any, .any, .any, .any, .any, .any] [(.o 2, .flat [.int .i64 ↑n, .sl (.o 3) 1 0 0 0 n none, .sl (.o 4) 32 0 0 0 n none, .sl (.o 5) 16 0 0 0 n none]), (.o 3, .rows 1 n (eR l) false), (.o 4, .rows 32 n (dR l) false), (.o 5, .rows 16 n (tR l) false), (.o 6, .flat [.seg .u8 32 d]), (.o 7, .rows 17 (List.length L2) (gn (siF L2)) true)] 8 [], pcRs_c n l e d need L k L2 0 ++ [decide ((0 : Int) < (ofM l (↑((0 : Nat) + Int.toNat (↑k : Int)) : Int)).1) = false, q false, q false, q false, InR IntKind.i64 ((↑k : Int) + (1 : Int)), q (↑n : Int), q0, q0, q0, q n, (none : Option Nat) = none ∨ (none : Option Nat) = none, q0, q0, q0, q n, (none : Option Nat) = none ∨ (none : Option Nat) = none, q0, q0, q0, q n, (none : Option Nat) = none ∨ (none : Option Nat) = none, q n, ∀ (k : Nat), k < n → [V.int IntKind.i64 (ofM l (↑k : Int)).1] = [V.int IntKind.i64 (ofM l (↑k : Int)).1], false = false → false = false, q n, ∀ (k : Nat), k < n → [V.seg IntKind.u8 (32 : Nat) (Prod.snd (ofM l (↑k : Int))).1] = [V.seg IntKind.u8 (32 : Nat) (Prod.snd (ofM l (↑k : Int))).1], false = false → false = false, q n, ∀ (k : Nat), k < n → [V.seg IntKind.u8 (16 : Nat) (Prod.snd (ofM l (↑k : Int))).2] = [V.seg IntKind.u8 (16 : Nat) (Prod.snd (ofM l (↑k : Int))).2], false = false → false = false, q (32 : Nat), q d, List.length L = List.length L2, ∀ (k : Nat), k < List.length L → [V.int IntKind.i64 (SSign.node (siF L k)), V.seg IntKind.u8 (16 : Nat) (SSign.tag (siF L k))] = [V.int IntKind.i64 (SSign.node (siF L2 k)), V.seg IntKind.u8 (16 : Nat) (SSign.tag (siF L2 k))], true = false → true = false, q0, q0, q0, q e, q need, q0, q0, q0, q0, q0, q0, List.length L = List.length L2, (none : Option Nat) = none ∨ (none : Option Nat) = none, (↑k : Int) + (1 : Int) = (↑(k + (1 : Nat)) : Int)]) : Option (Exit × St × List Prop)) := by kernel_rfl
theorem pcRs_p0 (n : Nat) (l : List (Int × MK)) (e : Int) (d : List Int) (need : Int) (L : List SSign) (k : Nat) (L2 : List SSign) :
 alongPc Try.prog (pcRs n l e d need L k L2) [false] = (some (.exit 0, St.mk [.ptr (.o 2) 0 0 0 0, .int .i64 e, .any, .int .i64 need, .any, .any, .ptr (.o 6) 0 0 0 0, .any, .any, .sl (.o 7) 17 0 0 0 (List.length L) none, .int .i64 ↑n, .any, .any, .any, .any, .any, .any, .any, .any, .any, .any, .any, .any, .any, .any, .any, .any, .any, .any, .any, .any, .any, .any, .any, .any, .any, .any, .any, .any, .any, .any, .any, .any, .any, .any, .any, .any, .any, .any, .any, .any, .any, .any, .any, .any, .any, .any, .any, .any, .any, .any, .any, .any, .any, .any, .any, .any, .any, .any, .any, .any, .any, .any, .any, .any, .any] [(.o 2, .flat [.int .i64 ↑n, .sl (.o 3) 1 0 0 0 n none, .sl (.o 4) 32 0 0 0 n none, .sl (.o 5) 16 0 0 0 n none]), (.o 3, .rows 1 n (eR l) false), (.o 4, .rows 32 n (dR l) false), (.o 5, .rows 16 n (tR l) false), (.o 6, .flat [.seg .u8 32 d]), (.o 7, .rows 17 (List.length L) (gn (siF L)) true)] 8 [], [decide ((↑k : Int) < (↑n : Int)) = false, q (↑n : Int), q0, q0, q0, q n, (none : Option Nat) = none ∨ (none : Option Nat) = none, q0, q0, q0, q n, (none : Option Nat) = none ∨ (none : Option Nat) = none, q0, q0, q0, q n, (none : Option Nat) = none ∨ (none : Option Nat) = none, q n, ∀ (k : Nat), k < n → [V.int IntKind.i64 (ofM l (↑k : Int)).1] = [V.int IntKind.i64 (ofM l (↑k : Int)).1], false = false → false = false, q n, ∀ (k : Nat), k < n → [V.seg IntKind.u8 (32 : Nat) (Prod.snd (ofM l (↑k : Int))).1] = [V.seg IntKind.u8 (32 : Nat) (Prod.snd (ofM l (↑k : Int))).1], false = false → false = false, q n, ∀ (k : Nat), k < n → [V.seg IntKind.u8 (16 : Nat) (Prod.snd (ofM l (↑k : Int))).2] = [V.seg IntKind.u8 (16 : Nat) (Prod.snd (ofM l (↑k : Int))).2], false = false → false = false, q (32 : Nat), q d, q (List.length L), ∀ (k : Nat), k < List.length L → [V.int IntKind.i64 (SSign.node (siF L k)), V.seg IntKind.u8 (16 : Nat) (SSign.tag (siF L k))] = [V.int IntKind.i64 (SSign.node (siF L k)), V.seg IntKind.u8 (16 : Nat) (SSign.tag (siF L k))], true = false → true = false, q0, q0, q0, q e, q need, q0, q0, q0, q0, q0, q0, q (List.length L), (none : Option Nat) = none ∨ (none : Option Nat) = none, (↑k : Int) = (↑n : Int)]) : Option (Exit × St × List Prop)) := by kernel_rfl

theorem getM_put (k : Int) (v : MK) (j : Int) : ∀ l : List (Int × MK), getM j (putM k v l) = if j = k then some v else getM j l
 | [] => by
  rw [putM, getM, getM]; rfl
 | p :: l => by
  rw [putM]
  by_cases h : k = p.1
  ·rw [if_pos h, getM, getM]
   by_cases h2 : j = k
   ·rw [if_pos h2, if_pos h2]
   ·rw [if_neg h2, if_neg h2, if_neg (by rw [← h]; exact h2)]
  ·rw [if_neg h, getM, getM, getM_put k v j l]
   by_cases h2 : j = p.1
   ·rw [if_pos h2, if_neg (by omega), if_pos h2]
   ·rw [if_neg h2, if_neg h2]
theorem ofM_put (k : Int) (v : MK) (j : Int) (l : List (Int × MK)) : ofM (putM k v l) j = if j = k then v else ofM l j := by
 rw [ofM, getM_put, ofM]
 split <;> rfl
theorem updE (F : MK → List V) {l : List (Int × MK)} {k : Int} (h0 : 0 ≤ k) (v : MK) (q : Nat) : (Bool.rec (F (ofM l (q : Nat))) (F v) (Nat.beq q (0 + Int.toNat k)) : List V) = F (ofM (putM k v l) (q : Nat)) := by
 rw [ofM_put]
 cases hb : Nat.beq q (0 + Int.toNat k) with
 | true =>
  have := Nat.eq_of_beq_eq_true hb
  rw [if_pos (by omega)]
 | false =>
  rw [if_neg fun e => by
   have : q = 0 + Int.toNat k := by omega
   rw [this, Nat.beq_refl] at hb; cases hb]
theorem T_rw {n : Nat} (h : goodN (n : Nat) = true) : T Try.prog 33 [.int .i64 (n : Nat)] [] (.ptr (.o 768) 0 0 0 0) [(.o 768, .flat [.int .i64 (n : Nat), .sl (.o 384) 1 0 0 0 n (some n), .sl (.o 512) 32 0 0 0 n (some n), .sl (.o 640) 16 0 0 0 n (some n)]), (.o 384, .rows 1 n (eR []) false), (.o 512, .rows 32 n (dR []) false), (.o 640, .rows 16 n (tR []) false)] := by
 have hG := T_rgn n
 rw [h] at hG
 have hn : 4 ≤ (n : Int) ∧ (n : Int) ≤ 64 := by
  rw [goodN, Bool.and_eq_true, Bool.and_eq_true, decide_eq_true_eq, decide_eq_true_eq] at h
  exact ⟨h.1, h.2.1⟩
 obtain ⟨h1, h2⟩ := hn
 refine T_al (bdRw_p0 n true) Try.func33 ?_
 simp only [All, All_append, bdRs_c, pcRs_c]; and_intros
 all_goals first
  | exact True.intro
  | exact hG
  | (with_reducible assumption)
  | (rw [decide_eq_true_eq]; omega)
  | (rw [decide_eq_false_iff_not]; omega)
  | with_reducible rfl
  | (intro _ _; exact True.intro)
  | (intro _ _; with_reducible rfl)
  | (intro _ _; rfl)
  | (simp only [IntKind.min, IntKind.max, IntKind.signed, IntKind.bits, if_true]; omega)
  | omega
  | (intro h; exact h)
  | (intro h; cases h; done)
  | exact .inl rfl
  | exact .inl True.intro
  | exact .inr rfl
  | (simp; done)
theorem T_rwN {n : Int} (h : goodN n = false) : T Try.prog 33 [.int .i64 n] [] .pnil [] := by
 have hG := T_rgn n
 rw [h] at hG
 refine T_al (bdRw_p1 n false) Try.func33 ?_
 simp only [All, All_append, bdRs_c, pcRs_c]; and_intros
 all_goals first
  | exact True.intro
  | exact hG
  | (with_reducible assumption)
  | (rw [decide_eq_true_eq]; omega)
  | (rw [decide_eq_false_iff_not]; omega)
  | with_reducible rfl
  | (intro _ _; exact True.intro)
  | (intro _ _; with_reducible rfl)
  | (intro _ _; rfl)
  | (simp only [IntKind.min, IntKind.max, IntKind.signed, IntKind.bits, if_true]; omega)
  | omega
  | (intro h; exact h)
  | (intro h; cases h; done)
  | exact .inl rfl
  | exact .inl True.intro
  | exact .inr rfl
  | (simp; done)
theorem T_rk (n : Nat) (l : List (Int × MK)) (k e : Int) (d t : List Int) : T Try.prog 34 [mP 2, .int .i64 k, .int .i64 e, dgV d, tgV t] (rH n l) (.int .i64 (addM n l k e d t).1) (rH n (addM n l k e d t).2) := by
 by_cases h1 : k < 0
 ·rw [addM, if_pos (by omega)]
  refine T_al (bdRk_p1111 n l k e d t) Try.func34 ?_
  simp only [All, All_append, bdRs_c, pcRs_c]; and_intros
  all_goals first
   | exact True.intro
   | (with_reducible assumption)
   | (rw [decide_eq_true_eq]; omega)
   | (rw [decide_eq_false_iff_not]; omega)
   | with_reducible rfl
   | (intro _ _; exact True.intro)
   | (intro _ _; with_reducible rfl)
   | (intro _ _; rfl)
   | (simp only [IntKind.min, IntKind.max, IntKind.signed, IntKind.bits, if_true]; omega)
   | omega
   | (intro h; exact h)
   | (intro h; cases h; done)
   | exact .inl rfl
   | exact .inl True.intro
   | exact .inr rfl
   | (simp; done)
 by_cases h2 : (n : Int) ≤ k
 ·rw [addM, if_pos (by omega)]
  refine T_al (bdRk_p0111 n l k e d t) Try.func34 ?_
  simp only [All, All_append, bdRs_c, pcRs_c]; and_intros
  all_goals first
   | exact True.intro
   | (with_reducible assumption)
   | (rw [decide_eq_true_eq]; omega)
   | (rw [decide_eq_false_iff_not]; omega)
   | with_reducible rfl
   | (intro _ _; exact True.intro)
   | (intro _ _; with_reducible rfl)
   | (intro _ _; rfl)
   | (simp only [IntKind.min, IntKind.max, IntKind.signed, IntKind.bits, if_true]; omega)
   | omega
   | (intro h; exact h)
   | (intro h; cases h; done)
   | exact .inl rfl
   | exact .inl True.intro
   | exact .inr rfl
   | (simp; done)
 by_cases h3 : e < 1
 ·rw [addM, if_pos (by omega)]
  refine T_al (bdRk_p0011 n l k e d t) Try.func34 ?_
  simp only [All, All_append, bdRs_c, pcRs_c]; and_intros
  all_goals first
   | exact True.intro
   | (with_reducible assumption)
   | (rw [decide_eq_true_eq]; omega)
   | (rw [decide_eq_false_iff_not]; omega)
   | with_reducible rfl
   | (intro _ _; exact True.intro)
   | (intro _ _; with_reducible rfl)
   | (intro _ _; rfl)
   | (simp only [IntKind.min, IntKind.max, IntKind.signed, IntKind.bits, if_true]; omega)
   | omega
   | (intro h; exact h)
   | (intro h; cases h; done)
   | exact .inl rfl
   | exact .inl True.intro
   | exact .inr rfl
   | (simp; done)
 by_cases h4 : 1048576 < e
 ·rw [addM, if_pos (by omega)]
  refine T_al (bdRk_p0001 n l k e d t) Try.func34 ?_
  simp only [All, All_append, bdRs_c, pcRs_c]; and_intros
  all_goals first
   | exact True.intro
   | (with_reducible assumption)
   | (rw [decide_eq_true_eq]; omega)
   | (rw [decide_eq_false_iff_not]; omega)
   | with_reducible rfl
   | (intro _ _; exact True.intro)
   | (intro _ _; with_reducible rfl)
   | (intro _ _; rfl)
   | (simp only [IntKind.min, IntKind.max, IntKind.signed, IntKind.bits, if_true]; omega)
   | omega
   | (intro h; exact h)
   | (intro h; cases h; done)
   | exact .inl rfl
   | exact .inl True.intro
   | exact .inr rfl
   | (simp; done)
 have e0 : ((0 + Int.toNat k : Nat) : Int) = k := by omega
 have hk : 0 + Int.toNat k < n := by omega
 rw [addM, if_neg (by omega)]
 by_cases h5 : (ofM l k).1 = e
 ·rw [if_pos h5]
  by_cases h6 : (ofM l k).2.1 = d
  ·rw [if_pos h6]
   refine T_al (bdRk_p000011 n l k e d t) Try.func34 ?_
   simp only [All, All_append, bdRs_c, pcRs_c, e0]; and_intros
   all_goals first
    | exact True.intro
    | exact decide_eq_true h5
    | exact decide_eq_true h6
    | (with_reducible assumption)
    | (rw [decide_eq_true_eq]; omega)
    | (rw [decide_eq_false_iff_not]; omega)
    | with_reducible rfl
    | (intro _ _; exact True.intro)
    | (intro _ _; with_reducible rfl)
    | (intro _ _; rfl)
    | (simp only [IntKind.min, IntKind.max, IntKind.signed, IntKind.bits, if_true]; omega)
    | omega
    | (intro h; exact h)
    | (intro h; cases h; done)
    | exact .inl rfl
    | exact .inl True.intro
    | exact .inr rfl
    | (simp; done)
  ·rw [if_neg h6]
   refine T_al (bdRk_p000010 n l k e d t) Try.func34 ?_
   simp only [All, All_append, bdRs_c, pcRs_c, e0]; and_intros
   all_goals first
    | exact True.intro
    | exact decide_eq_true h5
    | exact decide_eq_false h6
    | (with_reducible assumption)
    | (rw [decide_eq_true_eq]; omega)
    | (rw [decide_eq_false_iff_not]; omega)
    | with_reducible rfl
    | (intro _ _; exact True.intro)
    | (intro _ _; with_reducible rfl)
    | (intro _ _; rfl)
    | (simp only [IntKind.min, IntKind.max, IntKind.signed, IntKind.bits, if_true]; omega)
    | omega
    | (intro h; exact h)
    | (intro h; cases h; done)
    | exact .inl rfl
    | exact .inl True.intro
    | exact .inr rfl
    | (simp; done)
 rw [if_neg h5]
 by_cases h7 : e < (ofM l k).1
 ·rw [if_pos h7]
  refine T_al (bdRk_p000001 n l k e d t) Try.func34 ?_
  simp only [All, All_append, bdRs_c, pcRs_c, e0]; and_intros
  all_goals first
   | exact True.intro
   | exact decide_eq_false h5
   | (with_reducible assumption)
   | (rw [decide_eq_true_eq]; omega)
   | (rw [decide_eq_false_iff_not]; omega)
   | with_reducible rfl
   | (intro _ _; exact True.intro)
   | (intro _ _; with_reducible rfl)
   | (intro _ _; rfl)
   | (simp only [IntKind.min, IntKind.max, IntKind.signed, IntKind.bits, if_true]; omega)
   | omega
   | (intro h; exact h)
   | (intro h; cases h; done)
   | exact .inl rfl
   | exact .inl True.intro
   | exact .inr rfl
   | (simp; done)
 rw [if_neg h7]
 have u1 := fun q (_ : q < n) => updE (l := l) (k := k) (fun x => [.int .i64 x.1]) (by omega) (e, d, t) q
 have u2 := fun q (_ : q < n) => updE (l := l) (k := k) (fun x => [.seg .u8 32 x.2.1]) (by omega) (e, d, t) q
 have u3 := fun q (_ : q < n) => updE (l := l) (k := k) (fun x => [.seg .u8 16 x.2.2]) (by omega) (e, d, t) q
 refine T_al (bdRu_p000000 n l k e d t (putM k (e, d, t) l)) Try.func34 ?_
 simp only [All, All_append, bdRs_c, pcRs_c, e0]; and_intros
 all_goals first
  | exact True.intro
  | exact u1
  | exact u2
  | exact u3
  | exact decide_eq_false h5
  | (with_reducible assumption)
  | (rw [decide_eq_true_eq]; omega)
  | (rw [decide_eq_false_iff_not]; omega)
  | with_reducible rfl
  | (intro _ _; exact True.intro)
  | (intro _ _; with_reducible rfl)
  | (intro _ _; rfl)
  | (simp only [IntKind.min, IntKind.max, IntKind.signed, IntKind.bits, if_true]; omega)
  | omega
  | (intro h; exact h)
  | (intro h; cases h; done)
  | exact .inl rfl
  | exact .inl True.intro
  | exact .inr rfl
  | (simp; done)
theorem nthV_out {l : List Int} {i : Int} (h : i < 1 ∨ (l.length : Int) < i) : nthV l i = 0 := by rw [nthV, if_neg (by omega)]
theorem T_re {n : Nat} (hn : n ≤ 64) (l : List (Int × MK)) (need : Int) : T Try.prog 36 [mP 2, .int .i64 need] (rH n l) (.int .i64 (nthV (epM n l) need)) (rH n l) := by
 have hel := epM_len n l
 by_cases h1 : need < 1
 ·rw [nthV_out (.inl h1)]
  refine T_al (bdRe_p11 n l need 0) Try.func36 ?_
  simp only [All, All_append, bdRs_c, pcRs_c]; and_intros
  all_goals first
   | exact True.intro
   | (with_reducible assumption)
   | (rw [decide_eq_true_eq]; omega)
   | (rw [decide_eq_false_iff_not]; omega)
   | with_reducible rfl
   | (intro _ _; exact True.intro)
   | (intro _ _; with_reducible rfl)
   | (intro _ _; rfl)
   | (simp only [IntKind.min, IntKind.max, IntKind.signed, IntKind.bits, if_true]; omega)
   | omega
   | (intro h; exact h)
   | (intro h; cases h; done)
   | exact .inl rfl
   | exact .inl True.intro
   | exact .inr rfl
   | (simp; done)
 by_cases h2 : (n : Int) < need
 ·rw [nthV_out (.inr (by omega))]
  refine T_al (bdRe_p01 n l need 0) Try.func36 ?_
  simp only [All, All_append, bdRs_c, pcRs_c]; and_intros
  all_goals first
   | exact True.intro
   | (with_reducible assumption)
   | (rw [decide_eq_true_eq]; omega)
   | (rw [decide_eq_false_iff_not]; omega)
   | with_reducible rfl
   | (intro _ _; exact True.intro)
   | (intro _ _; with_reducible rfl)
   | (intro _ _; rfl)
   | (simp only [IntKind.min, IntKind.max, IntKind.signed, IntKind.bits, if_true]; omega)
   | omega
   | (intro h; exact h)
   | (intro h; cases h; done)
   | exact .inl rfl
   | exact .inl True.intro
   | exact .inr rfl
   | (simp; done)
 have hN := T_rn (l := epM n l) (by omega) need
 have hN2 : T Try.prog 22 [.sl (.o 3) 1 0 0 0 n none, .int .i64 need] [(.o 3, .rows 1 n (eR l) false)] (.int .i64 (nthV (epM n l) need)) [(.o 3, .rows 1 n (eR l) false)] := by
  refine T.lendG hN rfl ?_ (FreeV.int _ _) (by simp) (by rintro n ⟨b, hb⟩; cases hb)
  simp only [All, All_append, bdRs_c, pcRs_c, hel]; and_intros
  all_goals first
   | exact True.intro
   | (intro k hk; rw [Nat.zero_add]; exact congrArg (fun x => [V.int .i64 x]) (epM_get hk).symm)
   | (with_reducible assumption)
   | (rw [decide_eq_true_eq]; omega)
   | (rw [decide_eq_false_iff_not]; omega)
   | with_reducible rfl
   | (intro _ _; exact True.intro)
   | (intro _ _; with_reducible rfl)
   | (intro _ _; rfl)
   | (simp only [IntKind.min, IntKind.max, IntKind.signed, IntKind.bits, if_true]; omega)
   | omega
   | (intro h; exact h)
   | (intro h; cases h; done)
   | exact .inl rfl
   | exact .inl True.intro
   | exact .inr rfl
   | (simp; done)
 refine T_al (bdRe_p00 n l need (nthV (epM n l) need)) Try.func36 ?_
 simp only [All, All_append, bdRs_c, pcRs_c]; and_intros
 all_goals first
  | exact True.intro
  | exact hN2
  | (with_reducible assumption)
  | (rw [decide_eq_true_eq]; omega)
  | (rw [decide_eq_false_iff_not]; omega)
  | with_reducible rfl
  | (intro _ _; exact True.intro)
  | (intro _ _; with_reducible rfl)
  | (intro _ _; rfl)
  | (simp only [IntKind.min, IntKind.max, IntKind.signed, IntKind.bits, if_true]; omega)
  | omega
  | (intro h; exact h)
  | (intro h; cases h; done)
  | exact .inl rfl
  | exact .inl True.intro
  | exact .inr rfl
  | (simp; done)
/-- Marks that are kept have an epoch. -/
def posM (l : List (Int × MK)) : Prop := ∀ k, (getM k l).isSome = true ↔ 0 < (ofM l k).1
theorem rsL {n : Nat} (hn : n ≤ 64) {l : List (Int × MK)} (hp : posM l) (e : Int) (d : List Int) (need : Int) :
  RLoop Try.prog none 6 (cB (cB (cR (cL (cR (cR (bodyOf Try.f37))))))) (n + 1) (rsI n l e d need [] 0) (.exit 0) (rsI n l e d need (selS l e d need n) n) := by
 have hstep : ∀ k, k < n → R Try.prog none 6 (cB (cB (cR (cL (cR (cR (bodyOf Try.f37))))))) (rsI n l e d need (selS l e d need k) k) .normal (rsI n l e d need (selS l e d need (k + 1)) (k + 1)) := by
  intro k hk
  have hlen := selS_len l e d need k
  have hpk := hp (k : Nat)
  rw [selS]
  by_cases c1 : 0 < (ofM l (k : Nat)).1
  ·rw [hpk.2 c1]
   by_cases c2 : (ofM l (k : Nat)).1 = e
   ·by_cases c3 : (ofM l (k : Nat)).2.1 = d
    ·have hw : isW l e d (k : Nat) = true := by rw [isW, decide_eq_true c2, decide_eq_true c3]; rfl
     by_cases c4 : ((selS l e d need k).length : Int) < need
     ·rw [if_pos ⟨⟨rfl, c4⟩, hw⟩]
      have hl2 : (selS l e d need k ++ [(⟨(k : Nat), (ofM l (k : Nat)).2.2⟩ : SSign)]).length = (selS l e d need k).length + 1 := by simp
      refine R_alongPc NG MO _ (pcRs_p11111 n l e d need (selS l e d need k) k (selS l e d need k ++ [⟨(k : Nat), (ofM l (k : Nat)).2.2⟩])) ?_ (by show 6 ≤ 8; decide)
      simp only [All, All_append, bdRs_c, pcRs_c, hl2, Int.toNat_natCast, Nat.zero_add]; and_intros
      all_goals first
       | exact True.intro
       | (intro j hj; have := sol1 ⟨(k : Nat), (ofM l (k : Nat)).2.2⟩ j hj; rwa [Nat.zero_add] at this)
       | (intro q hq; have := catg (y := ⟨(k : Nat), (ofM l (k : Nat)).2.2⟩) (fun q hq => siF_lt hq) siF_at q hq; simp only [Nat.zero_add] at this; exact this)
       | exact decide_eq_true c2
       | exact decide_eq_true c3
       | (with_reducible assumption)
       | (rw [decide_eq_true_eq]; omega)
       | (rw [decide_eq_false_iff_not]; omega)
       | with_reducible rfl
       | (intro _ _; exact True.intro)
       | (intro _ _; with_reducible rfl)
       | (intro _ _; rfl)
       | (simp only [IntKind.min, IntKind.max, IntKind.signed, IntKind.bits, if_true]; omega)
       | omega
       | (intro h; exact h)
       | (intro h; cases h; done)
       | exact .inl rfl
       | exact .inl True.intro
       | exact .inr rfl
       | (simp; done)
     ·rw [if_neg fun h => c4 h.1.2]
      refine R_alongPc NG MO _ (pcRs_p11110 n l e d need (selS l e d need k) k (selS l e d need k)) ?_ (by show 6 ≤ 8; decide)
      simp only [All, All_append, bdRs_c, pcRs_c, Int.toNat_natCast, Nat.zero_add]; and_intros
      all_goals first
       | exact True.intro
       | exact decide_eq_true c2
       | exact decide_eq_true c3
       | (with_reducible assumption)
       | (rw [decide_eq_true_eq]; omega)
       | (rw [decide_eq_false_iff_not]; omega)
       | with_reducible rfl
       | (intro _ _; exact True.intro)
       | (intro _ _; with_reducible rfl)
       | (intro _ _; rfl)
       | (simp only [IntKind.min, IntKind.max, IntKind.signed, IntKind.bits, if_true]; omega)
       | omega
       | (intro h; exact h)
       | (intro h; cases h; done)
       | exact .inl rfl
       | exact .inl True.intro
       | exact .inr rfl
       | (simp; done)
    ·rw [if_neg fun h => by rw [isW, decide_eq_false c3, Bool.false_and, Bool.and_false] at h; cases h.2]
     refine R_alongPc NG MO _ (pcRs_p11100 n l e d need (selS l e d need k) k (selS l e d need k)) ?_ (by show 6 ≤ 8; decide)
     simp only [All, All_append, bdRs_c, pcRs_c, Int.toNat_natCast, Nat.zero_add]; and_intros
     all_goals first
      | exact True.intro
      | exact decide_eq_true c2
      | exact decide_eq_false c3
      | (with_reducible assumption)
      | (rw [decide_eq_true_eq]; omega)
      | (rw [decide_eq_false_iff_not]; omega)
      | with_reducible rfl
      | (intro _ _; exact True.intro)
      | (intro _ _; with_reducible rfl)
      | (intro _ _; rfl)
      | (simp only [IntKind.min, IntKind.max, IntKind.signed, IntKind.bits, if_true]; omega)
      | omega
      | (intro h; exact h)
      | (intro h; cases h; done)
      | exact .inl rfl
      | exact .inl True.intro
      | exact .inr rfl
      | (simp; done)
   ·rw [if_neg fun h => by rw [isW, decide_eq_false c2, Bool.false_and] at h; cases h.2]
    refine R_alongPc NG MO _ (pcRs_p11000 n l e d need (selS l e d need k) k (selS l e d need k)) ?_ (by show 6 ≤ 8; decide)
    simp only [All, All_append, bdRs_c, pcRs_c, Int.toNat_natCast, Nat.zero_add]; and_intros
    all_goals first
     | exact True.intro
     | exact decide_eq_false c2
     | (with_reducible assumption)
     | (rw [decide_eq_true_eq]; omega)
     | (rw [decide_eq_false_iff_not]; omega)
     | with_reducible rfl
     | (intro _ _; exact True.intro)
     | (intro _ _; with_reducible rfl)
     | (intro _ _; rfl)
     | (simp only [IntKind.min, IntKind.max, IntKind.signed, IntKind.bits, if_true]; omega)
     | omega
     | (intro h; exact h)
     | (intro h; cases h; done)
     | exact .inl rfl
     | exact .inl True.intro
     | exact .inr rfl
     | (simp; done)
  ·rw [if_neg fun h => c1 (hpk.1 h.1.1)]
   refine R_alongPc NG MO _ (pcRs_p10000 n l e d need (selS l e d need k) k (selS l e d need k)) ?_ (by show 6 ≤ 8; decide)
   simp only [All, All_append, bdRs_c, pcRs_c, Int.toNat_natCast, Nat.zero_add]; and_intros
   all_goals first
    | exact True.intro
    | (with_reducible assumption)
    | (rw [decide_eq_true_eq]; omega)
    | (rw [decide_eq_false_iff_not]; omega)
    | with_reducible rfl
    | (intro _ _; exact True.intro)
    | (intro _ _; with_reducible rfl)
    | (intro _ _; rfl)
    | (simp only [IntKind.min, IntKind.max, IntKind.signed, IntKind.bits, if_true]; omega)
    | omega
    | (intro h; exact h)
    | (intro h; cases h; done)
    | exact .inl rfl
    | exact .inl True.intro
    | exact .inr rfl
    | (simp; done)
 have hend : R Try.prog none 6 (cB (cB (cR (cL (cR (cR (bodyOf Try.f37))))))) (rsI n l e d need (selS l e d need n) n) (.exit 0) (rsI n l e d need (selS l e d need n) n) := by
  refine R_alongPc NG MO _ (pcRs_p0 n l e d need (selS l e d need n) n []) ?_ (by show 6 ≤ 8; decide)
  simp only [All, All_append, bdRs_c, pcRs_c]; and_intros
  all_goals first
   | exact True.intro
   | (with_reducible assumption)
   | (rw [decide_eq_true_eq]; omega)
   | (rw [decide_eq_false_iff_not]; omega)
   | with_reducible rfl
   | (intro _ _; exact True.intro)
   | (intro _ _; with_reducible rfl)
   | (intro _ _; rfl)
   | (simp only [IntKind.min, IntKind.max, IntKind.signed, IntKind.bits, if_true]; omega)
   | omega
   | (intro h; exact h)
   | (intro h; cases h; done)
   | exact .inl rfl
   | exact .inl True.intro
   | exact .inr rfl
   | (simp; done)
 exact RLoop.inv (fun k => rsI n l e d need (selS l e d need k) k) n hstep hend (by simp)
theorem T_rsN {n : Nat} (hn : n ≤ 64) {l : List (Int × MK)} (hp : posM l) {e : Int} {d : List Int} {need : Int} (h : sgsM n l e d need = false) : T Try.prog 37 [mP 2, .int .i64 e, dgV d, .int .i64 need] (rH n l) .snil (rH n l) := by
 have hL := rsL hn hp e d need
 by_cases h1 : need < 1
 ·refine T_al (bdRs_p11 n l e d need (selS l e d need n)) Try.func37 ?_
  simp only [All, All_append, bdRs_c, pcRs_c]; and_intros
  all_goals first
   | exact True.intro
   | exact hL
   | (with_reducible assumption)
   | (rw [decide_eq_true_eq]; omega)
   | (rw [decide_eq_false_iff_not]; omega)
   | with_reducible rfl
   | (intro _ _; exact True.intro)
   | (intro _ _; with_reducible rfl)
   | (intro _ _; rfl)
   | (simp only [IntKind.min, IntKind.max, IntKind.signed, IntKind.bits, if_true]; omega)
   | omega
   | (intro h; exact h)
   | (intro h; cases h; done)
   | exact .inl rfl
   | exact .inl True.intro
   | exact .inr rfl
   | (simp; done)
 ·have h2 : ((selS l e d need n).length : Int) < need := by
   rw [sgsM, decide_eq_true (by omega), Bool.true_and, decide_eq_false_iff_not] at h
   omega
  refine T_al (bdRs_p01 n l e d need (selS l e d need n)) Try.func37 ?_
  simp only [All, All_append, bdRs_c, pcRs_c]; and_intros
  all_goals first
   | exact True.intro
   | exact hL
   | (with_reducible assumption)
   | (rw [decide_eq_true_eq]; omega)
   | (rw [decide_eq_false_iff_not]; omega)
   | with_reducible rfl
   | (intro _ _; exact True.intro)
   | (intro _ _; with_reducible rfl)
   | (intro _ _; rfl)
   | (simp only [IntKind.min, IntKind.max, IntKind.signed, IntKind.bits, if_true]; omega)
   | omega
   | (intro h; exact h)
   | (intro h; cases h; done)
   | exact .inl rfl
   | exact .inl True.intro
   | exact .inr rfl
   | (simp; done)
theorem T_rsY {n : Nat} (hn : n ≤ 64) {l : List (Int × MK)} (hp : posM l) {e : Int} {d : List Int} {need : Int} (h : sgsM n l e d need = true) : T Try.prog 37 [mP 2, .int .i64 e, dgV d, .int .i64 need] (rH n l) (sgL 7 (selS l e d need n)) (rH n l ++ [(.o 7, sbL (selS l e d need n))]) := by
 have hL := rsL hn hp e d need
 rw [sgsM, Bool.and_eq_true, decide_eq_true_eq, decide_eq_true_eq] at h
 obtain ⟨h1, h2⟩ := h
 refine T_al (bdRs_p00 n l e d need (selS l e d need n)) Try.func37 ?_
 simp only [All, All_append, bdRs_c, pcRs_c]; and_intros
 all_goals first
  | exact True.intro
  | exact hL
  | (with_reducible assumption)
  | (rw [decide_eq_true_eq]; omega)
  | (rw [decide_eq_false_iff_not]; omega)
  | with_reducible rfl
  | (intro _ _; exact True.intro)
  | (intro _ _; with_reducible rfl)
  | (intro _ _; rfl)
  | (simp only [IntKind.min, IntKind.max, IntKind.signed, IntKind.bits, if_true]; omega)
  | omega
  | (intro h; exact h)
  | (intro h; cases h; done)
  | exact .inl rfl
  | exact .inl True.intro
  | exact .inr rfl
  | (simp; done)
end Go.Proofs.Ytpallipnhmoipaa
namespace Go.Proofs.Ytpallipnhmoipaa
open Go Sy Go.Proofs
def ac (m : Nat) (f : Nat → SAct) : V := .ros 50 m (fun i => (f i).c) false
/-- The marks that the first acts leave. -/
def accA (n : Nat) (f : Nat → SAct) : Nat → List (Int × MK)
 | 0 => []
 | k + 1 => (addM n (accA n f k) (f k).node (f k).epoch (f k).d (f k).tag).2
def plI (n m : Nat) (f : Nat → SAct) (need : Int) (l : List (Int × MK)) (k : Nat) : St := ⟨mkT 132 [(0, .int .i64 (n : Nat)), (2, .int .i64 need), (7, mP 0), (8, mP 2), (31, ac m f), (32, .int .i64 (m : Nat)), (33, .int .i64 (k : Nat))], mH 0 1 n l ++ rH n l, 6, []⟩
def plJ (n m : Nat) (f : Nat → SAct) (need : Int) (l : List (Int × MK)) (k j : Nat) : St := ⟨mkT 132 [(0, .int .i64 (n : Nat)), (2, .int .i64 need), (7, mP 0), (8, mP 2), (11, .int .i64 ((j : Nat) - 1)), (31, ac m f), (32, .int .i64 (m : Nat)), (33, .int .i64 (k : Nat))], mH 0 1 n l ++ rH n l, 6, []⟩
def plW (t : St) : List (Nm × Nm) := match rwM (nmV (getV t.tmps 8)) t.heap with
 | [r, a, b, c] => [(.o 0, nmV (getV t.tmps 7)), (.o 1, mapOf (nmV (getV t.tmps 7)) t.heap), (.o 2, r), (.o 3, a), (.o 4, b), (.o 5, c)]
 | _ => []
def sgCl (p : List Nm) (h : Heap) (L : List SSign) (lo : Nat) : Bool → List Cl
 | true => [{ pre := p, val := sgL lo L, post := h ++ [(.o lo, sbL L)] }]
 | false => [{ rd := p, val := .snil }]
def saCl : List V → List Cl
 | [.sl a _ _ _ _ _ _, .sl b _ _ _ _ _ _] => [{ rd := [a, b], val := .bool true }]
 | _ => [{ val := .bool true }]
noncomputable def plDb (n : Nat) (l2 : List (Int × MK)) (r v : Int) (y : Bool) (L : List SSign) : Nat → List V → Heap → Nat → List Cl := dbQ [
 (31, fun _ _ _ => [{ pre := [.o 0, .o 1], val := .int .i64 r, post := mH 0 1 n l2 }]),
 (34, fun _ _ _ => [{ pre := [.o 2, .o 3, .o 4, .o 5], val := .int .i64 r, post := rH n l2 }]),
 (35, fun _ _ _ => [{ rd := [.o 0, .o 1], val := .int .i64 v }]),
 (36, fun _ _ _ => [{ rd := [.o 2, .o 3, .o 4, .o 5], val := .int .i64 v }]),
 (32, fun _ _ lo => sgCl [.o 0, .o 1] (mH 0 1 n l2) L lo y),
 (37, fun _ _ lo => sgCl [.o 2, .o 3, .o 4, .o 5] (rH n l2) L lo y),
 (26, fun a _ _ => saCl a)]
noncomputable def nwDb (n : Nat) (l0 : List (Int × MK)) (b : Bool) : Nat → List V → Heap → Nat → List Cl := dbQ [
 (29, fun _ _ lo => [{ val := .ptr (.o lo) 0 0 0 0, post := hM (.o lo) (.o (lo + 1)) n l0 }]),
 (33, fun _ _ lo => [{ val := .ptr (.o lo) 0 0 0 0, post := [(.o lo, .flat [.int .i64 (n : Nat), .sl (.o (lo + 1)) 1 0 0 0 n (some n), .sl (.o (lo + 2)) 32 0 0 0 n (some n), .sl (.o (lo + 3)) 16 0 0 0 n (some n)]), (.o (lo + 1), .rows 1 n (eR l0) false), (.o (lo + 2), .rows 32 n (dR l0) false), (.o (lo + 3), .rows 16 n (tR l0) false)] }]),
 (30, cVal (.bool b))]
noncomputable def nwD0 (b : Bool) : Nat → List V → Heap → Nat → List Cl := dbQ [(29, cVal .pnil), (33, cVal .pnil), (30, cVal (.bool b))]
noncomputable def bdP0 (n : Int) (m : Nat) (f : Nat → SAct) (need : Int) : Bd := { f := Try.f8, args := [.int .i64 n, ac m f, .int .i64 need], kb := { db := nwD0 true } }
noncomputable def bdPl (n m : Nat) (f : Nat → SAct) (need : Int) (l0 l : List (Int × MK)) : Bd := { f := Try.f8, args := [.int .i64 (n : Nat), ac m f, .int .i64 need], kb := { db := nwDb n l0 true, lp := fun _ t => [(True, .loop (m + 1) (wToS (plW t) (plI n m f need l0 0)) (.exit 0) (plI n m f need l m))] } }
noncomputable def pcPy (n m : Nat) (f : Nat → SAct) (need : Int) (l l2 : List (Int × MK)) (k : Nat) (r v : Int) (L : List SSign) : Pc := { c := cB (cB (cR (cL (cR (cR (cR (cR (bodyOf Try.f8)))))))), st := plI n m f need l k, p := 0, kb := { db := plDb n l2 r v true L, lp := fun _ _ => [(True, .loop (n + 3) (wTo (plJ n m f need l2 k 0)) (.exit 2) (plJ n m f need l2 k (n + 2)))] }, k := fun x_ _ => match x_ with
 | .normal => some (wTo (plI n m f need l2 (k + 1)))
 | _ => some (wTo (plI n m f need l m)) }
noncomputable def pcPn (n m : Nat) (f : Nat → SAct) (need : Int) (l l2 : List (Int × MK)) (k : Nat) (r v : Int) : Pc := { c := cB (cB (cR (cL (cR (cR (cR (cR (bodyOf Try.f8)))))))), st := plI n m f need l k, p := 0, kb := { db := plDb n l2 r v false [], lp := fun _ _ => [(True, .loop (n + 3) (wTo (plJ n m f need l2 k 0)) (.exit 2) (plJ n m f need l2 k (n + 2)))] }, k := fun x_ _ => match x_ with
 | .normal => some (wTo (plI n m f need l2 (k + 1)))
 | _ => some (wTo (plI n m f need l m)) }
noncomputable def plC : Code := cB (cB (cR (cL (cR (cR (cR (cR (bodyOf Try.f8))))))))
noncomputable def pcPj (n m : Nat) (f : Nat → SAct) (need : Int) (l : List (Int × MK)) (k j : Nat) (e : Int) (d : List Int) : Pc := { c := cB (cB (cR (cR (cR (cB (cL (cR (cR plC)))))))), st := plJ n m f need l k j, p := 0, kb := { db := dbQ [(38, fun _ _ _ => [{ rd := [.o 0, .o 1], val := .tup [.int .i64 e, dgV d] }])] }, k := fun x_ _ => match x_ with
 | .normal => some (wTo (plJ n m f need l k (j + 1)))
 | _ => some (wTo (plJ n m f need l k (n + 2))) }
end Go.Proofs.Ytpallipnhmoipaa
