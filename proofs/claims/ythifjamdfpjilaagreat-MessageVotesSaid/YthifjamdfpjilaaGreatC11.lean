/-
  Contracts and laws that the claim's theorem leans on, joined out of the texts ZVb1 ZVb2D ZVb2 ZVg0 (own work of this seat): The chapter's example, decoded: a chain of contracts, printed by a program; The laws of messages that are encoded, of votes: the walk; The laws of messages that are encoded, of votes: the walk; The shapes of messages and records that are handed in.
-/
import Derived.Test.YthifjamdfpjilaaGreatC06
import Derived.Test.YthifjamdfpjilaaGreatC10
set_option linter.unusedVariables false
set_option linter.unusedSimpArgs false
set_option maxHeartbeats 1000000
namespace Go.Proofs.YthifjamdfpjilaaGreat
open Go Sy Go.Proofs
abbrev vF : V := .bool false
abbrev vT : V := .bool true
abbrev v0 : V := .int .i64 0
theorem lv0 : T Tryz.prog 85 [.ros 1 6 (lst [[.int .u8 1], [.int .u8 6], [.int .u8 1], [.int .u8 2], [.int .u8 1], [.int .u8 9]]) false] [] (.ptr (.o 1136) 0 0 0 0) [(.o 1136, .flat [.ros 1 6 (lst [[.int .u8 1], [.int .u8 6], [.int .u8 1], [.int .u8 2], [.int .u8 1], [.int .u8 9]]) false, v0, vT])] :=
 T_along NG MO [] (b := .mk Tryz.f85 [.ros 1 6 (lst [[.int .u8 1], [.int .u8 6], [.int .u8 1], [.int .u8 2], [.int .u8 1], [.int .u8 9]]) false] [] 1088 (kbT []) (fun _ __1 => some (.mk [(.o 1136, .o 1472)] [(2, .set (.ptr (.o 1136) 0 0 0 0))] [(.o 1136, .set (.flat [.ros 1 6 (lst [[.int .u8 1], [.int .u8 6], [.int .u8 1], [.int .u8 2], [.int .u8 1], [.int .u8 9]]) false, v0, vT]))] none 1152)) (fun _ => [.o 1136]) none) (cs := [q0, ∀ (k : Nat), k < nat_lit 6 → solid (lst [[V.int IntKind.u8 (1 : Int)], [V.int IntKind.u8 (6 : Int)], [V.int IntKind.u8 (1 : Int)], [V.int IntKind.u8 (2 : Int)], [V.int IntKind.u8 (1 : Int)], [V.int IntKind.u8 (9 : Int)]] k) = true, nat_lit 6 ≤ (140737488355328 : Nat), nat_lit 6 = nat_lit 6, nat_lit 6 ≤ nat_lit 6, ∀ (k : Nat), k < nat_lit 6 → catF (0 : Nat) (getL []) (lst [[V.int IntKind.u8 (1 : Int)], [V.int IntKind.u8 (6 : Int)], [V.int IntKind.u8 (1 : Int)], [V.int IntKind.u8 (2 : Int)], [V.int IntKind.u8 (1 : Int)], [V.int IntKind.u8 (9 : Int)]]) ((0 : Nat) + k) = lst [[V.int IntKind.u8 (1 : Int)], [V.int IntKind.u8 (6 : Int)], [V.int IntKind.u8 (1 : Int)], [V.int IntKind.u8 (2 : Int)], [V.int IntKind.u8 (1 : Int)], [V.int IntKind.u8 (9 : Int)]] k, false = true → none = some (nat_lit 6), q1, q2, q0, q0, q0]) (by kernel_rfl) Tryz.func85 (by kernel_rfl) ⟨rfl, (AllK.all (by repeat (first | exact trivial | refine ⟨?_, rfl⟩))), (by decide), rfl, (by decide), (AllK.all (by repeat (first | exact trivial | refine ⟨?_, rfl⟩))), (fun h => by first | exact h | cases h), rfl, rfl, rfl, rfl, rfl, trivial⟩ (pinH_ok (by kernel_rfl)) (by kernel_rfl)
theorem lv1 : T Tryz.prog 110 [.ptr (.o 1136) 0 0 0 0] [(.o 1136, .flat [.ros 1 6 (lst [[.int .u8 1], [.int .u8 6], [.int .u8 1], [.int .u8 2], [.int .u8 1], [.int .u8 9]]) false, v0, vT])] (vF) [(.o 1136, .flat [.ros 1 6 (lst [[.int .u8 1], [.int .u8 6], [.int .u8 1], [.int .u8 2], [.int .u8 1], [.int .u8 9]]) false, v0, vT])] :=
 T_along NG MO [] (b := .mk Tryz.f110 [.ptr (.o 1136) 0 0 0 0] [(.o 1136, .flat [.ros 1 6 (lst [[.int .u8 1], [.int .u8 6], [.int .u8 1], [.int .u8 2], [.int .u8 1], [.int .u8 9]]) false, v0, vT])] 1728 (kbT []) (fun _ __1 => some (.mk [] [(2, .set (vF))] [(.o 1136, .set (.flat [.ros 1 6 (lst [[.int .u8 1], [.int .u8 6], [.int .u8 1], [.int .u8 2], [.int .u8 1], [.int .u8 9]]) false, v0, vT]))] none 1792)) (fun _ => [.o 1136]) none) (cs := [q false, q false, nat_lit 6 = nat_lit 6, ∀ (k : Nat), k < nat_lit 6 → lst [[V.int IntKind.u8 (1 : Int)], [V.int IntKind.u8 (6 : Int)], [V.int IntKind.u8 (1 : Int)], [V.int IntKind.u8 (2 : Int)], [V.int IntKind.u8 (1 : Int)], [V.int IntKind.u8 (9 : Int)]] k = lst [[V.int IntKind.u8 (1 : Int)], [V.int IntKind.u8 (6 : Int)], [V.int IntKind.u8 (1 : Int)], [V.int IntKind.u8 (2 : Int)], [V.int IntKind.u8 (1 : Int)], [V.int IntKind.u8 (9 : Int)]] k, false = true → false = true, q1, q2, q false]) (by kernel_rfl) Tryz.func110 (by kernel_rfl) ⟨rfl, rfl, rfl, (AllK.all (by repeat (first | exact trivial | refine ⟨?_, rfl⟩))), (fun h => by first | exact h | cases h), rfl, rfl, rfl, trivial⟩ (pinH_ok (by kernel_rfl)) (by kernel_rfl)
theorem lv2 : T Tryz.prog 111 [.ptr (.o 1136) 0 0 0 0] [(.o 1136, .flat [.ros 1 6 (lst [[.int .u8 1], [.int .u8 6], [.int .u8 1], [.int .u8 2], [.int .u8 1], [.int .u8 9]]) false, v0, vT])] (.tup [.int .i64 6, .int .i64 2, v0]) [(.o 1136, .flat [.ros 1 6 (lst [[.int .u8 1], [.int .u8 6], [.int .u8 1], [.int .u8 2], [.int .u8 1], [.int .u8 9]]) false, v0, vT])] :=
 T_along NG MO [] (b := .mk Tryz.f111 [.ptr (.o 1136) 0 0 0 0] [(.o 1136, .flat [.ros 1 6 (lst [[.int .u8 1], [.int .u8 6], [.int .u8 1], [.int .u8 2], [.int .u8 1], [.int .u8 9]]) false, v0, vT])] 1984 (kbT []) (fun _ __1 => some (.mk [] [(2, .set (.int .i64 6)), (3, .set (.int .i64 2)), (4, .set (v0))] [(.o 1136, .set (.flat [.ros 1 6 (lst [[.int .u8 1], [.int .u8 6], [.int .u8 1], [.int .u8 2], [.int .u8 1], [.int .u8 9]]) false, v0, vT]))] none 2048)) (fun _ => [.o 1136]) none) (cs := [q false, (0 : Int) ≤ (0 : Int) ∧ (0 : Int) < (6 : Int), InR IntKind.i64 (1 : Int), q false, q false, q2, (0 : Int) ≤ (1 : Int) ∧ (1 : Int) < (6 : Int), q false, q false, q false, InR IntKind.i64 (2 : Int), (0 : Int) ≤ (2 : Int) ∧ (2 : Int) ≤ (6 : Int), (0 : Int) ≤ (1 : Int) ∧ (1 : Int) ≤ (2 : Int), q2, (0 : Int) ≤ (0 : Int) ∧ (0 : Int) < (1 : Int), (0 : Int) ≤ (8 : Int) ∧ (8 : Int) ≤ (64 : Int), InR IntKind.i64 (0 : Int), InR IntKind.i64 (6 : Int), InR IntKind.i64 (1 : Int), q false, InR IntKind.i64 (2 : Int), nat_lit 6 = nat_lit 6, ∀ (k : Nat), k < nat_lit 6 → lst [[V.int IntKind.u8 (1 : Int)], [V.int IntKind.u8 (6 : Int)], [V.int IntKind.u8 (1 : Int)], [V.int IntKind.u8 (2 : Int)], [V.int IntKind.u8 (1 : Int)], [V.int IntKind.u8 (9 : Int)]] k = lst [[V.int IntKind.u8 (1 : Int)], [V.int IntKind.u8 (6 : Int)], [V.int IntKind.u8 (1 : Int)], [V.int IntKind.u8 (2 : Int)], [V.int IntKind.u8 (1 : Int)], [V.int IntKind.u8 (9 : Int)]] k, false = true → false = true, q1, q2, q (6 : Int), q (2 : Int), q1]) (by kernel_rfl) Tryz.func111 (by kernel_rfl) ⟨rfl, (by decide), ⟨by decide, by decide⟩, rfl, rfl, rfl, (by decide), rfl, rfl, rfl, ⟨by decide, by decide⟩, (by decide), (by decide), rfl, (by decide), (by decide), ⟨by decide, by decide⟩, ⟨by decide, by decide⟩, ⟨by decide, by decide⟩, rfl, ⟨by decide, by decide⟩, rfl, (AllK.all (by repeat (first | exact trivial | refine ⟨?_, rfl⟩))), (fun h => by first | exact h | cases h), rfl, rfl, rfl, rfl, rfl, trivial⟩ (pinH_ok (by kernel_rfl)) (by kernel_rfl)
theorem lv3 : T Tryz.prog 113 [.ptr (.o 1136) 0 0 0 0, .int .i64 2] [(.o 1136, .flat [.ros 1 6 (lst [[.int .u8 1], [.int .u8 6], [.int .u8 1], [.int .u8 2], [.int .u8 1], [.int .u8 9]]) false, v0, vT])] (.ros 1 2 (lst [[.int .u8 1], [.int .u8 6]]) false) [(.o 1136, .flat [.ros 1 4 (lst [[.int .u8 1], [.int .u8 2], [.int .u8 1], [.int .u8 9]]) false, v0, vT])] :=
 T_along NG MO [] (b := .mk Tryz.f113 [.ptr (.o 1136) 0 0 0 0, .int .i64 2] [(.o 1136, .flat [.ros 1 6 (lst [[.int .u8 1], [.int .u8 6], [.int .u8 1], [.int .u8 2], [.int .u8 1], [.int .u8 9]]) false, v0, vT])] 3328 (kbT []) (fun _ __1 => some (.mk [] [(4, .set (.ros 1 2 (lst [[.int .u8 1], [.int .u8 6]]) false))] [(.o 1136, .set (.flat [.ros 1 4 (lst [[.int .u8 1], [.int .u8 2], [.int .u8 1], [.int .u8 9]]) false, v0, vT]))] none 3392)) (fun _ => [.o 1136]) none) (cs := [(0 : Int) ≤ (2 : Int) ∧ (2 : Int) ≤ (6 : Int), (0 : Int) ≤ (2 : Int) ∧ (2 : Int) ≤ (6 : Int), nat_lit 4 = nat_lit 4, ∀ (k : Nat), k < nat_lit 4 → shiftF (lst [[V.int IntKind.u8 (1 : Int)], [V.int IntKind.u8 (6 : Int)], [V.int IntKind.u8 (1 : Int)], [V.int IntKind.u8 (2 : Int)], [V.int IntKind.u8 (1 : Int)], [V.int IntKind.u8 (9 : Int)]]) (some (2 : Int)) k = lst [[V.int IntKind.u8 (1 : Int)], [V.int IntKind.u8 (2 : Int)], [V.int IntKind.u8 (1 : Int)], [V.int IntKind.u8 (9 : Int)]] k, false = true → false = true, q1, q2, nat_lit 2 = nat_lit 2, ∀ (k : Nat), k < nat_lit 2 → shiftF (lst [[V.int IntKind.u8 (1 : Int)], [V.int IntKind.u8 (6 : Int)], [V.int IntKind.u8 (1 : Int)], [V.int IntKind.u8 (2 : Int)], [V.int IntKind.u8 (1 : Int)], [V.int IntKind.u8 (9 : Int)]]) none k = lst [[V.int IntKind.u8 (1 : Int)], [V.int IntKind.u8 (6 : Int)]] k, false = true → false = true]) (by kernel_rfl) Tryz.func113 (by kernel_rfl) ⟨(by decide), (by decide), rfl, (AllK.all (by repeat (first | exact trivial | refine ⟨?_, rfl⟩))), (fun h => by first | exact h | cases h), rfl, rfl, rfl, (AllK.all (by repeat (first | exact trivial | refine ⟨?_, rfl⟩))), (fun h => by first | exact h | cases h), trivial⟩ (pinH_ok (by kernel_rfl)) (by kernel_rfl)
theorem lv4 : T Tryz.prog 86 [.ptr (.o 1136) 0 0 0 0, .int .i64 8] [(.o 1136, .flat [.ros 1 6 (lst [[.int .u8 1], [.int .u8 6], [.int .u8 1], [.int .u8 2], [.int .u8 1], [.int .u8 9]]) false, v0, vT])] (.int .i64 6) [(.o 1136, .flat [.ros 1 4 (lst [[.int .u8 1], [.int .u8 2], [.int .u8 1], [.int .u8 9]]) false, v0, vT])] :=
 T_along NG MO [] (b := .mk Tryz.f86 [.ptr (.o 1136) 0 0 0 0, .int .i64 8] [(.o 1136, .flat [.ros 1 6 (lst [[.int .u8 1], [.int .u8 6], [.int .u8 1], [.int .u8 2], [.int .u8 1], [.int .u8 9]]) false, v0, vT])] 1600 (kbT [(1728, .mk false [] [.o 1136] none (vF) [(.o 1136, .flat [.ros 1 6 (lst [[.int .u8 1], [.int .u8 6], [.int .u8 1], [.int .u8 2], [.int .u8 1], [.int .u8 9]]) false, v0, vT])]), (1984, .mk false [] [.o 1136] none (.tup [.int .i64 6, .int .i64 2, v0]) [(.o 1136, .flat [.ros 1 6 (lst [[.int .u8 1], [.int .u8 6], [.int .u8 1], [.int .u8 2], [.int .u8 1], [.int .u8 9]]) false, v0, vT])]), (3328, .mk false [] [.o 1136] none (.ros 1 2 (lst [[.int .u8 1], [.int .u8 6]]) false) [(.o 1136, .flat [.ros 1 4 (lst [[.int .u8 1], [.int .u8 2], [.int .u8 1], [.int .u8 9]]) false, v0, vT])])]) (fun _ __1 => some (.mk [] [(4, .set (.int .i64 6))] [(.o 1136, .set (.flat [.ros 1 4 (lst [[.int .u8 1], [.int .u8 2], [.int .u8 1], [.int .u8 9]]) false, v0, vT]))] none 1664)) (fun _ => [.o 1136]) none) (cs := [type_of% lv1, q false, type_of% lv2, q2, q false, q false, type_of% lv3, nat_lit 4 = nat_lit 4, ∀ (k : Nat), k < nat_lit 4 → lst [[V.int IntKind.u8 (1 : Int)], [V.int IntKind.u8 (2 : Int)], [V.int IntKind.u8 (1 : Int)], [V.int IntKind.u8 (9 : Int)]] k = lst [[V.int IntKind.u8 (1 : Int)], [V.int IntKind.u8 (2 : Int)], [V.int IntKind.u8 (1 : Int)], [V.int IntKind.u8 (9 : Int)]] k, false = true → false = true, q1, q2, q (6 : Int)]) (by kernel_rfl) Tryz.func86 (by kernel_rfl) ⟨lv1, rfl, lv2, rfl, rfl, rfl, lv3, rfl, (AllK.all (by repeat (first | exact trivial | refine ⟨?_, rfl⟩))), (fun h => by first | exact h | cases h), rfl, rfl, rfl, trivial⟩ (pinH_ok (by kernel_rfl)) (by kernel_rfl)
theorem lv5 : T Tryz.prog 110 [.ptr (.o 1136) 0 0 0 0] [(.o 1136, .flat [.ros 1 4 (lst [[.int .u8 1], [.int .u8 2], [.int .u8 1], [.int .u8 9]]) false, v0, vT])] (vF) [(.o 1136, .flat [.ros 1 4 (lst [[.int .u8 1], [.int .u8 2], [.int .u8 1], [.int .u8 9]]) false, v0, vT])] :=
 T_along NG MO [] (b := .mk Tryz.f110 [.ptr (.o 1136) 0 0 0 0] [(.o 1136, .flat [.ros 1 4 (lst [[.int .u8 1], [.int .u8 2], [.int .u8 1], [.int .u8 9]]) false, v0, vT])] 4160 (kbT []) (fun _ __1 => some (.mk [] [(2, .set (vF))] [(.o 1136, .set (.flat [.ros 1 4 (lst [[.int .u8 1], [.int .u8 2], [.int .u8 1], [.int .u8 9]]) false, v0, vT]))] none 4224)) (fun _ => [.o 1136]) none) (cs := [q false, q false, nat_lit 4 = nat_lit 4, ∀ (k : Nat), k < nat_lit 4 → lst [[V.int IntKind.u8 (1 : Int)], [V.int IntKind.u8 (2 : Int)], [V.int IntKind.u8 (1 : Int)], [V.int IntKind.u8 (9 : Int)]] k = lst [[V.int IntKind.u8 (1 : Int)], [V.int IntKind.u8 (2 : Int)], [V.int IntKind.u8 (1 : Int)], [V.int IntKind.u8 (9 : Int)]] k, false = true → false = true, q1, q2, q false]) (by kernel_rfl) Tryz.func110 (by kernel_rfl) ⟨rfl, rfl, rfl, (AllK.all (by repeat (first | exact trivial | refine ⟨?_, rfl⟩))), (fun h => by first | exact h | cases h), rfl, rfl, rfl, trivial⟩ (pinH_ok (by kernel_rfl)) (by kernel_rfl)
theorem lv6 : T Tryz.prog 111 [.ptr (.o 1136) 0 0 0 0] [(.o 1136, .flat [.ros 1 4 (lst [[.int .u8 1], [.int .u8 2], [.int .u8 1], [.int .u8 9]]) false, v0, vT])] (.tup [.int .i64 2, .int .i64 2, v0]) [(.o 1136, .flat [.ros 1 4 (lst [[.int .u8 1], [.int .u8 2], [.int .u8 1], [.int .u8 9]]) false, v0, vT])] :=
 T_along NG MO [] (b := .mk Tryz.f111 [.ptr (.o 1136) 0 0 0 0] [(.o 1136, .flat [.ros 1 4 (lst [[.int .u8 1], [.int .u8 2], [.int .u8 1], [.int .u8 9]]) false, v0, vT])] 4416 (kbT []) (fun _ __1 => some (.mk [] [(2, .set (.int .i64 2)), (3, .set (.int .i64 2)), (4, .set (v0))] [(.o 1136, .set (.flat [.ros 1 4 (lst [[.int .u8 1], [.int .u8 2], [.int .u8 1], [.int .u8 9]]) false, v0, vT]))] none 4480)) (fun _ => [.o 1136]) none) (cs := [q false, (0 : Int) ≤ (0 : Int) ∧ (0 : Int) < (4 : Int), InR IntKind.i64 (1 : Int), q false, q false, q2, (0 : Int) ≤ (1 : Int) ∧ (1 : Int) < (4 : Int), q false, q false, q false, InR IntKind.i64 (2 : Int), (0 : Int) ≤ (2 : Int) ∧ (2 : Int) ≤ (4 : Int), (0 : Int) ≤ (1 : Int) ∧ (1 : Int) ≤ (2 : Int), q2, (0 : Int) ≤ (0 : Int) ∧ (0 : Int) < (1 : Int), (0 : Int) ≤ (8 : Int) ∧ (8 : Int) ≤ (64 : Int), InR IntKind.i64 (0 : Int), InR IntKind.i64 (2 : Int), InR IntKind.i64 (1 : Int), q false, InR IntKind.i64 (2 : Int), nat_lit 4 = nat_lit 4, ∀ (k : Nat), k < nat_lit 4 → lst [[V.int IntKind.u8 (1 : Int)], [V.int IntKind.u8 (2 : Int)], [V.int IntKind.u8 (1 : Int)], [V.int IntKind.u8 (9 : Int)]] k = lst [[V.int IntKind.u8 (1 : Int)], [V.int IntKind.u8 (2 : Int)], [V.int IntKind.u8 (1 : Int)], [V.int IntKind.u8 (9 : Int)]] k, false = true → false = true, q1, q2, q (2 : Int), q (2 : Int), q1]) (by kernel_rfl) Tryz.func111 (by kernel_rfl) ⟨rfl, (by decide), ⟨by decide, by decide⟩, rfl, rfl, rfl, (by decide), rfl, rfl, rfl, ⟨by decide, by decide⟩, (by decide), (by decide), rfl, (by decide), (by decide), ⟨by decide, by decide⟩, ⟨by decide, by decide⟩, ⟨by decide, by decide⟩, rfl, ⟨by decide, by decide⟩, rfl, (AllK.all (by repeat (first | exact trivial | refine ⟨?_, rfl⟩))), (fun h => by first | exact h | cases h), rfl, rfl, rfl, rfl, rfl, trivial⟩ (pinH_ok (by kernel_rfl)) (by kernel_rfl)
theorem lv7 : T Tryz.prog 113 [.ptr (.o 1136) 0 0 0 0, .int .i64 2] [(.o 1136, .flat [.ros 1 4 (lst [[.int .u8 1], [.int .u8 2], [.int .u8 1], [.int .u8 9]]) false, v0, vT])] (.ros 1 2 (lst [[.int .u8 1], [.int .u8 2]]) false) [(.o 1136, .flat [.ros 1 2 (lst [[.int .u8 1], [.int .u8 9]]) false, v0, vT])] :=
 T_along NG MO [] (b := .mk Tryz.f113 [.ptr (.o 1136) 0 0 0 0, .int .i64 2] [(.o 1136, .flat [.ros 1 4 (lst [[.int .u8 1], [.int .u8 2], [.int .u8 1], [.int .u8 9]]) false, v0, vT])] 5760 (kbT []) (fun _ __1 => some (.mk [] [(4, .set (.ros 1 2 (lst [[.int .u8 1], [.int .u8 2]]) false))] [(.o 1136, .set (.flat [.ros 1 2 (lst [[.int .u8 1], [.int .u8 9]]) false, v0, vT]))] none 5824)) (fun _ => [.o 1136]) none) (cs := [(0 : Int) ≤ (2 : Int) ∧ (2 : Int) ≤ (4 : Int), (0 : Int) ≤ (2 : Int) ∧ (2 : Int) ≤ (4 : Int), nat_lit 2 = nat_lit 2, ∀ (k : Nat), k < nat_lit 2 → shiftF (lst [[V.int IntKind.u8 (1 : Int)], [V.int IntKind.u8 (2 : Int)], [V.int IntKind.u8 (1 : Int)], [V.int IntKind.u8 (9 : Int)]]) (some (2 : Int)) k = lst [[V.int IntKind.u8 (1 : Int)], [V.int IntKind.u8 (9 : Int)]] k, false = true → false = true, q1, q2, nat_lit 2 = nat_lit 2, ∀ (k : Nat), k < nat_lit 2 → shiftF (lst [[V.int IntKind.u8 (1 : Int)], [V.int IntKind.u8 (2 : Int)], [V.int IntKind.u8 (1 : Int)], [V.int IntKind.u8 (9 : Int)]]) none k = lst [[V.int IntKind.u8 (1 : Int)], [V.int IntKind.u8 (2 : Int)]] k, false = true → false = true]) (by kernel_rfl) Tryz.func113 (by kernel_rfl) ⟨(by decide), (by decide), rfl, (AllK.all (by repeat (first | exact trivial | refine ⟨?_, rfl⟩))), (fun h => by first | exact h | cases h), rfl, rfl, rfl, (AllK.all (by repeat (first | exact trivial | refine ⟨?_, rfl⟩))), (fun h => by first | exact h | cases h), trivial⟩ (pinH_ok (by kernel_rfl)) (by kernel_rfl)
theorem lv8 : T Tryz.prog 86 [.ptr (.o 1136) 0 0 0 0, .int .i64 1048576] [(.o 1136, .flat [.ros 1 4 (lst [[.int .u8 1], [.int .u8 2], [.int .u8 1], [.int .u8 9]]) false, v0, vT])] (.int .i64 2) [(.o 1136, .flat [.ros 1 2 (lst [[.int .u8 1], [.int .u8 9]]) false, v0, vT])] :=
 T_along NG MO [] (b := .mk Tryz.f86 [.ptr (.o 1136) 0 0 0 0, .int .i64 1048576] [(.o 1136, .flat [.ros 1 4 (lst [[.int .u8 1], [.int .u8 2], [.int .u8 1], [.int .u8 9]]) false, v0, vT])] 4032 (kbT [(4160, .mk false [] [.o 1136] none (vF) [(.o 1136, .flat [.ros 1 4 (lst [[.int .u8 1], [.int .u8 2], [.int .u8 1], [.int .u8 9]]) false, v0, vT])]), (4416, .mk false [] [.o 1136] none (.tup [.int .i64 2, .int .i64 2, v0]) [(.o 1136, .flat [.ros 1 4 (lst [[.int .u8 1], [.int .u8 2], [.int .u8 1], [.int .u8 9]]) false, v0, vT])]), (5760, .mk false [] [.o 1136] none (.ros 1 2 (lst [[.int .u8 1], [.int .u8 2]]) false) [(.o 1136, .flat [.ros 1 2 (lst [[.int .u8 1], [.int .u8 9]]) false, v0, vT])])]) (fun _ __1 => some (.mk [] [(4, .set (.int .i64 2))] [(.o 1136, .set (.flat [.ros 1 2 (lst [[.int .u8 1], [.int .u8 9]]) false, v0, vT]))] none 4096)) (fun _ => [.o 1136]) none) (cs := [type_of% lv5, q false, type_of% lv6, q2, q false, q false, type_of% lv7, nat_lit 2 = nat_lit 2, ∀ (k : Nat), k < nat_lit 2 → lst [[V.int IntKind.u8 (1 : Int)], [V.int IntKind.u8 (9 : Int)]] k = lst [[V.int IntKind.u8 (1 : Int)], [V.int IntKind.u8 (9 : Int)]] k, false = true → false = true, q1, q2, q (2 : Int)]) (by kernel_rfl) Tryz.func86 (by kernel_rfl) ⟨lv5, rfl, lv6, rfl, rfl, rfl, lv7, rfl, (AllK.all (by repeat (first | exact trivial | refine ⟨?_, rfl⟩))), (fun h => by first | exact h | cases h), rfl, rfl, rfl, trivial⟩ (pinH_ok (by kernel_rfl)) (by kernel_rfl)
theorem lv9 : T Tryz.prog 110 [.ptr (.o 1136) 0 0 0 0] [(.o 1136, .flat [.ros 1 2 (lst [[.int .u8 1], [.int .u8 9]]) false, v0, vT])] (vF) [(.o 1136, .flat [.ros 1 2 (lst [[.int .u8 1], [.int .u8 9]]) false, v0, vT])] :=
 T_along NG MO [] (b := .mk Tryz.f110 [.ptr (.o 1136) 0 0 0 0] [(.o 1136, .flat [.ros 1 2 (lst [[.int .u8 1], [.int .u8 9]]) false, v0, vT])] 4480 (kbT []) (fun _ __1 => some (.mk [] [(2, .set (vF))] [(.o 1136, .set (.flat [.ros 1 2 (lst [[.int .u8 1], [.int .u8 9]]) false, v0, vT]))] none 4544)) (fun _ => [.o 1136]) none) (cs := [q false, q false, nat_lit 2 = nat_lit 2, ∀ (k : Nat), k < nat_lit 2 → lst [[V.int IntKind.u8 (1 : Int)], [V.int IntKind.u8 (9 : Int)]] k = lst [[V.int IntKind.u8 (1 : Int)], [V.int IntKind.u8 (9 : Int)]] k, false = true → false = true, q1, q2, q false]) (by kernel_rfl) Tryz.func110 (by kernel_rfl) ⟨rfl, rfl, rfl, (AllK.all (by repeat (first | exact trivial | refine ⟨?_, rfl⟩))), (fun h => by first | exact h | cases h), rfl, rfl, rfl, trivial⟩ (pinH_ok (by kernel_rfl)) (by kernel_rfl)
theorem lv10 : T Tryz.prog 111 [.ptr (.o 1136) 0 0 0 0] [(.o 1136, .flat [.ros 1 2 (lst [[.int .u8 1], [.int .u8 9]]) false, v0, vT])] (.tup [.int .i64 9, .int .i64 2, v0]) [(.o 1136, .flat [.ros 1 2 (lst [[.int .u8 1], [.int .u8 9]]) false, v0, vT])] :=
 T_along NG MO [] (b := .mk Tryz.f111 [.ptr (.o 1136) 0 0 0 0] [(.o 1136, .flat [.ros 1 2 (lst [[.int .u8 1], [.int .u8 9]]) false, v0, vT])] 4736 (kbT []) (fun _ __1 => some (.mk [] [(2, .set (.int .i64 9)), (3, .set (.int .i64 2)), (4, .set (v0))] [(.o 1136, .set (.flat [.ros 1 2 (lst [[.int .u8 1], [.int .u8 9]]) false, v0, vT]))] none 4800)) (fun _ => [.o 1136]) none) (cs := [q false, (0 : Int) ≤ (0 : Int) ∧ (0 : Int) < (2 : Int), InR IntKind.i64 (1 : Int), q false, q false, q2, (0 : Int) ≤ (1 : Int) ∧ (1 : Int) < (2 : Int), q false, q false, q false, InR IntKind.i64 (2 : Int), (0 : Int) ≤ (2 : Int) ∧ (2 : Int) ≤ (2 : Int), (0 : Int) ≤ (1 : Int) ∧ (1 : Int) ≤ (2 : Int), q2, (0 : Int) ≤ (0 : Int) ∧ (0 : Int) < (1 : Int), (0 : Int) ≤ (8 : Int) ∧ (8 : Int) ≤ (64 : Int), InR IntKind.i64 (0 : Int), InR IntKind.i64 (9 : Int), InR IntKind.i64 (1 : Int), q false, InR IntKind.i64 (2 : Int), nat_lit 2 = nat_lit 2, ∀ (k : Nat), k < nat_lit 2 → lst [[V.int IntKind.u8 (1 : Int)], [V.int IntKind.u8 (9 : Int)]] k = lst [[V.int IntKind.u8 (1 : Int)], [V.int IntKind.u8 (9 : Int)]] k, false = true → false = true, q1, q2, q (9 : Int), q (2 : Int), q1]) (by kernel_rfl) Tryz.func111 (by kernel_rfl) ⟨rfl, (by decide), ⟨by decide, by decide⟩, rfl, rfl, rfl, (by decide), rfl, rfl, rfl, ⟨by decide, by decide⟩, (by decide), (by decide), rfl, (by decide), (by decide), ⟨by decide, by decide⟩, ⟨by decide, by decide⟩, ⟨by decide, by decide⟩, rfl, ⟨by decide, by decide⟩, rfl, (AllK.all (by repeat (first | exact trivial | refine ⟨?_, rfl⟩))), (fun h => by first | exact h | cases h), rfl, rfl, rfl, rfl, rfl, trivial⟩ (pinH_ok (by kernel_rfl)) (by kernel_rfl)
theorem lv11 : T Tryz.prog 113 [.ptr (.o 1136) 0 0 0 0, .int .i64 2] [(.o 1136, .flat [.ros 1 2 (lst [[.int .u8 1], [.int .u8 9]]) false, v0, vT])] (.ros 1 2 (lst [[.int .u8 1], [.int .u8 9]]) false) [(.o 1136, .flat [.ros 1 0 (lst []) false, v0, vT])] :=
 T_along NG MO [] (b := .mk Tryz.f113 [.ptr (.o 1136) 0 0 0 0, .int .i64 2] [(.o 1136, .flat [.ros 1 2 (lst [[.int .u8 1], [.int .u8 9]]) false, v0, vT])] 6080 (kbT []) (fun _ __1 => some (.mk [] [(4, .set (.ros 1 2 (lst [[.int .u8 1], [.int .u8 9]]) false))] [(.o 1136, .set (.flat [.ros 1 0 (lst []) false, v0, vT]))] none 6144)) (fun _ => [.o 1136]) none) (cs := [(0 : Int) ≤ (2 : Int) ∧ (2 : Int) ≤ (2 : Int), (0 : Int) ≤ (2 : Int) ∧ (2 : Int) ≤ (2 : Int), nat_lit 0 = nat_lit 0, ∀ (k : Nat), k < nat_lit 0 → shiftF (lst [[V.int IntKind.u8 (1 : Int)], [V.int IntKind.u8 (9 : Int)]]) (some (2 : Int)) k = [], false = true → false = true, q1, q2, nat_lit 2 = nat_lit 2, ∀ (k : Nat), k < nat_lit 2 → shiftF (lst [[V.int IntKind.u8 (1 : Int)], [V.int IntKind.u8 (9 : Int)]]) none k = lst [[V.int IntKind.u8 (1 : Int)], [V.int IntKind.u8 (9 : Int)]] k, false = true → false = true]) (by kernel_rfl) Tryz.func113 (by kernel_rfl) ⟨(by decide), (by decide), rfl, (AllK.all (by repeat (first | exact trivial | refine ⟨?_, rfl⟩))), (fun h => by first | exact h | cases h), rfl, rfl, rfl, (AllK.all (by repeat (first | exact trivial | refine ⟨?_, rfl⟩))), (fun h => by first | exact h | cases h), trivial⟩ (pinH_ok (by kernel_rfl)) (by kernel_rfl)
theorem lv12 : T Tryz.prog 86 [.ptr (.o 1136) 0 0 0 0, .int .i64 1099511627776] [(.o 1136, .flat [.ros 1 2 (lst [[.int .u8 1], [.int .u8 9]]) false, v0, vT])] (.int .i64 9) [(.o 1136, .flat [.ros 1 0 (lst []) false, v0, vT])] :=
 T_along NG MO [] (b := .mk Tryz.f86 [.ptr (.o 1136) 0 0 0 0, .int .i64 1099511627776] [(.o 1136, .flat [.ros 1 2 (lst [[.int .u8 1], [.int .u8 9]]) false, v0, vT])] 4352 (kbT [(4480, .mk false [] [.o 1136] none (vF) [(.o 1136, .flat [.ros 1 2 (lst [[.int .u8 1], [.int .u8 9]]) false, v0, vT])]), (4736, .mk false [] [.o 1136] none (.tup [.int .i64 9, .int .i64 2, v0]) [(.o 1136, .flat [.ros 1 2 (lst [[.int .u8 1], [.int .u8 9]]) false, v0, vT])]), (6080, .mk false [] [.o 1136] none (.ros 1 2 (lst [[.int .u8 1], [.int .u8 9]]) false) [(.o 1136, .flat [.ros 1 0 (lst []) false, v0, vT])])]) (fun _ __1 => some (.mk [] [(4, .set (.int .i64 9))] [(.o 1136, .set (.flat [.ros 1 0 (lst []) false, v0, vT]))] none 4416)) (fun _ => [.o 1136]) none) (cs := [type_of% lv9, q false, type_of% lv10, q2, q false, q false, type_of% lv11, nat_lit 0 = nat_lit 0, ∀ (k : Nat), k < nat_lit 0 → ([] : List V) = [], false = true → false = true, q1, q2, q (9 : Int)]) (by kernel_rfl) Tryz.func86 (by kernel_rfl) ⟨lv9, rfl, lv10, rfl, rfl, rfl, lv11, rfl, (AllK.all (by repeat (first | exact trivial | refine ⟨?_, rfl⟩))), (fun h => by first | exact h | cases h), rfl, rfl, rfl, trivial⟩ (pinH_ok (by kernel_rfl)) (by kernel_rfl)
theorem lv13 : T Tryz.prog 88 [.ptr (.o 1216) 0 0 0 0, .ptr (.o 1728) 0 0 0 0] [(.o 1728, .flat [.int .i64 6, v0, v0, v0, v0, vF, .snil, v0, v0, v0, v0, .seg .u8 32 z32, v0, v0, v0, .snil, .snil, .seg .u8 32 z32, v0, v0, v0, v0, .seg .u8 32 z32, .snil, .str ByteArray.empty, .snil]), (.o 1136, .flat [.ros 1 4 (lst [[.int .u8 1], [.int .u8 2], [.int .u8 1], [.int .u8 9]]) false, v0, vT]), (.o 1216, .flat [.ptr (.o 1136) 0 0 0 0, vF])] (.tup []) [(.o 1728, .flat [.int .i64 6, .int .i64 2, v0, v0, .int .i64 9, vF, .snil, v0, v0, v0, v0, .seg .u8 32 z32, v0, v0, v0, .snil, .snil, .seg .u8 32 z32, v0, v0, v0, v0, .seg .u8 32 z32, .snil, .str ByteArray.empty, .snil]), (.o 1136, .flat [.ros 1 0 (lst []) false, v0, vT]), (.o 1216, .flat [.ptr (.o 1136) 0 0 0 0, vF])] :=
 T_along NG MO [] (b := .mk Tryz.f88 [.ptr (.o 1216) 0 0 0 0, .ptr (.o 1728) 0 0 0 0] [(.o 1728, .flat [.int .i64 6, v0, v0, v0, v0, vF, .snil, v0, v0, v0, v0, .seg .u8 32 z32, v0, v0, v0, .snil, .snil, .seg .u8 32 z32, v0, v0, v0, v0, .seg .u8 32 z32, .snil, .str ByteArray.empty, .snil]), (.o 1136, .flat [.ros 1 4 (lst [[.int .u8 1], [.int .u8 2], [.int .u8 1], [.int .u8 9]]) false, v0, vT]), (.o 1216, .flat [.ptr (.o 1136) 0 0 0 0, vF])] 2624 (kbT [(4032, .mk false [] [.o 1136] none (.int .i64 2) [(.o 1136, .flat [.ros 1 2 (lst [[.int .u8 1], [.int .u8 9]]) false, v0, vT])]), (4352, .mk false [] [.o 1136] none (.int .i64 9) [(.o 1136, .flat [.ros 1 0 (lst []) false, v0, vT])])]) (fun _ __1 => some (.mk [] [] [(.o 1728, .set (.flat [.int .i64 6, .int .i64 2, v0, v0, .int .i64 9, vF, .snil, v0, v0, v0, v0, .seg .u8 32 z32, v0, v0, v0, .snil, .snil, .seg .u8 32 z32, v0, v0, v0, v0, .seg .u8 32 z32, .snil, .str ByteArray.empty, .snil])), (.o 1136, .set (.flat [.ros 1 0 (lst []) false, v0, vT])), (.o 1216, .set (.flat [.ptr (.o 1136) 0 0 0 0, vF]))] none 2688)) (fun _ => [.o 1728, .o 1136, .o 1216]) none) (cs := [q false, q false, q false, q false, q false, q2, type_of% lv8, type_of% lv12, q (6 : Int), q (2 : Int), q1, q1, q (9 : Int), q false, q1, q1, q1, q1, q (32 : Nat), [(0 : Int), (0 : Int), (0 : Int), (0 : Int), (0 : Int), (0 : Int), (0 : Int), (0 : Int), (0 : Int), (0 : Int), (0 : Int), (0 : Int), (0 : Int), (0 : Int), (0 : Int), (0 : Int), (0 : Int), (0 : Int), (0 : Int), (0 : Int), (0 : Int), (0 : Int), (0 : Int), (0 : Int), (0 : Int), (0 : Int), (0 : Int), (0 : Int), (0 : Int), (0 : Int), (0 : Int), (0 : Int)] = [(0 : Int), (0 : Int), (0 : Int), (0 : Int), (0 : Int), (0 : Int), (0 : Int), (0 : Int), (0 : Int), (0 : Int), (0 : Int), (0 : Int), (0 : Int), (0 : Int), (0 : Int), (0 : Int), (0 : Int), (0 : Int), (0 : Int), (0 : Int), (0 : Int), (0 : Int), (0 : Int), (0 : Int), (0 : Int), (0 : Int), (0 : Int), (0 : Int), (0 : Int), (0 : Int), (0 : Int), (0 : Int)], q1, q1, q1, q (32 : Nat), [(0 : Int), (0 : Int), (0 : Int), (0 : Int), (0 : Int), (0 : Int), (0 : Int), (0 : Int), (0 : Int), (0 : Int), (0 : Int), (0 : Int), (0 : Int), (0 : Int), (0 : Int), (0 : Int), (0 : Int), (0 : Int), (0 : Int), (0 : Int), (0 : Int), (0 : Int), (0 : Int), (0 : Int), (0 : Int), (0 : Int), (0 : Int), (0 : Int), (0 : Int), (0 : Int), (0 : Int), (0 : Int)] = [(0 : Int), (0 : Int), (0 : Int), (0 : Int), (0 : Int), (0 : Int), (0 : Int), (0 : Int), (0 : Int), (0 : Int), (0 : Int), (0 : Int), (0 : Int), (0 : Int), (0 : Int), (0 : Int), (0 : Int), (0 : Int), (0 : Int), (0 : Int), (0 : Int), (0 : Int), (0 : Int), (0 : Int), (0 : Int), (0 : Int), (0 : Int), (0 : Int), (0 : Int), (0 : Int), (0 : Int), (0 : Int)], q1, q1, q1, q1, q (32 : Nat), [(0 : Int), (0 : Int), (0 : Int), (0 : Int), (0 : Int), (0 : Int), (0 : Int), (0 : Int), (0 : Int), (0 : Int), (0 : Int), (0 : Int), (0 : Int), (0 : Int), (0 : Int), (0 : Int), (0 : Int), (0 : Int), (0 : Int), (0 : Int), (0 : Int), (0 : Int), (0 : Int), (0 : Int), (0 : Int), (0 : Int), (0 : Int), (0 : Int), (0 : Int), (0 : Int), (0 : Int), (0 : Int)] = [(0 : Int), (0 : Int), (0 : Int), (0 : Int), (0 : Int), (0 : Int), (0 : Int), (0 : Int), (0 : Int), (0 : Int), (0 : Int), (0 : Int), (0 : Int), (0 : Int), (0 : Int), (0 : Int), (0 : Int), (0 : Int), (0 : Int), (0 : Int), (0 : Int), (0 : Int), (0 : Int), (0 : Int), (0 : Int), (0 : Int), (0 : Int), (0 : Int), (0 : Int), (0 : Int), (0 : Int), (0 : Int)], ByteArray.empty = ByteArray.empty, nat_lit 0 = nat_lit 0, ∀ (k : Nat), k < nat_lit 0 → ([] : List V) = [], false = true → false = true, q1, q2, q0, q0, q0, q false]) (by kernel_rfl) Tryz.func88 (by kernel_rfl) ⟨rfl, rfl, rfl, rfl, rfl, rfl, lv8, lv12, rfl, rfl, rfl, rfl, rfl, rfl, rfl, rfl, rfl, rfl, rfl, rfl, rfl, rfl, rfl, rfl, rfl, rfl, rfl, rfl, rfl, rfl, rfl, rfl, rfl, (AllK.all (by repeat (first | exact trivial | refine ⟨?_, rfl⟩))), (fun h => by first | exact h | cases h), rfl, rfl, rfl, rfl, rfl, rfl, trivial⟩ (pinH_ok (by kernel_rfl)) (by kernel_rfl)
theorem lv14 : T Tryz.prog 87 [.ptr (.o 1136) 0 0 0 0] [(.o 1136, .flat [.ros 1 0 (lst []) false, v0, vT])] (v0) [(.o 1136, .flat [.ros 1 0 (lst []) false, v0, vT])] :=
 T_along NG MO [] (b := .mk Tryz.f87 [.ptr (.o 1136) 0 0 0 0] [(.o 1136, .flat [.ros 1 0 (lst []) false, v0, vT])] 3072 (kbT []) (fun _ __1 => some (.mk [] [(2, .set (v0))] [(.o 1136, .set (.flat [.ros 1 0 (lst []) false, v0, vT]))] none 3136)) (fun _ => [.o 1136]) none) (cs := [q false, q false, nat_lit 0 = nat_lit 0, ∀ (k : Nat), k < nat_lit 0 → ([] : List V) = [], false = true → false = true, q1, q2, q1]) (by kernel_rfl) Tryz.func87 (by kernel_rfl) ⟨rfl, rfl, rfl, (AllK.all (by repeat (first | exact trivial | refine ⟨?_, rfl⟩))), (fun h => by first | exact h | cases h), rfl, rfl, rfl, trivial⟩ (pinH_ok (by kernel_rfl)) (by kernel_rfl)
theorem lv15 : T Tryz.prog 123 [.ptr (.o 1136) 0 0 0 0] [(.o 1136, .flat [.ros 1 0 (lst []) false, v0, vT])] (v0) [(.o 1136, .flat [.ros 1 0 (lst []) false, v0, vT])] :=
 T_along NG MO [] (b := .mk Tryz.f123 [.ptr (.o 1136) 0 0 0 0] [(.o 1136, .flat [.ros 1 0 (lst []) false, v0, vT])] 3520 (kbT []) (fun _ __1 => some (.mk [] [(2, .set (v0))] [(.o 1136, .set (.flat [.ros 1 0 (lst []) false, v0, vT]))] none 3584)) (fun _ => [.o 1136]) none) (cs := [nat_lit 0 = nat_lit 0, ∀ (k : Nat), k < nat_lit 0 → ([] : List V) = [], false = true → false = true, q1, q2, q1]) (by kernel_rfl) Tryz.func123 (by kernel_rfl) ⟨rfl, (AllK.all (by repeat (first | exact trivial | refine ⟨?_, rfl⟩))), (fun h => by first | exact h | cases h), rfl, rfl, rfl, trivial⟩ (pinH_ok (by kernel_rfl)) (by kernel_rfl)
theorem lv16 : T Tryz.prog 89 [.ptr (.o 1136) 0 0 0 0] [(.o 1136, .flat [.ros 1 0 (lst []) false, v0, vT])] (v0) [(.o 1136, .flat [.ros 1 0 (lst []) false, v0, vT])] :=
 T_along NG MO [] (b := .mk Tryz.f89 [.ptr (.o 1136) 0 0 0 0] [(.o 1136, .flat [.ros 1 0 (lst []) false, v0, vT])] 2944 (kbT [(3072, .mk false [] [.o 1136] none (v0) [(.o 1136, .flat [.ros 1 0 (lst []) false, v0, vT])]), (3520, .mk false [] [.o 1136] none (v0) [(.o 1136, .flat [.ros 1 0 (lst []) false, v0, vT])])]) (fun _ __1 => some (.mk [] [(2, .set (v0))] [(.o 1136, .set (.flat [.ros 1 0 (lst []) false, v0, vT]))] none 3008)) (fun _ => [.o 1136]) none) (cs := [type_of% lv14, q false, type_of% lv15, q false, nat_lit 0 = nat_lit 0, ∀ (k : Nat), k < nat_lit 0 → ([] : List V) = [], false = true → false = true, q1, q2, q1]) (by kernel_rfl) Tryz.func89 (by kernel_rfl) ⟨lv14, rfl, lv15, rfl, rfl, (AllK.all (by repeat (first | exact trivial | refine ⟨?_, rfl⟩))), (fun h => by first | exact h | cases h), rfl, rfl, rfl, trivial⟩ (pinH_ok (by kernel_rfl)) (by kernel_rfl)
theorem lvr : T Tryz.prog 85 [V.ros 1 6 (fun q => [V.int .u8 (byteAt (ByteArray.mk (Array.mk [1, 6, 1, 2, 1, 9])) q)]) false] [] (.ptr (.o 1136) 0 0 0 0) [(.o 1136, .flat [.ros 1 6 (lst [[.int .u8 1], [.int .u8 6], [.int .u8 1], [.int .u8 2], [.int .u8 1], [.int .u8 9]]) false, v0, vT])] :=
 T.args lv0 rfl ⟨rfl, AllK.all (by repeat (first | exact trivial | refine ⟨?_, rfl⟩)), fun h => h, trivial⟩
theorem lv17 : T Tryz.prog 28 [.str (ByteArray.mk (Array.mk [1, 6, 1, 2, 1, 9]))] [] (.tup [.agg [.int .i64 6, .int .i64 2, v0, v0, .int .i64 9, vF, .snil, v0, v0, v0, v0, .seg .u8 32 z32, v0, v0, v0, .snil, .snil, .seg .u8 32 z32, v0, v0, v0, v0, .seg .u8 32 z32, .snil, .str ByteArray.empty, .snil], v0]) [] :=
 T_along NG MO [] (b := .mk Tryz.f28 [.str (ByteArray.mk (Array.mk [1, 6, 1, 2, 1, 9]))] [] 640 (kbT [(1088, .mk false [] [] none (.ptr (.o 1136) 0 0 0 0) [(.o 1136, .flat [.ros 1 6 (lst [[.int .u8 1], [.int .u8 6], [.int .u8 1], [.int .u8 2], [.int .u8 1], [.int .u8 9]]) false, v0, vT])]), (1600, .mk false [] [.o 1136] none (.int .i64 6) [(.o 1136, .flat [.ros 1 4 (lst [[.int .u8 1], [.int .u8 2], [.int .u8 1], [.int .u8 9]]) false, v0, vT])]), (2624, .mk false [] [.o 1728, .o 1136, .o 1216] none (.tup []) [(.o 1728, .flat [.int .i64 6, .int .i64 2, v0, v0, .int .i64 9, vF, .snil, v0, v0, v0, v0, .seg .u8 32 z32, v0, v0, v0, .snil, .snil, .seg .u8 32 z32, v0, v0, v0, v0, .seg .u8 32 z32, .snil, .str ByteArray.empty, .snil]), (.o 1136, .flat [.ros 1 0 (lst []) false, v0, vT]), (.o 1216, .flat [.ptr (.o 1136) 0 0 0 0, vF])]), (2944, .mk false [] [.o 1136] none (v0) [(.o 1136, .flat [.ros 1 0 (lst []) false, v0, vT])])]) (fun _ __1 => none) (fun _ => []) none) (cs := [q false, type_of% lvr, type_of% lv4, q false, q false, type_of% lv13, type_of% lv16, q false, q false]) (by kernel_rfl) Tryz.func28 (by kernel_rfl) ⟨rfl, lvr, lv4, rfl, rfl, lv13, lv16, rfl, rfl, trivial⟩ (pinH_ok (by kernel_rfl)) (by kernel_rfl)
theorem T_lvDec : type_of% lv17 := lv17
end Go.Proofs.YthifjamdfpjilaaGreat
namespace Go.Proofs.YthifjamdfpjilaaGreat
open Go Sy Go.Proofs
noncomputable def bdMe (m o : SMsg) (l1 l2 : Bool) (t : ByteArray) (e : Int) (g s : Bool) : Bd := { f := Tryz.f3, args := [.agg m.c, .agg o.c], kb := { db := fun k a h lo => match dbQ [(7, cVal (.bool true)), (8, cVal (.tup [.str t, .int .i64 e])), (9, cVal (.tup [.str t, .int .i64 e])), (10, cVal (.bool g)), (11, cVal (.bool g)), (13, cVal (.bool s))] k a h lo with
 | [] => dbSeqF 0 [(6, 4, cVal (.bool l1)), (6, 8, cVal (.bool l2)), (12, 43, cVal (.bool s)), (12, 52, cVal (.bool true))] k a h lo
 | r => r } }
noncomputable def bdLv : Bd := { f := Tryz.f7, args := [], kb := kbT [(128, { val := .tup [.str (ByteArray.mk (Array.mk [1, 6, 1, 2, 1, 9])), .int .i64 0] }), (576, { val := .tup [.agg [.int .i64 6, .int .i64 2, v0, v0, .int .i64 9, vF, .snil, v0, v0, v0, v0, .seg .u8 32 z32, v0, v0, v0, .snil, .snil, .seg .u8 32 z32, v0, v0, v0, v0, .seg .u8 32 z32, .snil, .str ByteArray.empty, .snil], v0] })] }
/-- A vote, as a message; a mark. -/
def vm (v : SVote) : SMsg := { msg0 2 with vote := v }
def mm (e : Int) (d : List Int) : SMsg := { msg0 5 with epoch := e, digest := d }
noncomputable def bdVt (v : SVote) (t : ByteArray) : Bd := { f := Tryz.f14, args := [.agg v.c], kb := { db := dbQ [(72, cVal (.str t))] } }
noncomputable def bdVtR (v : SVote) (t : ByteArray) (e : Int) : Bd := { f := Tryz.f15, args := [.agg v.c], kb := { db := dbQ [(9, cVal (.tup [.str t, .int .i64 e]))] } }
noncomputable def bdMk (n : Int) (d : List Int) (t : ByteArray) : Bd := { f := Tryz.f16, args := [.int .i64 n, .agg [.seg .u8 32 d]], kb := { db := dbQ [(72, cVal (.str t))] } }
noncomputable def bdMkR (n : Int) (d : List Int) (t : ByteArray) (e : Int) : Bd := { f := Tryz.f17, args := [.int .i64 n, .agg [.seg .u8 32 d]], kb := { db := dbQ [(9, cVal (.tup [.str t, .int .i64 e]))] } }
noncomputable def bdBdy (m : SMsg) (t : ByteArray) (e : Int) : Bd := { f := Tryz.f72, args := [.agg m.c], kb := { db := dbQ [(8, cVal (.tup [.str t, .int .i64 e]))] } }
noncomputable def bdMv (v w : SVote) (a b c : ByteArray) : Bd := { f := Tryz.f4, args := [.agg v.c, .agg w.c], kb := { db := fun k a' h lo => match dbQ [(7, cVal (.bool true)), (16, cVal (.str c)), (17, cVal (.str c))] k a' h lo with
 | [] => dbSeqF 0 [(14, 4, cVal (.str a)), (14, 6, cVal (.str b)), (15, 11, cVal (.str a)), (15, 16, cVal (.str b))] k a' h lo
 | r => r } }
end Go.Proofs.YthifjamdfpjilaaGreat
namespace Go.Proofs.YthifjamdfpjilaaGreat
open Go Sy Go.Proofs
theorem bdMe_p11 (m : SMsg) (o : SMsg) (l1 : Bool) (l2 : Bool) (t : ByteArray) (e : Int) (g : Bool) (s : Bool) :
  along Tryz.prog (bdMe m o l1 l2 t e g s) [true, true] = (some (.bool true, [], [T Tryz.prog 6 [.agg (SMsg.c m)] [] (.bool l1) [], (!l1) = true, q2, T Tryz.prog 7 [] [] (.bool true) []]) : Option (V × Heap × List Prop)) := by kernel_rfl

theorem bdMe_p01 (m : SMsg) (o : SMsg) (l1 : Bool) (l2 : Bool) (t : ByteArray) (e : Int) (g : Bool) (s : Bool) :
  along Tryz.prog (bdMe m o l1 l2 t e g s) [false, true] = (some (.bool true, [], [T Tryz.prog 6 [.agg (SMsg.c m)] [] (.bool l1) [], (!l1) = false, T Tryz.prog 6 [.agg (SMsg.c o)] [] (.bool l2) [], (!l2) = true, T Tryz.prog 7 [] [] (.bool true) []]) : Option (V × Heap × List Prop)) := by kernel_rfl

theorem bdMe_p0011111 (m : SMsg) (o : SMsg) (l1 : Bool) (l2 : Bool) (t : ByteArray) (e : Int) (g : Bool) (s : Bool) :
  along Tryz.prog (bdMe m o l1 l2 t e g s) [false, false, true, true, true, true, true] = (some (.bool true, [], [T Tryz.prog 6 [.agg (SMsg.c m)] [] (.bool l1) [], (!l1) = false, T Tryz.prog 6 [.agg (SMsg.c o)] [] (.bool l2) [], (!l2) = false, T Tryz.prog 8 [.agg (SMsg.c m)] [] (.tup [.str t, .int .i64 e]) [], T Tryz.prog 9 [.agg (SMsg.c m)] [] (.tup [.str t, .int .i64 e]) [], decide (t = t) = true, decide (e = e) = true, T Tryz.prog 10 [.agg (SMsg.c m)] [] (.bool g) [], T Tryz.prog 11 [.agg (SMsg.c m)] [] (.bool g) [], (g == g) = true, T Tryz.prog 12 [.agg (SMsg.c m), .agg (SMsg.c o)] [] (.bool s) [], T Tryz.prog 13 [.agg (SMsg.c m), .agg (SMsg.c o)] [] (.bool s) [], (s == s) = true, T Tryz.prog 12 [.agg (SMsg.c m), .agg (SMsg.c m)] [] (.bool true) [], q2, T Tryz.prog 7 [] [] (.bool true) []]) : Option (V × Heap × List Prop)) := by kernel_rfl

theorem bdLv_p :
  along Tryz.prog (bdLv) [] = (some (.bool true, [], [T Tryz.prog 8 [.agg [.int .i64 6, .int .i64 2, .int .i64 0, .int .i64 0, .int .i64 9, .bool false, .snil, .int .i64 0, .int .i64 0, .int .i64 0, .int .i64 0, .seg .u8 32 z32, .int .i64 0, .int .i64 0, .int .i64 0, .snil, .snil, .seg .u8 32 z32, .int .i64 0, .int .i64 0, .int .i64 0, .int .i64 0, .seg .u8 32 z32, .snil, .str ByteArray.empty, .snil]] [] (.tup [.str (ByteArray.mk (Array.mk [(1 : UInt8), (6 : UInt8), (1 : UInt8), (2 : UInt8), (1 : UInt8), (9 : UInt8)])), .int .i64 0]) [], T Tryz.prog 28 [.str (ByteArray.mk (Array.mk [(1 : UInt8), (6 : UInt8), (1 : UInt8), (2 : UInt8), (1 : UInt8), (9 : UInt8)]))] [] (.tup [.agg [.int .i64 6, .int .i64 2, .int .i64 0, .int .i64 0, .int .i64 9, .bool false, .snil, .int .i64 0, .int .i64 0, .int .i64 0, .int .i64 0, .seg .u8 32 z32, .int .i64 0, .int .i64 0, .int .i64 0, .snil, .snil, .seg .u8 32 z32, .int .i64 0, .int .i64 0, .int .i64 0, .int .i64 0, .seg .u8 32 z32, .snil, .str ByteArray.empty, .snil], .int .i64 0]) [], q2, q2, q2]) : Option (V × Heap × List Prop)) := by kernel_rfl

theorem bdVt_p (v : SVote) (t : ByteArray) :
  along Tryz.prog (bdVt v t) [] = (some (.str t, [], [T Tryz.prog 72 [.agg [.int .i64 2, .int .i64 0, .int .i64 0, .int .i64 0, .int .i64 0, .bool false, .snil, .int .i64 (SVote.kind v), .int .i64 (SVote.epoch v), .int .i64 (SVote.view v), .int .i64 (SVote.slot v), .seg .u8 32 (SVote.digest v), .int .i64 0, .int .i64 0, .int .i64 0, .snil, .snil, .seg .u8 32 z32, .int .i64 0, .int .i64 0, .int .i64 0, .int .i64 0, .seg .u8 32 z32, .snil, .str ByteArray.empty, .snil]] [] (.str t) []]) : Option (V × Heap × List Prop)) := by kernel_rfl

theorem bdVtR_p (v : SVote) (t : ByteArray) (e : Int) :
  along Tryz.prog (bdVtR v t e) [] = (some (.str t, [], [T Tryz.prog 9 [.agg [.int .i64 2, .int .i64 0, .int .i64 0, .int .i64 0, .int .i64 0, .bool false, .snil, .int .i64 (SVote.kind v), .int .i64 (SVote.epoch v), .int .i64 (SVote.view v), .int .i64 (SVote.slot v), .seg .u8 32 (SVote.digest v), .int .i64 0, .int .i64 0, .int .i64 0, .snil, .snil, .seg .u8 32 z32, .int .i64 0, .int .i64 0, .int .i64 0, .int .i64 0, .seg .u8 32 z32, .snil, .str ByteArray.empty, .snil]] [] (.tup [.str t, .int .i64 e]) []]) : Option (V × Heap × List Prop)) := by kernel_rfl

theorem bdMk_p (n : Int) (d : List Int) (t : ByteArray) :
  along Tryz.prog (bdMk n d t) [] = (some (.str t, [], [T Tryz.prog 72 [.agg [.int .i64 5, .int .i64 n, .int .i64 0, .int .i64 0, .int .i64 0, .bool false, .snil, .int .i64 0, .int .i64 0, .int .i64 0, .int .i64 0, .seg .u8 32 z32, .int .i64 0, .int .i64 0, .int .i64 0, .snil, .snil, .seg .u8 32 d, .int .i64 0, .int .i64 0, .int .i64 0, .int .i64 0, .seg .u8 32 z32, .snil, .str ByteArray.empty, .snil]] [] (.str t) []]) : Option (V × Heap × List Prop)) := by kernel_rfl

theorem bdMkR_p (n : Int) (d : List Int) (t : ByteArray) (e : Int) :
  along Tryz.prog (bdMkR n d t e) [] = (some (.str t, [], [T Tryz.prog 9 [.agg [.int .i64 5, .int .i64 n, .int .i64 0, .int .i64 0, .int .i64 0, .bool false, .snil, .int .i64 0, .int .i64 0, .int .i64 0, .int .i64 0, .seg .u8 32 z32, .int .i64 0, .int .i64 0, .int .i64 0, .snil, .snil, .seg .u8 32 d, .int .i64 0, .int .i64 0, .int .i64 0, .int .i64 0, .seg .u8 32 z32, .snil, .str ByteArray.empty, .snil]] [] (.tup [.str t, .int .i64 e]) []]) : Option (V × Heap × List Prop)) := by kernel_rfl

theorem bdBdy_p (m : SMsg) (t : ByteArray) (e : Int) :
  along Tryz.prog (bdBdy m t e) [] = (some (.str t, [], [T Tryz.prog 8 [.agg (SMsg.c m)] [] (.tup [.str t, .int .i64 e]) []]) : Option (V × Heap × List Prop)) := by kernel_rfl

noncomputable def bdMv_c (v : SVote) (w : SVote) (a : ByteArray) (b : ByteArray) (c : ByteArray) : Nat → List Prop
 | 0 => [T Tryz.prog 14 [.agg [.int .i64 (SVote.kind v), .int .i64 (SVote.epoch v), .int .i64 (SVote.view v), .int .i64 (SVote.slot v), .seg .u8 32 (SVote.digest v)]] [] (.str a) [], T Tryz.prog 14 [.agg [.int .i64 (SVote.kind w), .int .i64 (SVote.epoch w), .int .i64 (SVote.view w), .int .i64 (SVote.slot w), .seg .u8 32 (SVote.digest w)]] [] (.str b) [], T Tryz.prog 15 [.agg [.int .i64 (SVote.kind v), .int .i64 (SVote.epoch v), .int .i64 (SVote.view v), .int .i64 (SVote.slot v), .seg .u8 32 (SVote.digest v)]] [] (.str a) [], (!decide (a = a)) = false, T Tryz.prog 15 [.agg [.int .i64 (SVote.kind w), .int .i64 (SVote.epoch w), .int .i64 (SVote.view w), .int .i64 (SVote.slot w), .seg .u8 32 (SVote.digest w)]] [] (.str b) [], (!decide (b = b)) = false, T Tryz.prog 16 [.int .i64 (SVote.epoch v), .agg [.seg .u8 32 (SVote.digest v)]] [] (.str c) [], T Tryz.prog 17 [.int .i64 (SVote.epoch v), .agg [.seg .u8 32 (SVote.digest v)]] [] (.str c) [], (!decide (c = c)) = false]
 | _ => []
theorem bdMv_p000111 (v : SVote) (w : SVote) (a : ByteArray) (b : ByteArray) (c : ByteArray) :
 along Tryz.prog (bdMv v w a b c) [false, false, false, true, true, true] = (some (.bool true, [], bdMv_c v w a b c 0 ++ [decide (a = ByteArray.mk (Array.mk [])) = true, q2, q2, T Tryz.prog 7 [] [] (.bool true) []]) : Option (V × Heap × List Prop)) := by kernel_rfl

theorem bdMv_p000011 (v : SVote) (w : SVote) (a : ByteArray) (b : ByteArray) (c : ByteArray) :
 along Tryz.prog (bdMv v w a b c) [false, false, false, false, true, true] = (some (.bool true, [], bdMv_c v w a b c 0 ++ [decide (a = ByteArray.mk (Array.mk [])) = false, decide (b = ByteArray.mk (Array.mk [])) = true, q2, T Tryz.prog 7 [] [] (.bool true) []]) : Option (V × Heap × List Prop)) := by kernel_rfl

theorem bdMv_p000001 (v : SVote) (w : SVote) (a : ByteArray) (b : ByteArray) (c : ByteArray) :
 along Tryz.prog (bdMv v w a b c) [false, false, false, false, false, true] = (some (.bool true, [], bdMv_c v w a b c 0 ++ [decide (a = ByteArray.mk (Array.mk [])) = false, decide (b = ByteArray.mk (Array.mk [])) = false, (decide (a = b) == (decide (SVote.kind v = SVote.kind w) && (decide (SVote.epoch v = SVote.epoch w) && (decide (SVote.view v = SVote.view w) && (decide (SVote.slot v = SVote.slot w) && (decide (SVote.digest v = SVote.digest w) && true)))))) = true, T Tryz.prog 7 [] [] (.bool true) []]) : Option (V × Heap × List Prop)) := by kernel_rfl

theorem fitM_light {m : SMsg} (h : lightMS m = true) : FitM m := by
 simp only [lightMS, Bool.and_eq_true, decide_eq_true_eq] at h
 obtain ⟨h1, h2, h3, h4, h5, h6, h7, h8⟩ := h
 refine ⟨by have := lightB_n h1; omega, by omega, fun k hk => ?_, by omega, by omega, by omega⟩
 have := okHd1 (h7 k hk)
 have hb := lightB_n this.1
 omega
theorem fitM_vm (v : SVote) : FitM (vm v) := ⟨Nat.zero_le _, Nat.zero_le _, noK, Nat.zero_le _, Nat.zero_le _, Nat.zero_le _⟩
theorem fitM_mm (e : Int) (d : List Int) : FitM (mm e d) := ⟨Nat.zero_le _, Nat.zero_le _, noK, Nat.zero_le _, Nat.zero_le _, Nat.zero_le _⟩
theorem segM_vm {v : SVote} (h : SegOk 32 v.digest) : segMsg (vm v) := ⟨noK, h, noK, noK, seg32, ⟨seg32, noK⟩, noK⟩
theorem segM_mm (e : Int) {d : List Int} (h : SegOk 32 d) : segMsg (mm e d) := ⟨noK, seg32, noK, noK, h, ⟨seg32, noK⟩, noK⟩
def livM : SMsg := { msg0 6 with epoch := 2, slot := 9 }
theorem T_lives : T Tryz.prog 7 [] [] (.bool true) [] := by
 have hg : goodS livM = true := by kernel_rfl
 have ht : segMsg livM := ⟨noK, seg32, noK, noK, seg32, ⟨seg32, noK⟩, noK⟩
 have h := T_encG (m := livM) ⟨Nat.zero_le _, Nat.zero_le _, noK, Nat.zero_le _, Nat.zero_le _, Nat.zero_le _⟩ ht
 have e1 : encE livM = 0 := by kernel_rfl
 have e2 : encT livM = ByteArray.mk (Array.mk [1, 6, 1, 2, 1, 9]) := by kernel_rfl
 rw [e1, e2] at h
 refine T_al bdLv_p Tryz.func7 ?_
 simp only [All, All_append, bdMv_c]; and_intros
 all_goals first
  | exact T_lvDec
  | (refine T.args h rfl ?_; simp [All, All_append, bdMv_c, livM, msg0, vote0]; done)
  | rfl
  | trivial
theorem T_body {m : SMsg} (hf : FitM m) (ht : segMsg m) : T Tryz.prog 72 [.agg m.c] [] (.str (encT m)) [] :=
 T_al (bdBdy_p m (encT m) (encE m)) Tryz.func72 ⟨T_encG hf ht, trivial⟩
theorem T_vt {v : SVote} (h : SegOk 32 v.digest) : T Tryz.prog 14 [.agg v.c] [] (.str (encT (vm v))) [] := by
 refine T_al (bdVt_p v (encT (vm v))) Tryz.func14 ?_
 refine ⟨T.args (T_body (fitM_vm v) (segM_vm h)) rfl ?_, trivial⟩
 simp [All, All_append, bdMv_c, vm, msg0, vote0]
theorem T_vtR {v : SVote} (h : SegOk 32 v.digest) : T Tryz.prog 15 [.agg v.c] [] (.str (encT (vm v))) [] := by
 refine T_al (bdVtR_p v (encT (vm v)) (encE (vm v))) Tryz.func15 ?_
 refine ⟨T.args (T_reG (fitM_vm v) (segM_vm h)) rfl ?_, trivial⟩
 simp [All, All_append, bdMv_c, vm, msg0, vote0]
theorem T_mk {n : Int} {d : List Int} (h : SegOk 32 d) : T Tryz.prog 16 [.int .i64 n, .agg [.seg .u8 32 d]] [] (.str (encT (mm n d))) [] := by
 refine T_al (bdMk_p n d (encT (mm n d))) Tryz.func16 ?_
 refine ⟨T.args (T_body (fitM_mm n d) (segM_mm n h)) rfl ?_, trivial⟩
 simp [All, All_append, bdMv_c, mm, msg0, vote0]
theorem T_mkR {n : Int} {d : List Int} (h : SegOk 32 d) : T Tryz.prog 17 [.int .i64 n, .agg [.seg .u8 32 d]] [] (.str (encT (mm n d))) [] := by
 refine T_al (bdMkR_p n d (encT (mm n d)) (encE (mm n d))) Tryz.func17 ?_
 refine ⟨T.args (T_reG (fitM_mm n d) (segM_mm n h)) rfl ?_, trivial⟩
 simp [All, All_append, bdMv_c, mm, msg0, vote0]
/-! ### Unlike votes, unlike bytes -/
theorem voteEq_iff {a b : SVote} : voteEq a b = true ↔ a = b := by
 constructor
 ·intro h
  simp only [voteEq, Bool.and_true, Bool.and_eq_true, decide_eq_true_eq] at h
  cases a; cases b; simp_all
 ·rintro rfl; simp [voteEq]
theorem digs_inj : ∀ f n m, n < 256 ^ f → m < 256 ^ f → digs f n = digs f m → n = m
 | 0, n, m, hn, hm, _ => by simp at hn hm; omega
 | f + 1, n, m, hn, hm, h => by
  rw [digs, digs] at h
  rw [Nat.pow_succ] at hn hm
  by_cases h0 : n = 0
  ·by_cases h1 : m = 0
   ·omega
   ·rw [if_pos h0, if_neg h1] at h
    exact absurd h.symm (by simp)
  ·by_cases h1 : m = 0
   ·rw [if_neg h0, if_pos h1] at h
    exact absurd h (by simp)
   ·rw [if_neg h0, if_neg h1] at h
    obtain ⟨h2, h3⟩ := List.append_inj' h rfl
    have e1 := digs_inj f (n / 256) (m / 256) (by omega) (by omega) h2
    have e2 := congrArg UInt8.toNat (List.cons.inj h3).1
    simp only [UInt8.toNat_ofNat'] at e2
    omega
theorem putN_inj {n m : Nat} {s t : List UInt8} (hn : n < 9223372036854775808) (hm : m < 9223372036854775808) (h : putN n ++ s = putN m ++ t) : n = m ∧ s = t := by
 rw [putN, putN, List.cons_append, List.cons_append] at h
 obtain ⟨h1, h2⟩ := List.cons.inj h
 have l1 := (digs_len 8 n (digs8 hn)).1
 have l2 := (digs_len 8 m (digs8 hm)).1
 have e := congrArg UInt8.toNat h1
 simp only [UInt8.toNat_ofNat'] at e
 obtain ⟨h3, h4⟩ := List.append_inj h2 (by omega)
 exact ⟨digs_inj 8 n m (digs8 hn) (digs8 hm) h3, h4⟩
theorem putZ_inj {n m : Int} {s t : List UInt8} (hn : num63 n) (hm : num63 m) (h : putZ n ++ s = putZ m ++ t) : n = m ∧ s = t := by
 have h1 := hn.1; have h2 := hn.2; have h3 := hm.1; have h4 := hm.2
 obtain ⟨h5, h6⟩ := putN_inj (by omega) (by omega) h
 exact ⟨by omega, h6⟩
theorem segB_inj {n : Nat} {xs ys : List Int} (hx : SegOk n xs) (hy : SegOk n ys) (h : segB xs = segB ys) : xs = ys := by
 have : ∀ (xs ys : List Int), (∀ x ∈ xs, 0 ≤ x ∧ x ≤ 255) → (∀ x ∈ ys, 0 ≤ x ∧ x ≤ 255) → segB xs = segB ys → xs = ys := by
  intro xs
  induction xs with
  | nil => intro ys _ _ h; cases ys with
   | nil => rfl
   | cons y ys => cases h
  | cons x xs ih =>
   intro ys h1 h2 h
   cases ys with
   | nil => cases h
   | cons y ys =>
    simp only [segB, List.map_cons] at h
    obtain ⟨h3, h4⟩ := List.cons.inj h
    have e := congrArg UInt8.toNat h3
    simp only [UInt8.toNat_ofNat'] at e
    have a := h1 x (List.mem_cons_self ..); have b := h2 y (List.mem_cons_self ..)
    rw [ih ys (fun z hz => h1 z (List.mem_cons_of_mem _ hz)) (fun z hz => h2 z (List.mem_cons_of_mem _ hz)) h4, show x = y by omega]
 exact this xs ys hx.rng hy.rng h
theorem vote_inj {v w : SVote} (hv : VoteOk v) (hw : VoteOk w) (h : encB (vm v) = encB (vm w)) : v = w := by
 have e : ∀ v : SVote, encB (vm v) = putZ 2 ++ (putZ v.kind ++ (putZ v.epoch ++ (putZ v.view ++ (putZ v.slot ++ segB v.digest)))) := fun v => by
  simp [encB, vm, msg0, bodyB, voteB, numsB]
 rw [e, e] at h
 obtain ⟨_, h⟩ := putZ_inj (by exact ⟨by decide, by decide⟩) (by exact ⟨by decide, by decide⟩) h
 obtain ⟨h1, h⟩ := putZ_inj hv.kind hw.kind h
 obtain ⟨h2, h⟩ := putZ_inj hv.epoch hw.epoch h
 obtain ⟨h3, h⟩ := putZ_inj hv.view hw.view h
 obtain ⟨h4, h⟩ := putZ_inj hv.slot hw.slot h
 have h5 := segB_inj hv.digest hw.digest h
 cases v; cases w; simp_all
theorem encT_ne {m : SMsg} (h : encT m ≠ ByteArray.mk (Array.mk [])) : goodS m = true ∧ encT m = baL (encB m) := by
 unfold encT at h ⊢
 split
 ·rename_i h0
  refine ⟨?_, rfl⟩
  unfold encE at h0
  split at h0
  ·assumption
  ·cases h0
 ·rename_i h0
  rw [if_neg h0] at h; exact absurd rfl h
theorem good_vm {v : SVote} (h : goodS (vm v) = true) : mayVoteS v = true := by
 simp only [goodS, Bool.and_eq_true, decide_eq_true_eq, Bool.or_eq_true, Bool.not_eq_true', decide_eq_false_iff_not] at h
 exact h.2.2.2.1.resolve_left (fun g => g rfl)
theorem vt_eq {v w : SVote} (hv : SegOk 32 v.digest) (hw : SegOk 32 w.digest) (h1 : encT (vm v) ≠ ByteArray.mk (Array.mk [])) (h2 : encT (vm w) ≠ ByteArray.mk (Array.mk [])) : (decide (encT (vm v) = encT (vm w)) == voteEq v w) = true := by
 have key : encT (vm v) = encT (vm w) ↔ v = w := by
  constructor
  ·intro h
   obtain ⟨a1, a2⟩ := encT_ne h1
   obtain ⟨b1, b2⟩ := encT_ne h2
   rw [a2, b2] at h
   exact vote_inj (voteOk_of (good_vm a1) hv) (voteOk_of (good_vm b1) hw) (congrArg strB h)
  ·rintro rfl; rfl
 by_cases h : v = w
 ·subst h; simp [voteEq]
 ·have e1 : voteEq v w = false := Bool.eq_false_iff.mpr fun g => h (voteEq_iff.1 g)
  rw [e1, decide_eq_false fun g => h (key.1 g)]; rfl
/-! ### The laws -/
theorem sameMsg_rfl (m : SMsg) : sameMsgS m m = true := by simp [sameMsgS, sameChangeS, sameL, voteEq, sameBatchS, sameCertS, sameHeldS, reqEq, signEq, envEq]
theorem T_encodes {m o : SMsg} (hm : FitMsg m) (ho : FitMsg o) (tm : segMsg m) : T Tryz.prog 3 [.agg m.c, .agg o.c] [] (.bool true) [] := by
 have hL := T_lightM m hm
 have hO := T_lightM o ho
 have hlv := T_lives
 cases h0 : lightMS m with
 | false =>
  rw [h0] at hL
  refine T_al (bdMe_p11 m o false false (encT m) 0 false false) Tryz.func3 ?_
  exact ⟨hL, rfl, rfl, hlv, trivial⟩
 | true =>
  rw [h0] at hL
  cases h1 : lightMS o with
  | false =>
   rw [h1] at hO
   refine T_al (bdMe_p01 m o true false (encT m) 0 false false) Tryz.func3 ?_
   exact ⟨hL, rfl, hO, rfl, hlv, trivial⟩
  | true =>
   rw [h1] at hO
   have hF := fitM_light h0
   have hS := T_mS m m hF
   rw [sameMsg_rfl] at hS
   refine T_al (bdMe_p0011111 m o true true (encT m) (encE m) (goodS m) (sameMsgS m o)) Tryz.func3 ?_
   simp only [All, All_append, bdMv_c]; and_intros
   all_goals first
    | exact hL
    | exact hO
    | exact T_encG hF tm
    | exact T_reG hF tm
    | exact T_good hF
    | exact T_gd hF
    | exact T_mS m o hF
    | exact T_rm m o hF
    | exact hS
    | exact hlv
    | rfl
    | (simp; done)
    | trivial
theorem T_votes {v w : SVote} (hv : SegOk 32 v.digest) (hw : SegOk 32 w.digest) : T Tryz.prog 4 [.agg v.c, .agg w.c] [] (.bool true) [] := by
 by_cases h1 : encT (vm v) = ByteArray.mk (Array.mk [])
 ·refine T_al (bdMv_p000111 v w (encT (vm v)) (encT (vm w)) (encT (mm v.epoch v.digest))) Tryz.func4 ?_
  exact ⟨T_vt hv, T_vt hw, T_vtR hv, by simp, T_vtR hw, by simp, T_mk hv, T_mkR hv, by simp, decide_eq_true h1, rfl, rfl, T_lives, trivial⟩
 by_cases h2 : encT (vm w) = ByteArray.mk (Array.mk [])
 ·refine T_al (bdMv_p000011 v w (encT (vm v)) (encT (vm w)) (encT (mm v.epoch v.digest))) Tryz.func4 ?_
  exact ⟨T_vt hv, T_vt hw, T_vtR hv, by simp, T_vtR hw, by simp, T_mk hv, T_mkR hv, by simp, decide_eq_false h1, decide_eq_true h2, rfl, T_lives, trivial⟩
 refine T_al (bdMv_p000001 v w (encT (vm v)) (encT (vm w)) (encT (mm v.epoch v.digest))) Tryz.func4 ?_
 exact ⟨T_vt hv, T_vt hw, T_vtR hv, by simp, T_vtR hw, by simp, T_mk hv, T_mkR hv, by simp, decide_eq_false h1, decide_eq_false h2, vt_eq hv hw h1 h2, T_lives, trivial⟩
end Go.Proofs.YthifjamdfpjilaaGreat
namespace Go.Proofs.YthifjamdfpjilaaGreat
open Go Sy Go.Proofs
theorem cellsSign : Tryz.prog.cellsOf 84 = 17 := by kernel_rfl
theorem cellsReq : Tryz.prog.cellsOf 121 = 19 := by kernel_rfl
theorem cellsHeld : Tryz.prog.cellsOf 61 = 39 := by kernel_rfl
theorem cellsEnv : Tryz.prog.cellsOf 65 = 18 := by kernel_rfl
theorem seg_of {n : Nat} {xs : List Int} (h : xs.length = n) (h2 : ∀ x ∈ xs, InR .u8 x) : SegOk n xs := ⟨h, fun x hx => InR8.1 (h2 x hx)⟩
theorem sg_sign {d : Nat} {cs : List V} (h : ShC Tryz.prog d 84 cs) : ∃ s : SSign, cs = s.c ∧ SegOk 16 s.tag := by
 obtain ⟨d, a, _, rfl, ha, b, _, rfl, hb, rfl⟩ := sh_struct h Tryz.underlying84
 obtain ⟨n, rfl, _⟩ := sh_int ha Tryz.underlying3
 obtain ⟨xs, rfl, h1, h2⟩ := sh_arr hb Tryz.underlying63 Tryz.underlying5
 exact ⟨⟨n, xs⟩, rfl, seg_of h1 h2⟩
theorem sg_req {d : Nat} {cs : List V} (h : ShC Tryz.prog d 121 cs) : ∃ s : SReq, cs = s.c ∧ s.data.size ≤ 9223372036854775807 ∧ SegOk 16 s.tag := by
 obtain ⟨d, a, _, rfl, ha, b, _, rfl, hb, c, _, rfl, hc, e, _, rfl, he, rfl⟩ := sh_struct h Tryz.underlying121
 obtain ⟨n, rfl, _⟩ := sh_int ha Tryz.underlying3
 obtain ⟨m, rfl, _⟩ := sh_int hb Tryz.underlying3
 obtain ⟨s, rfl, hs⟩ := sh_str hc Tryz.underlying9
 obtain ⟨xs, rfl, h1, h2⟩ := sh_arr he Tryz.underlying63 Tryz.underlying5
 exact ⟨⟨n, m, s, xs⟩, rfl, hs, seg_of h1 h2⟩
theorem sg_env {d : Nat} {cs : List V} (h : ShC Tryz.prog d 65 cs) : ∃ s : SEnv, cs = s.c ∧ s.body.size ≤ 9223372036854775807 ∧ SegOk 16 s.tag := by
 obtain ⟨d, a, _, rfl, ha, c, _, rfl, hc, e, _, rfl, he, rfl⟩ := sh_struct h Tryz.underlying65
 obtain ⟨n, rfl, _⟩ := sh_int ha Tryz.underlying3
 obtain ⟨s, rfl, hs⟩ := sh_str hc Tryz.underlying9
 obtain ⟨xs, rfl, h1, h2⟩ := sh_arr he Tryz.underlying63 Tryz.underlying5
 exact ⟨⟨n, s, xs⟩, rfl, hs, seg_of h1 h2⟩
theorem sg_dig {d : Nat} {cs : List V} (h : ShC Tryz.prog d 26 cs) : ∃ xs : List Int, cs = [.seg .u8 32 xs] ∧ SegOk 32 xs := by
 obtain ⟨xs, rfl, h1, h2⟩ := sh_arr h Tryz.underlying26 Tryz.underlying5
 exact ⟨xs, rfl, seg_of h1 h2⟩
theorem sg_vote {d : Nat} {cs : List V} (h : ShC Tryz.prog d 28 cs) : ∃ s : SVote, cs = s.c ∧ SegOk 32 s.digest := by
 obtain ⟨d, a, _, rfl, ha, b, _, rfl, hb, c, _, rfl, hc, e, _, rfl, he, f, _, rfl, hf, rfl⟩ := sh_struct h Tryz.underlying28
 obtain ⟨n, rfl, _⟩ := sh_int ha Tryz.underlying3
 obtain ⟨m, rfl, _⟩ := sh_int hb Tryz.underlying3
 obtain ⟨o, rfl, _⟩ := sh_int hc Tryz.underlying3
 obtain ⟨p, rfl, _⟩ := sh_int he Tryz.underlying3
 obtain ⟨xs, rfl, h1⟩ := sg_dig hf
 exact ⟨⟨n, m, o, p, xs⟩, rfl, h1⟩
theorem sg_signs (U : Imm) {d : Nat} {cs : List V} (h : ShC Tryz.prog d 33 cs) : ∃ n s, CsLe U cs [sg n s] ∧ n ≤ 9223372036854775807 ∧ ∀ i, i < n → SegOk 16 (s i).tag := by
 obtain ⟨d, len, f, rfl, hl, hf⟩ := sh_slice h Tryz.underlying33
 obtain ⟨s, hs⟩ := choose_fn fun i hi => sg_sign (hf i hi)
 refine ⟨len, s, ?_, hl, fun i hi => (hs i hi).2⟩
 rw [cellsSign]
 exact CsLe.ros fun i hi => by rw [(hs i hi).1]; exact CsLe.refl _ _
theorem sg_batch (U : Imm) {d : Nat} {cs : List V} (h : ShC Tryz.prog d 24 cs) : ∃ b : SBatch, CsLe U cs b.c ∧ FitB b ∧ segBatch b := by
 obtain ⟨d, a, _, rfl, ha, b, _, rfl, hb, rfl⟩ := sh_struct h Tryz.underlying24
 obtain ⟨n, rfl⟩ := sh_bool ha Tryz.underlying4
 obtain ⟨d, len, f, rfl, hl, hf⟩ := sh_slice hb Tryz.underlying22
 obtain ⟨s, hs⟩ := choose_fn fun i hi => sg_req (hf i hi)
 refine ⟨⟨n, len, s⟩, ?_, ⟨hl, fun k hk => (hs k hk).2.1⟩, fun k hk => (hs k hk).2.2⟩
 rw [cellsReq]
 refine CsLe.app (CsLe.refl U [.bool n]) ?_
 exact CsLe.ros fun i hi => by rw [(hs i hi).1]; exact CsLe.refl _ _
theorem sg_cert (U : Imm) {d : Nat} {cs : List V} (h : ShC Tryz.prog d 35 cs) : ∃ c : SCert, CsLe U cs c.c ∧ c.n ≤ 9223372036854775807 ∧ segCert c := by
 obtain ⟨d, a, _, rfl, ha, b, _, rfl, hb, rfl⟩ := sh_struct h Tryz.underlying35
 obtain ⟨v, rfl, hv⟩ := sg_vote ha
 obtain ⟨n, s, hs, hn, ht⟩ := sg_signs U hb
 refine ⟨⟨v, n, s⟩, ?_, hn, ⟨hv, ht⟩⟩
 refine CsLe.app (CsLe.refl U v.c) ?_
 rw [List.append_nil]; exact hs
theorem sg_held (U : Imm) {d : Nat} {cs : List V} (h : ShC Tryz.prog d 61 cs) : ∃ c : SHeld, CsLe U cs c.c ∧ FitB c.batch ∧ segHeld c := by
 obtain ⟨d, a, _, rfl, ha, b, _, rfl, hb, rfl⟩ := sh_struct h Tryz.underlying61
 obtain ⟨b, hb1, hb2, hb3⟩ := sg_batch U ha
 obtain ⟨c, hc1, hc2, hc3⟩ := sg_cert U hb
 refine ⟨⟨b, c⟩, ?_, hb2, ⟨hb3, hc3⟩⟩
 refine CsLe.app hb1 ?_
 rw [List.append_nil]; exact hc1
instance : Inhabited SHeld := ⟨{}⟩
theorem sg_helds (U : Imm) {d : Nat} {cs : List V} (h : ShC Tryz.prog d 29 cs) : ∃ n s, CsLe U cs [Sy.hl n s] ∧ n ≤ 9223372036854775807 ∧ ∀ i, i < n → FitB (s i).batch ∧ segHeld (s i) := by
 obtain ⟨d, len, f, rfl, hl, hf⟩ := sh_slice h Tryz.underlying29
 obtain ⟨s, hs⟩ := choose_fn fun i hi => sg_held U (hf i hi)
 refine ⟨len, s, ?_, hl, fun i hi => (hs i hi).2⟩
 rw [cellsHeld]
 exact CsLe.ros fun i hi => (hs i hi).1
theorem sg_envs (U : Imm) {d : Nat} {cs : List V} (h : ShC Tryz.prog d 32 cs) : ∃ n s, CsLe U cs [nw n s] ∧ n ≤ 9223372036854775807 ∧ ∀ i, i < n → (s i).body.size ≤ 9223372036854775807 ∧ SegOk 16 (s i).tag := by
 obtain ⟨d, len, f, rfl, hl, hf⟩ := sh_slice h Tryz.underlying32
 obtain ⟨s, hs⟩ := choose_fn fun i hi => sg_env (hf i hi)
 refine ⟨len, s, ?_, hl, fun i hi => (hs i hi).2⟩
 rw [cellsEnv]
 exact CsLe.ros fun i hi => by rw [(hs i hi).1]; exact CsLe.refl _ _
theorem sg_msg (U : Imm) {d : Nat} {cs : List V} (h : ShC Tryz.prog d 37 cs) : ∃ m : SMsg, CsLe U cs m.c ∧ FitMsg m ∧ segMsg m := by
 obtain ⟨d, a1, _, rfl, h1, a2, _, rfl, h2, a3, _, rfl, h3, a4, _, rfl, h4, a5, _, rfl, h5, a6, _, rfl, h6, a7, _, rfl, h7, a8, _, rfl, h8, a9, _, rfl, h9, a10, _, rfl, h10, a11, _, rfl, h11, a12, _, rfl, h12, a13, _, rfl, h13, rfl⟩ := sh_struct h Tryz.underlying37
 obtain ⟨n1, rfl, _⟩ := sh_int h1 Tryz.underlying3
 obtain ⟨n2, rfl, _⟩ := sh_int h2 Tryz.underlying3
 obtain ⟨n3, rfl, _⟩ := sh_int h3 Tryz.underlying3
 obtain ⟨n4, rfl, _⟩ := sh_int h4 Tryz.underlying3
 obtain ⟨n5, rfl, _⟩ := sh_int h5 Tryz.underlying3
 obtain ⟨b, hb1, hb2, hb3⟩ := sg_batch U h6
 obtain ⟨v, rfl, hv⟩ := sg_vote h7
 obtain ⟨d', c1, _, rfl, k1, c2, _, rfl, k2, c3, _, rfl, k3, c4, _, rfl, k4, rfl⟩ := sh_struct h8 Tryz.underlying31
 obtain ⟨e1, rfl, _⟩ := sh_int k1 Tryz.underlying3
 obtain ⟨e2, rfl, _⟩ := sh_int k2 Tryz.underlying3
 obtain ⟨e3, rfl, _⟩ := sh_int k3 Tryz.underlying3
 obtain ⟨nh, hd, hh1, hh2, hh3⟩ := sg_helds U k4
 obtain ⟨nn, nws, hn1, hn2, hn3⟩ := sg_envs U h9
 obtain ⟨dg, rfl, hdg⟩ := sg_dig h10
 obtain ⟨c, hc1, hc2, hc3⟩ := sg_cert U h11
 obtain ⟨s, rfl, _⟩ := sh_str h12 Tryz.underlying9
 obtain ⟨n, sgs, hs1, hs2, hs3⟩ := sg_signs U h13
 refine ⟨{ kind := n1, epoch := n2, leader := n3, view := n4, slot := n5, batch := b, vote := v, cepoch := e1, cleader := e2, cview := e3, nheld := nh, held := hd, nnews := nn, news := nws, digest := dg, cert := c, state := s, n := n, sig := sgs }, ?_, ⟨hb2, fun k hk => (hh3 k hk).1, fun k hk => (hn3 k hk).1, hh2, hn2⟩, ⟨hb3, hv, fun k hk => (hh3 k hk).2, fun k hk => (hn3 k hk).2, hdg, hc3, hs3⟩⟩
 show CsLe U _ ([V.int .i64 n1] ++ ([V.int .i64 n2] ++ ([V.int .i64 n3] ++ ([V.int .i64 n4] ++ ([V.int .i64 n5] ++ (b.c ++ (v.c ++ (([V.int .i64 e1] ++ ([V.int .i64 e2] ++ ([V.int .i64 e3] ++ ([Sy.hl nh hd] ++ [])))) ++ ([nw nn nws] ++ ([V.seg .u8 32 dg] ++ (c.c ++ ([V.str s] ++ [Sy.sg n sgs]))))))))))))
 refine CsLe.app (CsLe.refl U [_]) (CsLe.app (CsLe.refl U [_]) (CsLe.app (CsLe.refl U [_]) (CsLe.app (CsLe.refl U [_]) (CsLe.app (CsLe.refl U [_]) (CsLe.app hb1 (CsLe.app (CsLe.refl U v.c) (CsLe.app (CsLe.app (CsLe.refl U [_]) (CsLe.app (CsLe.refl U [_]) (CsLe.app (CsLe.refl U [_]) (CsLe.app hh1 (CsLe.refl U []))))) (CsLe.app hn1 (CsLe.app (CsLe.refl U [_]) (CsLe.app hc1 (CsLe.app (CsLe.refl U [_]) ?_)))))))))))
 rw [List.append_nil]; exact hs1
end Go.Proofs.YthifjamdfpjilaaGreat
