/-
  Contracts and laws that the claim's theorem leans on, joined out of the texts Pe2D Pe2 SyFrz Pe3 Pe4 Pe5 Pg0 (own work of this seat): Contracts: ChangeSafe: the whole; Contracts: ChangeSafe: the whole; Blocks that a call takes for good: they are only looked at from then on; Contracts: ChangeSafe: what is chosen; Contracts: ChangeSafe: joined; Contracts: ChangeSafe; The shapes of epochs, batches, what is held, that are handed in.
-/
import Derived.Test.YtlakhciklfkocaaGreatC04
import Derived.Test.YtlakhciklfkocaaGreatC08
set_option linter.unusedVariables false
set_option linter.unusedSimpArgs false
set_option maxHeartbeats 1000000
namespace Go.Proofs.YtlakhciklfkocaaGreat
open Go Sy Go.Proofs
def csHp (g : SCs) : Heap := [(.o 0, .flat g.e.c), (.o 1, .flat g.b.c)]
def csNm (t : St) : List (Nm × Nm) := [(.o 0, nmV (getV t.tmps 8)), (.o 1, nmV (getV t.tmps 12))]
def csSB (g : SCs) (ix view : Int) (who asked : List Int) : St := ⟨mkT 220 [(2, .int .i64 ix), (3, .int .i64 view), (5, lr who), (6, lr asked), (7, hl g.m g.lie), (8, pO 0), (12, pO 1), (17, .int .i64 (g.N : Nat)), (18, .int .i64 g.lead), (19, lr g.sl)], csHp g, 2, []⟩
def csSD (g : SCs) (who asked : List Int) : St := ⟨mkT 220 [(5, lr who), (6, lr asked), (7, hl g.m g.lie), (8, pO 0), (12, pO 1), (17, .int .i64 (g.N : Nat)), (18, .int .i64 g.lead), (19, lr g.sl), (20, .int .i64 g.s), (21, .int .i64 g.v), (22, pO 2)], csHp g ++ [(.o 2, .flat g.held.c)], 3, []⟩
def csPk (c N : Nat) (H A : Nat → Bool) : List V → Heap → Nat → List Cl := fun _ _ lo => [{ val := sX lo N, post := [(.o lo, bif Nat.blt lo c then bB N H else bB N A)] }]
def csLt (b : Bool) : List V → Heap → Nat → List Cl := fun a _ _ => match a with
 | [.sl n _ _ _ _ _ _] => [{ rd := [n], val := .bool b }]
 | _ => []
def csCh (n : Nat) (O : Nat → SBatch) : List V → Heap → Nat → List Cl := fun a _ lo => match a with
 | [_, _, .sl n4 _ _ _ _ _ _] => [{ pre := [n4], val := bsl lo n, post := [(.o lo, bsB n O)] }]
 | _ => []
noncomputable def csDb (g : SCs) (F : Nat) (d : List Int) (n : Nat) (O : Nat → SBatch) (lt gd lb : Bool) : Nat → List V → Heap → Nat → List Cl := dbQ [(8, cVal (.bool lt)), (9, cVal (.bool gd)), (10, csLt lb), (11, cVal (.bool true)), (12, cVal (lr g.sl)), (13, cVal (agD d)), (14, csPk 400 g.N g.H g.A), (15, cVal (.int .i64 (F : Nat))), (16, csCh n O)]
noncomputable def bdCs (g : SCs) (leader ix view : Int) (who asked : List Int) (F : Nat) (d : List Int) (k2 : Nat) (x2 : Nat → SChg) (left2 : Nat) (n : Nat) (O : Nat → SBatch) (lt gd lb : Bool) : Bd := { f := Tryz.f3, args := [.agg g.e.c, .int .i64 leader, .int .i64 ix, .int .i64 view, .agg g.b.c, lr who, lr asked, hl g.m g.lie], kb := { db := csDb g F d n O lt gd lb, fx := fun id t => bif Nat.beq id 6 then [.wk (wToS (csNm t) (csSB g ix view who asked))] else bif Nat.beq id 9 then [.wk (wToS (csNm t ++ [(.o 2, nmV (getV t.tmps 22))]) (csSD g who asked))] else bif Nat.beq id 11 then [.virt 24 4] else [], lp := fun id t => bif Nat.beq id 0 then [(True, .loop (g.N + 1) (wToS (csNm t ++ [(.o 2, nmV (getV t.tmps 22)), (.o 3, nmV (getV t.tmps 23)), (.o 4, nmV (getV t.tmps 24)), (.o 5, nmV (getV t.tmps 112))]) (caI g 0 (xsL g []) (F : Nat) 0)) (.exit 0) (caI g k2 x2 (left2 : Nat) g.N))] else [(True, .loop (g.sl.length + 1) (wToS [(.o 1, nmV (getV t.tmps 30)), (.o 0, nmV (getV t.tmps 12))] (cfI g.sl g.s g.b n O 0)) (.exit 2) (cfI g.sl g.s g.b n O g.sl.length))] } }
end Go.Proofs.YtlakhciklfkocaaGreat
namespace Go.Proofs.YtlakhciklfkocaaGreat
open Go Sy Go.Proofs
noncomputable def bdCs_c (g : SCs) (leader : Int) (ix : Int) (view : Int) (who : List Int) (asked : List Int) (F : Nat) (d : List Int) (k2 : Nat) (x2 : Nat → SChg) (left2 : Nat) (n : Nat) (O : Nat → SBatch) (lt : Bool) (gd : Bool) (lb : Bool) : Nat → List Prop
 | 0 => [T Tryz.prog 8 [.agg [.int .i64 (SCfg.nodes (SEp.cfg (SCs.e g))), .int .i64 (SCfg.clients (SEp.cfg (SCs.e g))), .int .i64 (SCfg.window (SEp.cfg (SCs.e g))), .int .i64 (SCfg.buckets (SEp.cfg (SCs.e g))), .int .i64 (SCfg.cap (SEp.cfg (SCs.e g))), .int .i64 (SCfg.slots (SEp.cfg (SCs.e g))), .int .i64 (SCfg.requests (SEp.cfg (SCs.e g))), .int .i64 (SCfg.timeout (SEp.cfg (SCs.e g))), .int .i64 (SCfg.penalty (SEp.cfg (SCs.e g))), .int .i64 (SCfg.last (SEp.cfg (SCs.e g))), .int .i64 (SEp.num (SCs.e g)), .int .i64 (SEp.start (SCs.e g)), .ros 1 (List.length (SEp.lead (SCs.e g))) (li (SEp.lead (SCs.e g))) false], .snil] [] (.bool lt) []]
 | 1 => [(!lt) = false, T Tryz.prog 9 [.agg [.int .i64 (SCfg.nodes (SEp.cfg (SCs.e g))), .int .i64 (SCfg.clients (SEp.cfg (SCs.e g))), .int .i64 (SCfg.window (SEp.cfg (SCs.e g))), .int .i64 (SCfg.buckets (SEp.cfg (SCs.e g))), .int .i64 (SCfg.cap (SEp.cfg (SCs.e g))), .int .i64 (SCfg.slots (SEp.cfg (SCs.e g))), .int .i64 (SCfg.requests (SEp.cfg (SCs.e g))), .int .i64 (SCfg.timeout (SEp.cfg (SCs.e g))), .int .i64 (SCfg.penalty (SEp.cfg (SCs.e g))), .int .i64 (SCfg.last (SEp.cfg (SCs.e g))), .int .i64 (SEp.num (SCs.e g)), .int .i64 (SEp.start (SCs.e g)), .ros 1 (List.length (SEp.lead (SCs.e g))) (li (SEp.lead (SCs.e g))) false]] [] (.bool gd) []]
 | 2 => [(!gd) = false, T Tryz.prog 10 [.sl (.o 832) 2 0 0 0 1 (some 1)] [(.o 832, .rows 2 1 (getL [[.bool (SBatch.noop (SCs.b g)), rq (SBatch.n (SCs.b g)) (SBatch.req (SCs.b g))]]) false)] (.bool lb) [(.o 832, .rows 2 1 (getL [[.bool (SBatch.noop (SCs.b g)), rq (SBatch.n (SCs.b g)) (SBatch.req (SCs.b g))]]) false)]]
 | _ => []
theorem bdCs_p111111 (g : SCs) (leader : Int) (ix : Int) (view : Int) (who : List Int) (asked : List Int) (F : Nat) (d : List Int) (k2 : Nat) (x2 : Nat → SChg) (left2 : Nat) (n : Nat) (O : Nat → SBatch) (lt : Bool) (gd : Bool) (lb : Bool) :
 along Tryz.prog (bdCs g leader ix view who asked F d k2 x2 left2 n O lt gd lb) [true, true, true, true, true, true] = (some (.bool true, [], bdCs_c g leader ix view who asked F d k2 x2 left2 n O lt gd lb 0 ++ [(!lt) = true, q2, q2, q2, q2, q2, T Tryz.prog 11 [] [] (.bool true) []]) : Option (V × Heap × List Prop)) := by kernel_rfl
theorem bdCs_p011111 (g : SCs) (leader : Int) (ix : Int) (view : Int) (who : List Int) (asked : List Int) (F : Nat) (d : List Int) (k2 : Nat) (x2 : Nat → SChg) (left2 : Nat) (n : Nat) (O : Nat → SBatch) (lt : Bool) (gd : Bool) (lb : Bool) :
 along Tryz.prog (bdCs g leader ix view who asked F d k2 x2 left2 n O lt gd lb) [false, true, true, true, true, true] = (some (.bool true, [], bdCs_c g leader ix view who asked F d k2 x2 left2 n O lt gd lb 0 ++ (bdCs_c g leader ix view who asked F d k2 x2 left2 n O lt gd lb 1 ++ [(!gd) = true, q2, q2, q2, q2, T Tryz.prog 11 [] [] (.bool true) []])) : Option (V × Heap × List Prop)) := by kernel_rfl
theorem bdCs_p001111 (g : SCs) (leader : Int) (ix : Int) (view : Int) (who : List Int) (asked : List Int) (F : Nat) (d : List Int) (k2 : Nat) (x2 : Nat → SChg) (left2 : Nat) (n : Nat) (O : Nat → SBatch) (lt : Bool) (gd : Bool) (lb : Bool) :
 along Tryz.prog (bdCs g leader ix view who asked F d k2 x2 left2 n O lt gd lb) [false, false, true, true, true, true] = (some (.bool true, [], bdCs_c g leader ix view who asked F d k2 x2 left2 n O lt gd lb 0 ++ (bdCs_c g leader ix view who asked F d k2 x2 left2 n O lt gd lb 1 ++ (bdCs_c g leader ix view who asked F d k2 x2 left2 n O lt gd lb 2 ++ [(!lb) = true, q2, q2, q2, T Tryz.prog 11 [] [] (.bool true) []]))) : Option (V × Heap × List Prop)) := by kernel_rfl
theorem bdCs_p000111 (g : SCs) (leader : Int) (ix : Int) (view : Int) (who : List Int) (asked : List Int) (F : Nat) (d : List Int) (k2 : Nat) (x2 : Nat → SChg) (left2 : Nat) (n : Nat) (O : Nat → SBatch) (lt : Bool) (gd : Bool) (lb : Bool) :
 along Tryz.prog (bdCs g leader ix view who asked F d k2 x2 left2 n O lt gd lb) [false, false, false, true, true, true] = (some (.bool true, [], bdCs_c g leader ix view who asked F d k2 x2 left2 n O lt gd lb 0 ++ (bdCs_c g leader ix view who asked F d k2 x2 left2 n O lt gd lb 1 ++ (bdCs_c g leader ix view who asked F d k2 x2 left2 n O lt gd lb 2 ++ [(!lb) = false, decide ((500 : Int) < (↑(List.length who) : Int)) = true, q2, q2, T Tryz.prog 11 [] [] (.bool true) []]))) : Option (V × Heap × List Prop)) := by kernel_rfl
theorem bdCs_p000011 (g : SCs) (leader : Int) (ix : Int) (view : Int) (who : List Int) (asked : List Int) (F : Nat) (d : List Int) (k2 : Nat) (x2 : Nat → SChg) (left2 : Nat) (n : Nat) (O : Nat → SBatch) (lt : Bool) (gd : Bool) (lb : Bool) :
 along Tryz.prog (bdCs g leader ix view who asked F d k2 x2 left2 n O lt gd lb) [false, false, false, false, true, true] = (some (.bool true, [], bdCs_c g leader ix view who asked F d k2 x2 left2 n O lt gd lb 0 ++ (bdCs_c g leader ix view who asked F d k2 x2 left2 n O lt gd lb 1 ++ (bdCs_c g leader ix view who asked F d k2 x2 left2 n O lt gd lb 2 ++ [(!lb) = false, decide ((500 : Int) < (↑(List.length who) : Int)) = false, decide ((500 : Int) < (↑(List.length asked) : Int)) = true, q2, T Tryz.prog 11 [] [] (.bool true) []]))) : Option (V × Heap × List Prop)) := by kernel_rfl
theorem bdCs_p000001 (g : SCs) (leader : Int) (ix : Int) (view : Int) (who : List Int) (asked : List Int) (F : Nat) (d : List Int) (k2 : Nat) (x2 : Nat → SChg) (left2 : Nat) (n : Nat) (O : Nat → SBatch) (lt : Bool) (gd : Bool) (lb : Bool) :
 along Tryz.prog (bdCs g leader ix view who asked F d k2 x2 left2 n O lt gd lb) [false, false, false, false, false, true] = (some (.bool true, [], bdCs_c g leader ix view who asked F d k2 x2 left2 n O lt gd lb 0 ++ (bdCs_c g leader ix view who asked F d k2 x2 left2 n O lt gd lb 1 ++ (bdCs_c g leader ix view who asked F d k2 x2 left2 n O lt gd lb 2 ++ [(!lb) = false, decide ((500 : Int) < (↑(List.length who) : Int)) = false, decide ((500 : Int) < (↑(List.length asked) : Int)) = false, decide ((20 : Int) < (↑(SCs.m g) : Int)) = true, T Tryz.prog 11 [] [] (.bool true) []]))) : Option (V × Heap × List Prop)) := by kernel_rfl
theorem bdCs_p000000 (g : SCs) (leader : Int) (ix : Int) (view : Int) (who : List Int) (asked : List Int) (F : Nat) (d : List Int) (k2 : Nat) (x2 : Nat → SChg) (left2 : Nat) (n : Nat) (O : Nat → SBatch) (lt : Bool) (gd : Bool) (lb : Bool) :
 along Tryz.prog (bdCs g leader ix view who asked F d k2 x2 left2 n O lt gd lb) [false, false, false, false, false, false] = (some (.bool true, [], bdCs_c g leader ix view who asked F d k2 x2 left2 n O lt gd lb 0 ++ (bdCs_c g leader ix view who asked F d k2 x2 left2 n O lt gd lb 1 ++ (bdCs_c g leader ix view who asked F d k2 x2 left2 n O lt gd lb 2 ++ [(!lb) = false, decide ((500 : Int) < (↑(List.length who) : Int)) = false, decide ((500 : Int) < (↑(List.length asked) : Int)) = false, decide ((20 : Int) < (↑(SCs.m g) : Int)) = false, (0 : Int) ≤ IntKind.wrap IntKind.u64 leader ∧ (0 : Int) < IntKind.wrap IntKind.u64 (↑(List.length (SEp.lead (SCs.e g))) : Int), InR IntKind.i64 (IntKind.wrap IntKind.u64 leader % IntKind.wrap IntKind.u64 (↑(List.length (SEp.lead (SCs.e g))) : Int)), (0 : Int) ≤ IntKind.wrap IntKind.u64 leader % IntKind.wrap IntKind.u64 (↑(List.length (SEp.lead (SCs.e g))) : Int) ∧ IntKind.wrap IntKind.u64 leader % IntKind.wrap IntKind.u64 (↑(List.length (SEp.lead (SCs.e g))) : Int) < (↑(List.length (SEp.lead (SCs.e g))) : Int), T Tryz.prog 12 [.agg [.int .i64 (SCfg.nodes (SEp.cfg (SCs.e g))), .int .i64 (SCfg.clients (SEp.cfg (SCs.e g))), .int .i64 (SCfg.window (SEp.cfg (SCs.e g))), .int .i64 (SCfg.buckets (SEp.cfg (SCs.e g))), .int .i64 (SCfg.cap (SEp.cfg (SCs.e g))), .int .i64 (SCfg.slots (SEp.cfg (SCs.e g))), .int .i64 (SCfg.requests (SEp.cfg (SCs.e g))), .int .i64 (SCfg.timeout (SEp.cfg (SCs.e g))), .int .i64 (SCfg.penalty (SEp.cfg (SCs.e g))), .int .i64 (SCfg.last (SEp.cfg (SCs.e g))), .int .i64 (SEp.num (SCs.e g)), .int .i64 (SEp.start (SCs.e g)), .ros 1 (List.length (SEp.lead (SCs.e g))) (li (SEp.lead (SCs.e g))) false], .int .i64 (List.getD (SEp.lead (SCs.e g)) (Int.toNat (IntKind.wrap .u64 leader % IntKind.wrap .u64 (↑(List.length (SEp.lead (SCs.e g))) : Int))) (0 : Int))] [] (.ros 1 (List.length (SCs.sl g)) (li (SCs.sl g)) false) [], q (SCfg.nodes (SEp.cfg (SCs.e g))), q (SCfg.clients (SEp.cfg (SCs.e g))), q (SCfg.window (SEp.cfg (SCs.e g))), q (SCfg.buckets (SEp.cfg (SCs.e g))), q (SCfg.cap (SEp.cfg (SCs.e g))), q (SCfg.slots (SEp.cfg (SCs.e g))), q (SCfg.requests (SEp.cfg (SCs.e g))), q (SCfg.timeout (SEp.cfg (SCs.e g))), q (SCfg.penalty (SEp.cfg (SCs.e g))), q (SCfg.last (SEp.cfg (SCs.e g))), q (SEp.num (SCs.e g)), q (SEp.start (SCs.e g)), q (List.length (SEp.lead (SCs.e g))), ∀ (k : Nat), k < List.length (SEp.lead (SCs.e g)) → [V.int IntKind.i64 (List.getD (SEp.lead (SCs.e g)) k (0 : Int))] = [V.int IntKind.i64 (List.getD (SEp.lead (SCs.e g)) k (0 : Int))], false = true → false = true, q (SBatch.noop (SCs.b g)), q (SBatch.n (SCs.b g)), ∀ (k : Nat), k < SBatch.n (SCs.b g) → SReq.c (SBatch.req (SCs.b g) k) = SReq.c (SBatch.req (SCs.b g) k), false = true → false = true, q ix, q view, q (List.length who), ∀ (k : Nat), k < List.length who → [V.int IntKind.i64 (List.getD who k (0 : Int))] = [V.int IntKind.i64 (List.getD who k (0 : Int))], false = true → false = true, q (List.length asked), ∀ (k : Nat), k < List.length asked → [V.int IntKind.i64 (List.getD asked k (0 : Int))] = [V.int IntKind.i64 (List.getD asked k (0 : Int))], false = true → false = true, q (SCs.m g), ∀ (k : Nat), k < SCs.m g → SHeld.c (SCs.lie g k) = SHeld.c (SCs.lie g k), false = true → false = true, q0, q0, q0, q0, q0, q0, SCfg.nodes (SEp.cfg (SCs.e g)) = (↑(SCs.N g) : Int), List.getD (SEp.lead (SCs.e g)) (Int.toNat (IntKind.wrap IntKind.u64 leader % IntKind.wrap IntKind.u64 (↑(List.length (SEp.lead (SCs.e g))) : Int))) (0 : Int) = SCs.lead g, q (List.length (SCs.sl g)), ∀ (k : Nat), k < List.length (SCs.sl g) → [V.int IntKind.i64 (List.getD (SCs.sl g) k (0 : Int))] = [V.int IntKind.i64 (List.getD (SCs.sl g) k (0 : Int))], false = true → false = true, (0 : Int) ≤ IntKind.wrap IntKind.u64 ix ∧ (0 : Int) < IntKind.wrap IntKind.u64 (↑(List.length (SCs.sl g)) : Int), InR IntKind.i64 (IntKind.wrap IntKind.u64 ix % IntKind.wrap IntKind.u64 (↑(List.length (SCs.sl g)) : Int)), (0 : Int) ≤ IntKind.wrap IntKind.u64 ix % IntKind.wrap IntKind.u64 (↑(List.length (SCs.sl g)) : Int) ∧ IntKind.wrap IntKind.u64 ix % IntKind.wrap IntKind.u64 (↑(List.length (SCs.sl g)) : Int) < (↑(List.length (SCs.sl g)) : Int), (0 : Int) ≤ IntKind.wrap IntKind.u64 view ∧ (0 : Int) < (1000 : Int), InR IntKind.i64 (IntKind.wrap IntKind.u64 view % (1000 : Int)), T Tryz.prog 13 [.agg (SBatch.c (SCs.b g))] [] (.agg [.seg .u8 32 d]) [], q (SCfg.nodes (SEp.cfg (SCs.e g))), q (SCfg.clients (SEp.cfg (SCs.e g))), q (SCfg.window (SEp.cfg (SCs.e g))), q (SCfg.buckets (SEp.cfg (SCs.e g))), q (SCfg.cap (SEp.cfg (SCs.e g))), q (SCfg.slots (SEp.cfg (SCs.e g))), q (SCfg.requests (SEp.cfg (SCs.e g))), q (SCfg.timeout (SEp.cfg (SCs.e g))), q (SCfg.penalty (SEp.cfg (SCs.e g))), q (SCfg.last (SEp.cfg (SCs.e g))), q (SEp.num (SCs.e g)), q (SEp.start (SCs.e g)), q (List.length (SEp.lead (SCs.e g))), ∀ (k : Nat), k < List.length (SEp.lead (SCs.e g)) → [V.int IntKind.i64 (List.getD (SEp.lead (SCs.e g)) k (0 : Int))] = [V.int IntKind.i64 (List.getD (SEp.lead (SCs.e g)) k (0 : Int))], false = true → false = true, q (SBatch.noop (SCs.b g)), q (SBatch.n (SCs.b g)), ∀ (k : Nat), k < SBatch.n (SCs.b g) → SReq.c (SBatch.req (SCs.b g) k) = SReq.c (SBatch.req (SCs.b g) k), false = true → false = true, SBatch.noop (SCs.b g) = SBatch.noop (SHeld.batch (SCs.held g)), SBatch.n (SCs.b g) = SBatch.n (SHeld.batch (SCs.held g)), ∀ (k : Nat), k < SBatch.n (SCs.b g) → SReq.c (SBatch.req (SCs.b g) k) = SReq.c (SBatch.req (SHeld.batch (SCs.held g)) k), false = true → false = true, (1 : Int) = SVote.kind (SCert.vote (SHeld.cert (SCs.held g))), SEp.num (SCs.e g) = SVote.epoch (SCert.vote (SHeld.cert (SCs.held g))), IntKind.wrap IntKind.u64 view % (1000 : Int) = SVote.view (SCert.vote (SHeld.cert (SCs.held g))), List.getD (SCs.sl g) (Int.toNat (IntKind.wrap IntKind.u64 ix % IntKind.wrap IntKind.u64 (↑(List.length (SCs.sl g)) : Int))) (0 : Int) = SVote.slot (SCert.vote (SHeld.cert (SCs.held g))), q (32 : Nat), d = SVote.digest (SCert.vote (SHeld.cert (SCs.held g))), SCert.n (SHeld.cert (SCs.held g)) = (0 : Nat), q (List.length who), ∀ (k : Nat), k < List.length who → [V.int IntKind.i64 (List.getD who k (0 : Int))] = [V.int IntKind.i64 (List.getD who k (0 : Int))], false = true → false = true, q (List.length asked), ∀ (k : Nat), k < List.length asked → [V.int IntKind.i64 (List.getD asked k (0 : Int))] = [V.int IntKind.i64 (List.getD asked k (0 : Int))], false = true → false = true, q (SCs.m g), ∀ (k : Nat), k < SCs.m g → SHeld.c (SCs.lie g k) = SHeld.c (SCs.lie g k), false = true → false = true, q0, q0, q0, q0, q0, q0, q (↑(SCs.N g) : Int), q (SCs.lead g), q (List.length (SCs.sl g)), ∀ (k : Nat), k < List.length (SCs.sl g) → [V.int IntKind.i64 (List.getD (SCs.sl g) k (0 : Int))] = [V.int IntKind.i64 (List.getD (SCs.sl g) k (0 : Int))], false = true → false = true, List.getD (SCs.sl g) (Int.toNat (IntKind.wrap IntKind.u64 ix % IntKind.wrap IntKind.u64 (↑(List.length (SCs.sl g)) : Int))) (0 : Int) = SCs.s g, IntKind.wrap IntKind.u64 view % (1000 : Int) = SCs.v g, q0, q0, q0, T Tryz.prog 14 [.int .i64 (↑(SCs.N g) : Int), .ros 1 (List.length who) (li who) false] [] (.sl (.o 131) 1 0 0 0 (SCs.N g) none) [(.o 131, .rows 1 (SCs.N g) (bX (SCs.H g)) true)], T Tryz.prog 15 [.int .i64 (↑(SCs.N g) : Int)] [] (.int .i64 ↑F) [], T Tryz.prog 14 [.int .i64 (↑(SCs.N g) : Int), .ros 1 (List.length asked) (li asked) false] [] (.sl (.o 644) 1 0 0 0 (SCs.N g) none) [(.o 644, .rows 1 (SCs.N g) (bX (SCs.A g)) true)], RLoop Tryz.prog none 0 (cB (cB (cR (cL (cR (cR (cR (cR (cR (cR (cR (cR (cR (cR (cR (bodyOf (Bd.f (bdCs g leader ix view who asked F d k2 x2 left2 n O lt gd lb)))))))))))))))))) (SCs.N g + 1) (St.mk [.any, .any, .any, .any, .any, .any, .any, .ros 39 (SCs.m g) (fun i => SHeld.c (SCs.lie g i)) false, .ptr (.o 0) 0 0 0 0, .any, .any, .any, .ptr (.o 1) 0 0 0 0, .any, .any, .any, .any, .any, .int .i64 (SCs.lead g), .ros 1 (List.length (SCs.sl g)) (li (SCs.sl g)) false, .int .i64 (SCs.s g), .int .i64 (SCs.v g), .ptr (.o 2) 0 0 0 0, .sl (.o 3) 1 0 0 0 (SCs.N g) none, .sl (.o 4) 4 0 0 0 0 none, .int .i64 ↑F, .any, .any, .any, .any, .any, .any, .any, .any, .any, .any, .any, .any, .any, .any, .any, .any, .any, .any, .any, .any, .any, .any, .any, .any, .any, .any, .any, .any, .any, .any, .any, .any, .any, .any, .any, .any, .any, .any, .any, .any, .any, .any, .any, .any, .any, .any, .any, .any, .any, .any, .any, .any, .any, .any, .any, .any, .any, .any, .any, .any, .any, .any, .any, .any, .any, .any, .any, .any, .any, .any, .any, .any, .any, .any, .any, .any, .any, .any, .any, .any, .any, .any, .any, .any, .any, .any, .sl (.o 5) 1 0 0 0 (SCs.N g) none, .int .i64 (↑(SCs.N g) : Int), .int .i64 0, .any, .any, .any, .any, .any, .any, .any, .any, .any, .any, .any, .any, .any, .any, .any, .any, .any, .any, .any, .any, .any, .any, .any, .any, .any, .any, .any, .any, .any, .any, .any, .any, .any, .any, .any, .any, .any, .any, .any, .any, .any, .any, .any, .any, .any, .any, .any, .any, .any, .any, .any, .any, .any, .any, .any, .any, .any, .any, .any, .any, .any, .any, .any, .any, .any, .any, .any, .any, .any, .any, .any, .any, .any, .any, .any, .any, .any, .any, .any, .any, .any, .any, .any, .any, .any, .any, .any, .any, .any, .any, .any, .any, .any, .any, .any, .any, .any, .any, .any, .any, .any, .any, .any, .any, .any] [(.o 0, .flat [.int .i64 (SCfg.nodes (SEp.cfg (SCs.e g))), .int .i64 (SCfg.clients (SEp.cfg (SCs.e g))), .int .i64 (SCfg.window (SEp.cfg (SCs.e g))), .int .i64 (SCfg.buckets (SEp.cfg (SCs.e g))), .int .i64 (SCfg.cap (SEp.cfg (SCs.e g))), .int .i64 (SCfg.slots (SEp.cfg (SCs.e g))), .int .i64 (SCfg.requests (SEp.cfg (SCs.e g))), .int .i64 (SCfg.timeout (SEp.cfg (SCs.e g))), .int .i64 (SCfg.penalty (SEp.cfg (SCs.e g))), .int .i64 (SCfg.last (SEp.cfg (SCs.e g))), .int .i64 (SEp.num (SCs.e g)), .int .i64 (SEp.start (SCs.e g)), .ros 1 (List.length (SEp.lead (SCs.e g))) (li (SEp.lead (SCs.e g))) false]), (.o 1, .flat (SBatch.c (SCs.b g))), (.o 2, .flat (SHeld.c (SCs.held g))), (.o 3, .rows 1 (SCs.N g) (bX (SCs.H g)) true), (.o 4, .rows 4 0 (fun i => SChg.c (SChg.mk (SEp.num (SCs.e g)) (SCs.lead g) (SCs.v g + (1 : Int)) 0 fun g => SHeld.mk (SBatch.mk false 0 fun x => SReq.mk (0 : Int) (0 : Int) ByteArray.empty []) (SCert.mk (SVote.mk (0 : Int) (0 : Int) (0 : Int) (0 : Int) []) 0 fun x => SSign.mk (0 : Int) []))) true), (.o 5, .rows 1 (SCs.N g) (bX (SCs.A g)) true)] 6 []) (.exit 0) (St.mk [.any, .any, .any, .any, .any, .any, .any, .ros 39 (SCs.m g) (fun i => SHeld.c (SCs.lie g i)) false, .ptr (.o 0) 0 0 0 0, .any, .any, .any, .ptr (.o 1) 0 0 0 0, .any, .any, .any, .any, .any, .int .i64 (SCs.lead g), .ros 1 (List.length (SCs.sl g)) (li (SCs.sl g)) false, .int .i64 (SCs.s g), .int .i64 (SCs.v g), .ptr (.o 2) 0 0 0 0, .sl (.o 3) 1 0 0 0 (SCs.N g) none, .sl (.o 4) 4 0 0 0 k2 none, .int .i64 ↑left2, .any, .any, .any, .any, .any, .any, .any, .any, .any, .any, .any, .any, .any, .any, .any, .any, .any, .any, .any, .any, .any, .any, .any, .any, .any, .any, .any, .any, .any, .any, .any, .any, .any, .any, .any, .any, .any, .any, .any, .any, .any, .any, .any, .any, .any, .any, .any, .any, .any, .any, .any, .any, .any, .any, .any, .any, .any, .any, .any, .any, .any, .any, .any, .any, .any, .any, .any, .any, .any, .any, .any, .any, .any, .any, .any, .any, .any, .any, .any, .any, .any, .any, .any, .any, .any, .any, .sl (.o 5) 1 0 0 0 (SCs.N g) none, .int .i64 (↑(SCs.N g) : Int), .int .i64 (↑(SCs.N g) : Int), .any, .any, .any, .any, .any, .any, .any, .any, .any, .any, .any, .any, .any, .any, .any, .any, .any, .any, .any, .any, .any, .any, .any, .any, .any, .any, .any, .any, .any, .any, .any, .any, .any, .any, .any, .any, .any, .any, .any, .any, .any, .any, .any, .any, .any, .any, .any, .any, .any, .any, .any, .any, .any, .any, .any, .any, .any, .any, .any, .any, .any, .any, .any, .any, .any, .any, .any, .any, .any, .any, .any, .any, .any, .any, .any, .any, .any, .any, .any, .any, .any, .any, .any, .any, .any, .any, .any, .any, .any, .any, .any, .any, .any, .any, .any, .any, .any, .any, .any, .any, .any, .any, .any, .any, .any] [(.o 0, .flat [.int .i64 (SCfg.nodes (SEp.cfg (SCs.e g))), .int .i64 (SCfg.clients (SEp.cfg (SCs.e g))), .int .i64 (SCfg.window (SEp.cfg (SCs.e g))), .int .i64 (SCfg.buckets (SEp.cfg (SCs.e g))), .int .i64 (SCfg.cap (SEp.cfg (SCs.e g))), .int .i64 (SCfg.slots (SEp.cfg (SCs.e g))), .int .i64 (SCfg.requests (SEp.cfg (SCs.e g))), .int .i64 (SCfg.timeout (SEp.cfg (SCs.e g))), .int .i64 (SCfg.penalty (SEp.cfg (SCs.e g))), .int .i64 (SCfg.last (SEp.cfg (SCs.e g))), .int .i64 (SEp.num (SCs.e g)), .int .i64 (SEp.start (SCs.e g)), .ros 1 (List.length (SEp.lead (SCs.e g))) (li (SEp.lead (SCs.e g))) false]), (.o 1, .flat (SBatch.c (SCs.b g))), (.o 2, .flat (SHeld.c (SCs.held g))), (.o 3, .rows 1 (SCs.N g) (bX (SCs.H g)) true), (.o 4, .rows 4 k2 (fun i => SChg.c (x2 i)) true), (.o 5, .rows 1 (SCs.N g) (bX (SCs.A g)) true)] 6 []), q (SCfg.nodes (SEp.cfg (SCs.e g))), q (SCfg.clients (SEp.cfg (SCs.e g))), q (SCfg.window (SEp.cfg (SCs.e g))), q (SCfg.buckets (SEp.cfg (SCs.e g))), q (SCfg.cap (SEp.cfg (SCs.e g))), q (SCfg.slots (SEp.cfg (SCs.e g))), q (SCfg.requests (SEp.cfg (SCs.e g))), q (SCfg.timeout (SEp.cfg (SCs.e g))), q (SCfg.penalty (SEp.cfg (SCs.e g))), q (SCfg.last (SEp.cfg (SCs.e g))), q (SEp.num (SCs.e g)), q (SEp.start (SCs.e g)), q (List.length (SEp.lead (SCs.e g))), ∀ (k : Nat), k < List.length (SEp.lead (SCs.e g)) → [V.int IntKind.i64 (List.getD (SEp.lead (SCs.e g)) k (0 : Int))] = [V.int IntKind.i64 (List.getD (SEp.lead (SCs.e g)) k (0 : Int))], false = true → false = true, q (SBatch.noop (SCs.b g)), q (SBatch.n (SCs.b g)), ∀ (k : Nat), k < SBatch.n (SCs.b g) → SReq.c (SBatch.req (SCs.b g) k) = SReq.c (SBatch.req (SCs.b g) k), false = true → false = true, q (SBatch.noop (SHeld.batch (SCs.held g))), q (SBatch.n (SHeld.batch (SCs.held g))), ∀ (k : Nat), k < SBatch.n (SHeld.batch (SCs.held g)) → SReq.c (SBatch.req (SHeld.batch (SCs.held g)) k) = SReq.c (SBatch.req (SHeld.batch (SCs.held g)) k), false = true → false = true, q (SVote.kind (SCert.vote (SHeld.cert (SCs.held g)))), q (SVote.epoch (SCert.vote (SHeld.cert (SCs.held g)))), q (SVote.view (SCert.vote (SHeld.cert (SCs.held g)))), q (SVote.slot (SCert.vote (SHeld.cert (SCs.held g)))), q (32 : Nat), q (SVote.digest (SCert.vote (SHeld.cert (SCs.held g)))), q (SCert.n (SHeld.cert (SCs.held g))), ∀ (k : Nat), k < SCert.n (SHeld.cert (SCs.held g)) → SSign.c (SCert.sig (SHeld.cert (SCs.held g)) k) = SSign.c (SCert.sig (SHeld.cert (SCs.held g)) k), false = true → false = true, q (SCs.N g), ∀ (k : Nat), k < SCs.N g → [V.bool (SCs.H g k)] = [V.bool (SCs.H g k)], true = false → true = false, q0, ∀ (k : Nat), k < (0 : Nat) → [] = SChg.c (SChg.mk (SEp.num (SCs.e g)) (SCs.lead g) (SCs.v g + (1 : Int)) (nat_lit 0) fun g => SHeld.mk (SBatch.mk false (0 : Nat) fun x => SReq.mk (0 : Int) (0 : Int) ByteArray.empty []) (SCert.mk (SVote.mk (0 : Int) (0 : Int) (0 : Int) (0 : Int) []) (0 : Nat) fun x => SSign.mk (0 : Int) [])), true = false → true = false, q (SCs.N g), ∀ (k : Nat), k < SCs.N g → [V.bool (SCs.A g k)] = [V.bool (SCs.A g k)], true = false → true = false, q (SCs.m g), ∀ (k : Nat), k < SCs.m g → SHeld.c (SCs.lie g k) = SHeld.c (SCs.lie g k), false = true → false = true, q0, q0, q0, q0, q0, q0, q (SCs.lead g), q (List.length (SCs.sl g)), ∀ (k : Nat), k < List.length (SCs.sl g) → [V.int IntKind.i64 (List.getD (SCs.sl g) k (0 : Int))] = [V.int IntKind.i64 (List.getD (SCs.sl g) k (0 : Int))], false = true → false = true, q (SCs.s g), q (SCs.v g), q0, q0, q0, q0, q0, q0, q (SCs.N g), (none : Option Nat) = none ∨ (none : Option Nat) = none, q0, q0, q0, q0, (none : Option Nat) = none ∨ (none : Option Nat) = none, q (↑F : Int), q0, q0, q0, q (SCs.N g), (none : Option Nat) = none ∨ (none : Option Nat) = none, q (↑(SCs.N g) : Int), q1, T Tryz.prog 16 [.agg [.int .i64 (SCfg.nodes (SEp.cfg (SCs.e g))), .int .i64 (SCfg.clients (SEp.cfg (SCs.e g))), .int .i64 (SCfg.window (SEp.cfg (SCs.e g))), .int .i64 (SCfg.buckets (SEp.cfg (SCs.e g))), .int .i64 (SCfg.cap (SEp.cfg (SCs.e g))), .int .i64 (SCfg.slots (SEp.cfg (SCs.e g))), .int .i64 (SCfg.requests (SEp.cfg (SCs.e g))), .int .i64 (SCfg.timeout (SEp.cfg (SCs.e g))), .int .i64 (SCfg.penalty (SEp.cfg (SCs.e g))), .int .i64 (SCfg.last (SEp.cfg (SCs.e g))), .int .i64 (SEp.num (SCs.e g)), .int .i64 (SEp.start (SCs.e g)), .ros 1 (List.length (SEp.lead (SCs.e g))) (li (SEp.lead (SCs.e g))) false], .int .i64 (SCs.lead g), .sl (.o 4) 4 0 0 0 k2 none] [(.o 4, .rows 4 k2 (fun i => SChg.c (x2 i)) true)] (.sl (.o 198) 2 0 0 0 n none) [(.o 198, .rows 2 n (fun i => SBatch.c (O i)) true)], RLoop Tryz.prog none 0 (cB (cB (cR (cL (cR (cR (cR (cR (cR (cR (cR (cR (cR (cR (cR (cR (cR (bodyOf (Bd.f (bdCs g leader ix view who asked F d k2 x2 left2 n O lt gd lb)))))))))))))))))))) (List.length (SCs.sl g) + 1) (St.mk [.any, .any, .any, .any, .any, .any, .any, .any, .any, .any, .any, .any, .ptr (.o 0) 0 0 0 0, .any, .any, .any, .any, .any, .any, .any, .int .i64 (SCs.s g), .any, .any, .any, .any, .any, .any, .any, .any, .any, .sl (.o 1) 2 0 0 0 n none, .any, .any, .any, .any, .any, .any, .any, .any, .any, .any, .any, .any, .any, .any, .any, .any, .any, .any, .any, .any, .any, .any, .any, .any, .any, .any, .any, .any, .any, .any, .any, .any, .any, .any, .any, .any, .any, .any, .any, .any, .any, .any, .any, .any, .any, .any, .any, .any, .any, .any, .any, .any, .any, .any, .any, .any, .any, .any, .any, .any, .any, .any, .any, .any, .any, .any, .any, .any, .any, .any, .any, .any, .any, .any, .any, .any, .any, .any, .any, .any, .any, .any, .any, .any, .any, .any, .any, .any, .any, .any, .any, .any, .any, .any, .any, .any, .any, .any, .any, .any, .any, .any, .any, .any, .any, .any, .any, .any, .any, .any, .any, .any, .any, .any, .any, .any, .any, .any, .any, .any, .any, .any, .any, .any, .any, .any, .any, .any, .any, .any, .any, .any, .any, .any, .any, .any, .any, .any, .any, .any, .any, .any, .any, .any, .any, .any, .any, .any, .any, .any, .any, .any, .any, .any, .any, .any, .any, .any, .any, .any, .any, .any, .ros 1 (List.length (SCs.sl g)) (li (SCs.sl g)) false, .int .i64 (↑(List.length (SCs.sl g)) : Int), .int .i64 0, .any, .any, .any, .any, .any, .any, .any, .any, .any, .any, .any, .any, .any, .any, .any, .any, .any, .any, .any, .any, .any, .any, .any, .any] [(.o 0, .flat (SBatch.c (SCs.b g))), (.o 1, .rows 2 n (fun i => SBatch.c (O i)) true)] 2 []) (.exit 2) (St.mk [.any, .any, .any, .any, .any, .any, .any, .any, .any, .any, .any, .any, .ptr (.o 0) 0 0 0 0, .any, .any, .any, .any, .any, .any, .any, .int .i64 (SCs.s g), .any, .any, .any, .any, .any, .any, .any, .any, .any, .sl (.o 1) 2 0 0 0 n none, .any, .any, .any, .any, .any, .any, .any, .any, .any, .any, .any, .any, .any, .any, .any, .any, .any, .any, .any, .any, .any, .any, .any, .any, .any, .any, .any, .any, .any, .any, .any, .any, .any, .any, .any, .any, .any, .any, .any, .any, .any, .any, .any, .any, .any, .any, .any, .any, .any, .any, .any, .any, .any, .any, .any, .any, .any, .any, .any, .any, .any, .any, .any, .any, .any, .any, .any, .any, .any, .any, .any, .any, .any, .any, .any, .any, .any, .any, .any, .any, .any, .any, .any, .any, .any, .any, .any, .any, .any, .any, .any, .any, .any, .any, .any, .any, .any, .any, .any, .any, .any, .any, .any, .any, .any, .any, .any, .any, .any, .any, .any, .any, .any, .any, .any, .any, .any, .any, .any, .any, .any, .any, .any, .any, .any, .any, .any, .any, .any, .any, .any, .any, .any, .any, .any, .any, .any, .any, .any, .any, .any, .any, .any, .any, .any, .any, .any, .any, .any, .any, .any, .any, .any, .any, .any, .any, .any, .any, .any, .any, .any, .any, .ros 1 (List.length (SCs.sl g)) (li (SCs.sl g)) false, .int .i64 (↑(List.length (SCs.sl g)) : Int), .int .i64 (↑(List.length (SCs.sl g)) : Int), .any, .any, .any, .any, .any, .any, .any, .any, .any, .any, .any, .any, .any, .any, .any, .any, .any, .any, .any, .any, .any, .any, .any, .any] [(.o 0, .flat (SBatch.c (SCs.b g))), (.o 1, .rows 2 n (fun i => SBatch.c (O i)) true)] 2 []), q (SBatch.noop (SCs.b g)), q (SBatch.n (SCs.b g)), ∀ (k : Nat), k < SBatch.n (SCs.b g) → SReq.c (SBatch.req (SCs.b g) k) = SReq.c (SBatch.req (SCs.b g) k), false = true → false = true, q n, ∀ (k : Nat), k < n → SBatch.c (O k) = SBatch.c (O k), true = false → true = false, q0, q0, q0, q (SCs.s g), q0, q0, q0, q n, (none : Option Nat) = none ∨ (none : Option Nat) = none, q (List.length (SCs.sl g)), ∀ (k : Nat), k < List.length (SCs.sl g) → [V.int IntKind.i64 (List.getD (SCs.sl g) k (0 : Int))] = [V.int IntKind.i64 (List.getD (SCs.sl g) k (0 : Int))], false = true → false = true, q (↑(List.length (SCs.sl g)) : Int), q1, T Tryz.prog 11 [] [] (.bool true) []]))) : Option (V × Heap × List Prop)) := by kernel_rfl

set_option maxRecDepth 8000 in
theorem caLoop (g : SCs) (F : Nat) (hF : F ≤ 1000) (hv : 0 ≤ g.v ∧ g.v < 1000) (hN : g.N ≤ 64) (hm : g.m ≤ 1000) :
  RLoop Tryz.prog none 0 caC (g.N + 1) (caI g 0 (xsL g []) (F : Nat) 0) (.exit 0) (caI g (tlA g F g.N).1.length (xsL g (tlA g F g.N).1) ((tlA g F g.N).2 : Nat) g.N) := by
 have hend : R Tryz.prog none 0 caC (caI g (tlA g F g.N).1.length (xsL g (tlA g F g.N).1) ((tlA g F g.N).2 : Nat) g.N) (.exit 0) (caI g (tlA g F g.N).1.length (xsL g (tlA g F g.N).1) ((tlA g F g.N).2 : Nat) g.N) := by
  obtain ⟨b1, b2, _, _⟩ := tellA_inv g.held g.m (lieS g) g.v g.A g.H F g.N
  generalize tlA g F g.N = T at *
  obtain ⟨L, left⟩ := T
  show R Tryz.prog none 0 caC (caI g L.length (xsL g L) (left : Nat) g.N) (.exit 0) (caI g L.length (xsL g L) (left : Nat) g.N)
  refine R_alongPc NG MO _ (pcCa_p0 g L.length (xsL g L) (left : Nat) g.N {} (left : Nat) (xsL g L) L.length) ?_ (Nat.zero_le _)
  simp only [All, All_append, bdCs_c, Int.toNat_natCast]; and_intros
  all_goals first
   | exact True.intro
   | (with_reducible assumption)
   | (rw [decide_eq_true_eq]; omega)
   | (rw [decide_eq_false_iff_not]; omega)
   | with_reducible rfl
   | (intro _ _; exact True.intro)
   | (intro _ _; with_reducible rfl)
   | (intro _ _; rfl)
   | (simp only [IntKind.min, IntKind.max, IntKind.signed, IntKind.bits, if_true]; omega)
   | omega
   | (intro h; exact h)
   | (intro h; cases h; done)
   | exact .inl rfl
   | exact .inl True.intro
   | exact .inr rfl
   | (simp; done)
 exact RLoop.inv (fun i => caI g (tlA g F i).1.length (xsL g (tlA g F i).1) ((tlA g F i).2 : Nat) i) g.N (fun i hi => caStep g F hF hv hN hm i hi) hend (by simp)
end Go.Proofs.YtlakhciklfkocaaGreat
namespace Sy
open Go
variable {P : Program} {U : Imm} {ρ : Env}
theorem frz_ok {pre : Heap} {w : World} (hh : HRel U ρ pre w) : U.le (freeze U ρ pre w) ∧ Frozen U (freeze U ρ pre w) ρ pre ∧ HRel (freeze U ρ pre w) ρ [] w := by
 have hfU : ∀ n b l, (n, b) ∈ pre → ρ n = some l → l.real = true → U l.blk = none := fun n b l hm e hr => by
  obtain ⟨_, _, _, h⟩ := hh.real hm e hr; exact h
 refine ⟨fun k c e => ?_, fun n b hm l e hr => ?_, ?_⟩
 ·unfold freeze
  split
  ·rename_i hx
   obtain ⟨n, b, l, h1, h2, h3, rfl⟩ := hx
   rw [hfU n b l h1 h2 h3] at e; cases e
  ·exact e
 ·have hex : ∃ n b l', (n, b) ∈ pre ∧ ρ n = some l' ∧ l'.real = true ∧ l'.blk = l.blk := ⟨n, b, l, hm, e, hr, rfl⟩
  obtain ⟨o, h1, h2, h3⟩ := hh.real hm e hr
  constructor
  ·rintro cs rfl
   obtain ⟨c, el, lo, hi, rfl, _, _, h4⟩ := h2
   exact ⟨c, by unfold freeze; rw [if_pos hex, h1], h4⟩
  ·rintro es m f g rfl
   obtain ⟨c, el, lo, hi, rfl, _, _, _, _, h4⟩ := h2
   exact ⟨c, by unfold freeze; rw [if_pos hex, h1], h4⟩
 ·refine ⟨fun n b hm => absurd hm List.not_mem_nil, fun n b n' b' l l' hm => absurd hm List.not_mem_nil, List.nodup_nil, fun k c hk => ?_⟩
  unfold freeze at hk
  split at hk
  ·split at hk
   ·rename_i c' el fr hx
    simp only [Option.some.injEq] at hk; subst hk
    exact ⟨el, fr, hx⟩
   ·cases hk
  ·exact hh.imm k c hk
theorem Leaves.frz {pre post : Heap} {w w' : World} {val : V} {x : Value} {U' : Imm} {ρ' : Env} (H : HRel U ρ pre w) (L : Leaves (freeze U ρ pre w) ρ [] w val post x U' ρ' w') : Leaves U ρ pre w val post x U' ρ' w' := by
 refine ⟨L.val, L.heap, L.keep, L.only, ⟨L.ext.size, Imm.le_trans (frz_ok H).1 L.ext.imm, fun b hb _ => L.ext.frame b hb fun n l ⟨b, hb⟩ => absurd hb List.not_mem_nil, fun n l hd e hr => ?_, fun b c e => ?_, L.ext.out⟩⟩
 ·rcases L.ext.new n l hd e hr with h | ⟨_, _, ⟨b, hb⟩, _⟩
  ·exact .inl h
  ·exact absurd hb List.not_mem_nil
 ·rcases L.ext.newImm b c e with h | h | ⟨_, _, ⟨b, hb⟩, _⟩
  ·unfold freeze at h
   split at h
   ·rename_i hx
    obtain ⟨n, b', l, h1, h2, h3, h4⟩ := hx
    exact .inr (.inr ⟨n, l, ⟨b', h1⟩, h2, h3, h4⟩)
   ·exact .inl h
  ·exact .inr (.inl h)
  ·exact absurd hb List.not_mem_nil
/-- What holds of values that can't be turned holds of such as nobody turns any more. -/
theorem T.frz {f : FuncId} {args args' : List V} {pre post : Heap} {val : V} (h : T P f args [] val post)
  (hw : ∀ U ρ w xs, HRel U ρ pre w → VsRel U ρ args' xs → VsRel (freeze U ρ pre w) ρ args xs) (hd : ∀ n, Heap.dom post n → ¬ Heap.dom pre n) : T P f args' pre val post := by
 intro U ρ w xs hh ha hf
 refine Calls.mono (h _ ρ w xs (frz_ok hh).2.2 (hw U ρ w _ hh ha) fun n hn => .inr ((hf n hn).resolve_left (hd n hn))) ?_
 rintro e w' ⟨x, U', ρ', he, L⟩
 exact ⟨x, U', ρ', he, Leaves.frz hh L⟩
theorem TO.frz {pr : Prim} {args args' : List V} {pre post : Heap} {val : V} (h : TO P pr args [] val post)
  (hw : ∀ U ρ w xs, HRel U ρ pre w → VsRel U ρ args' xs → VsRel (freeze U ρ pre w) ρ args xs) (hd : ∀ n, Heap.dom post n → ¬ Heap.dom pre n) : TO P pr args' pre val post := by
 intro ty U ρ w xs hh ha hf
 obtain ⟨x, w', U', ρ', he, L⟩ := h ty _ ρ w xs (frz_ok hh).2.2 (hw U ρ w _ hh ha) fun n hn => .inr ((hf n hn).resolve_left (hd n hn))
 exact ⟨x, w', U', ρ', he, Leaves.frz hh L⟩
/-- Arguments that are taken for weaker ones, as blocks are only looked at from then on. -/
theorem hw_of {pre : Heap} {args args' : List V} {cs : List Prop} (hl : leVs pre args' args = some cs) (hc : All cs) : ∀ U ρ w xs, HRel U ρ pre w → VsRel U ρ args' xs → VsRel (freeze U ρ pre w) ρ args xs :=
 fun _ _ _ xs H hv => leVs_ok (frz_ok H).1 (frz_ok H).2.1 _ _ _ xs hl hc hv
theorem CsRel.at {cs : List V} {l : List Value} (h : CsRel U ρ cs l) (hc : ∀ v ∈ cs, V.cell v = true) : ∀ (i : Nat) (v : V), cs[i]? = some v → ∃ z : Value, l[i]? = some z ∧ VRel U ρ v z := by
 induction cs generalizing l with
 | nil => intro i v e; simp at e
 | cons a t ih =>
  rw [CsRel] at h
  obtain ⟨l1, l2, rfl, h1, h2⟩ := h
  have ha := hc a (List.mem_cons_self ..)
  rcases h1 with ⟨k, m, xs, rfl, _⟩ | ⟨_, x, rfl, hx⟩
  ·cases ha
  ·intro i v e
   cases i with
   | zero => simp only [List.getElem?_cons_zero, Option.some.injEq] at e; subst e; exact ⟨x, rfl, hx⟩
   | succ i => exact ih h2 (fun v hv => hc v (List.mem_cons_of_mem _ hv)) i v (by simpa using e)
theorem VRel.ros {U U' : Imm} {ρ ρ' : Env} (hU : U.le U') {es len : Nat} {f : Nat → List V} {clip : Bool} {z : Value} (h : VRel U ρ (.ros es len f clip) z) : VRel U' ρ' (.ros es len f clip) z := by
 have := VRel.mono (ρ' := ρ) hU (fun _ _ h => h) h
 rw [VRel] at this ⊢; exact this
end Sy
namespace Go.Proofs.YtlakhciklfkocaaGreat
open Go Sy Go.Proofs
theorem hpL_getD (l : List SHeld) : hpL l.length (fun g => l.getD g {}) = l := by
 apply List.ext_getElem
 ·simp [hpL]
 ·intro i h1 h2
  simp [hpL, List.getD_eq_getElem?_getD, List.getElem?_eq_getElem h2]
theorem hsL_take (g : SCs) (L : List (List SHeld)) : ∀ n, n ≤ L.length → hsL (xsL g L) n = (L.take n).flatten
 | 0, _ => by simp [hsL]
 | n + 1, h => by
  have ih := hsL_take g L n (by omega)
  have e : hpL ((xsL g L) n).hn ((xsL g L) n).hf = L.getD n [] := hpL_getD (L.getD n [])
  rw [hsL, ih, e, List.take_add_one, List.flatten_append, List.getD_eq_getElem?_getD, List.getElem?_eq_getElem (by omega : n < L.length)]
  simp
theorem hsL_all (g : SCs) (L : List (List SHeld)) : hsL (xsL g L) L.length = L.flatten := by
 rw [hsL_take g L _ (Nat.le_refl _), List.take_length]
theorem slotL_mem (e : SEp) (ld : Int) (k : Nat) (h : e.lead.getD (k % e.lead.length) 0 = ld) : ∀ n, k < n → (slotL e ld n).length ≠ 0
 | 0, hk => absurd hk (Nat.not_lt_zero k)
 | n + 1, hk => by
  rw [slotL]
  by_cases e1 : k = n
  ·subst e1; rw [if_pos h]; simp
  ·have := slotL_mem e ld k h n (by omega)
   split
   ·simp
   ·exact this
theorem light_data {b : SBatch} (h : lightB b = true) (hd : ∀ k, k < b.n → (b.req k).data.size ≤ 9223372036854775807) : ∀ k, k < b.n → (b.req k).data.size ≤ 4000 := by
 intro k hk
 have h0 := of_decide_eq_true h
 have h1 := lightR_over b.req b.n (m := k + 1) (by omega) h0
 rw [lightR] at h1
 have h2 := (lightR_range (n0 := 5) (by decide) b.req k)
 have h3 := addS_range h2.1 (more := 20) (by decide)
 unfold addS at h1 h3
 have := hd k hk
 omega
theorem T_choF (e : SEp) (ld : Int) (n : Nat) (x : Nat → SChg) (hl : e.lead.length ≤ 1000000) (hn : n ≤ 1000000) (hx : ∀ i, i < n → (x i).hn ≤ 1000000) (m : Nat) (hm : 4 ≠ m) : T Tryz.prog 16 [.agg e.c, .int .i64 ld, csl 4 n] [(.o 4, clB n x)] (bsl m (slotsE e ld).length) [(.o m, bsB (slotsE e ld).length (chO e ld n x))] := by
 have h1 := T_cho e ld n x hl hn hx
 obtain ⟨σ, hσ, h3⟩ := T.at h1 [.o 0] [.o m] (by decide) (by simp) rfl
 simp only [List.map_cons, List.map_nil, List.cons.injEq, and_true] at hσ
 have h4 : T Tryz.prog 16 [.agg e.c, .int .i64 ld, chv n x] [] (bsl m (slotsE e ld).length) [(.o m, bsB (slotsE e ld).length (chO e ld n x))] := by
  simpa [V.rens, V.ren, Heap.ren, Sy.B.ren, bsB, bsl, hσ, SEp.c, SCfg.c, lr, chv] using h3
 refine T.frz h4 (hw_of rfl ?_) ?_
 ·simp only [All]; and_intros
  all_goals first
   | exact True.intro
   | (intro k hk; rw [Nat.zero_add])
   | (with_reducible assumption)
   | (rw [decide_eq_true_eq]; omega)
   | (rw [decide_eq_false_iff_not]; omega)
   | with_reducible rfl
   | (intro _ _; exact True.intro)
   | (intro _ _; with_reducible rfl)
   | (intro _ _; rfl)
   | (simp only [IntKind.min, IntKind.max, IntKind.signed, IntKind.bits, if_true]; omega)
   | omega
   | (intro h; exact h)
   | (intro h; cases h; done)
   | exact .inl rfl
   | exact .inl True.intro
   | exact .inr rfl
   | (simp; done)
 ·rintro n ⟨b, hb⟩ ⟨b2, hb2⟩
  rw [List.mem_singleton] at hb hb2
  cases hb; cases hb2; exact hm rfl
set_option maxRecDepth 8000 in
theorem cfLoop (sl : List Int) (s : Int) (b : SBatch) (O : Nat → SBatch) (hn : sl.length ≤ 1000000) (hb : b.n ≤ 1000000) (hO : ∀ k, k < sl.length → sl.getD k 0 = s → O k = b) :
  RLoop Tryz.prog none 0 cfC (sl.length + 1) (cfI sl s b sl.length O 0) (.exit 2) (cfI sl s b sl.length O sl.length) := by
 have hS := T_sm2 b hb
 have hstep : ∀ i, i < sl.length → R Tryz.prog none 0 cfC (cfI sl s b sl.length O i) .normal (cfI sl s b sl.length O (i + 1)) := by
  intro i hi
  by_cases h : sl.getD i 0 = s
  ·have e := hO i hi h
   refine R_alongPc NG MO _ (pcCf_p1100 sl s b sl.length O i) ?_ (Nat.zero_le _)
   simp only [All, Int.toNat_natCast, Nat.zero_add, e]; and_intros
   all_goals first
    | exact True.intro
    | exact hS
    | exact decide_eq_true h
    | exact decide_eq_false (by omega)
    | (with_reducible assumption)
    | (rw [decide_eq_true_eq]; omega)
    | (rw [decide_eq_false_iff_not]; omega)
    | with_reducible rfl
    | (intro _ _; exact True.intro)
    | (intro _ _; with_reducible rfl)
    | (intro _ _; rfl)
    | (simp only [IntKind.min, IntKind.max, IntKind.signed, IntKind.bits, if_true]; omega)
    | omega
    | (intro h; exact h)
    | (intro h; cases h; done)
    | exact .inl rfl
    | exact .inl True.intro
    | exact .inr rfl
    | (simp; done)
  ·refine R_alongPc NG MO _ (pcCf_p100 sl s b sl.length O i) ?_ (Nat.zero_le _)
   simp only [All, Int.toNat_natCast, Nat.zero_add]; and_intros
   all_goals first
    | exact True.intro
    | exact decide_eq_false h
    | (with_reducible assumption)
    | (rw [decide_eq_true_eq]; omega)
    | (rw [decide_eq_false_iff_not]; omega)
    | with_reducible rfl
    | (intro _ _; exact True.intro)
    | (intro _ _; with_reducible rfl)
    | (intro _ _; rfl)
    | (simp only [IntKind.min, IntKind.max, IntKind.signed, IntKind.bits, if_true]; omega)
    | omega
    | (intro h; exact h)
    | (intro h; cases h; done)
    | exact .inl rfl
    | exact .inl True.intro
    | exact .inr rfl
    | (simp; done)
 have hend : R Tryz.prog none 0 cfC (cfI sl s b sl.length O sl.length) (.exit 2) (cfI sl s b sl.length O sl.length) := by
  refine R_alongPc NG MO _ (pcCf_p0 sl s b sl.length O sl.length) ?_ (Nat.zero_le _)
  simp only [All, Int.toNat_natCast]; and_intros
  all_goals first
   | exact True.intro
   | (with_reducible assumption)
   | (rw [decide_eq_true_eq]; omega)
   | (rw [decide_eq_false_iff_not]; omega)
   | with_reducible rfl
   | (intro _ _; exact True.intro)
   | (intro _ _; with_reducible rfl)
   | (intro _ _; rfl)
   | (simp only [IntKind.min, IntKind.max, IntKind.signed, IntKind.bits, if_true]; omega)
   | omega
   | (intro h; exact h)
   | (intro h; cases h; done)
   | exact .inl rfl
   | exact .inl True.intro
   | exact .inr rfl
   | (simp; done)
 exact RLoop.inv (fun i => cfI sl s b sl.length O i) sl.length hstep hend (by simp)
end Go.Proofs.YtlakhciklfkocaaGreat
namespace Go.Proofs.YtlakhciklfkocaaGreat
open Go Sy Go.Proofs
set_option maxHeartbeats 2000000 in
set_option maxRecDepth 8000 in
theorem T_csG (g : SCs) (leader ix view : Int) (who asked : List Int) (F : Nat) (d : List Int) (L : List (List SHeld)) (left : Nat) (O : Nat → SBatch) (n : Nat)
  (hlt : T Tryz.prog 8 [.agg g.e.c, .snil] [] (.bool true) []) (hgd : T Tryz.prog 9 [.agg g.e.c] [] (.bool true) [])
  (hlb : ∀ a, T Tryz.prog 10 [.sl (.o a) 2 0 0 0 1 (some 1)] [(.o a, .rows 2 1 (getL [g.b.c]) false)] (.bool true) [(.o a, .rows 2 1 (getL [g.b.c]) false)])
  (hw : who.length ≤ 500) (ha : asked.length ≤ 500) (hm : g.m ≤ 20) (hll : 0 < g.e.lead.length ∧ g.e.lead.length ≤ 100) (hN : g.e.cfg.nodes = (g.N : Int))
  (hle : g.e.lead.getD (IntKind.wrap .u64 leader % IntKind.wrap .u64 g.e.lead.length).toNat 0 = g.lead) (hS : T Tryz.prog 12 [.agg g.e.c, .int .i64 g.lead] [] (lr g.sl) [])
  (hsl : 0 < g.sl.length ∧ g.sl.length ≤ 256) (hs : g.sl.getD (IntKind.wrap .u64 ix % IntKind.wrap .u64 g.sl.length).toNat 0 = g.s) (hv : IntKind.wrap .u64 view % 1000 = g.v)
  (hb : g.held.batch = g.b) (hk : g.held.cert.vote.kind = 1) (he : g.held.cert.vote.epoch = g.e.num) (hvw : g.held.cert.vote.view = g.v) (hslt : g.held.cert.vote.slot = g.s) (hd : g.held.cert.vote.digest = d) (hcn : g.held.cert.n = 0)
  (hdg : T Tryz.prog 13 [.agg g.b.c] [] (agD d) [])
  (hH : ∀ a, T Tryz.prog 14 [.int .i64 g.N, lr who] [] (sX a g.N) [(.o a, bB g.N g.H)]) (hA : ∀ a, T Tryz.prog 14 [.int .i64 g.N, lr asked] [] (sX a g.N) [(.o a, bB g.N g.A)])
  (hF : T Tryz.prog 15 [.int .i64 g.N] [] (.int .i64 (F : Nat)) [])
  (hL : RLoop Tryz.prog none 0 caC (g.N + 1) (caI g 0 (xsL g []) (F : Nat) 0) (.exit 0) (caI g L.length (xsL g L) (left : Nat) g.N))
  (hC : ∀ a, 4 ≠ a → T Tryz.prog 16 [.agg g.e.c, .int .i64 g.lead, csl 4 L.length] [(.o 4, clB L.length (xsL g L))] (bsl a n) [(.o a, bsB n O)])
  (hL2 : RLoop Tryz.prog none 0 cfC (g.sl.length + 1) (cfI g.sl g.s g.b n O 0) (.exit 2) (cfI g.sl g.s g.b n O g.sl.length)) :
  T Tryz.prog 3 [.agg g.e.c, .int .i64 leader, .int .i64 ix, .int .i64 view, .agg g.b.c, lr who, lr asked, hl g.m g.lie] [] (.bool true) [] := by
 have w1 := wr64 leader
 have w2 := wr64 ix
 have w3 := wr64 view
 have e1 := wr64_id (x := (g.e.lead.length : Int)) (by omega) (by omega)
 have e2 := wr64_id (x := (g.sl.length : Int)) (by omega) (by omega)
 have m1 := Int.emod_nonneg (IntKind.wrap .u64 leader) (b := (g.e.lead.length : Int)) (by omega)
 have m2 := Int.emod_lt_of_pos (IntKind.wrap .u64 leader) (b := (g.e.lead.length : Int)) (by omega)
 have m3 := Int.emod_nonneg (IntKind.wrap .u64 ix) (b := (g.sl.length : Int)) (by omega)
 have m4 := Int.emod_lt_of_pos (IntKind.wrap .u64 ix) (b := (g.sl.length : Int)) (by omega)
 have hlv := T_lv
 rw [← hle] at hS
 unfold caC at hL
 unfold cfC at hL2
 refine T_al (bdCs_p000000 g leader ix view who asked F d L.length (xsL g L) left n O true true true) Tryz.func3 ?_
 simp only [All, All_append, bdCs_c]; and_intros
 all_goals first
  | trivial
  | rfl
  | exact hlt
  | exact hgd
  | exact hlb _
  | exact decide_eq_false (by omega)
  | exact hN
  | exact hle
  | exact hs
  | exact hv
  | exact hS
  | exact hdg
  | exact hH _
  | exact hA _
  | exact hF
  | exact hL
  | exact hL2
  | exact hC _ (by decide)
  | exact hlv
  | (rw [hb]; done)
  | (intro _ _; rfl)
  | (intro _ _; rw [hb]; done)
  | exact hk.symm
  | exact he.symm
  | exact hd.symm
  | exact hcn
  | (rw [hvw]; exact hv)
  | (rw [hslt]; exact hs)
  | (intro h; exact h)
  | (intro k h; exact absurd h (Nat.not_lt_zero k))
  | exact .inl rfl
  | (intro _ _; exact True.intro)
  | omega
  | (rw [e1]; omega)
  | (rw [e2]; omega)
  | exact InR64.2 (by omega)
  | (simp only [IntKind.min, IntKind.max, IntKind.signed, IntKind.bits]; simp; omega)
  | (rw [e1]; simp only [IntKind.min, IntKind.max, IntKind.signed, IntKind.bits]; simp; omega)
  | (rw [e2]; simp only [IntKind.min, IntKind.max, IntKind.signed, IntKind.bits]; simp; omega)
end Go.Proofs.YtlakhciklfkocaaGreat
namespace Go.Proofs.YtlakhciklfkocaaGreat
open Go Sy Go.Proofs
def segBatchZ (b : SBatch) : Prop := ∀ k, k < b.n → (num63 (b.req k).client ∧ num63 (b.req k).num) ∧ SegOk 16 (b.req k).tag
theorem T_pkA {N : Nat} (hN : 4 ≤ N ∧ N ≤ 64) {l : List Int} (hl : l.length ≤ 500) {M : Nat} (h0M : 0 < M) (hMN : M ≤ N) (hmo : mostS N = M) :
  ∃ X, cntX N X = M ∧ ∀ a, T Tryz.prog 14 [.int .i64 N, lr l] [] (sX a N) [(.o a, bB N X)] := by
 obtain ⟨X, hX, h⟩ := T_ch hN (l := l) (by omega) h0M hMN hmo
 refine ⟨X, hX, fun a => ?_⟩
 obtain ⟨σ, hσ, h3⟩ := T.at h [.o 0] [.o a] (by decide) (by simp) rfl
 simp only [List.map_cons, List.map_nil, List.cons.injEq, and_true] at hσ
 simpa [V.rens, V.ren, Heap.ren, Sy.B.ren, bB, sX, hσ, lr] using h3
theorem getD_memN {l : List Int} {i : Nat} (h : i < l.length) : l.getD i 0 ∈ l := mem_getD.2 ⟨i, h, rfl⟩
theorem tellA_short (g : SCs) (F n : Nat) : ∀ l ∈ (tlA g F n).1, l.length ≤ 1 := by
 intro l hl
 obtain ⟨_, _, h3, _⟩ := tellA_inv g.held g.m (lieS g) g.v g.A g.H F n
 rcases h3 l hl with e | e | ⟨i, _, _, e⟩ <;> subst e <;> simp
theorem T_csM (e : SEp) (leader ix view : Int) (b : SBatch) (who asked : List Int) (m : Nat) (lie : Nat → SHeld)
  (hb : b.n ≤ 9223372036854775807 ∧ ∀ k, k < b.n → (b.req k).data.size ≤ 9223372036854775807) (hz : segBatchZ b)
  (h100 : e.lead.length ≤ 100) (hgd : goodEp e = true) (hlb : lightB b = true) (hw : who.length ≤ 500) (ha : asked.length ≤ 500) (hm : m ≤ 20) :
  T Tryz.prog 3 [.agg e.c, .int .i64 leader, .int .i64 ix, .int .i64 view, .agg b.c, lr who, lr asked, hl m lie] [] (.bool true) [] := by
 have hg := hgd
 simp only [goodEp, Bool.and_eq_true, decide_eq_true_eq] at hg
 obtain ⟨hc, _, hl0, hr, _⟩ := hg
 obtain ⟨⟨s1, s2⟩, n1, n2, n3⟩ := cfgB hc
 obtain ⟨z0, z1⟩ := sizeB hc hr
 have hgn : goodN e.cfg.nodes = true := goodN_iff.2 ⟨n1, n2, n3⟩
 obtain ⟨N, hN⟩ : ∃ N : Nat, e.cfg.nodes = (N : Int) := ⟨e.cfg.nodes.toNat, by omega⟩
 have hmo : mostS (N : Int) = ((2 * (N / 3) + 1 : Nat) : Int) := by
  rw [mostS, shareS, ← hN, if_pos hgn, hN]; omega
 have hfa : fauS (N : Int) = ((N / 3 : Nat) : Int) := by
  rw [fauS, ← hN, if_pos hgn, hN]; omega
 rw [hN] at n1 n2 n3
 have hF := T_fa (N : Int)
 rw [hfa] at hF
 obtain ⟨H, hHc, hH⟩ := T_pkA (N := N) (by omega) hw (M := 2 * (N / 3) + 1) (by omega) (by omega) hmo
 obtain ⟨A, hAc, hA⟩ := T_pkA (N := N) (by omega) ha (M := 2 * (N / 3) + 1) (by omega) (by omega) hmo
 have hand := cntX_and N A H
 have hq : N / 3 < cntX N (fun j => A j && H j) := by omega
 have w1 := wr64 leader
 have e1 := wr64_id (x := (e.lead.length : Int)) (by omega) (by omega)
 have m1 := Int.emod_nonneg (IntKind.wrap .u64 leader) (b := (e.lead.length : Int)) (by omega)
 have m2 := Int.emod_lt_of_pos (IntKind.wrap .u64 leader) (b := (e.lead.length : Int)) (by omega)
 rw [← e1] at m1 m2
 rw [e1] at m2
 generalize hi0 : (IntKind.wrap .u64 leader % IntKind.wrap .u64 (e.lead.length : Int)).toNat = i0
 have hi : i0 < e.lead.length := by
  rw [← hi0, e1]; omega
 generalize hlead : e.lead.getD i0 0 = lead
 have hmem : lead ∈ e.lead := by rw [← hlead]; exact getD_memN hi
 have hask : askB e lead = true := by rw [askB, hgd, decide_eq_true hmem]; rfl
 have hslE : slotsE e lead = slotL e lead (sizeE e).toNat := by rw [slotsE, if_pos hask]
 have hsz : i0 < (sizeE e).toNat := by
  have : (e.lead.length : Int) * 1 ≤ sizeE e := Int.mul_le_mul_of_nonneg_left s1 (by omega)
  omega
 have hne := slotL_mem e lead i0 (by rw [Nat.mod_eq_of_lt hi]; exact hlead) _ hsz
 rw [← hslE] at hne
 have hle2 := slotsE_len e lead
 have hS := T_sl e lead (by omega)
 have hCh := fun (n : Nat) (x : Nat → SChg) => T_choF e lead n x (by omega)
 have hchO : ∀ n x k, chO e lead n x k = (bestF ((slotsE e lead).getD k 0) (hsL x n)).1 := fun _ _ _ => rfl
 generalize slotsE e lead = sl at *
 obtain ⟨d, hdl, hdg⟩ := T_dg13 b ⟨by have := lightB_n hlb; omega, fun k hk => ⟨(hz k hk).1.1, (hz k hk).1.2, by have := light_data hlb hb.2 k hk; omega, (hz k hk).2⟩, fun k hk => by have := light_data hlb hb.2 k hk; omega⟩
 have w3 := wr64 view
 generalize hv : IntKind.wrap .u64 view % 1000 = v
 have hv2 : 0 ≤ v ∧ v < 1000 := by omega
 generalize hs : sl.getD (IntKind.wrap .u64 ix % IntKind.wrap .u64 (sl.length : Int)).toNat 0 = s
 have hlt : T Tryz.prog 8 [.agg e.c, .snil] [] (.bool true) [] := by
  have := T_lt e
  rwa [decide_eq_true h100] at this
 have hge := T_gd e (by omega)
 rw [hgd] at hge
 have hlB := T_light b hb.2 hb.1
 rw [hlb] at hlB
 have hbn := lightB_n hlb
 let g : SCs := { e := e, lead := lead, sl := sl, s := s, v := v, b := b, held := { batch := b, cert := { vote := { kind := 1, epoch := e.num, view := v, slot := s, digest := d } } }, m := m, lie := lie, N := N, H := H, A := A }
 have hL := caLoop g (N / 3) (by omega) hv2 (by show N ≤ 64; omega) (by show m ≤ 1000; omega)
 have hbest := tell_best (held := g.held) (m := m) (lie := lieS g) (v := v) (slot := s) (asked := A) (holds := H) (F := N / 3) (n := N) hv2.1 rfl rfl hq
 have hbest : (bestF s (tlA g (N / 3) N).1.flatten).1 = b := hbest
 have hsh := tellA_short g (N / 3) N
 have hlen : (tlA g (N / 3) N).1.length ≤ N := (tellA_inv g.held g.m (lieS g) g.v g.A g.H (N / 3) N).2.1
 have hL : RLoop Tryz.prog none 0 caC (N + 1) (caI g 0 (xsL g []) ((N / 3 : Nat) : Int) 0) (.exit 0) (caI g (tlA g (N / 3) N).1.length (xsL g (tlA g (N / 3) N).1) ((tlA g (N / 3) N).2 : Nat) N) := hL
 generalize (tlA g (N / 3) N).2 = left at *
 generalize (tlA g (N / 3) N).1 = L at *
 have hO : ∀ k, k < sl.length → sl.getD k 0 = s → chO e lead L.length (xsL g L) k = b := by
  intro k _ hk
  rw [hchO, hk, hsL_all]; exact hbest
 have hxs : ∀ i, i < L.length → ((xsL g L) i).hn ≤ 1000000 := by
  intro i hi
  have : ((xsL g L) i).hn = (L.getD i []).length := rfl
  rw [this, List.getD_eq_getElem?_getD, List.getElem?_eq_getElem hi]
  have := hsh _ (List.getElem_mem hi)
  simp only [Option.getD_some]; omega
 exact T_csG g leader ix view who asked (N / 3) d L left (chO e lead L.length (xsL g L)) sl.length hlt hge hlB hw ha hm ⟨by show 0 < e.lead.length; omega, h100⟩ hN (by show e.lead.getD (IntKind.wrap .u64 leader % IntKind.wrap .u64 (e.lead.length : Int)).toNat 0 = lead; rw [hi0]; exact hlead) hS ⟨by show 0 < sl.length; omega, hle2⟩ hs hv rfl rfl rfl rfl rfl rfl rfl hdg hH hA hF hL
  (fun a ha => hCh L.length (xsL g L) (by omega) hxs a ha)
  (cfLoop sl s b (chO e lead L.length (xsL g L)) (by omega) (by omega) hO)
theorem T_cs (e : SEp) (leader ix view : Int) (b : SBatch) (who asked : List Int) (m : Nat) (lie : Nat → SHeld)
  (hb : b.n ≤ 9223372036854775807 ∧ ∀ k, k < b.n → (b.req k).data.size ≤ 9223372036854775807) (hz : segBatchZ b) :
  T Tryz.prog 3 [.agg e.c, .int .i64 leader, .int .i64 ix, .int .i64 view, .agg b.c, lr who, lr asked, hl m lie] [] (.bool true) [] := by
 have hlv := T_lv
 have hlt := T_lt e
 have hlB := T_light b hb.2 hb.1
 let g : SCs := { e := e, b := b, m := m, lie := lie }
 have key : ∀ (lt gd lb : Bool), T Tryz.prog 8 [.agg e.c, .snil] [] (.bool lt) [] → (lt = true → T Tryz.prog 9 [.agg e.c] [] (.bool gd) []) → (∀ a, T Tryz.prog 10 [.sl (.o a) 2 0 0 0 1 (some 1)] [(.o a, .rows 2 1 (getL [b.c]) false)] (.bool lb) [(.o a, .rows 2 1 (getL [b.c]) false)]) →
   (lt = true → gd = true → lb = true → who.length ≤ 500 → asked.length ≤ 500 → m ≤ 20 → T Tryz.prog 3 [.agg e.c, .int .i64 leader, .int .i64 ix, .int .i64 view, .agg b.c, lr who, lr asked, hl m lie] [] (.bool true) []) → T Tryz.prog 3 [.agg e.c, .int .i64 leader, .int .i64 ix, .int .i64 view, .agg b.c, lr who, lr asked, hl m lie] [] (.bool true) [] := by
  intro lt gd lb h1 h2 h3 h4
  cases hlt : lt with
  | false =>
   rw [hlt] at h1
   refine T_al (bdCs_p111111 g leader ix view who asked 0 [] 0 (xsL g []) 0 0 (fun _ => {}) false gd lb) Tryz.func3 ?_
   simp only [All, All_append, bdCs_c]; and_intros
   all_goals first
    | exact True.intro
    | exact h1
    | exact hlv
    | (with_reducible assumption)
    | (rw [decide_eq_true_eq]; omega)
    | (rw [decide_eq_false_iff_not]; omega)
    | with_reducible rfl
    | (intro _ _; exact True.intro)
    | (intro _ _; with_reducible rfl)
    | (intro _ _; rfl)
    | (simp only [IntKind.min, IntKind.max, IntKind.signed, IntKind.bits, if_true]; omega)
    | omega
    | (intro h; exact h)
    | (intro h; cases h; done)
    | exact .inl rfl
    | exact .inl True.intro
    | exact .inr rfl
    | (simp; done)
  | true =>
   rw [hlt] at h1
   have h2 := h2 hlt
   cases hgd : gd with
   | false =>
    rw [hgd] at h2
    refine T_al (bdCs_p011111 g leader ix view who asked 0 [] 0 (xsL g []) 0 0 (fun _ => {}) true false lb) Tryz.func3 ?_
    simp only [All, All_append, bdCs_c]; and_intros
    all_goals first
     | exact True.intro
     | exact h1
     | exact h2
     | exact hlv
     | (with_reducible assumption)
     | (rw [decide_eq_true_eq]; omega)
     | (rw [decide_eq_false_iff_not]; omega)
     | with_reducible rfl
     | (intro _ _; exact True.intro)
     | (intro _ _; with_reducible rfl)
     | (intro _ _; rfl)
     | (simp only [IntKind.min, IntKind.max, IntKind.signed, IntKind.bits, if_true]; omega)
     | omega
     | (intro h; exact h)
     | (intro h; cases h; done)
     | exact .inl rfl
     | exact .inl True.intro
     | exact .inr rfl
     | (simp; done)
   | true =>
    rw [hgd] at h2
    cases hlb : lb with
    | false =>
     rw [hlb] at h3
     refine T_al (bdCs_p001111 g leader ix view who asked 0 [] 0 (xsL g []) 0 0 (fun _ => {}) true true false) Tryz.func3 ?_
     simp only [All, All_append, bdCs_c]; and_intros
     all_goals first
      | exact True.intro
      | exact h1
      | exact h2
      | exact h3 _
      | exact hlv
      | (with_reducible assumption)
      | (rw [decide_eq_true_eq]; omega)
      | (rw [decide_eq_false_iff_not]; omega)
      | with_reducible rfl
      | (intro _ _; exact True.intro)
      | (intro _ _; with_reducible rfl)
      | (intro _ _; rfl)
      | (simp only [IntKind.min, IntKind.max, IntKind.signed, IntKind.bits, if_true]; omega)
      | omega
      | (intro h; exact h)
      | (intro h; cases h; done)
      | exact .inl rfl
      | exact .inl True.intro
      | exact .inr rfl
      | (simp; done)
    | true =>
     rw [hlb] at h3
     by_cases hw : who.length ≤ 500
     ·by_cases ha : asked.length ≤ 500
      ·by_cases hm : m ≤ 20
       ·exact h4 hlt hgd hlb hw ha hm
       ·refine T_al (bdCs_p000001 g leader ix view who asked 0 [] 0 (xsL g []) 0 0 (fun _ => {}) true true true) Tryz.func3 ?_
        simp only [All, All_append, bdCs_c]; and_intros
        all_goals first
         | exact True.intro
         | exact h1
         | exact h2
         | exact h3 _
         | exact hlv
         | exact decide_eq_false (by omega)
         | (refine decide_eq_true ?_; show (20 : Int) < (m : Int); omega)
         | (with_reducible assumption)
         | (rw [decide_eq_true_eq]; omega)
         | (rw [decide_eq_false_iff_not]; omega)
         | with_reducible rfl
         | (intro _ _; exact True.intro)
         | (intro _ _; with_reducible rfl)
         | (intro _ _; rfl)
         | (simp only [IntKind.min, IntKind.max, IntKind.signed, IntKind.bits, if_true]; omega)
         | omega
         | (intro h; exact h)
         | (intro h; cases h; done)
         | exact .inl rfl
         | exact .inl True.intro
         | exact .inr rfl
         | (simp; done)
      ·refine T_al (bdCs_p000011 g leader ix view who asked 0 [] 0 (xsL g []) 0 0 (fun _ => {}) true true true) Tryz.func3 ?_
       simp only [All, All_append, bdCs_c]; and_intros
       all_goals first
        | exact True.intro
        | exact h1
        | exact h2
        | exact h3 _
        | exact hlv
        | exact decide_eq_false (by omega)
        | exact decide_eq_true (by omega)
        | (with_reducible assumption)
        | (rw [decide_eq_true_eq]; omega)
        | (rw [decide_eq_false_iff_not]; omega)
        | with_reducible rfl
        | (intro _ _; exact True.intro)
        | (intro _ _; with_reducible rfl)
        | (intro _ _; rfl)
        | (simp only [IntKind.min, IntKind.max, IntKind.signed, IntKind.bits, if_true]; omega)
        | omega
        | (intro h; exact h)
        | (intro h; cases h; done)
        | exact .inl rfl
        | exact .inl True.intro
        | exact .inr rfl
        | (simp; done)
     ·refine T_al (bdCs_p000111 g leader ix view who asked 0 [] 0 (xsL g []) 0 0 (fun _ => {}) true true true) Tryz.func3 ?_
      simp only [All, All_append, bdCs_c]; and_intros
      all_goals first
       | exact True.intro
       | exact h1
       | exact h2
       | exact h3 _
       | exact hlv
       | exact decide_eq_false (by omega)
       | exact decide_eq_true (by omega)
       | (with_reducible assumption)
       | (rw [decide_eq_true_eq]; omega)
       | (rw [decide_eq_false_iff_not]; omega)
       | with_reducible rfl
       | (intro _ _; exact True.intro)
       | (intro _ _; with_reducible rfl)
       | (intro _ _; rfl)
       | (simp only [IntKind.min, IntKind.max, IntKind.signed, IntKind.bits, if_true]; omega)
       | omega
       | (intro h; exact h)
       | (intro h; cases h; done)
       | exact .inl rfl
       | exact .inl True.intro
       | exact .inr rfl
       | (simp; done)
 exact key _ (goodEp e) _ hlt (fun h => T_gd e (by have := of_decide_eq_true h; omega)) hlB (fun h1 h2 h3 hw ha hm => T_csM e leader ix view b who asked m lie hb hz (of_decide_eq_true h1) h2 h3 hw ha hm)
end Go.Proofs.YtlakhciklfkocaaGreat
namespace Go.Proofs.YtlakhciklfkocaaGreat
open Go Sy Go.Proofs
theorem cellsInt : Tryz.prog.cellsOf 3 = 1 := by kernel_rfl
theorem cellsSign : Tryz.prog.cellsOf 183 = 17 := by kernel_rfl
theorem cellsReq : Tryz.prog.cellsOf 135 = 19 := by kernel_rfl
theorem cellsHeld : Tryz.prog.cellsOf 46 = 39 := by kernel_rfl
def tab (f : Nat → Int) (n : Nat) : List Int := (List.range n).map f
theorem tab_len (f : Nat → Int) (n : Nat) : (tab f n).length = n := by simp [tab]
theorem tab_get {f : Nat → Int} {n i : Nat} (h : i < n) : (tab f n).getD i 0 = f i := by
 rw [tab, List.getD_eq_getElem?_getD, List.getElem?_map, List.getElem?_range h]; rfl
theorem seg_of {n : Nat} {xs : List Int} (h : xs.length = n) (h2 : ∀ x ∈ xs, InR .u8 x) : SegOk n xs := ⟨h, fun x hx => InR8.1 (h2 x hx)⟩
theorem sg_sign {d : Nat} {cs : List V} (h : ShC Tryz.prog d 183 cs) : ∃ s : SSign, cs = s.c ∧ SegOk 16 s.tag := by
 obtain ⟨d, a, _, rfl, ha, b, _, rfl, hb, rfl⟩ := sh_struct h Tryz.underlying183
 obtain ⟨n, rfl, _⟩ := sh_int ha Tryz.underlying3
 obtain ⟨xs, rfl, h1, h2⟩ := sh_arr hb Tryz.underlying76 Tryz.underlying5
 exact ⟨⟨n, xs⟩, rfl, seg_of h1 h2⟩
theorem sg_req {d : Nat} {cs : List V} (h : ShC Tryz.prog d 135 cs) : ∃ s : SReq, cs = s.c ∧ s.data.size ≤ 9223372036854775807 ∧ (num63 s.client ∧ num63 s.num) ∧ SegOk 16 s.tag := by
 obtain ⟨d, a, _, rfl, ha, b, _, rfl, hb, c, _, rfl, hc, e, _, rfl, he, rfl⟩ := sh_struct h Tryz.underlying135
 obtain ⟨n, rfl, hn⟩ := sh_int ha Tryz.underlying3
 obtain ⟨m, rfl, hm⟩ := sh_int hb Tryz.underlying3
 obtain ⟨s, rfl, hs⟩ := sh_str hc Tryz.underlying9
 obtain ⟨xs, rfl, h1, h2⟩ := sh_arr he Tryz.underlying76 Tryz.underlying5
 rw [InR64] at hn hm
 exact ⟨⟨n, m, s, xs⟩, rfl, hs, ⟨⟨hn.1, Int.lt_of_le_of_lt hn.2 (by decide)⟩, ⟨hm.1, Int.lt_of_le_of_lt hm.2 (by decide)⟩⟩, seg_of h1 h2⟩
theorem sg_dig {d : Nat} {cs : List V} (h : ShC Tryz.prog d 38 cs) : ∃ xs : List Int, cs = [.seg .u8 32 xs] ∧ SegOk 32 xs := by
 obtain ⟨xs, rfl, h1, h2⟩ := sh_arr h Tryz.underlying38 Tryz.underlying5
 exact ⟨xs, rfl, seg_of h1 h2⟩
theorem sg_vote {d : Nat} {cs : List V} (h : ShC Tryz.prog d 41 cs) : ∃ s : SVote, cs = s.c ∧ SegOk 32 s.digest := by
 obtain ⟨d, a, _, rfl, ha, b, _, rfl, hb, c, _, rfl, hc, e, _, rfl, he, f, _, rfl, hf, rfl⟩ := sh_struct h Tryz.underlying41
 obtain ⟨n, rfl, _⟩ := sh_int ha Tryz.underlying3
 obtain ⟨m, rfl, _⟩ := sh_int hb Tryz.underlying3
 obtain ⟨o, rfl, _⟩ := sh_int hc Tryz.underlying3
 obtain ⟨p, rfl, _⟩ := sh_int he Tryz.underlying3
 obtain ⟨xs, rfl, h1⟩ := sg_dig hf
 exact ⟨⟨n, m, o, p, xs⟩, rfl, h1⟩
theorem sg_signs (U : Imm) {d : Nat} {cs : List V} (h : ShC Tryz.prog d 42 cs) : ∃ n s, CsLe U cs [sg n s] ∧ n ≤ 9223372036854775807 ∧ ∀ i, i < n → SegOk 16 (s i).tag := by
 obtain ⟨d, len, f, rfl, hl, hf⟩ := sh_slice h Tryz.underlying42
 obtain ⟨s, hs⟩ := choose_fn fun i hi => sg_sign (hf i hi)
 refine ⟨len, s, ?_, hl, fun i hi => (hs i hi).2⟩
 rw [cellsSign]
 exact CsLe.ros fun i hi => by rw [(hs i hi).1]; exact CsLe.refl _ _
theorem sg_batch (U : Imm) {d : Nat} {cs : List V} (h : ShC Tryz.prog d 29 cs) : ∃ b : SBatch, CsLe U cs b.c ∧ (b.n ≤ 9223372036854775807 ∧ ∀ k, k < b.n → (b.req k).data.size ≤ 9223372036854775807) ∧ segBatchZ b := by
 obtain ⟨d, a, _, rfl, ha, b, _, rfl, hb, rfl⟩ := sh_struct h Tryz.underlying29
 obtain ⟨n, rfl⟩ := sh_bool ha Tryz.underlying4
 obtain ⟨d, len, f, rfl, hl, hf⟩ := sh_slice hb Tryz.underlying27
 obtain ⟨s, hs⟩ := choose_fn fun i hi => sg_req (hf i hi)
 refine ⟨⟨n, len, s⟩, ?_, ⟨hl, fun k hk => (hs k hk).2.1⟩, fun k hk => (hs k hk).2.2⟩
 rw [cellsReq]
 refine CsLe.app (CsLe.refl U [.bool n]) ?_
 exact CsLe.ros fun i hi => by rw [(hs i hi).1]; exact CsLe.refl _ _
theorem sg_cert (U : Imm) {d : Nat} {cs : List V} (h : ShC Tryz.prog d 44 cs) : ∃ c : SCert, CsLe U cs c.c := by
 obtain ⟨d, a, _, rfl, ha, b, _, rfl, hb, rfl⟩ := sh_struct h Tryz.underlying44
 obtain ⟨v, rfl, hv⟩ := sg_vote ha
 obtain ⟨n, s, hs, hn, ht⟩ := sg_signs U hb
 refine ⟨⟨v, n, s⟩, ?_⟩
 refine CsLe.app (CsLe.refl U v.c) ?_
 rw [List.append_nil]; exact hs
theorem sg_held (U : Imm) {d : Nat} {cs : List V} (h : ShC Tryz.prog d 46 cs) : ∃ c : SHeld, CsLe U cs c.c := by
 obtain ⟨d, a, _, rfl, ha, b, _, rfl, hb, rfl⟩ := sh_struct h Tryz.underlying46
 obtain ⟨b, hb1, hb2, hb3⟩ := sg_batch U ha
 obtain ⟨c, hc1⟩ := sg_cert U hb
 refine ⟨⟨b, c⟩, ?_⟩
 refine CsLe.app hb1 ?_
 rw [List.append_nil]; exact hc1
instance : Inhabited SHeld := ⟨{}⟩
theorem sg_helds (U : Imm) {d : Nat} {cs : List V} (h : ShC Tryz.prog d 30 cs) : ∃ n s, CsLe U cs [Sy.hl n s] ∧ n ≤ 9223372036854775807 := by
 obtain ⟨d, len, f, rfl, hl, hf⟩ := sh_slice h Tryz.underlying30
 obtain ⟨s, hs⟩ := choose_fn fun i hi => sg_held U (hf i hi)
 refine ⟨len, s, ?_, hl⟩
 rw [cellsHeld]
 exact CsLe.ros fun i hi => hs i hi
theorem sg_ints (U : Imm) {d : Nat} {cs : List V} (h : ShC Tryz.prog d 24 cs) : ∃ l : List Int, CsLe U cs [lr l] ∧ l.length ≤ 9223372036854775807 := by
 obtain ⟨d, len, f, rfl, hl, hf⟩ := sh_slice h Tryz.underlying24
 obtain ⟨s, hs⟩ := choose_fn (α := Int) (n := len) (p := fun i n => f i = [.int .i64 n]) fun i hi => by
  obtain ⟨n, h1, _⟩ := sh_int (hf i hi) Tryz.underlying3
  exact ⟨n, h1⟩
 refine ⟨tab s len, ?_, by rw [tab_len]; exact hl⟩
 rw [cellsInt, lr, tab_len]
 exact CsLe.ros fun i hi => by
  rw [hs i hi, li, tab_get hi]; exact CsLe.refl _ _
theorem sg_config {d : Nat} {cs : List V} (h : ShC Tryz.prog d 23 cs) : ∃ s : SCfg, cs = s.c ∧ True := by
 obtain ⟨d, a0, _, rfl, h0, a1, _, rfl, h1, a2, _, rfl, h2, a3, _, rfl, h3, a4, _, rfl, h4, a5, _, rfl, h5, a6, _, rfl, h6, a7, _, rfl, h7, a8, _, rfl, h8, a9, _, rfl, h9, rfl⟩ := sh_struct h Tryz.underlying23
 obtain ⟨n0, rfl, _⟩ := sh_int h0 Tryz.underlying3
 obtain ⟨n1, rfl, _⟩ := sh_int h1 Tryz.underlying3
 obtain ⟨n2, rfl, _⟩ := sh_int h2 Tryz.underlying3
 obtain ⟨n3, rfl, _⟩ := sh_int h3 Tryz.underlying3
 obtain ⟨n4, rfl, _⟩ := sh_int h4 Tryz.underlying3
 obtain ⟨n5, rfl, _⟩ := sh_int h5 Tryz.underlying3
 obtain ⟨n6, rfl, _⟩ := sh_int h6 Tryz.underlying3
 obtain ⟨n7, rfl, _⟩ := sh_int h7 Tryz.underlying3
 obtain ⟨n8, rfl, _⟩ := sh_int h8 Tryz.underlying3
 obtain ⟨n9, rfl, _⟩ := sh_int h9 Tryz.underlying3
 exact ⟨⟨n0, n1, n2, n3, n4, n5, n6, n7, n8, n9⟩, rfl, trivial⟩
theorem sg_epoch (U : Imm) {d : Nat} {cs : List V} (h : ShC Tryz.prog d 26 cs) : ∃ e : SEp, CsLe U cs e.c ∧ True := by
 obtain ⟨d, a0, _, rfl, h0, a1, _, rfl, h1, a2, _, rfl, h2, a3, _, rfl, h3, rfl⟩ := sh_struct h Tryz.underlying26
 obtain ⟨c, rfl, _⟩ := sg_config h0
 obtain ⟨n1, rfl, _⟩ := sh_int h1 Tryz.underlying3
 obtain ⟨n2, rfl, _⟩ := sh_int h2 Tryz.underlying3
 obtain ⟨l, hl, _⟩ := sg_ints U h3
 refine ⟨⟨c, n1, n2, l⟩, ?_, trivial⟩
 refine CsLe.app (CsLe.refl U c.c) ?_
 refine CsLe.app (CsLe.refl U [.int .i64 n1]) ?_
 refine CsLe.app (CsLe.refl U [.int .i64 n2]) ?_
 rw [List.append_nil]; exact hl
end Go.Proofs.YtlakhciklfkocaaGreat
