/-
  The values that the laws are told, as plain data, and their cells (own work of this seat).
-/
import Derived.Test.YthifjamdfpjilaaSyPlan
import Derived.Test.YthifjamdfpjilaaSyOpen
namespace Sy
open Go

structure SReq where
  client : Int := 0
  num : Int := 0
  data : ByteArray := .empty
  tag : List Int := []
structure SSign where
  node : Int := 0
  tag : List Int := []
structure SVote where
  kind : Int := 0
  epoch : Int := 0
  view : Int := 0
  slot : Int := 0
  digest : List Int := []
structure SBatch where
  noop : Bool := false
  n : Nat := 0
  req : Nat → SReq := fun _ => {}
structure SCert where
  vote : SVote := {}
  n : Nat := 0
  sig : Nat → SSign := fun _ => {}
structure SRec where
  kind : Int := 0
  leader : Int := 0
  view : Int := 0
  slot : Int := 0
  batch : SBatch := {}
  cert : SCert := {}
  state : ByteArray := .empty
  n : Nat := 0
  sig : Nat → SSign := fun _ => {}
structure SHeld where
  batch : SBatch := {}
  cert : SCert := {}
structure SEnv where
  src : Int := 0
  body : ByteArray := .empty
  tag : List Int := []
structure SMsg where
  kind : Int := 0
  epoch : Int := 0
  leader : Int := 0
  view : Int := 0
  slot : Int := 0
  batch : SBatch := {}
  vote : SVote := {}
  cepoch : Int := 0
  cleader : Int := 0
  cview : Int := 0
  nheld : Nat := 0
  held : Nat → SHeld := fun _ => {}
  nnews : Nat := 0
  news : Nat → SEnv := fun _ => {}
  digest : List Int := []
  cert : SCert := {}
  state : ByteArray := .empty
  n : Nat := 0
  sig : Nat → SSign := fun _ => {}

def SReq.c (r : SReq) : List V := [.int .i64 r.client, .int .i64 r.num, .str r.data, .seg .u8 16 r.tag]
def SSign.c (s : SSign) : List V := [.int .i64 s.node, .seg .u8 16 s.tag]
def SVote.c (v : SVote) : List V := [.int .i64 v.kind, .int .i64 v.epoch, .int .i64 v.view, .int .i64 v.slot, .seg .u8 32 v.digest]
def rq (n : Nat) (r : Nat → SReq) : V := .ros 19 n (fun i => (r i).c) false
def sg (n : Nat) (s : Nat → SSign) : V := .ros 17 n (fun i => (s i).c) false
def SBatch.c (b : SBatch) : List V := [.bool b.noop, rq b.n b.req]
def SCert.c (c : SCert) : List V := c.vote.c ++ [sg c.n c.sig]
def SRec.c (r : SRec) : List V := [.int .i64 r.kind, .int .i64 r.leader, .int .i64 r.view, .int .i64 r.slot] ++ (r.batch.c ++ (r.cert.c ++ [.str r.state, sg r.n r.sig]))
def SHeld.c (h : SHeld) : List V := h.batch.c ++ h.cert.c
def SEnv.c (e : SEnv) : List V := [.int .i64 e.src, .str e.body, .seg .u8 16 e.tag]
def hl (n : Nat) (h : Nat → SHeld) : V := .ros 39 n (fun i => (h i).c) false
def nw (n : Nat) (e : Nat → SEnv) : V := .ros 18 n (fun i => (e i).c) false
def SMsg.c (m : SMsg) : List V := [.int .i64 m.kind, .int .i64 m.epoch, .int .i64 m.leader, .int .i64 m.view, .int .i64 m.slot] ++ (m.batch.c ++ (m.vote.c ++ ([.int .i64 m.cepoch, .int .i64 m.cleader, .int .i64 m.cview, hl m.nheld m.held, nw m.nnews m.news, .seg .u8 32 m.digest] ++ (m.cert.c ++ [.str m.state, sg m.n m.sig]))))
def rc (n : Nat) (r : Nat → SRec) : V := .ros 45 n (fun i => (r i).c) false

theorem InR64 {n : Int} : InR .i64 n ↔ -9223372036854775808 ≤ n ∧ n ≤ 9223372036854775807 := by
  simp [InR, IntKind.min, IntKind.max, IntKind.signed, IntKind.bits]
theorem InR8 {n : Int} : InR .u8 n ↔ 0 ≤ n ∧ n ≤ 255 := by
  simp [InR, IntKind.min, IntKind.max, IntKind.signed, IntKind.bits]

theorem T.conv {P : Program} {f : FuncId} {args args' : List V} {pre pre' : Heap} {val val' : V} {post post' : Heap} (h : T P f args pre val post) (ea : args = args') (ep : pre = pre') (ev : val = val') (eq : post = post') : T P f args' pre' val' post' := by
  subst ea; subst ep; subst ev; subst eq; exact h
theorem T.val {P : Program} {f : FuncId} {args : List V} {pre : Heap} {val val' : V} {post : Heap} (h : T P f args pre val post) (ev : val = val') : T P f args pre val' post := by
  subst ev; exact h
theorem T.bool {P : Program} {f : FuncId} {args : List V} {pre : Heap} {b b' : Bool} {post : Heap} (h : T P f args pre (.bool b) post) (ev : b = b') : T P f args pre (.bool b') post := by
  subst ev; exact h
end Sy
