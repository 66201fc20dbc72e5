/-
  Contracts and laws that the claim's theorem leans on, joined out of the texts Qa1 SySha Ka1D Ka1 Ka2D Ka2 Ka3D Ka3 Ka4D Ka4 Ka5D Ka5 Ka6D Ka6 Ka7D Ka7 Ka8D Ka8 Va0D Va0 SySeal Kc0D Kc0 Kc1D (own work of this seat): Contracts: a number behind bytes that stay; the body that a request's tag is of; an envelope's bytes; The digest's numbers, plainly; Contracts: what the digest's rounds compute; Contracts: what the digest's rounds compute; Contract: one block of the digest; Contract: one block of the digest; Contracts: a stream of the digest; Contracts: a stream of the digest; Contracts: the digest's end, and the digest of parts; Contracts: the digest's end, and the digest of parts; Contracts: the digest of one part, of two parts; Contracts: the digest of one part, of two parts; Contracts: the digest by the document: padding, one block; Contracts: the digest by the document: padding, one block; Contracts: the digest by the document; Contracts: the digest by the document; Contracts: the digest of parts that can't be turned; a digest's bytes by the document; Contracts: the digest of parts that can't be turned; a digest's bytes by the document; Contracts: numbers and texts as bytes, as the document's answer has them; Contracts: numbers and texts as bytes, as the document's answer has them; Macs and tags, plainly; Contracts: macs and tags by the document; Contracts: macs and tags by the document; Contracts: macs and tags by the program.
-/
import Derived.Test.YtnmccoincblecaaGreatC03
import Derived.Test.YtnmccoincblecaaGreatC04
import Derived.Test.YtnmccoincblecaaGreatC09
set_option linter.unusedVariables false
set_option linter.unusedSimpArgs false
set_option maxHeartbeats 1000000
namespace Go.Proofs.YtnmccoincblecaaGreat
open Go Sy Go.Proofs
theorem bdPutR_p0 (n : Nat) (l : List UInt8) (c : Bool) :
  along Tryz.prog (bdPutR n l c) [false] = (some (.sl (.o 1) 1 0 0 0 (List.length (l ++ putN n)) none, [(.o 1, bs (l ++ putN n))], [(0 : Int) ≤ (↑(List.length l) : Int) ∧ (↑(List.length l) : Int) ≤ (↑(List.length l) : Int), (0 : Int) ≤ (↑(List.length l) : Int) ∧ (↑(List.length l) : Int) ≤ (↑(natO (some (↑(List.length l) : Int)) (List.length l)) : Int), q (↑(List.length l) : Int), q false, T Tryz.prog 80 [.int .i64 ↑n] [] (.int .i64 (↑(List.length (digs 8 n) + 1) : Int)) [], InR IntKind.i64 ((↑(List.length (digs (8 : Nat) n) + (1 : Nat)) : Int) - (1 : Int)), nat_lit 1 ≤ (1 : Nat), ∀ (k : Nat), k < (1 : Nat) → solid (getL [[V.int IntKind.u8 (IntKind.wrap IntKind.u8 ((↑(List.length (digs (8 : Nat) n) + (1 : Nat)) : Int) - (1 : Int)))]] ((0 : Nat) + k)) = true, (0 : Nat) < (1 : Nat), (natO (some (↑(List.length l) : Int)) (List.length l) - nat_lit 0 + (1 : Nat)) * (1 : Nat) ≤ (140737488355328 : Nat), RLoop Tryz.prog none 1 (cB (cB (cR (cL (cR (cR (cR (cR (cR (bodyOf (Bd.f (bdPutR n l c)))))))))))) (List.length (digs 8 n) + 1) (St.mk (mkT 41 [(0, .sl (.o 1) 1 0 0 0 (List.length (l ++ List.take 1 (putN n))) none), (1, .int .i64 ↑n), (5, .int .i64 (↑(List.length (digs 8 n)) : Int)), (24, .int .i64 (↑(List.length (digs 8 n)) : Int)), (25, .int .i64 0)]) [(.o 1, bs (l ++ List.take 1 (putN n)))] 2 []) (.exit 0) (St.mk (mkT 41 [(0, .sl (.o 1) 1 0 0 0 (List.length (l ++ List.take (List.length (digs 8 n) + 1) (putN n))) none), (1, .int .i64 ↑n), (5, .int .i64 (↑(List.length (digs 8 n)) : Int)), (24, .int .i64 (↑(List.length (digs 8 n)) : Int)), (25, .int .i64 (↑(List.length (digs 8 n)) : Int))]) [(.o 1, bs (l ++ List.take (List.length (digs 8 n) + 1) (putN n)))] 2 []), natO (some (↑(List.length l) : Int)) (List.length l) - nat_lit 0 + (1 : Nat) = List.length (l ++ List.take (nat_lit 1) (putN n)), ∀ (k : Nat), k < natO (some (↑(List.length l) : Int)) (List.length l) - nat_lit 0 + (1 : Nat) → catF (natO (some (↑(List.length l) : Int)) (List.length l) - nat_lit 0) (shiftF (bl l) none) (fun k => getL [[V.int IntKind.u8 (IntKind.wrap IntKind.u8 ((↑(List.length (digs (8 : Nat) n) + (1 : Nat)) : Int) - (1 : Int)))]] ((0 : Nat) + k)) k = bl (l ++ List.take (nat_lit 1) (putN n)) k, true = false → true = false, q0, q0, q0, natO (some (↑(List.length l) : Int)) (List.length l) - nat_lit 0 + (1 : Nat) = List.length (l ++ List.take (nat_lit 1) (putN n)), (none : Option Nat) = none ∨ (none : Option Nat) = none, q (↑n : Int), (↑(List.length (digs (8 : Nat) n) + (1 : Nat)) : Int) - (1 : Int) = (↑(List.length (digs (8 : Nat) n)) : Int), (↑(List.length (digs (8 : Nat) n) + (1 : Nat)) : Int) - (1 : Int) = (↑(List.length (digs (8 : Nat) n)) : Int), q1, List.length (l ++ List.take (List.length (digs (8 : Nat) n) + (1 : Nat)) (putN n)) = List.length (l ++ putN n), ∀ (k : Nat), k < List.length (l ++ List.take (List.length (digs (8 : Nat) n) + (1 : Nat)) (putN n)) → bl (l ++ List.take (List.length (digs (8 : Nat) n) + (1 : Nat)) (putN n)) k = bl (l ++ putN n) k, true = false → true = false, q0, q0, q0, List.length (l ++ List.take (List.length (digs (8 : Nat) n) + (1 : Nat)) (putN n)) = List.length (l ++ putN n), (none : Option Nat) = none ∨ (none : Option Nat) = none]) : Option (V × Heap × List Prop)) := by kernel_rfl

theorem bdRbo_p (r : SReq) :
  along Tryz.prog (bdRbo r) [] = (some (.str (bytesF (List.length (bodyL r)) fun k => bl (bodyL r) (0 + k)), [], [T Tryz.prog 35 [.sl (.o 128) 1 0 0 0 1 (some 1), .int .i64 (SReq.client r)] [(.o 128, .rows 1 1 (getL [[.int .u8 82]]) false)] (sb (.o 320) ([(82 : UInt8)] ++ putZ (SReq.client r))) [(.o 320, bs ([(82 : UInt8)] ++ putZ (SReq.client r)))], T Tryz.prog 35 [.sl (.o 320) 1 0 0 0 (List.length ([(82 : UInt8)] ++ putZ (SReq.client r))) none, .int .i64 (SReq.num r)] [(.o 320, bs ([(82 : UInt8)] ++ putZ (SReq.client r)))] (sb (.o 512) ([(82 : UInt8)] ++ putZ (SReq.client r) ++ putZ (SReq.num r))) [(.o 512, bs ([(82 : UInt8)] ++ putZ (SReq.client r) ++ putZ (SReq.num r)))], T Tryz.prog 34 [.sl (.o 512) 1 0 0 0 (List.length ([(82 : UInt8)] ++ putZ (SReq.client r) ++ putZ (SReq.num r))) none, .str (SReq.data r)] [(.o 512, bs ([(82 : UInt8)] ++ putZ (SReq.client r) ++ putZ (SReq.num r)))] (sb (.o 832) (bodyL r)) [(.o 832, bs (bodyL r))], ∀ (k : Nat), k < List.length (bodyL r) → true = true, (0 : Nat) + List.length (bodyL r) ≤ List.length (bodyL r), ∀ (k : Nat), k < List.length (bodyL r) → true = true]) : Option (V × Heap × List Prop)) := by kernel_rfl

noncomputable def bdGt_c (s : ByteArray) (s0 : RS) (s1 : RS) (s2 : RS) (s3 : RS) (x : SEnv) (xs : List UInt8) (d : Int) : Nat → List Prop
 | 0 => [T Tryz.prog 24 [.ros 1 (ByteArray.size s) (fun q => [.int .u8 (byteAt s q)]) false] [] (.ptr (.o 256) 0 0 0 0) [(.o 256, rdB s0)], T Tryz.prog 25 [.ptr (.o 256) 0 0 0 0, .int .i64 64] [(.o 256, rdB s0)] (.int .i64 (SEnv.src x)) [(.o 256, rdB s1)], T Tryz.prog 26 [.ptr (.o 256) 0 0 0 0, .int .i64 4194304] [(.o 256, rdB s1)] (.str (SEnv.body x)) [(.o 256, rdB s2)]]
 | 1 => [T Tryz.prog 27 [.ptr (.o 256) 0 0 0 0, .int .i64 16] [(.o 256, rdB s2)] (.ros 1 16 (bl xs) false) [(.o 256, rdB s3)], nat_lit 16 ≤ (16 : Nat), ∀ (q : Nat), q < (16 : Nat) → true = true, T Tryz.prog 28 [.ptr (.o 256) 0 0 0 0] [(.o 256, rdB s3)] (.int .i64 d) [(.o 256, rdB s3)]]
 | _ => []
theorem bdGt_p11 (s : ByteArray) (s0 : RS) (s1 : RS) (s2 : RS) (s3 : RS) (x : SEnv) (xs : List UInt8) (d : Int) :
 along Tryz.prog (bdGt s s0 s1 s2 s3 x xs d) [true, true] = (some (.tup [.agg [.int .i64 0, .str ByteArray.empty, .seg .u8 16 z16], .int .i64 d], [], bdGt_c s s0 s1 s2 s3 x xs d 0 ++ (bdGt_c s s0 s1 s2 s3 x xs d 1 ++ [(!decide (d = (0 : Int))) = true])) : Option (V × Heap × List Prop)) := by kernel_rfl

theorem bdGt_p10 (s : ByteArray) (s0 : RS) (s1 : RS) (s2 : RS) (s3 : RS) (x : SEnv) (xs : List UInt8) (d : Int) :
 along Tryz.prog (bdGt s s0 s1 s2 s3 x xs d) [true, false] = (some (.tup [.agg [.int .i64 (SEnv.src x), .str (SEnv.body x), .seg .u8 16 (segSet 16 z16 0 16 (bl xs))], .int .i64 0], [], bdGt_c s s0 s1 s2 s3 x xs d 0 ++ (bdGt_c s s0 s1 s2 s3 x xs d 1 ++ [(!decide (d = (0 : Int))) = false])) : Option (V × Heap × List Prop)) := by kernel_rfl

theorem bdGt_p01 (s : ByteArray) (s0 : RS) (s1 : RS) (s2 : RS) (s3 : RS) (x : SEnv) (xs : List UInt8) (d : Int) :
 along Tryz.prog (bdGt s s0 s1 s2 s3 x xs d) [false, true] = (some (.tup [.agg [.int .i64 0, .str ByteArray.empty, .seg .u8 16 z16], .int .i64 d], [], bdGt_c s s0 s1 s2 s3 x xs d 0 ++ [T Tryz.prog 27 [.ptr (.o 256) 0 0 0 0, .int .i64 16] [(.o 256, rdB s2)] (.ros 1 0 (bl []) false) [(.o 256, rdB s3)], nat_lit 16 ≤ (16 : Nat), ∀ (q : Nat), q < (0 : Nat) → true = true, T Tryz.prog 28 [.ptr (.o 256) 0 0 0 0] [(.o 256, rdB s3)] (.int .i64 d) [(.o 256, rdB s3)], (!decide (d = (0 : Int))) = true]) : Option (V × Heap × List Prop)) := by kernel_rfl

theorem T_putR1 {n : Nat} (h : n < 9223372036854775808) {l : List UInt8} (hl : l.length ≤ 70368744177664) (c : Bool) : T Tryz.prog 35 [.ros 1 l.length (bl l) c, .int .i64 n] [] (sb (.o 1) (l ++ putN n)) [(.o 1, bs (l ++ putN n))] := by
 have h1 := digs_len 8 n (digs8 h)
 have hv : IntKind.wrap IntKind.u8 ((((digs 8 n).length + 1 : Nat) : Int) - 1) = ((UInt8.ofNat (digs 8 n).length).toNat : Int) := by
  rw [show (((digs 8 n).length + 1 : Nat) : Int) - 1 = (((digs 8 n).length : Nat) : Int) by omega, wrap8]
 have hc := catF_bl1 l _ _ hv
 refine T_al (bdPutR_p0 n l c) Tryz.func35 ?_
 simp only [All, All_append, bdGt_c]
 and_intros
 all_goals first | exact T_size h | exact T_putAny h hl | (simp only [natO, Int.toNat_natCast, Nat.sub_zero]; exact hc) | (simp [putN, natO, IntKind.min, IntKind.max, IntKind.signed, IntKind.bits] <;> omega) | (intro k hk; rw [show k = 0 by omega]; rfl)
theorem T_putR {z : Int} (h : num63 z) {l : List UInt8} (hl : l.length ≤ 70368744177664) (c : Bool) (m : Nat) : T Tryz.prog 35 [.ros 1 l.length (bl l) c, .int .i64 z] [] (sb (.o m) (l ++ putZ z)) [(.o m, bs (l ++ putZ z))] := by
 have e : ((z.toNat : Nat) : Int) = z := Int.toNat_of_nonneg h.1
 have h0 := T_putR1 (n := z.toNat) (by have := h.2; omega) hl c
 rw [e] at h0
 obtain ⟨σ, hσ, h1⟩ := T.at h0 [.o 1] [.o m] (by simp) (by simp) rfl
 simp only [List.map_cons, List.map_nil, List.cons.injEq, and_true] at hσ
 simpa [V.rens, V.ren, sb, bs, Heap.ren, B.ren, hσ, putZ] using h1
theorem T_rbd {r : SReq} (hc : num63 r.client) (hn : num63 r.num) (hd : r.data.size ≤ 1000000000) : T Tryz.prog 68 [.agg r.c] [] (.str (baL (bodyL r))) [] := by
 have h1 := putZ_len hc
 have h2 := putZ_len hn
 have h0 : T Tryz.prog 35 [.sl (.o 128) 1 0 0 0 1 (some 1), .int .i64 r.client] [(.o 128, .rows 1 1 (getL [[.int .u8 82]]) false)] (sb (.o 320) ([82] ++ putZ r.client)) [(.o 320, bs ([82] ++ putZ r.client))] := by
  refine T.frz (T_putR hc (l := [82]) (by decide) false 320) (hw_of rfl ?_) ?_
  ·and_intros
   all_goals first | exact True.intro | (intro k hk; obtain rfl : k = 0 := (by omega); rfl) | with_reducible rfl | omega | (intro h; cases h; done) | (simp; done)
  ·rintro n ⟨b, hb⟩ ⟨b', hb'⟩
   simp only [List.mem_cons, List.mem_nil_iff, or_false, Prod.mk.injEq] at hb hb'
   rw [hb.1] at hb'
   cases hb'.1
 have e1 : ([82] ++ putZ r.client : List UInt8).length ≤ 10 := by simp; omega
 have e2 : ([82] ++ putZ r.client ++ putZ r.num : List UInt8).length ≤ 19 := by simp; omega
 refine T.val (T_al (bdRbo_p r) Tryz.func68 ?_) (by rw [bytesF_bl])
 simp only [All, All_append, bdGt_c]; and_intros
 all_goals first | exact True.intro | exact h0 | exact T_put hn (by omega) (by decide) | exact T_text (by omega) (by omega) (by decide) | (rw [Nat.zero_add]; exact Nat.le_refl _) | (intro _ _; exact True.intro)
theorem seg16 {xs : List UInt8} (h : xs.length = 16) : segSet 16 z16 0 16 (bl xs) = intsB xs := int16 h
theorem T_get (s : ByteArray) (hs : s.size ≤ 1000000000) : T Tryz.prog 8 [.str s] [] (.tup [.agg (getR (strB s)).1.c, .int .i64 (getR (strB s)).2]) [] := by
 have hl : (strB s).length ≤ 1000000000 := by rw [strB_len]; exact hs
 have hR : ∀ a, T Tryz.prog 24 [.ros 1 s.size (fun q => [.int .u8 (byteAt s q)]) false] [] (.ptr (.o a) 0 0 0 0) [(.o a, rdB { l := strB s })] := fun a => by
  have := T_read a (strB s) hl
  rw [roB, strB_len] at this; exact this
 have a1 : After { l := strB s } (envR1 { l := strB s }) := numR_after 64 _
 have a2 : After { l := strB s } (envR2 { l := strB s }) := a1.trans (textR_after _ _)
 have hN := T_num 256 64 { l := strB s }
 have hT := T_textR 256 4194304 (envR1 { l := strB s }) (Nat.le_trans a1.1 hl)
 have hW := T_rawR 256 16 (envR2 { l := strB s }) (Nat.le_trans a2.1 hl)
 have hD := T_done 256 (rawR 16 (envR2 { l := strB s })).2
 have eT : (envR { l := strB s }).2 = (rawR 16 (envR2 { l := strB s })).2 := rfl
 by_cases h : (rawR 16 (envR2 { l := strB s })).2.e = 0
 ·have hn : (rawR 16 (envR2 { l := strB s })).1.length = 16 := rawR_ok (n := 16) h
  have e3 : (envR { l := strB s }).1.tag = intsB (rawR 16 (envR2 { l := strB s })).1 := by show (tagR (envR2 { l := strB s })).1 = _; simp [tagR, arrR, h]
  rw [roB, hn] at hW
  by_cases hd : doneR (rawR 16 (envR2 { l := strB s })).2 = 0
  ·have eg : getR (strB s) = ((envR { l := strB s }).1, 0) := by rw [getR, eT, if_pos hd]
   refine T.val (T_al (bdGt_p10 s { l := strB s } (envR1 { l := strB s }) (envR2 { l := strB s }) (rawR 16 (envR2 { l := strB s })).2 (envR { l := strB s }).1 (rawR 16 (envR2 { l := strB s })).1 (doneR (rawR 16 (envR2 { l := strB s })).2)) Tryz.func8 ?_) ?_
   ·simp only [All, All_append, bdGt_c]; and_intros
    all_goals first | exact True.intro | exact hR _ | exact hN | exact hT | exact hW | exact hD | (simp [hd]; done)
   ·rw [eg]
    show V.tup [V.agg [_, _, V.seg .u8 16 _], _] = V.tup [V.agg [_, _, V.seg .u8 16 (envR { l := strB s }).1.tag], _]
    rw [e3, seg16 hn]
  ·have eg : getR (strB s) = (envZ, doneR (rawR 16 (envR2 { l := strB s })).2) := by rw [getR, eT, if_neg hd]
   refine T.val (T_al (bdGt_p11 s { l := strB s } (envR1 { l := strB s }) (envR2 { l := strB s }) (rawR 16 (envR2 { l := strB s })).2 (envR { l := strB s }).1 (rawR 16 (envR2 { l := strB s })).1 (doneR (rawR 16 (envR2 { l := strB s })).2)) Tryz.func8 ?_) ?_
   ·simp only [All, All_append, bdGt_c]; and_intros
    all_goals first | exact True.intro | exact hR _ | exact hN | exact hT | exact hW | exact hD | (simp [hd]; done)
   ·rw [eg]; rfl
 ·have hn : (rawR 16 (envR2 { l := strB s })).1 = [] := rawR_bad (n := 16) h
  rw [hn] at hW
  have hd : doneR (rawR 16 (envR2 { l := strB s })).2 ≠ 0 := by rw [doneR, if_pos h]; exact h
  have eg : getR (strB s) = (envZ, doneR (rawR 16 (envR2 { l := strB s })).2) := by rw [getR, eT, if_neg hd]
  refine T.val (T_al (bdGt_p01 s { l := strB s } (envR1 { l := strB s }) (envR2 { l := strB s }) (rawR 16 (envR2 { l := strB s })).2 (envR { l := strB s }).1 (rawR 16 (envR2 { l := strB s })).1 (doneR (rawR 16 (envR2 { l := strB s })).2)) Tryz.func8 ?_) ?_
  ·simp only [All, All_append, bdGt_c]; and_intros
   all_goals first | exact True.intro | exact hR _ | exact hN | exact hT | exact hW | exact hD | (simp [hd]; done)
  ·rw [eg]; rfl
end Go.Proofs.YtnmccoincblecaaGreat
namespace Sy
open Go
def o32 (x y : Int) : Int := ibits (fun _ x y => x ||| y) .u32 x y
def x32 (x y : Int) : Int := ibits (fun _ x y => x ^^^ y) .u32 x y
def a32 (x y : Int) : Int := ibits (fun _ x y => x &&& y) .u32 x y
def w32 (x : Int) : Int := IntKind.wrap .u32 x
def n32 (x : Int) : Int := x32 4294967295 x
/-- Turned to the right. -/
def rr32 (x n : Int) : Int := o32 (x / 2 ^ n.toNat) (w32 (x * 2 ^ (32 - n).toNat))
def lo5 (n : Int) : Int := ibits (fun _ x y => x &&& y) .u64 (IntKind.wrap .u64 n) 31
/-- Turned to the left. -/
def rl32 (x n : Int) : Int := o32 (w32 (x * 2 ^ (lo5 n).toNat)) (x / 2 ^ (IntKind.wrap .u64 (32 - lo5 n)).toNat)
theorem o32_comm (x y : Int) : o32 x y = o32 y x := by
 simp only [o32, ibits]
 rw [BitVec.or_comm]
theorem lo5_neg : ∀ n : Nat, n < 32 → 0 < n → lo5 (-(n : Int)) = 32 - n ∧ IntKind.wrap .u64 (32 - lo5 (-(n : Int))) = n := by decide
theorem rl_rr (x : Int) {n : Nat} (h0 : 0 < n) (h : n < 32) : rl32 x (-(n : Int)) = rr32 x n := by
 obtain ⟨h1, h2⟩ := lo5_neg n h h0
 rw [rl32, h2, h1, o32_comm, rr32]
/-- The number of a round. -/
def kT : List Int := [0x428a2f98, 0x71374491, 0xb5c0fbcf, 0xe9b5dba5, 0x3956c25b, 0x59f111f1, 0x923f82a4, 0xab1c5ed5,
 0xd807aa98, 0x12835b01, 0x243185be, 0x550c7dc3, 0x72be5d74, 0x80deb1fe, 0x9bdc06a7, 0xc19bf174,
 0xe49b69c1, 0xefbe4786, 0x0fc19dc6, 0x240ca1cc, 0x2de92c6f, 0x4a7484aa, 0x5cb0a9dc, 0x76f988da,
 0x983e5152, 0xa831c66d, 0xb00327c8, 0xbf597fc7, 0xc6e00bf3, 0xd5a79147, 0x06ca6351, 0x14292967,
 0x27b70a85, 0x2e1b2138, 0x4d2c6dfc, 0x53380d13, 0x650a7354, 0x766a0abb, 0x81c2c92e, 0x92722c85,
 0xa2bfe8a1, 0xa81a664b, 0xc24b8b70, 0xc76c51a3, 0xd192e819, 0xd6990624, 0xf40e3585, 0x106aa070,
 0x19a4c116, 0x1e376c08, 0x2748774c, 0x34b0bcb5, 0x391c0cb3, 0x4ed8aa4a, 0x5b9cca4f, 0x682e6ff3,
 0x748f82ee, 0x78a5636f, 0x84c87814, 0x8cc70208, 0x90befffa, 0xa4506ceb, 0xbef9a3f7, 0xc67178f2]
def kN (t : Nat) : Int := kT.getD t 0
def s32 (x a b c : Int) : Int := x32 (x32 (rr32 x a) (rr32 x b)) (rr32 x c)
def m32 (x a b c : Int) : Int := x32 (x32 (rr32 x a) (rr32 x b)) (x / 2 ^ c.toNat)
/-- A word of a block's bytes. -/
def ldW (b : List Int) (i : Nat) : Int := o32 (o32 (o32 (w32 (w32 (b.getD (4 * i) 0) * 16777216)) (w32 (w32 (b.getD (4 * i + 1) 0) * 65536))) (w32 (w32 (b.getD (4 * i + 2) 0) * 256))) (w32 (b.getD (4 * i + 3) 0))
def wA (b : List Int) : Nat → List Int
 | 0 => List.replicate 64 0
 | i + 1 => (wA b i).set i (ldW b i)
def mxW (w : List Int) (k : Nat) : Int := w32 (w32 (w32 (w.getD k 0 + m32 (w.getD (k + 1) 0) 7 18 3) + w.getD (k + 9) 0) + m32 (w.getD (k + 14) 0) 17 19 10)
def wB (b : List Int) : Nat → List Int
 | 0 => wA b 16
 | k + 1 => (wB b k).set (16 + k) (mxW (wB b k) k)
/-- A round's eight numbers. -/
structure S8 where
 a : Int
 b : Int
 c : Int
 d : Int
 e : Int
 f : Int
 g : Int
 h : Int
def S8.l (s : S8) : List Int := [s.a, s.b, s.c, s.d, s.e, s.f, s.g, s.h]
def S8.of (h : List Int) : S8 := ⟨h.getD 0 0, h.getD 1 0, h.getD 2 0, h.getD 3 0, h.getD 4 0, h.getD 5 0, h.getD 6 0, h.getD 7 0⟩
def rx (w : List Int) (t : Nat) (s : S8) : Int := w32 (w32 (w32 (w32 (s.h + s32 s.e 6 11 25) + x32 (a32 s.e s.f) (a32 (n32 s.e) s.g)) + kN t) + w.getD t 0)
def ry (s : S8) : Int := w32 (s32 s.a 2 13 22 + x32 (x32 (a32 s.a s.b) (a32 s.a s.c)) (a32 s.b s.c))
def rnd (w : List Int) (s : S8) : Nat → S8
 | 0 => s
 | t + 1 => ⟨w32 (rx w t (rnd w s t) + ry (rnd w s t)), (rnd w s t).a, (rnd w s t).b, (rnd w s t).c, w32 ((rnd w s t).d + rx w t (rnd w s t)), (rnd w s t).e, (rnd w s t).f, (rnd w s t).g⟩
def hF (h l : List Int) : Nat → List Int
 | 0 => h
 | i + 1 => (hF h l i).set i (w32 ((hF h l i).getD i 0 + l.getD i 0))
/-- The words behind one more block. -/
def blk (h b : List Int) : List Int := hF h (rnd (wB b 48) (S8.of h) 64).l 8
def iv : List Int := [1779033703, 3144134277, 1013904242, 2773480762, 1359893119, 2600822924, 528734635, 1541459225]
def cutB (B : List Int) (k : Nat) : List Int := (List.range 64).map fun i => B.getD (64 * k + i) 0
/-- The words behind so many blocks. -/
def hK (B : List Int) : Nat → List Int
 | 0 => iv
 | k + 1 => blk (hK B k) (cutB B k)
def w8 (x : Int) : Int := IntKind.wrap .u8 x
def lenE (n : Int) (i : Nat) : Int := w8 (n / 2 ^ (56 - 8 * i))
def lenP (n : Int) (j : Nat) : List Int := (List.range j).map (lenE n)
def lenB (n : Int) : List Int := lenP n 8
theorem lenB_len (n : Int) : (lenB n).length = 8 := by simp [lenB, lenP]
theorem lenB_get {n : Int} {i : Nat} (h : i < 8) : (lenB n).getD i 0 = lenE n i := by
 rw [lenB, lenP, List.getD_eq_getElem?_getD, List.getElem?_map, List.getElem?_range h]; rfl
/-- So many zeros stand behind so many bytes. -/
def padZ (n : Nat) : Nat := (120 - n % 64) % 64
def padL (B : List Int) : List Int := B ++ [128] ++ List.replicate (padZ (B.length + 1)) 0 ++ lenB (8 * (B.length : Int))
def dA (H : List Int) : Nat → List Int
 | 0 => List.replicate 32 0
 | i + 1 => (dA H i).set i (w8 (H.getD (i / 4) 0 / 2 ^ (24 - 8 * (i % 4))))
def shaV (B : List Int) : List Int := dA (hK (padL B) ((padL B).length / 64)) 32
/-- Bytes as they come. -/
def ib (l : List Int) : Nat → List V := fun i => [.int .u8 (l.getD i 0)]

theorem hK_app (B C : List Int) : ∀ k, 64 * k ≤ B.length → hK (B ++ C) k = hK B k
 | 0, _ => rfl
 | k + 1, h => by
  have ih := hK_app B C k (by omega)
  have : cutB (B ++ C) k = cutB B k := by
   unfold cutB
   apply List.map_congr_left
   intro i hi
   have := List.mem_range.1 hi
   rw [List.getD_eq_getElem?_getD, List.getD_eq_getElem?_getD, List.getElem?_append_left (by omega)]
  rw [hK, hK, ih, this]
/-- What a stream has, of bytes so far. -/
structure Inv (B H W : List Int) : Prop where
 h : H = hK B (B.length / 64)
 len : W.length = 64
 w : ∀ i, i < B.length % 64 → W.getD i 0 = B.getD (64 * (B.length / 64) + i) 0
theorem segSet_len (m : Nat) (xs : List Int) (j cnt : Nat) (g : Nat → List V) : (segSet m xs j cnt g).length = m := by simp [segSet]
theorem segSet_get {m : Nat} {xs : List Int} {j cnt q : Nat} {g : Nat → List V} (h : q < m) : (segSet m xs j cnt g).getD q 0 = if j ≤ q ∧ q < j + cnt then intOf (g (q - j)) else xs.getD q 0 := by
 rw [segSet, List.getD_eq_getElem?_getD, List.getElem?_map, List.getElem?_range h]
 simp only [Option.map_some, Option.getD_some]
 by_cases h1 : j ≤ q ∧ q < j + cnt
 ·rw [if_pos h1, Nat.ble_eq_true_of_le h1.1, (show Nat.blt q (j + cnt) = true by rw [Nat.blt_eq]; exact h1.2)]; rfl
 ·rw [if_neg h1]
  cases h2 : Nat.ble j q with
  | false => rfl
  | true =>
   cases h3 : Nat.blt q (j + cnt) with
   | false => rfl
   | true => exact absurd ⟨Nat.le_of_ble_eq_true h2, by rwa [Nat.blt_eq] at h3⟩ h1
theorem inv_step {B H W l : List Int} (hI : Inv B H W) {c : Nat} (hc : c ≤ l.length) (hc2 : c ≤ 64 - B.length % 64) :
  let W2 := segSet 64 W (B.length % 64) c (ib l)
  ((B.length + c) % 64 = 0 → 0 < c → Inv (B ++ l.take c) (blk H W2) W2) ∧ ((B.length + c) % 64 ≠ 0 → Inv (B ++ l.take c) H W2) := by
 intro W2
 have hl : (B ++ l.take c).length = B.length + c := by rw [List.length_append, List.length_take, Nat.min_eq_left hc]
 have hw : ∀ i, i < B.length % 64 + c → W2.getD i 0 = (B ++ l.take c).getD (64 * (B.length / 64) + i) 0 := by
  intro i hi
  have hi64 : i < 64 := by omega
  show (segSet 64 W (B.length % 64) c (ib l)).getD i 0 = _
  rw [segSet_get hi64]
  by_cases h1 : B.length % 64 ≤ i
  ·rw [if_pos ⟨h1, hi⟩, List.getD_eq_getElem?_getD, List.getElem?_append_right (by omega), List.getElem?_take_of_lt (by omega)]
   show l.getD (i - B.length % 64) 0 = _
   rw [List.getD_eq_getElem?_getD]
   congr 2; omega
  ·rw [if_neg (fun h => h1 h.1), hI.w i (by omega), List.getD_eq_getElem?_getD, List.getD_eq_getElem?_getD, List.getElem?_append_left (by omega)]
 constructor
 ·intro h0 hpos
  have hd : (B.length + c) / 64 = B.length / 64 + 1 := by omega
  have hfull : B.length % 64 + c = 64 := by omega
  refine ⟨?_, segSet_len _ _ _ _ _, fun i hi => absurd hi (by rw [hl]; omega)⟩
  rw [hl, hd, hK, hK_app _ _ _ (by omega), ← hI.h]
  congr 1
  apply List.ext_getElem?
  intro i
  by_cases hi : i < 64
  ·have h1 := hw i (by omega)
   have e1 : i < W2.length := by rw [show W2.length = 64 from segSet_len _ _ _ _ _]; exact hi
   have e2 : i < (cutB (B ++ l.take c) (B.length / 64)).length := by simp [cutB]; exact hi
   rw [List.getElem?_eq_getElem e1, List.getElem?_eq_getElem e2]
   congr 1
   have h2 : W2.getD i 0 = W2[i] := by rw [List.getD_eq_getElem?_getD, List.getElem?_eq_getElem e1]; rfl
   refine h2.symm.trans (h1.trans ?_)
   simp [cutB]
  ·rw [List.getElem?_eq_none (by rw [show W2.length = 64 from segSet_len _ _ _ _ _]; omega), List.getElem?_eq_none (by simp [cutB]; omega)]
 ·intro h0
  have hd : (B.length + c) / 64 = B.length / 64 := by omega
  have hm : (B.length + c) % 64 = B.length % 64 + c := by omega
  refine ⟨?_, segSet_len _ _ _ _ _, fun i hi => ?_⟩
  ·rw [hl, hd, hK_app _ _ _ (by omega)]; exact hI.h
  ·rw [hl, hm] at hi
   rw [hl, hd]; exact hw i hi
theorem inv_nil {W : List Int} (h : W.length = 64) : Inv [] iv W := ⟨rfl, h, fun i hi => absurd hi (Nat.not_lt_zero _)⟩
theorem padZ_lt {n j : Nat} (h : j < padZ n) : (n + j) % 64 ≠ 56 := by unfold padZ at h; omega
theorem padZ_at (n : Nat) : (n + padZ n) % 64 = 56 := by unfold padZ; omega
theorem cat0 (f g : Nat → List V) : catF 0 f g = g := by
 funext k
 rw [catF]
 have : Nat.blt k 0 = false := by cases k <;> rfl
 rw [this]; rfl
end Sy
namespace Go.Proofs.YtnmccoincblecaaGreat
open Go Sy Go.Proofs
noncomputable def bdRl (x n : Int) : Bd := { f := Tryz.f152, args := [.int .u32 x, .int .i64 n], kb := kb0 }
def rlDb : List V → Heap → Nat → List Cl := fun l _ _ => match l with
 | [.int _ x, .int _ n] => [{ val := .int .u32 (rl32 x n) }]
 | _ => []
noncomputable def bdTu (x a b c : Int) : Bd := { f := Tryz.f149, args := [.int .u32 x, .int .i64 a, .int .i64 b, .int .i64 c], kb := { db := dbQ [(152, rlDb)] } }
noncomputable def bdMi (x a b c : Int) : Bd := { f := Tryz.f151, args := [.int .u32 x, .int .i64 a, .int .i64 b, .int .i64 c], kb := { db := dbQ [(152, rlDb)] } }
noncomputable def bdKr (t : Int) : Bd := { f := Tryz.f150, args := [.int .i64 t], kb := kb0 }
def wtI (b w : List Int) (i : Nat) : St := ⟨mkT 71 [(1, .ptr (.o 0) 0 0 0 0), (2, .ptr (.o 1) 0 0 0 0), (6, .int .i64 (i : Nat))], [(.o 0, .flat [.seg .u8 64 b]), (.o 1, .flat [.seg .u32 64 w])], 2, []⟩
def wtJ (b w : List Int) (k : Nat) : St := ⟨mkT 71 [(1, .ptr (.o 0) 0 0 0 0), (2, .ptr (.o 1) 0 0 0 0), (4, .fn (.func 151) [] []), (5, .int .i64 ((16 + k : Nat) : Int))], [(.o 0, .flat [.seg .u8 64 b]), (.o 1, .flat [.seg .u32 64 w])], 2, []⟩
def mxDb : List V → Heap → Nat → List Cl := fun l _ _ => match l with
 | [.int _ x, .int _ a, .int _ b, .int _ c] => [{ val := .int .u32 (m32 x a b c) }]
 | _ => []
noncomputable def bdWtK (b w w2 : List Int) : Bd := { f := Tryz.f148, args := [.agg [.seg .u8 64 b]], kb := { db := fun _ _ _ _ => [], lp := fun id t => bif Nat.beq id 0 then [(True, .loop (16 + 1) (wToS [(.o 0, nmV (getV t.tmps 1)), (.o 1, nmV (getV t.tmps 2))] (wtI b (List.replicate 64 0) 0)) (.exit 0) (wtI b w 16))] else [(True, .loop (48 + 1) (wTo (wtJ b w 0)) (.exit 2) (wtJ b w2 48))] } }
noncomputable def pcWi (b w : List Int) (i : Nat) (w2 : List Int) : Pc := { c := cB (cB (cR (cL (cR (bodyOf Tryz.f148))))), st := wtI b w i, kb := kb0, k := fun x_ _ => match x_ with
 | .normal => some (wTo (wtI b w2 (i + 1)))
 | _ => some (wTo (wtI b w 16)) }
noncomputable def pcWj (b w : List Int) (k : Nat) (w2 : List Int) : Pc := { c := cB (cB (cR (cL (cR (cR (cR (bodyOf Tryz.f148))))))), st := wtJ b w k, kb := { db := dbQ [(151, mxDb)] }, k := fun x_ _ => match x_ with
 | .normal => some (wTo (wtJ b w2 (k + 1)))
 | _ => some (wTo (wtJ b w 48)) }
end Go.Proofs.YtnmccoincblecaaGreat
namespace Go.Proofs.YtnmccoincblecaaGreat
open Go Sy Go.Proofs
theorem bdRl_p (x : Int) (n : Int) :
  along Tryz.prog (bdRl x n) [] = (some (.int .u32 (ibits (fun x x_1 y => x_1 ||| y) .u32 (IntKind.wrap .u32 (x * (2 : Int) ^ Int.toNat (ibits (fun x x_1 y => x_1 &&& y) .u64 (IntKind.wrap .u64 n) (31 : Int)))) (x / (2 : Int) ^ Int.toNat (IntKind.wrap .u64 ((32 : Int) - ibits (fun x x_1 y => x_1 &&& y) .u64 (IntKind.wrap .u64 n) (31 : Int))))), [], [(0 : Int) ≤ ibits (fun x x_1 y => x_1 &&& y) IntKind.u64 (IntKind.wrap IntKind.u64 n) (31 : Int) ∧ ibits (fun x x_1 y => x_1 &&& y) IntKind.u64 (IntKind.wrap IntKind.u64 n) (31 : Int) ≤ (32 : Int), (0 : Int) ≤ IntKind.wrap IntKind.u64 ((32 : Int) - ibits (fun x x_1 y => x_1 &&& y) IntKind.u64 (IntKind.wrap IntKind.u64 n) (31 : Int)) ∧ IntKind.wrap IntKind.u64 ((32 : Int) - ibits (fun x x_1 y => x_1 &&& y) IntKind.u64 (IntKind.wrap IntKind.u64 n) (31 : Int)) ≤ (32 : Int)]) : Option (V × Heap × List Prop)) := by kernel_rfl

theorem bdTu_p (x : Int) (a : Int) (b : Int) (c : Int) :
  along Tryz.prog (bdTu x a b c) [] = (some (.int .u32 (ibits (fun x x_1 y => x_1 ^^^ y) .u32 (ibits (fun x x_1 y => x_1 ^^^ y) .u32 (rl32 x ((0 : Int) - a)) (rl32 x ((0 : Int) - b))) (rl32 x ((0 : Int) - c))), [], [InR IntKind.i64 ((0 : Int) - a), T Tryz.prog 152 [.int .u32 x, .int .i64 ((0 : Int) - a)] [] (.int .u32 (rl32 x ((0 : Int) - a))) [], InR IntKind.i64 ((0 : Int) - b), T Tryz.prog 152 [.int .u32 x, .int .i64 ((0 : Int) - b)] [] (.int .u32 (rl32 x ((0 : Int) - b))) [], InR IntKind.i64 ((0 : Int) - c), T Tryz.prog 152 [.int .u32 x, .int .i64 ((0 : Int) - c)] [] (.int .u32 (rl32 x ((0 : Int) - c))) []]) : Option (V × Heap × List Prop)) := by kernel_rfl

theorem bdMi_p (x : Int) (a : Int) (b : Int) (c : Int) :
  along Tryz.prog (bdMi x a b c) [] = (some (.int .u32 (ibits (fun x x_1 y => x_1 ^^^ y) .u32 (ibits (fun x x_1 y => x_1 ^^^ y) .u32 (rl32 x ((0 : Int) - a)) (rl32 x ((0 : Int) - b))) (x / (2 : Int) ^ Int.toNat c)), [], [InR IntKind.i64 ((0 : Int) - a), T Tryz.prog 152 [.int .u32 x, .int .i64 ((0 : Int) - a)] [] (.int .u32 (rl32 x ((0 : Int) - a))) [], InR IntKind.i64 ((0 : Int) - b), T Tryz.prog 152 [.int .u32 x, .int .i64 ((0 : Int) - b)] [] (.int .u32 (rl32 x ((0 : Int) - b))) [], (0 : Int) ≤ c ∧ c ≤ (32 : Int)]) : Option (V × Heap × List Prop)) := by kernel_rfl

theorem bdKr_p (t : Int) :
  along Tryz.prog (bdKr t) [] = (some (.int .u32 (List.getD [(1116352408 : Int), (1899447441 : Int), (3049323471 : Int), (3921009573 : Int), (961987163 : Int), (1508970993 : Int), (2453635748 : Int), (2870763221 : Int), (3624381080 : Int), (310598401 : Int), (607225278 : Int), (1426881987 : Int), (1925078388 : Int), (2162078206 : Int), (2614888103 : Int), (3248222580 : Int), (3835390401 : Int), (4022224774 : Int), (264347078 : Int), (604807628 : Int), (770255983 : Int), (1249150122 : Int), (1555081692 : Int), (1996064986 : Int), (2554220882 : Int), (2821834349 : Int), (2952996808 : Int), (3210313671 : Int), (3336571891 : Int), (3584528711 : Int), (113926993 : Int), (338241895 : Int), (666307205 : Int), (773529912 : Int), (1294757372 : Int), (1396182291 : Int), (1695183700 : Int), (1986661051 : Int), (2177026350 : Int), (2456956037 : Int), (2730485921 : Int), (2820302411 : Int), (3259730800 : Int), (3345764771 : Int), (3516065817 : Int), (3600352804 : Int), (4094571909 : Int), (275423344 : Int), (430227734 : Int), (506948616 : Int), (659060556 : Int), (883997877 : Int), (958139571 : Int), (1322822218 : Int), (1537002063 : Int), (1747873779 : Int), (1955562222 : Int), (2024104815 : Int), (2227730452 : Int), (2361852424 : Int), (2428436474 : Int), (2756734187 : Int), (3204031479 : Int), (3329325298 : Int)] (0 + Int.toNat t) (0 : Int)), [], [(0 : Int) ≤ t ∧ t < (64 : Int), (0 : Nat) + Int.toNat t < (64 : Nat)]) : Option (V × Heap × List Prop)) := by kernel_rfl

theorem bdWtK_p (b : List Int) (w : List Int) (w2 : List Int) :
  along Tryz.prog (bdWtK b w w2) [] = (some (.agg [.seg .u32 64 w2], [], [RLoop Tryz.prog none 0 (cB (cB (cR (cL (cR (bodyOf (Bd.f (bdWtK b w w2)))))))) 17 (St.mk (mkT 71 [(1, .ptr (.o 0) 0 0 0 0), (2, .ptr (.o 1) 0 0 0 0), (6, .int .i64 0)]) [(.o 0, .flat [.seg .u8 64 b]), (.o 1, .flat [.seg .u32 64 (List.replicate 64 (0 : Int))])] 2 []) (.exit 0) (St.mk (mkT 71 [(1, .ptr (.o 0) 0 0 0 0), (2, .ptr (.o 1) 0 0 0 0), (6, .int .i64 16)]) [(.o 0, .flat [.seg .u8 64 b]), (.o 1, .flat [.seg .u32 64 w])] 2 []), q (64 : Nat), q b, q (64 : Nat), q ((List.replicate 64 (0 : Int))), q0, q0, q0, q0, q0, q0, q1, RLoop Tryz.prog none 0 (cB (cB (cR (cL (cR (cR (cR (bodyOf (Bd.f (bdWtK b w w2)))))))))) 49 (St.mk (mkT 71 [(1, .ptr (.o 0) 0 0 0 0), (2, .ptr (.o 1) 0 0 0 0), (4, .fn (.func (151 : FuncId)) [] []), (5, .int .i64 16)]) [(.o 0, .flat [.seg .u8 64 b]), (.o 1, .flat [.seg .u32 64 w])] 2 []) (.exit 2) (St.mk (mkT 71 [(1, .ptr (.o 0) 0 0 0 0), (2, .ptr (.o 1) 0 0 0 0), (4, .fn (.func (151 : FuncId)) [] []), (5, .int .i64 64)]) [(.o 0, .flat [.seg .u8 64 b]), (.o 1, .flat [.seg .u32 64 w2])] 2 []), q (64 : Nat), q b, q (64 : Nat), q w, q0, q0, q0, q0, q0, q0, q (16 : Int)]) : Option (V × Heap × List Prop)) := by kernel_rfl

theorem pcWi_p1 (b : List Int) (w : List Int) (i : Nat) (w2 : List Int) :
  alongPc Tryz.prog (pcWi b w i w2) [true] = (some (.normal, St.mk (mkT 71 [(1, .ptr (.o 0) 0 0 0 0), (2, .ptr (.o 1) 0 0 0 0), (6, .int .i64 (↑(i + 1) : Int))]) [(.o 0, .flat [.seg .u8 64 b]), (.o 1, .flat [.seg .u32 64 w2])] 2 [], [decide ((↑i : Int) < (16 : Int)) = true, InR IntKind.i64 ((4 : Int) * (↑i : Int)), (0 : Int) ≤ (4 : Int) * (↑i : Int) ∧ (4 : Int) * (↑i : Int) < (64 : Int), (0 : Nat) + Int.toNat ((4 : Int) * (↑i : Int)) < (64 : Nat), (0 : Int) ≤ (24 : Int) ∧ (24 : Int) ≤ (32 : Int), InR IntKind.i64 ((4 : Int) * (↑i : Int)), InR IntKind.i64 ((4 : Int) * (↑i : Int) + (1 : Int)), (0 : Int) ≤ (4 : Int) * (↑i : Int) + (1 : Int) ∧ (4 : Int) * (↑i : Int) + (1 : Int) < (64 : Int), (0 : Nat) + Int.toNat ((4 : Int) * (↑i : Int) + (1 : Int)) < (64 : Nat), (0 : Int) ≤ (16 : Int) ∧ (16 : Int) ≤ (32 : Int), InR IntKind.i64 ((4 : Int) * (↑i : Int)), InR IntKind.i64 ((4 : Int) * (↑i : Int) + (2 : Int)), (0 : Int) ≤ (4 : Int) * (↑i : Int) + (2 : Int) ∧ (4 : Int) * (↑i : Int) + (2 : Int) < (64 : Int), (0 : Nat) + Int.toNat ((4 : Int) * (↑i : Int) + (2 : Int)) < (64 : Nat), (0 : Int) ≤ (8 : Int) ∧ (8 : Int) ≤ (32 : Int), InR IntKind.i64 ((4 : Int) * (↑i : Int)), InR IntKind.i64 ((4 : Int) * (↑i : Int) + (3 : Int)), (0 : Int) ≤ (4 : Int) * (↑i : Int) + (3 : Int) ∧ (4 : Int) * (↑i : Int) + (3 : Int) < (64 : Int), (0 : Nat) + Int.toNat ((4 : Int) * (↑i : Int) + (3 : Int)) < (64 : Nat), (0 : Int) ≤ (↑i : Int) ∧ (↑i : Int) < (64 : Int), (0 : Nat) + Int.toNat (↑i : Int) < (64 : Nat), InR IntKind.i64 ((↑i : Int) + (1 : Int)), q (64 : Nat), q b, q (64 : Nat), List.set w ((0 : Nat) + Int.toNat (↑i : Int)) (ibits (fun x x_1 y => x_1 ||| y) IntKind.u32 (ibits (fun x x_1 y => x_1 ||| y) IntKind.u32 (ibits (fun x x_1 y => x_1 ||| y) IntKind.u32 (IntKind.wrap IntKind.u32 (IntKind.wrap IntKind.u32 (List.getD b ((0 : Nat) + Int.toNat ((4 : Int) * (↑i : Int))) (0 : Int)) * (16777216 : Int))) (IntKind.wrap IntKind.u32 (IntKind.wrap IntKind.u32 (List.getD b ((0 : Nat) + Int.toNat ((4 : Int) * (↑i : Int) + (1 : Int))) (0 : Int)) * (65536 : Int)))) (IntKind.wrap IntKind.u32 (IntKind.wrap IntKind.u32 (List.getD b ((0 : Nat) + Int.toNat ((4 : Int) * (↑i : Int) + (2 : Int))) (0 : Int)) * (256 : Int)))) (IntKind.wrap IntKind.u32 (List.getD b ((0 : Nat) + Int.toNat ((4 : Int) * (↑i : Int) + (3 : Int))) (0 : Int)))) = w2, q0, q0, q0, q0, q0, q0, (↑i : Int) + (1 : Int) = (↑(i + (1 : Nat)) : Int)]) : Option (Exit × St × List Prop)) := by kernel_rfl
theorem pcWi_p0 (b : List Int) (w : List Int) (i : Nat) (w2 : List Int) :
  alongPc Tryz.prog (pcWi b w i w2) [false] = (some (.exit 0, St.mk (mkT 71 [(1, .ptr (.o 0) 0 0 0 0), (2, .ptr (.o 1) 0 0 0 0), (6, .int .i64 16)]) [(.o 0, .flat [.seg .u8 64 b]), (.o 1, .flat [.seg .u32 64 w])] 2 [], [decide ((↑i : Int) < (16 : Int)) = false, q (64 : Nat), q b, q (64 : Nat), q w, q0, q0, q0, q0, q0, q0, (↑i : Int) = (16 : Int)]) : Option (Exit × St × List Prop)) := by kernel_rfl

theorem pcWj_p1 (b : List Int) (w : List Int) (k : Nat) (w2 : List Int) :
  alongPc Tryz.prog (pcWj b w k w2) [true] = (some (.normal, St.mk (mkT 71 [(1, .ptr (.o 0) 0 0 0 0), (2, .ptr (.o 1) 0 0 0 0), (4, .fn (.func (151 : FuncId)) [] []), (5, .int .i64 (↑(16 + (k + 1)) : Int))]) [(.o 0, .flat [.seg .u8 64 b]), (.o 1, .flat [.seg .u32 64 w2])] 2 [], [decide ((↑((16 : Nat) + k) : Int) < (64 : Int)) = true, InR IntKind.i64 ((↑((16 : Nat) + k) : Int) - (16 : Int)), (0 : Int) ≤ (↑((16 : Nat) + k) : Int) - (16 : Int) ∧ (↑((16 : Nat) + k) : Int) - (16 : Int) < (64 : Int), (0 : Nat) + Int.toNat ((↑((16 : Nat) + k) : Int) - (16 : Int)) < (64 : Nat), InR IntKind.i64 ((↑((16 : Nat) + k) : Int) - (15 : Int)), (0 : Int) ≤ (↑((16 : Nat) + k) : Int) - (15 : Int) ∧ (↑((16 : Nat) + k) : Int) - (15 : Int) < (64 : Int), (0 : Nat) + Int.toNat ((↑((16 : Nat) + k) : Int) - (15 : Int)) < (64 : Nat), T Tryz.prog (151 : FuncId) [.int .u32 (List.getD w (0 + Int.toNat ((↑(16 + k) : Int) - (15 : Int))) (0 : Int)), .int .i64 7, .int .i64 18, .int .i64 3] [] (.int .u32 (m32 (List.getD w (0 + Int.toNat ((↑(16 + k) : Int) - (15 : Int))) (0 : Int)) (7 : Int) (18 : Int) (3 : Int))) [], InR IntKind.i64 ((↑((16 : Nat) + k) : Int) - (7 : Int)), (0 : Int) ≤ (↑((16 : Nat) + k) : Int) - (7 : Int) ∧ (↑((16 : Nat) + k) : Int) - (7 : Int) < (64 : Int), (0 : Nat) + Int.toNat ((↑((16 : Nat) + k) : Int) - (7 : Int)) < (64 : Nat), InR IntKind.i64 ((↑((16 : Nat) + k) : Int) - (2 : Int)), (0 : Int) ≤ (↑((16 : Nat) + k) : Int) - (2 : Int) ∧ (↑((16 : Nat) + k) : Int) - (2 : Int) < (64 : Int), (0 : Nat) + Int.toNat ((↑((16 : Nat) + k) : Int) - (2 : Int)) < (64 : Nat), T Tryz.prog (151 : FuncId) [.int .u32 (List.getD w (0 + Int.toNat ((↑(16 + k) : Int) - (2 : Int))) (0 : Int)), .int .i64 17, .int .i64 19, .int .i64 10] [] (.int .u32 (m32 (List.getD w (0 + Int.toNat ((↑(16 + k) : Int) - (2 : Int))) (0 : Int)) (17 : Int) (19 : Int) (10 : Int))) [], (0 : Int) ≤ (↑((16 : Nat) + k) : Int) ∧ (↑((16 : Nat) + k) : Int) < (64 : Int), (0 : Nat) + Int.toNat (↑((16 : Nat) + k) : Int) < (64 : Nat), InR IntKind.i64 ((↑((16 : Nat) + k) : Int) + (1 : Int)), q (64 : Nat), q b, q (64 : Nat), List.set w ((0 : Nat) + Int.toNat (↑((16 : Nat) + k) : Int)) (IntKind.wrap IntKind.u32 (IntKind.wrap IntKind.u32 (IntKind.wrap IntKind.u32 (List.getD w ((0 : Nat) + Int.toNat ((↑((16 : Nat) + k) : Int) - (16 : Int))) (0 : Int) + m32 (List.getD w ((0 : Nat) + Int.toNat ((↑((16 : Nat) + k) : Int) - (15 : Int))) (0 : Int)) (7 : Int) (18 : Int) (3 : Int)) + List.getD w ((0 : Nat) + Int.toNat ((↑((16 : Nat) + k) : Int) - (7 : Int))) (0 : Int)) + m32 (List.getD w ((0 : Nat) + Int.toNat ((↑((16 : Nat) + k) : Int) - (2 : Int))) (0 : Int)) (17 : Int) (19 : Int) (10 : Int))) = w2, q0, q0, q0, q0, q0, q0, (↑((16 : Nat) + k) : Int) + (1 : Int) = (↑((16 : Nat) + (k + (1 : Nat))) : Int)]) : Option (Exit × St × List Prop)) := by kernel_rfl
theorem pcWj_p0 (b : List Int) (w : List Int) (k : Nat) (w2 : List Int) :
  alongPc Tryz.prog (pcWj b w k w2) [false] = (some (.exit 2, St.mk (mkT 71 [(1, .ptr (.o 0) 0 0 0 0), (2, .ptr (.o 1) 0 0 0 0), (4, .fn (.func (151 : FuncId)) [] []), (5, .int .i64 64)]) [(.o 0, .flat [.seg .u8 64 b]), (.o 1, .flat [.seg .u32 64 w])] 2 [], [decide ((↑((16 : Nat) + k) : Int) < (64 : Int)) = false, q (64 : Nat), q b, q (64 : Nat), q w, q0, q0, q0, q0, q0, q0, (↑((16 : Nat) + k) : Int) = (64 : Int)]) : Option (Exit × St × List Prop)) := by kernel_rfl

theorem T_rl (x : Int) {m : Nat} (h0 : 0 < m) (h : m < 32) : T Tryz.prog 152 [.int .u32 x, .int .i64 (0 - (m : Nat))] [] (.int .u32 (rl32 x (0 - (m : Nat)))) [] := by
 obtain ⟨h1, h2⟩ := lo5_neg m h h0
 rw [← Int.zero_sub] at h1 h2
 have g1 : 0 ≤ lo5 (0 - (m : Int)) ∧ lo5 (0 - (m : Int)) ≤ 32 := by omega
 have g2 : 0 ≤ IntKind.wrap .u64 (32 - lo5 (0 - (m : Int))) ∧ IntKind.wrap .u64 (32 - lo5 (0 - (m : Int))) ≤ 32 := by omega
 exact T_al (bdRl_p x (0 - (m : Nat))) Tryz.func152 ⟨g1, g2, True.intro⟩
theorem rl_rr0 (x : Int) {n : Nat} (h0 : 0 < n) (h : n < 32) : rl32 x (0 - (n : Int)) = rr32 x n := by rw [Int.zero_sub]; exact rl_rr x h0 h
theorem T_tu (x : Int) {a b c : Nat} (ha : 0 < a ∧ a < 32) (hb : 0 < b ∧ b < 32) (hc : 0 < c ∧ c < 32) : T Tryz.prog 149 [.int .u32 x, .int .i64 (a : Nat), .int .i64 (b : Nat), .int .i64 (c : Nat)] [] (.int .u32 (s32 x a b c)) [] := by
 have h1 := T_rl x ha.1 ha.2
 have h2 := T_rl x hb.1 hb.2
 have h3 := T_rl x hc.1 hc.2
 obtain ⟨ha1, ha2⟩ := ha
 obtain ⟨hb1, hb2⟩ := hb
 obtain ⟨hc1, hc2⟩ := hc
 have h := T_along NG MO _ (bdTu_p x a b c) Tryz.func149 (by kernel_rfl) (by
  simp only [All]; and_intros
  all_goals first | exact True.intro | exact h1 | exact h2 | exact h3 | (simp only [IntKind.min, IntKind.max, IntKind.signed, IntKind.bits, if_true]; omega)
  ) (pinH_ok (by kernel_rfl)) (by kernel_rfl)
 rw [rl_rr0 x ha1 ha2, rl_rr0 x hb1 hb2, rl_rr0 x hc1 hc2] at h
 exact h
theorem T_mi (x : Int) {a b c : Nat} (ha : 0 < a ∧ a < 32) (hb : 0 < b ∧ b < 32) (hc : c < 32) : T Tryz.prog 151 [.int .u32 x, .int .i64 (a : Nat), .int .i64 (b : Nat), .int .i64 (c : Nat)] [] (.int .u32 (m32 x a b c)) [] := by
 have h1 := T_rl x ha.1 ha.2
 have h2 := T_rl x hb.1 hb.2
 obtain ⟨ha1, ha2⟩ := ha
 obtain ⟨hb1, hb2⟩ := hb
 have h := T_along NG MO _ (bdMi_p x a b c) Tryz.func151 (by kernel_rfl) (by
  simp only [All]; and_intros
  all_goals first | exact True.intro | exact h1 | exact h2 | (simp only [IntKind.min, IntKind.max, IntKind.signed, IntKind.bits, if_true]; omega) | omega
  ) (pinH_ok (by kernel_rfl)) (by kernel_rfl)
 rw [rl_rr0 x ha1 ha2, rl_rr0 x hb1 hb2] at h
 exact h
theorem T_kr {t : Nat} (h : t < 64) : T Tryz.prog 150 [.int .i64 (t : Nat)] [] (.int .u32 (kN t)) [] := by
 have h0 := T_along NG MO _ (bdKr_p t) Tryz.func150 (by kernel_rfl) (by
  simp only [All]; and_intros
  all_goals first | exact True.intro | omega
  ) (pinH_ok (by kernel_rfl)) (by kernel_rfl)
 rw [Nat.zero_add, Int.toNat_natCast] at h0
 exact h0
theorem tn4 (i : Nat) : Int.toNat (4 * (i : Int)) = 4 * i ∧ Int.toNat (4 * (i : Int) + 1) = 4 * i + 1 ∧ Int.toNat (4 * (i : Int) + 2) = 4 * i + 2 ∧ Int.toNat (4 * (i : Int) + 3) = 4 * i + 3 := by omega
theorem tn16 (k : Nat) : Int.toNat (((16 + k : Nat) : Int) - 16) = k ∧ Int.toNat (((16 + k : Nat) : Int) - 15) = k + 1 ∧ Int.toNat (((16 + k : Nat) : Int) - 7) = k + 9 ∧ Int.toNat (((16 + k : Nat) : Int) - 2) = k + 14 := by omega
theorem T_wtK (b : List Int) : T Tryz.prog 148 [.agg [.seg .u8 64 b]] [] (.agg [.seg .u32 64 (wB b 48)]) [] := by
 have hA : RLoop Tryz.prog none 0 (cB (cB (cR (cL (cR (bodyOf Tryz.f148)))))) (16 + 1) (wtI b (wA b 0) 0) (.exit 0) (wtI b (wA b 16) 16) := by
  have hstep : ∀ i, i < 16 → R Tryz.prog none 0 (cB (cB (cR (cL (cR (bodyOf Tryz.f148)))))) (wtI b (wA b i) i) .normal (wtI b (wA b (i + 1)) (i + 1)) := by
   intro i hi
   obtain ⟨e0, e1, e2, e3⟩ := tn4 i
   refine R_alongPc NG MO _ (pcWi_p1 b (wA b i) i (wA b (i + 1))) ?_ (Nat.zero_le _)
   simp only [All, e0, e1, e2, e3, Nat.zero_add, Int.toNat_natCast]; and_intros
   all_goals first | exact True.intro | rfl | (rw [decide_eq_true_eq]; omega) | (simp only [IntKind.min, IntKind.max, IntKind.signed, IntKind.bits, if_true]; omega) | omega
  have hend : R Tryz.prog none 0 (cB (cB (cR (cL (cR (bodyOf Tryz.f148)))))) (wtI b (wA b 16) 16) (.exit 0) (wtI b (wA b 16) 16) := by
   refine R_alongPc NG MO _ (pcWi_p0 b (wA b 16) 16 []) ?_ (Nat.zero_le _)
   simp only [All]; and_intros
   all_goals first | exact True.intro | (rw [decide_eq_false_iff_not]; omega) | omega
  exact RLoop.inv (fun i => wtI b (wA b i) i) 16 hstep hend (by simp)
 have hB : RLoop Tryz.prog none 0 (cB (cB (cR (cL (cR (cR (cR (bodyOf Tryz.f148)))))))) (48 + 1) (wtJ b (wB b 0) 0) (.exit 2) (wtJ b (wB b 48) 48) := by
  have hstep : ∀ k, k < 48 → R Tryz.prog none 0 (cB (cB (cR (cL (cR (cR (cR (bodyOf Tryz.f148)))))))) (wtJ b (wB b k) k) .normal (wtJ b (wB b (k + 1)) (k + 1)) := by
   intro k hk
   obtain ⟨e0, e1, e2, e3⟩ := tn16 k
   have h1 := T_mi ((wB b k).getD (k + 1) 0) (a := 7) (b := 18) (c := 3) (by decide) (by decide) (by decide)
   have h2 := T_mi ((wB b k).getD (k + 14) 0) (a := 17) (b := 19) (c := 10) (by decide) (by decide) (by decide)
   refine R_alongPc NG MO _ (pcWj_p1 b (wB b k) k (wB b (k + 1))) ?_ (Nat.zero_le _)
   simp only [All, e0, e1, e2, e3, Nat.zero_add, Int.toNat_natCast]; and_intros
   all_goals first | exact True.intro | exact h1 | exact h2 | rfl | (rw [decide_eq_true_eq]; omega) | (simp only [IntKind.min, IntKind.max, IntKind.signed, IntKind.bits, if_true]; omega) | omega
  have hend : R Tryz.prog none 0 (cB (cB (cR (cL (cR (cR (cR (bodyOf Tryz.f148)))))))) (wtJ b (wB b 48) 48) (.exit 2) (wtJ b (wB b 48) 48) := by
   refine R_alongPc NG MO _ (pcWj_p0 b (wB b 48) 48 []) ?_ (Nat.zero_le _)
   simp only [All]; and_intros
   all_goals first | exact True.intro | (rw [decide_eq_false_iff_not]; omega) | omega
  exact RLoop.inv (fun k => wtJ b (wB b k) k) 48 hstep hend (by simp)
 refine T_al (bdWtK_p b (wA b 16) (wB b 48)) Tryz.func148 ?_
 simp only [All]; and_intros
 all_goals first | exact True.intro | exact hA | exact hB
end Go.Proofs.YtnmccoincblecaaGreat
namespace Go.Proofs.YtnmccoincblecaaGreat
open Go Sy Go.Proofs
def stB (H W : List Int) (n : Int) : B := .flat [.seg .u32 8 H, .seg .u8 64 W, .int .i64 n]
def rb (l : List Int) : V := .ros 1 l.length (ib l) false
def z32L : List Int := List.replicate 32 0
def p0K (m : Nat) : V := .ptr (.o m) 0 0 0 0
def tuDb : List V → Heap → Nat → List Cl := fun l _ _ => match l with
 | [.int _ x, .int _ a, .int _ b, .int _ c] => [{ val := .int .u32 (s32 x a b c) }]
 | _ => []
def krDb : List V → Heap → Nat → List Cl := fun l _ _ => match l with
 | [.int _ t] => [{ val := .int .u32 (kN t.toNat) }]
 | _ => []
def bkI (H W : List Int) (n : Int) (w : List Int) (s : S8) (t : Nat) : St := ⟨mkT 136 [(0, p0K 0), (2, p0K 1), (3, .int .u32 s.a), (4, .int .u32 s.b), (5, .int .u32 s.c), (6, .int .u32 s.d), (7, .int .u32 s.e), (8, .int .u32 s.f), (9, .int .u32 s.g), (10, .int .u32 s.h), (61, .int .i64 (t : Nat))], [(.o 0, stB H W n), (.o 1, .flat [.seg .u32 64 w])], 2, []⟩
def bkJ (H W : List Int) (n : Int) (l : List Int) (i : Nat) : St := ⟨mkT 136 [(0, p0K 0), (119, .agg [.seg .u32 8 l]), (120, .int .i64 (i : Nat))], [(.o 0, stB H W n)], 2, []⟩
noncomputable def bdBkK (H W : List Int) (n : Int) (w : List Int) (s : S8) (H2 : List Int) : Bd := { f := Tryz.f138, args := [p0K 0], pre := [(.o 0, stB H W n)], base := 1, kb := { db := dbQ [(148, cVal (.agg [.seg .u32 64 w]))], lp := fun id t => bif Nat.beq id 0 then [(True, .loop (64 + 1) (wToS [(.o 1, nmV (getV t.tmps 2))] (bkI H W n w (S8.of H) 0)) (.exit 0) (bkI H W n w s 64))] else [(True, .loop (8 + 1) (wTo (bkJ H W n s.l 0)) (.exit 2) (bkJ H2 W n s.l 8))] }, names := fun _ => [.o 0] }
noncomputable def pcBi (H W : List Int) (n : Int) (w : List Int) (s : S8) (t : Nat) (s2 : S8) : Pc := { c := cB (cB (cR (cL (cR (cR (bodyOf Tryz.f138)))))), st := bkI H W n w s t, p := 1, kb := { db := dbQ [(149, tuDb), (150, krDb)] }, k := fun x_ _ => match x_ with
 | .normal => some (wTo (bkI H W n w s2 (t + 1)))
 | _ => some (wTo (bkI H W n w s 64)) }
noncomputable def pcBj (H W : List Int) (n : Int) (l : List Int) (i : Nat) (H2 : List Int) : Pc := { c := cB (cB (cR (cR (cR (cR (bodyOf Tryz.f138)))))), st := bkJ H W n l i, p := 1, kb := kb0, k := fun x_ _ => match x_ with
 | .normal => some (wTo (bkJ H2 W n l (i + 1)))
 | _ => some (wTo (bkJ H W n l 8)) }
end Go.Proofs.YtnmccoincblecaaGreat
namespace Go.Proofs.YtnmccoincblecaaGreat
open Go Sy Go.Proofs
theorem bdBkK_p (H : List Int) (W : List Int) (n : Int) (w : List Int) (s : S8) (H2 : List Int) :
  along Tryz.prog (bdBkK H W n w s H2) [] = (some (.tup [], [(.o 0, .flat [.seg .u32 8 H2, .seg .u8 64 W, .int .i64 n])], [T Tryz.prog 148 [.agg [.seg .u8 64 W]] [] (.agg [.seg .u32 64 w]) [], (0 : Int) ≤ (0 : Int) ∧ (0 : Int) < (8 : Int), nat_lit 0 < (8 : Nat), (0 : Int) ≤ (1 : Int) ∧ (1 : Int) < (8 : Int), nat_lit 1 < (8 : Nat), (0 : Int) ≤ (2 : Int) ∧ (2 : Int) < (8 : Int), nat_lit 2 < (8 : Nat), (0 : Int) ≤ (3 : Int) ∧ (3 : Int) < (8 : Int), nat_lit 3 < (8 : Nat), (0 : Int) ≤ (4 : Int) ∧ (4 : Int) < (8 : Int), nat_lit 4 < (8 : Nat), (0 : Int) ≤ (5 : Int) ∧ (5 : Int) < (8 : Int), nat_lit 5 < (8 : Nat), (0 : Int) ≤ (6 : Int) ∧ (6 : Int) < (8 : Int), nat_lit 6 < (8 : Nat), (0 : Int) ≤ (7 : Int) ∧ (7 : Int) < (8 : Int), nat_lit 7 < (8 : Nat), RLoop Tryz.prog none 1 (cB (cB (cR (cL (cR (cR (bodyOf (Bd.f (bdBkK H W n w s H2))))))))) 65 (St.mk (mkT 136 [(0, .ptr (.o 0) 0 0 0 0), (2, .ptr (.o 1) 0 0 0 0), (3, .int .u32 (List.getD H 0 (0 : Int))), (4, .int .u32 (List.getD H 1 (0 : Int))), (5, .int .u32 (List.getD H 2 (0 : Int))), (6, .int .u32 (List.getD H 3 (0 : Int))), (7, .int .u32 (List.getD H 4 (0 : Int))), (8, .int .u32 (List.getD H 5 (0 : Int))), (9, .int .u32 (List.getD H 6 (0 : Int))), (10, .int .u32 (List.getD H 7 (0 : Int))), (61, .int .i64 0)]) [(.o 0, .flat [.seg .u32 8 H, .seg .u8 64 W, .int .i64 n]), (.o 1, .flat [.seg .u32 64 w])] 2 []) (.exit 0) (St.mk (mkT 136 [(0, .ptr (.o 0) 0 0 0 0), (2, .ptr (.o 1) 0 0 0 0), (3, .int .u32 (S8.a s)), (4, .int .u32 (S8.b s)), (5, .int .u32 (S8.c s)), (6, .int .u32 (S8.d s)), (7, .int .u32 (S8.e s)), (8, .int .u32 (S8.f s)), (9, .int .u32 (S8.g s)), (10, .int .u32 (S8.h s)), (61, .int .i64 64)]) [(.o 0, .flat [.seg .u32 8 H, .seg .u8 64 W, .int .i64 n]), (.o 1, .flat [.seg .u32 64 w])] 2 []), q (8 : Nat), q H, q (64 : Nat), q W, q n, q (64 : Nat), q w, q0, q0, q0, q0, q0, q0, List.getD H (nat_lit 0) (0 : Int) = List.getD H (0 : Nat) (0 : Int), List.getD H (nat_lit 1) (0 : Int) = List.getD H (1 : Nat) (0 : Int), List.getD H (nat_lit 2) (0 : Int) = List.getD H (2 : Nat) (0 : Int), List.getD H (nat_lit 3) (0 : Int) = List.getD H (3 : Nat) (0 : Int), List.getD H (nat_lit 4) (0 : Int) = List.getD H (4 : Nat) (0 : Int), List.getD H (nat_lit 5) (0 : Int) = List.getD H (5 : Nat) (0 : Int), List.getD H (nat_lit 6) (0 : Int) = List.getD H (6 : Nat) (0 : Int), List.getD H (nat_lit 7) (0 : Int) = List.getD H (7 : Nat) (0 : Int), q1, RLoop Tryz.prog none 1 (cB (cB (cR (cR (cR (cR (bodyOf (Bd.f (bdBkK H W n w s H2))))))))) 9 (St.mk (mkT 136 [(0, .ptr (.o 0) 0 0 0 0), (119, .agg [.seg .u32 8 [S8.a s, S8.b s, S8.c s, S8.d s, S8.e s, S8.f s, S8.g s, S8.h s]]), (120, .int .i64 0)]) [(.o 0, .flat [.seg .u32 8 H, .seg .u8 64 W, .int .i64 n])] 2 []) (.exit 2) (St.mk (mkT 136 [(0, .ptr (.o 0) 0 0 0 0), (119, .agg [.seg .u32 8 [S8.a s, S8.b s, S8.c s, S8.d s, S8.e s, S8.f s, S8.g s, S8.h s]]), (120, .int .i64 8)]) [(.o 0, .flat [.seg .u32 8 H2, .seg .u8 64 W, .int .i64 n])] 2 []), q (8 : Nat), q H, q (64 : Nat), q W, q n, q0, q0, q0, q (8 : Nat), q ([S8.a s, S8.b s, S8.c s, S8.d s, S8.e s, S8.f s, S8.g s, S8.h s]), q1]) : Option (V × Heap × List Prop)) := by kernel_rfl

theorem pcBi_p1 (H : List Int) (W : List Int) (n : Int) (w : List Int) (s : S8) (t : Nat) (s2 : S8) :
  alongPc Tryz.prog (pcBi H W n w s t s2) [true] = (some (.normal, St.mk (mkT 136 [(0, .ptr (.o 0) 0 0 0 0), (2, .ptr (.o 1) 0 0 0 0), (3, .int .u32 (S8.a s2)), (4, .int .u32 (S8.b s2)), (5, .int .u32 (S8.c s2)), (6, .int .u32 (S8.d s2)), (7, .int .u32 (S8.e s2)), (8, .int .u32 (S8.f s2)), (9, .int .u32 (S8.g s2)), (10, .int .u32 (S8.h s2)), (61, .int .i64 (↑(t + 1) : Int))]) [(.o 0, .flat [.seg .u32 8 H, .seg .u8 64 W, .int .i64 n]), (.o 1, .flat [.seg .u32 64 w])] 2 [], [decide ((↑t : Int) < (64 : Int)) = true, T Tryz.prog 149 [.int .u32 (S8.e s), .int .i64 6, .int .i64 11, .int .i64 25] [] (.int .u32 (s32 (S8.e s) (6 : Int) (11 : Int) (25 : Int))) [], T Tryz.prog 150 [.int .i64 ↑t] [] (.int .u32 (kN (Int.toNat (↑t : Int)))) [], (0 : Int) ≤ (↑t : Int) ∧ (↑t : Int) < (64 : Int), (0 : Nat) + Int.toNat (↑t : Int) < (64 : Nat), T Tryz.prog 149 [.int .u32 (S8.a s), .int .i64 2, .int .i64 13, .int .i64 22] [] (.int .u32 (s32 (S8.a s) (2 : Int) (13 : Int) (22 : Int))) [], InR IntKind.i64 ((↑t : Int) + (1 : Int)), q (8 : Nat), q H, q (64 : Nat), q W, q n, q (64 : Nat), q w, q0, q0, q0, q0, q0, q0, IntKind.wrap IntKind.u32 (IntKind.wrap IntKind.u32 (IntKind.wrap IntKind.u32 (IntKind.wrap IntKind.u32 (IntKind.wrap IntKind.u32 (S8.h s + s32 (S8.e s) (6 : Int) (11 : Int) (25 : Int)) + ibits (fun x x_1 y => x_1 ^^^ y) IntKind.u32 (ibits (fun x x_1 y => x_1 &&& y) IntKind.u32 (S8.e s) (S8.f s)) (ibits (fun x x_1 y => x_1 &&& y) IntKind.u32 (ibits (fun x x_1 y => x_1 ^^^ y) IntKind.u32 (4294967295 : Int) (S8.e s)) (S8.g s))) + kN (Int.toNat (↑t : Int))) + List.getD w ((0 : Nat) + Int.toNat (↑t : Int)) (0 : Int)) + IntKind.wrap IntKind.u32 (s32 (S8.a s) (2 : Int) (13 : Int) (22 : Int) + ibits (fun x x_1 y => x_1 ^^^ y) IntKind.u32 (ibits (fun x x_1 y => x_1 ^^^ y) IntKind.u32 (ibits (fun x x_1 y => x_1 &&& y) IntKind.u32 (S8.a s) (S8.b s)) (ibits (fun x x_1 y => x_1 &&& y) IntKind.u32 (S8.a s) (S8.c s))) (ibits (fun x x_1 y => x_1 &&& y) IntKind.u32 (S8.b s) (S8.c s)))) = S8.a s2, S8.a s = S8.b s2, S8.b s = S8.c s2, S8.c s = S8.d s2, IntKind.wrap IntKind.u32 (S8.d s + IntKind.wrap IntKind.u32 (IntKind.wrap IntKind.u32 (IntKind.wrap IntKind.u32 (IntKind.wrap IntKind.u32 (S8.h s + s32 (S8.e s) (6 : Int) (11 : Int) (25 : Int)) + ibits (fun x x_1 y => x_1 ^^^ y) IntKind.u32 (ibits (fun x x_1 y => x_1 &&& y) IntKind.u32 (S8.e s) (S8.f s)) (ibits (fun x x_1 y => x_1 &&& y) IntKind.u32 (ibits (fun x x_1 y => x_1 ^^^ y) IntKind.u32 (4294967295 : Int) (S8.e s)) (S8.g s))) + kN (Int.toNat (↑t : Int))) + List.getD w ((0 : Nat) + Int.toNat (↑t : Int)) (0 : Int))) = S8.e s2, S8.e s = S8.f s2, S8.f s = S8.g s2, S8.g s = S8.h s2, (↑t : Int) + (1 : Int) = (↑(t + (1 : Nat)) : Int)]) : Option (Exit × St × List Prop)) := by kernel_rfl
theorem pcBi_p0 (H : List Int) (W : List Int) (n : Int) (w : List Int) (s : S8) (t : Nat) (s2 : S8) :
  alongPc Tryz.prog (pcBi H W n w s t s2) [false] = (some (.exit 0, St.mk (mkT 136 [(0, .ptr (.o 0) 0 0 0 0), (2, .ptr (.o 1) 0 0 0 0), (3, .int .u32 (S8.a s)), (4, .int .u32 (S8.b s)), (5, .int .u32 (S8.c s)), (6, .int .u32 (S8.d s)), (7, .int .u32 (S8.e s)), (8, .int .u32 (S8.f s)), (9, .int .u32 (S8.g s)), (10, .int .u32 (S8.h s)), (61, .int .i64 64)]) [(.o 0, .flat [.seg .u32 8 H, .seg .u8 64 W, .int .i64 n]), (.o 1, .flat [.seg .u32 64 w])] 2 [], [decide ((↑t : Int) < (64 : Int)) = false, q (8 : Nat), q H, q (64 : Nat), q W, q n, q (64 : Nat), q w, q0, q0, q0, q0, q0, q0, q (S8.a s), q (S8.b s), q (S8.c s), q (S8.d s), q (S8.e s), q (S8.f s), q (S8.g s), q (S8.h s), (↑t : Int) = (64 : Int)]) : Option (Exit × St × List Prop)) := by kernel_rfl

theorem pcBj_p1 (H : List Int) (W : List Int) (n : Int) (l : List Int) (i : Nat) (H2 : List Int) :
  alongPc Tryz.prog (pcBj H W n l i H2) [true] = (some (.normal, St.mk (mkT 136 [(0, .ptr (.o 0) 0 0 0 0), (119, .agg [.seg .u32 8 l]), (120, .int .i64 (↑(i + 1) : Int))]) [(.o 0, .flat [.seg .u32 8 H2, .seg .u8 64 W, .int .i64 n])] 2 [], [decide ((↑i : Int) < (8 : Int)) = true, (0 : Int) ≤ (↑i : Int) ∧ (↑i : Int) < (8 : Int) ∧ (↑i : Int) < (8 : Int), (0 : Int) ≤ (↑i : Int) ∧ (↑i : Int) < (8 : Int), (0 : Nat) + Int.toNat (↑i : Int) < (8 : Nat), (0 : Int) ≤ (↑i : Int) ∧ (↑i : Int) < (8 : Int), (0 : Nat) + Int.toNat (↑i : Int) < (8 : Nat), InR IntKind.i64 ((↑i : Int) + (1 : Int)), q (8 : Nat), List.set H ((0 : Nat) + Int.toNat (↑i : Int)) (IntKind.wrap IntKind.u32 (List.getD H ((0 : Nat) + Int.toNat (↑i : Int)) (0 : Int) + List.getD l (Int.toNat (↑i : Int)) (0 : Int))) = H2, q (64 : Nat), q W, q n, q0, q0, q0, q (8 : Nat), q l, (↑i : Int) + (1 : Int) = (↑(i + (1 : Nat)) : Int)]) : Option (Exit × St × List Prop)) := by kernel_rfl
theorem pcBj_p0 (H : List Int) (W : List Int) (n : Int) (l : List Int) (i : Nat) (H2 : List Int) :
  alongPc Tryz.prog (pcBj H W n l i H2) [false] = (some (.exit 2, St.mk (mkT 136 [(0, .ptr (.o 0) 0 0 0 0), (119, .agg [.seg .u32 8 l]), (120, .int .i64 8)]) [(.o 0, .flat [.seg .u32 8 H, .seg .u8 64 W, .int .i64 n])] 2 [], [decide ((↑i : Int) < (8 : Int)) = false, q (8 : Nat), q H, q (64 : Nat), q W, q n, q0, q0, q0, q (8 : Nat), q l, (↑i : Int) = (8 : Int)]) : Option (Exit × St × List Prop)) := by kernel_rfl

theorem T_bk (H W : List Int) (n : Int) : T Tryz.prog 138 [p0K 0] [(.o 0, stB H W n)] (.tup []) [(.o 0, stB (blk H W) W n)] := by
 have hA : ∀ w, RLoop Tryz.prog none 1 (cB (cB (cR (cL (cR (cR (bodyOf Tryz.f138))))))) (64 + 1) (bkI H W n w (rnd w (S8.of H) 0) 0) (.exit 0) (bkI H W n w (rnd w (S8.of H) 64) 64) := by
  intro w
  have hstep : ∀ t, t < 64 → R Tryz.prog none 1 (cB (cB (cR (cL (cR (cR (bodyOf Tryz.f138))))))) (bkI H W n w (rnd w (S8.of H) t) t) .normal (bkI H W n w (rnd w (S8.of H) (t + 1)) (t + 1)) := by
   intro t ht
   have h1 := T_tu (rnd w (S8.of H) t).e (a := 6) (b := 11) (c := 25) (by decide) (by decide) (by decide)
   have h2 := T_tu (rnd w (S8.of H) t).a (a := 2) (b := 13) (c := 22) (by decide) (by decide) (by decide)
   have h3 := T_kr ht
   refine R_alongPc NG MO _ (pcBi_p1 H W n w (rnd w (S8.of H) t) t (rnd w (S8.of H) (t + 1))) ?_ (by show 1 ≤ 2; decide)
   simp only [All, Nat.zero_add, Int.toNat_natCast]; and_intros
   all_goals first | exact True.intro | exact h1 | exact h2 | exact h3 | rfl | (with_reducible assumption) | (rw [decide_eq_true_eq]; omega) | (simp only [IntKind.min, IntKind.max, IntKind.signed, IntKind.bits, if_true]; omega) | omega
  have hend : R Tryz.prog none 1 (cB (cB (cR (cL (cR (cR (bodyOf Tryz.f138))))))) (bkI H W n w (rnd w (S8.of H) 64) 64) (.exit 0) (bkI H W n w (rnd w (S8.of H) 64) 64) := by
   refine R_alongPc NG MO _ (pcBi_p0 H W n w (rnd w (S8.of H) 64) 64 ⟨0, 0, 0, 0, 0, 0, 0, 0⟩) ?_ (by show 1 ≤ 2; decide)
   simp only [All]; and_intros
   all_goals first | exact True.intro | (rw [decide_eq_false_iff_not]; omega) | omega
  exact RLoop.inv (fun t => bkI H W n w (rnd w (S8.of H) t) t) 64 hstep hend (by simp)
 have hB : ∀ l, RLoop Tryz.prog none 1 (cB (cB (cR (cR (cR (cR (bodyOf Tryz.f138))))))) (8 + 1) (bkJ (hF H l 0) W n l 0) (.exit 2) (bkJ (hF H l 8) W n l 8) := by
  intro l
  have hstep : ∀ i, i < 8 → R Tryz.prog none 1 (cB (cB (cR (cR (cR (cR (bodyOf Tryz.f138))))))) (bkJ (hF H l i) W n l i) .normal (bkJ (hF H l (i + 1)) W n l (i + 1)) := by
   intro i hi
   refine R_alongPc NG MO _ (pcBj_p1 (hF H l i) W n l i (hF H l (i + 1))) ?_ (by show 1 ≤ 2; decide)
   simp only [All, Nat.zero_add, Int.toNat_natCast]; and_intros
   all_goals first | exact True.intro | rfl | (with_reducible assumption) | (rw [decide_eq_true_eq]; omega) | (simp only [IntKind.min, IntKind.max, IntKind.signed, IntKind.bits, if_true]; omega) | omega
  have hend : R Tryz.prog none 1 (cB (cB (cR (cR (cR (cR (bodyOf Tryz.f138))))))) (bkJ (hF H l 8) W n l 8) (.exit 2) (bkJ (hF H l 8) W n l 8) := by
   refine R_alongPc NG MO _ (pcBj_p0 (hF H l 8) W n l 8 []) ?_ (by show 1 ≤ 2; decide)
   simp only [All]; and_intros
   all_goals first | exact True.intro | (rw [decide_eq_false_iff_not]; omega) | omega
  exact RLoop.inv (fun i => bkJ (hF H l i) W n l i) 8 hstep hend (by simp)
 have h1 := T_wtK W
 have hA1 := hA (wB W 48)
 have hB1 := hB (rnd (wB W 48) (S8.of H) 64).l
 generalize hw : wB W 48 = w at h1 hA1 hB1
 generalize hs : rnd w (S8.of H) 64 = s at hA1 hB1
 have hb : hF H s.l 8 = blk H W := by rw [blk, hw, hs]
 rw [hb] at hB1
 refine T_al (bdBkK_p H W n w s (blk H W)) Tryz.func138 ?_
 simp only [All]; and_intros
 all_goals first | exact True.intro | exact h1 | exact hA1 | exact hB1 | omega
end Go.Proofs.YtnmccoincblecaaGreat
namespace Go.Proofs.YtnmccoincblecaaGreat
open Go Sy Go.Proofs
noncomputable def bdBe : Bd := { f := Tryz.f103, args := [], kb := kb0, names := fun t => [nmV (getV t.tmps 0)] }
def wrI (H W : List Int) (n : Nat) (l : List Int) : St := ⟨mkT 38 [(0, p0K 0), (1, rb l)], [(.o 0, stB H W (n : Nat))], 1, []⟩
noncomputable def bdWr (H W : List Int) (n : Nat) (l H2 W2 : List Int) (n2 : Nat) : Bd := { f := Tryz.f104, args := [p0K 0, rb l], pre := [(.o 0, stB H W (n : Nat))], base := 1, kb := { db := fun _ _ _ _ => [], lp := fun _ _ => [(True, .loop (l.length + 1) (wTo (wrI H W n l)) (.exit 0) (wrI H2 W2 n2 []))] }, names := fun _ => [.o 0] }
def bkDb (H2 : List Int) : List V → Heap → Nat → List Cl := fun _ h _ => match pull (.o 0) h with
 | some (.flat [_, .seg _ _ W, .int _ n], _) => [{ pre := [.o 0], val := .tup [], post := [(.o 0, .flat [.seg .u32 8 H2, .seg .u8 64 W, .int .i64 n])] }]
 | _ => []
noncomputable def pcWr (H W : List Int) (n : Nat) (l H2 W2 : List Int) (n2 : Nat) (l2 : List Int) : Pc := { c := cB (cB (bodyOf Tryz.f104)), st := wrI H W n l, p := 1, kb := { db := dbQ [(138, bkDb H2)] }, k := fun x_ _ => match x_ with
 | .normal => some (wTo (wrI H2 W2 n2 l2))
 | _ => some (wTo (wrI H W n [])) }
end Go.Proofs.YtnmccoincblecaaGreat
namespace Go.Proofs.YtnmccoincblecaaGreat
open Go Sy Go.Proofs
theorem bdBe_p :
  along Tryz.prog (bdBe) [] = (some (.ptr (.o 192) 0 0 0 0, [(.o 192, .flat [.seg .u32 8 [(1779033703 : Int), (3144134277 : Int), (1013904242 : Int), (2773480762 : Int), (1359893119 : Int), (2600822924 : Int), (528734635 : Int), (1541459225 : Int)], .seg .u8 64 (List.replicate 64 (0 : Int)), .int .i64 0])], []) : Option (V × Heap × List Prop)) := by kernel_rfl

theorem bdWr_p (H : List Int) (W : List Int) (n : Nat) (l : List Int) (H2 : List Int) (W2 : List Int) (n2 : Nat) :
  along Tryz.prog (bdWr H W n l H2 W2 n2) [] = (some (.tup [], [(.o 0, .flat [.seg .u32 8 H2, .seg .u8 64 W2, .int .i64 ↑n2])], [RLoop Tryz.prog none 1 (cB (cB (bodyOf (Bd.f (bdWr H W n l H2 W2 n2))))) (List.length l + 1) (St.mk (mkT 38 [(0, .ptr (.o 0) 0 0 0 0), (1, .ros 1 (List.length l) (ib l) false)]) [(.o 0, .flat [.seg .u32 8 H, .seg .u8 64 W, .int .i64 ↑n])] 1 []) (.exit 0) (St.mk (mkT 38 [(0, .ptr (.o 0) 0 0 0 0), (1, .ros 1 0 (ib []) false)]) [(.o 0, .flat [.seg .u32 8 H2, .seg .u8 64 W2, .int .i64 ↑n2])] 1 []), q (8 : Nat), q H, q (64 : Nat), q W, q (↑n : Int), q0, q0, q0, q (List.length l), ∀ (k : Nat), k < List.length l → [V.int IntKind.u8 (List.getD l k (0 : Int))] = [V.int IntKind.u8 (List.getD l k (0 : Int))], false = true → false = true]) : Option (V × Heap × List Prop)) := by kernel_rfl

noncomputable def pcWr_c (H : List Int) (W : List Int) (n : Nat) (l : List Int) (H2 : List Int) (W2 : List Int) (n2 : Nat) (l2 : List Int) : Nat → List Prop
 | 0 => [decide ((0 : Int) < (↑(List.length l) : Int)) = true, (0 : Int) ≤ (↑n : Int) ∧ (0 : Int) < (64 : Int), (0 : Int) ≤ (↑n : Int) % (64 : Int) ∧ (↑n : Int) % (64 : Int) ≤ (64 : Int), Int.toNat ((↑n : Int) % (64 : Int)) = (0 : Nat) ∨ Int.toNat ((↑n : Int) % (64 : Int)) < nat_lit 64, addO (0 : Nat) (some ((↑n : Int) % (64 : Int))) + (nat_lit 64 - natO (some ((↑n : Int) % (64 : Int))) (0 : Nat)) ≤ (64 : Nat), ∀ (q : Nat), q < List.length l → true = true, InR IntKind.i64 ((↑n : Int) + (↑(Nat.min (List.length l) (nat_lit 64 - natO (some ((↑n : Int) % (64 : Int))) (0 : Nat))) : Int)), (0 : Int) ≤ (↑(Nat.min (List.length l) (nat_lit 64 - natO (some ((↑n : Int) % (64 : Int))) (0 : Nat))) : Int) ∧ (↑(Nat.min (List.length l) (nat_lit 64 - natO (some ((↑n : Int) % (64 : Int))) (0 : Nat))) : Int) ≤ (↑(natO none (List.length l)) : Int), (0 : Int) ≤ (↑n : Int) + (↑(Nat.min (List.length l) (nat_lit 64 - natO (some ((↑n : Int) % (64 : Int))) (0 : Nat))) : Int) ∧ (0 : Int) < (64 : Int)]
 | _ => []
theorem pcWr_p11 (H : List Int) (W : List Int) (n : Nat) (l : List Int) (H2 : List Int) (W2 : List Int) (n2 : Nat) (l2 : List Int) :
 alongPc Tryz.prog (pcWr H W n l H2 W2 n2 l2) [true, true] = (some (.normal, St.mk (mkT 38 [(0, .ptr (.o 0) 0 0 0 0), (1, .ros 1 (List.length l2) (ib l2) false)]) [(.o 0, .flat [.seg .u32 8 H2, .seg .u8 64 W2, .int .i64 ↑n2])] 1 [], pcWr_c H W n l H2 W2 n2 l2 0 ++ [decide (((↑n : Int) + (↑(Nat.min (List.length l) (nat_lit 64 - natO (some ((↑n : Int) % (64 : Int))) (0 : Nat))) : Int)) % (64 : Int) = (0 : Int)) = true, T Tryz.prog 138 [.ptr (.o 0) 0 0 0 0] [(.o 0, .flat [.seg .u32 8 H, .seg .u8 64 (segSet 64 W (addO 0 (some ((↑n : Int) % (64 : Int)))) (Nat.min (List.length l) (nat_lit 64 - natO (some ((↑n : Int) % (64 : Int))) 0)) (ib l)), .int .i64 ((↑n : Int) + (↑(Nat.min (List.length l) (nat_lit 64 - natO (some ((↑n : Int) % (64 : Int))) 0)) : Int))])] (.tup []) [(.o 0, .flat [.seg .u32 8 H2, .seg .u8 64 (segSet 64 W (addO 0 (some ((↑n : Int) % (64 : Int)))) (Nat.min (List.length l) (nat_lit 64 - natO (some ((↑n : Int) % (64 : Int))) 0)) (ib l)), .int .i64 ((↑n : Int) + (↑(Nat.min (List.length l) (nat_lit 64 - natO (some ((↑n : Int) % (64 : Int))) 0)) : Int))])], q (8 : Nat), q H2, q (64 : Nat), segSet (64 : Nat) W (addO (0 : Nat) (some ((↑n : Int) % (64 : Int)))) (Nat.min (List.length l) (nat_lit 64 - natO (some ((↑n : Int) % (64 : Int))) (0 : Nat))) (ib l) = W2, (↑n : Int) + (↑(Nat.min (List.length l) (nat_lit 64 - natO (some ((↑n : Int) % (64 : Int))) (0 : Nat))) : Int) = (↑n2 : Int), q0, q0, q0, natO none (List.length l) - natO (some (↑(Nat.min (List.length l) (nat_lit 64 - natO (some ((↑n : Int) % (64 : Int))) (0 : Nat))) : Int)) (0 : Nat) = List.length l2, ∀ (k : Nat), k < natO none (List.length l) - natO (some (↑(Nat.min (List.length l) (nat_lit 64 - natO (some ((↑n : Int) % (64 : Int))) (0 : Nat))) : Int)) (0 : Nat) → [V.int IntKind.u8 (List.getD l (Int.toNat (↑(Nat.min (List.length l) (nat_lit 64 - natO (some ((↑n : Int) % (64 : Int))) (0 : Nat))) : Int) + k) (0 : Int))] = [V.int IntKind.u8 (List.getD l2 k (0 : Int))], false = true → false = true]) : Option (Exit × St × List Prop)) := by kernel_rfl
theorem pcWr_p10 (H : List Int) (W : List Int) (n : Nat) (l : List Int) (H2 : List Int) (W2 : List Int) (n2 : Nat) (l2 : List Int) :
 alongPc Tryz.prog (pcWr H W n l H2 W2 n2 l2) [true, false] = (some (.normal, St.mk (mkT 38 [(0, .ptr (.o 0) 0 0 0 0), (1, .ros 1 (List.length l2) (ib l2) false)]) [(.o 0, .flat [.seg .u32 8 H2, .seg .u8 64 W2, .int .i64 ↑n2])] 1 [], pcWr_c H W n l H2 W2 n2 l2 0 ++ [decide (((↑n : Int) + (↑(Nat.min (List.length l) (nat_lit 64 - natO (some ((↑n : Int) % (64 : Int))) (0 : Nat))) : Int)) % (64 : Int) = (0 : Int)) = false, q (8 : Nat), H = H2, q (64 : Nat), segSet (64 : Nat) W (addO (0 : Nat) (some ((↑n : Int) % (64 : Int)))) (Nat.min (List.length l) (nat_lit 64 - natO (some ((↑n : Int) % (64 : Int))) (0 : Nat))) (ib l) = W2, (↑n : Int) + (↑(Nat.min (List.length l) (nat_lit 64 - natO (some ((↑n : Int) % (64 : Int))) (0 : Nat))) : Int) = (↑n2 : Int), q0, q0, q0, natO none (List.length l) - natO (some (↑(Nat.min (List.length l) (nat_lit 64 - natO (some ((↑n : Int) % (64 : Int))) (0 : Nat))) : Int)) (0 : Nat) = List.length l2, ∀ (k : Nat), k < natO none (List.length l) - natO (some (↑(Nat.min (List.length l) (nat_lit 64 - natO (some ((↑n : Int) % (64 : Int))) (0 : Nat))) : Int)) (0 : Nat) → [V.int IntKind.u8 (List.getD l (Int.toNat (↑(Nat.min (List.length l) (nat_lit 64 - natO (some ((↑n : Int) % (64 : Int))) (0 : Nat))) : Int) + k) (0 : Int))] = [V.int IntKind.u8 (List.getD l2 k (0 : Int))], false = true → false = true]) : Option (Exit × St × List Prop)) := by kernel_rfl
theorem pcWr_p0 (H : List Int) (W : List Int) (n : Nat) (l : List Int) (H2 : List Int) (W2 : List Int) (n2 : Nat) (l2 : List Int) :
 alongPc Tryz.prog (pcWr H W n l H2 W2 n2 l2) [false] = (some (.exit 0, St.mk (mkT 38 [(0, .ptr (.o 0) 0 0 0 0), (1, .ros 1 0 (ib []) false)]) [(.o 0, .flat [.seg .u32 8 H, .seg .u8 64 W, .int .i64 ↑n])] 1 [], [decide ((0 : Int) < (↑(List.length l) : Int)) = false, q (8 : Nat), q H, q (64 : Nat), q W, q (↑n : Int), q0, q0, q0, List.length l = nat_lit 0, ∀ (k : Nat), k < List.length l → [V.int IntKind.u8 (List.getD l k (0 : Int))] = [V.int IntKind.u8 (0 : Int)], false = true → false = true]) : Option (Exit × St × List Prop)) := by kernel_rfl

def wrC (n : Nat) (l : List Int) : Nat := Nat.min l.length (64 - natO (some ((n : Int) % 64)) 0)
def wrW (W : List Int) (n : Nat) (l : List Int) : List Int := segSet 64 W (addO 0 (some ((n : Int) % 64))) (wrC n l) (ib l)
theorem wrC_eq (n : Nat) (l : List Int) : wrC n l = min l.length (64 - n % 64) := by
 have : natO (some ((n : Int) % 64)) 0 = n % 64 := by show ((n : Int) % 64).toNat = _; omega
 rw [wrC, this]
theorem wrW_eq (W : List Int) (n : Nat) (l : List Int) : wrW W n l = segSet 64 W (n % 64) (wrC n l) (ib l) := by
 have : addO 0 (some ((n : Int) % 64)) = n % 64 := by show 0 + ((n : Int) % 64).toNat = _; omega
 rw [wrW, this]
theorem wr_all : ∀ (N : Nat) (l : List Int), l.length ≤ N → ∀ B H W, Inv B H W → B.length + l.length ≤ 1000000000000 → ∃ H2 W2, Inv (B ++ l) H2 W2 ∧ ∀ m, l.length < m →
  RLoop Tryz.prog none 1 (cB (cB (bodyOf Tryz.f104))) m (wrI H W B.length l) (.exit 0) (wrI H2 W2 (B.length + l.length) []) := by
 intro N
 induction N with
 | zero =>
  intro l hl B H W hI hb
  obtain rfl : l = [] := List.eq_nil_of_length_eq_zero (by omega)
  refine ⟨H, W, by rw [List.append_nil]; exact hI, fun m hm => ?_⟩
  obtain ⟨m, rfl⟩ : ∃ k, m = k + 1 := ⟨m - 1, by simp at hm; omega⟩
  refine RLoop.out ?_ (by simp)
  refine R_alongPc NG MO _ (pcWr_p0 H W B.length [] [] [] 0 []) ?_ (by show 1 ≤ 1; decide)
  simp only [All, All_append, pcWr_c]; and_intros
  all_goals first | exact True.intro | (rw [decide_eq_false_iff_not]; omega) | (intro _ _; rfl) | omega | (intro h; exact h)
 | succ N ih =>
  intro l hl B H W hI hb
  by_cases h0 : l.length = 0
  ·obtain rfl : l = [] := List.eq_nil_of_length_eq_zero h0
   refine ⟨H, W, by rw [List.append_nil]; exact hI, fun m hm => ?_⟩
   obtain ⟨m, rfl⟩ : ∃ k, m = k + 1 := ⟨m - 1, by simp at hm; omega⟩
   refine RLoop.out ?_ (by simp)
   refine R_alongPc NG MO _ (pcWr_p0 H W B.length [] [] [] 0 []) ?_ (by show 1 ≤ 1; decide)
   simp only [All, All_append, pcWr_c]; and_intros
   all_goals first | exact True.intro | (with_reducible assumption) | (rw [decide_eq_false_iff_not]; omega) | (intro _ _; rfl) | (intro h; exact h)
  have hc := wrC_eq B.length l
  have hc1 : wrC B.length l ≤ l.length := by omega
  have hc2 : wrC B.length l ≤ 64 - B.length % 64 := by omega
  have hc3 : 0 < wrC B.length l := by omega
  have hS := inv_step hI hc1 hc2
  simp only [← wrW_eq] at hS
  have e1 : natO (none : Option Int) l.length = l.length := rfl
  have e2 : natO (some ((wrC B.length l : Nat) : Int)) 0 = wrC B.length l := Int.toNat_natCast _
  have e3 : natO (some ((B.length : Int) % 64)) 0 = B.length % 64 := by show ((B.length : Int) % 64).toNat = _; omega
  have e4 : addO 0 (some ((B.length : Int) % 64)) = B.length % 64 := by show 0 + ((B.length : Int) % 64).toNat = _; omega
  have e5 : Nat.min l.length (64 - natO (some ((B.length : Int) % 64)) 0) = wrC B.length l := rfl
  have hd : (l.drop (wrC B.length l)).length = l.length - wrC B.length l := List.length_drop
  have ht : (B ++ l.take (wrC B.length l)).length = B.length + wrC B.length l := by rw [List.length_append, List.length_take, Nat.min_eq_left hc1]
  have hdg : ∀ k, (l.drop (wrC B.length l)).getD k 0 = l.getD (wrC B.length l + k) 0 := fun k => by rw [List.getD_eq_getElem?_getD, List.getD_eq_getElem?_getD, List.getElem?_drop]
  have key : ∃ H1, Inv (B ++ l.take (wrC B.length l)) H1 (wrW W B.length l) ∧ R Tryz.prog none 1 (cB (cB (bodyOf Tryz.f104))) (wrI H W B.length l) .normal (wrI H1 (wrW W B.length l) (B.length + wrC B.length l) (l.drop (wrC B.length l))) := by
   by_cases hz : (B.length + wrC B.length l) % 64 = 0
   ·have hB := T_bk H (wrW W B.length l) ((B.length : Int) + (wrC B.length l : Nat))
    refine ⟨blk H (wrW W B.length l), hS.1 hz hc3, ?_⟩
    refine R_alongPc NG MO _ (pcWr_p11 H W B.length l (blk H (wrW W B.length l)) (wrW W B.length l) (B.length + wrC B.length l) (l.drop (wrC B.length l))) ?_ (by show 1 ≤ 1; decide)
    simp only [All, All_append, pcWr_c, e5, e1, e2, hd, hdg, Int.toNat_natCast]; and_intros
    all_goals first | exact True.intro | (rw [e3]; omega) | (rw [decide_eq_true_eq]; omega) | (intro _ _; exact True.intro) | (simp only [IntKind.min, IntKind.max, IntKind.signed, IntKind.bits, if_true]; omega) | omega | (intro h; exact h) | kernel_rfl | (refine Eq.mp ?_ hB; kernel_rfl)
   ·refine ⟨H, hS.2 hz, ?_⟩
    refine R_alongPc NG MO _ (pcWr_p10 H W B.length l H (wrW W B.length l) (B.length + wrC B.length l) (l.drop (wrC B.length l))) ?_ (by show 1 ≤ 1; decide)
    simp only [All, All_append, pcWr_c, e5, e1, e2, hd, hdg, Int.toNat_natCast]; and_intros
    all_goals first | exact True.intro | (rw [e3]; omega) | (rw [decide_eq_true_eq]; omega) | (rw [decide_eq_false_iff_not]; omega) | (intro _ _; exact True.intro) | (simp only [IntKind.min, IntKind.max, IntKind.signed, IntKind.bits, if_true]; omega) | omega | (intro h; exact h) | kernel_rfl
  obtain ⟨H1, hI1, hR⟩ := key
  obtain ⟨H2, W2, hI2, hL⟩ := ih (l.drop (wrC B.length l)) (by omega) _ _ _ hI1 (by omega)
  refine ⟨H2, W2, by rw [List.append_assoc, List.take_append_drop] at hI2; exact hI2, fun m hm => ?_⟩
  obtain ⟨m, rfl⟩ : ∃ k, m = k + 1 := ⟨m - 1, by omega⟩
  have := hL m (by omega)
  rw [ht, hd, show B.length + wrC B.length l + (l.length - wrC B.length l) = B.length + l.length by omega] at this
  exact RLoop.step hR this
theorem T_wr {B H W : List Int} (hI : Inv B H W) (l : List Int) (hb : B.length + l.length ≤ 1000000000000) : ∃ H2 W2, Inv (B ++ l) H2 W2 ∧ T Tryz.prog 104 [p0K 0, rb l] [(.o 0, stB H W (B.length : Nat))] (.tup []) [(.o 0, stB H2 W2 ((B.length + l.length : Nat) : Int))] := by
 obtain ⟨H2, W2, h1, h2⟩ := wr_all l.length l (Nat.le_refl _) B H W hI hb
 have hL := h2 (l.length + 1) (Nat.lt_succ_self _)
 refine ⟨H2, W2, h1, ?_⟩
 refine T_al (bdWr_p H W B.length l H2 W2 (B.length + l.length)) Tryz.func104 ?_
 simp only [All, All_append, pcWr_c]; and_intros
 all_goals first | exact True.intro | exact hL | (intro _ _; exact True.intro) | (intro h; exact h)
end Go.Proofs.YtnmccoincblecaaGreat
namespace Go.Proofs.YtnmccoincblecaaGreat
open Go Sy Go.Proofs
def wrCl (H W : List Int) (n : Nat) : List V → List Cl
 | [_, .sl x _ _ _ _ _ _] => [{ pre := [.o 0], rd := [x], val := .tup [], post := [(.o 0, stB H W (n : Nat))] }]
 | _ => []
def enI (H W : List Int) (n N : Nat) : St := ⟨mkT 63 [(0, p0K 0), (2, p0K 1), (3, .int .i64 (8 * (N : Int)))], [(.o 0, stB H W (n : Nat)), (.o 1, .flat [.seg .u8 32 z32L])], 2, []⟩
def enJ (H W : List Int) (n : Nat) (d : List Int) (k : Nat) : St := ⟨mkT 63 [(0, p0K 0), (2, p0K 1), (43, .int .i64 (k : Nat))], [(.o 0, stB H W (n : Nat)), (.o 1, .flat [.seg .u8 32 d])], 2, []⟩
def enR (N j : Nat) : Nat → List V := fun q => [.int .u8 (if q < j then lenE (8 * (N : Int)) q else 0)]
def enL (H W : List Int) (n N j : Nat) : St := ⟨mkT 63 [(0, p0K 0), (2, p0K 1), (3, .int .i64 (8 * (N : Int))), (4, .sl (.o 2) 1 0 0 0 8 none), (26, .int .i64 8), (27, .int .i64 (j : Nat))], [(.o 0, stB H W (n : Nat)), (.o 1, .flat [.seg .u8 32 z32L]), (.o 2, .rows 1 8 (enR N j) false)], 3, []⟩
def enDb (H1 W1 H3 W3 : List Int) (N z : Nat) (a : List V) : List Cl := match a with
 | [_, .sl _ _ _ _ _ 1 _] => wrCl H1 W1 (N + 1) a
 | _ => wrCl H3 W3 (N + 1 + z + 8) a
noncomputable def bdEn (H W : List Int) (N : Nat) (H1 W1 : List Int) (z : Nat) (H2 W2 H3 W3 d : List Int) : Bd := { f := Tryz.f105, args := [p0K 0], pre := [(.o 0, stB H W (N : Nat))], base := 1, kb := { db := dbQ [(104, fun a _ _ => enDb H1 W1 H3 W3 N z a)], lp := fun id t => bif Nat.beq id 0 then [(True, .loop (z + 1) (wToS [(.o 1, nmV (getV t.tmps 2))] (enI H1 W1 (N + 1) N)) (.exit 0) (enI H2 W2 (N + 1 + z) N))] else bif Nat.beq id 2 then [(True, .loop (8 + 1) (wToS [(.o 2, nmV (getV t.tmps 4))] (enL H2 W2 (N + 1 + z) N 0)) (.exit 2) (enL H2 W2 (N + 1 + z) N 8))] else [(True, .loop (32 + 1) (wTo (enJ H3 W3 (N + 1 + z + 8) z32L 0)) (.exit 4) (enJ H3 W3 (N + 1 + z + 8) d 32))] }, names := fun _ => [.o 0] }
noncomputable def pcEn (H W : List Int) (n N : Nat) (H2 W2 : List Int) : Pc := { c := cB (cB (cL (cR (cR (cR (bodyOf Tryz.f105)))))), st := enI H W n N, p := 1, kb := { db := dbQ [(104, fun a _ _ => wrCl H2 W2 (n + 1) a)] }, k := fun x_ _ => match x_ with
 | .normal => some (wTo (enI H2 W2 (n + 1) N))
 | _ => some (wTo (enI H W n N)) }
noncomputable def pcEl (H W : List Int) (n N j : Nat) : Pc := { c := cB (cB (cR (cL (cR (cR (cR (cR (cR (bodyOf Tryz.f105))))))))), st := enL H W n N j, p := 1, kb := kb0, k := fun x_ _ => match x_ with
 | .normal => some (wTo (enL H W n N (j + 1)))
 | _ => some (wTo (enL H W n N 8)) }
noncomputable def pcEj (H W : List Int) (n : Nat) (d : List Int) (k : Nat) (d2 : List Int) : Pc := { c := cB (cB (cR (cL (cR (cR (cR (cR (cR (cR (cR (bodyOf Tryz.f105))))))))))), st := enJ H W n d k, p := 1, kb := kb0, k := fun x_ _ => match x_ with
 | .normal => some (wTo (enJ H W n d2 (k + 1)))
 | _ => some (wTo (enJ H W n d 32)) }
end Go.Proofs.YtnmccoincblecaaGreat
namespace Go.Proofs.YtnmccoincblecaaGreat
open Go Sy Go.Proofs
theorem bdEn_p (H : List Int) (W : List Int) (N : Nat) (H1 : List Int) (W1 : List Int) (z : Nat) (H2 : List Int) (W2 : List Int) (H3 : List Int) (W3 : List Int) (d : List Int) :
  along Tryz.prog (bdEn H W N H1 W1 z H2 W2 H3 W3 d) [] = some (V.agg [V.seg IntKind.u8 (32 : Nat) d], [(Nm.o (0 : Nat), B.flat [V.seg IntKind.u32 (8 : Nat) H3, V.seg IntKind.u8 (64 : Nat) W3, V.int IntKind.i64 (↑(N + (1 : Nat) + z + (8 : Nat)) : Int)])], [InR IntKind.i64 ((8 : Int) * (↑N : Int)), T Tryz.prog (104 : Nat) [V.ptr (Nm.o (0 : Nat)) (0 : Nat) (0 : Nat) (0 : Nat) (0 : Nat), V.sl (Nm.o (nat_lit 513)) (1 : Nat) (0 : Nat) (0 : Nat) (0 : Nat) (1 : Nat) (some (1 : Nat))] [(Nm.o (0 : Nat), B.flat [V.seg IntKind.u32 (8 : Nat) H, V.seg IntKind.u8 (64 : Nat) W, V.int IntKind.i64 (↑N : Int)]), (Nm.o (nat_lit 513), B.rows (1 : Nat) (1 : Nat) (getL [[V.int IntKind.u8 (128 : Int)]]) false)] (V.tup []) [(Nm.o (0 : Nat), B.flat [V.seg IntKind.u32 (8 : Nat) H1, V.seg IntKind.u8 (64 : Nat) W1, V.int IntKind.i64 (↑(N + (1 : Nat)) : Int)]), (Nm.o (nat_lit 513), B.rows (1 : Nat) (1 : Nat) (getL [[V.int IntKind.u8 (128 : Int)]]) false)], RLoop Tryz.prog none (1 : Nat) (cB (cB (cL (cR (cR (cR (bodyOf (Bd.f (bdEn H W N H1 W1 z H2 W2 H3 W3 d))))))))) (z + (1 : Nat)) (St.mk (mkT 63 [(0, V.ptr (Nm.o (0 : Nat)) (0 : Nat) (0 : Nat) (0 : Nat) (0 : Nat)), (2, V.ptr (Nm.o (1 : Nat)) (0 : Nat) (0 : Nat) (0 : Nat) (0 : Nat)), (3, V.int IntKind.i64 ((8 : Int) * (↑N : Int)))]) [(Nm.o (0 : Nat), B.flat [V.seg IntKind.u32 (8 : Nat) H1, V.seg IntKind.u8 (64 : Nat) W1, V.int IntKind.i64 (↑(N + (1 : Nat)) : Int)]), (Nm.o (1 : Nat), B.flat [V.seg IntKind.u8 (32 : Nat) z32L])] (2 : Nat) []) (Exit.exit (0 : Nat)) (St.mk (mkT 63 [(0, V.ptr (Nm.o (0 : Nat)) (0 : Nat) (0 : Nat) (0 : Nat) (0 : Nat)), (2, V.ptr (Nm.o (1 : Nat)) (0 : Nat) (0 : Nat) (0 : Nat) (0 : Nat)), (3, V.int IntKind.i64 ((8 : Int) * (↑N : Int)))]) [(Nm.o (0 : Nat), B.flat [V.seg IntKind.u32 (8 : Nat) H2, V.seg IntKind.u8 (64 : Nat) W2, V.int IntKind.i64 (↑(N + (1 : Nat) + z) : Int)]), (Nm.o (1 : Nat), B.flat [V.seg IntKind.u8 (32 : Nat) z32L])] (2 : Nat) []), (8 : Nat) = (8 : Nat), H1 = H1, (64 : Nat) = (64 : Nat), W1 = W1, (↑(N + (1 : Nat)) : Int) = (↑(N + (1 : Nat)) : Int), (32 : Nat) = (32 : Nat), (List.replicate 32 (0 : Int)) = z32L, (0 : Nat) = (0 : Nat), (0 : Nat) = (0 : Nat), (0 : Nat) = (0 : Nat), (0 : Nat) = (0 : Nat), (0 : Nat) = (0 : Nat), (0 : Nat) = (0 : Nat), (8 : Int) * (↑N : Int) = (8 : Int) * (↑N : Int), (0 : Int) ≤ (8 : Int) ∧ (8 : Int) ≤ (8 : Int), (8 : Int) ≤ (281474976710656 : Int), (8 : Int) ≤ (281474976710656 : Int), RLoop Tryz.prog none (1 : Nat) (cB (cB (cR (cL (cR (cR (cR (cR (cR (bodyOf (Bd.f (bdEn H W N H1 W1 z H2 W2 H3 W3 d)))))))))))) (nat_lit 9) (St.mk (mkT 63 [(0, V.ptr (Nm.o (0 : Nat)) (0 : Nat) (0 : Nat) (0 : Nat) (0 : Nat)), (2, V.ptr (Nm.o (1 : Nat)) (0 : Nat) (0 : Nat) (0 : Nat) (0 : Nat)), (3, V.int IntKind.i64 ((8 : Int) * (↑N : Int))), (4, V.sl (Nm.o (2 : Nat)) (1 : Nat) (0 : Nat) (0 : Nat) (0 : Nat) (8 : Nat) none), (26, V.int IntKind.i64 (8 : Int)), (27, V.int IntKind.i64 (0 : Int))]) [(Nm.o (0 : Nat), B.flat [V.seg IntKind.u32 (8 : Nat) H2, V.seg IntKind.u8 (64 : Nat) W2, V.int IntKind.i64 (↑(N + (1 : Nat) + z) : Int)]), (Nm.o (1 : Nat), B.flat [V.seg IntKind.u8 (32 : Nat) z32L]), (Nm.o (2 : Nat), B.rows (1 : Nat) (8 : Nat) (enR N (0 : Nat)) false)] (3 : Nat) []) (Exit.exit (2 : Nat)) (St.mk (mkT 63 [(0, V.ptr (Nm.o (0 : Nat)) (0 : Nat) (0 : Nat) (0 : Nat) (0 : Nat)), (2, V.ptr (Nm.o (1 : Nat)) (0 : Nat) (0 : Nat) (0 : Nat) (0 : Nat)), (3, V.int IntKind.i64 ((8 : Int) * (↑N : Int))), (4, V.sl (Nm.o (2 : Nat)) (1 : Nat) (0 : Nat) (0 : Nat) (0 : Nat) (8 : Nat) none), (26, V.int IntKind.i64 (8 : Int)), (27, V.int IntKind.i64 (8 : Int))]) [(Nm.o (0 : Nat), B.flat [V.seg IntKind.u32 (8 : Nat) H2, V.seg IntKind.u8 (64 : Nat) W2, V.int IntKind.i64 (↑(N + (1 : Nat) + z) : Int)]), (Nm.o (1 : Nat), B.flat [V.seg IntKind.u8 (32 : Nat) z32L]), (Nm.o (2 : Nat), B.rows (1 : Nat) (8 : Nat) (enR N (8 : Nat)) false)] (3 : Nat) []), (8 : Nat) = (8 : Nat), H2 = H2, (64 : Nat) = (64 : Nat), W2 = W2, (↑(N + (1 : Nat) + z) : Int) = (↑(N + (1 : Nat) + z) : Int), (32 : Nat) = (32 : Nat), z32L = z32L, nat_lit 8 = (8 : Nat), ∀ (k : Nat), k < nat_lit 8 → [V.int IntKind.u8 (0 : Int)] = [V.int IntKind.u8 (0 : Int)], false = false → false = false, (0 : Nat) = (0 : Nat), (0 : Nat) = (0 : Nat), (0 : Nat) = (0 : Nat), (0 : Nat) = (0 : Nat), (0 : Nat) = (0 : Nat), (0 : Nat) = (0 : Nat), (8 : Int) * (↑N : Int) = (8 : Int) * (↑N : Int), (0 : Nat) = (0 : Nat), (0 : Nat) = (0 : Nat), (0 : Nat) = (0 : Nat), nat_lit 8 = (8 : Nat), (none : Option Nat) = none ∨ none = some (nat_lit 8), (8 : Int) = (8 : Int), (0 : Int) = (0 : Int), T Tryz.prog (104 : Nat) [V.ptr (Nm.o (0 : Nat)) (0 : Nat) (0 : Nat) (0 : Nat) (0 : Nat), V.sl (Nm.o (2 : Nat)) (1 : Nat) (0 : Nat) (0 : Nat) (0 : Nat) (8 : Nat) none] [(Nm.o (0 : Nat), B.flat [V.seg IntKind.u32 (8 : Nat) H2, V.seg IntKind.u8 (64 : Nat) W2, V.int IntKind.i64 (↑(N + (1 : Nat) + z) : Int)]), (Nm.o (2 : Nat), B.rows (1 : Nat) (8 : Nat) (enR N (8 : Nat)) false)] (V.tup []) [(Nm.o (0 : Nat), B.flat [V.seg IntKind.u32 (8 : Nat) H3, V.seg IntKind.u8 (64 : Nat) W3, V.int IntKind.i64 (↑(N + (1 : Nat) + z + (8 : Nat)) : Int)]), (Nm.o (2 : Nat), B.rows (1 : Nat) (8 : Nat) (enR N (8 : Nat)) false)], RLoop Tryz.prog none (1 : Nat) (cB (cB (cR (cL (cR (cR (cR (cR (cR (cR (cR (bodyOf (Bd.f (bdEn H W N H1 W1 z H2 W2 H3 W3 d)))))))))))))) (nat_lit 33) (St.mk (mkT 63 [(0, V.ptr (Nm.o (0 : Nat)) (0 : Nat) (0 : Nat) (0 : Nat) (0 : Nat)), (2, V.ptr (Nm.o (1 : Nat)) (0 : Nat) (0 : Nat) (0 : Nat) (0 : Nat)), (43, V.int IntKind.i64 (0 : Int))]) [(Nm.o (0 : Nat), B.flat [V.seg IntKind.u32 (8 : Nat) H3, V.seg IntKind.u8 (64 : Nat) W3, V.int IntKind.i64 (↑(N + (1 : Nat) + z + (8 : Nat)) : Int)]), (Nm.o (1 : Nat), B.flat [V.seg IntKind.u8 (32 : Nat) z32L])] (2 : Nat) []) (Exit.exit (4 : Nat)) (St.mk (mkT 63 [(0, V.ptr (Nm.o (0 : Nat)) (0 : Nat) (0 : Nat) (0 : Nat) (0 : Nat)), (2, V.ptr (Nm.o (1 : Nat)) (0 : Nat) (0 : Nat) (0 : Nat) (0 : Nat)), (43, V.int IntKind.i64 (32 : Int))]) [(Nm.o (0 : Nat), B.flat [V.seg IntKind.u32 (8 : Nat) H3, V.seg IntKind.u8 (64 : Nat) W3, V.int IntKind.i64 (↑(N + (1 : Nat) + z + (8 : Nat)) : Int)]), (Nm.o (1 : Nat), B.flat [V.seg IntKind.u8 (32 : Nat) d])] (2 : Nat) []), (8 : Nat) = (8 : Nat), H3 = H3, (64 : Nat) = (64 : Nat), W3 = W3, (↑(N + (1 : Nat) + z + (8 : Nat)) : Int) = (↑(N + (1 : Nat) + z + (8 : Nat)) : Int), (32 : Nat) = (32 : Nat), z32L = z32L, (0 : Nat) = (0 : Nat), (0 : Nat) = (0 : Nat), (0 : Nat) = (0 : Nat), (0 : Nat) = (0 : Nat), (0 : Nat) = (0 : Nat), (0 : Nat) = (0 : Nat), (0 : Int) = (0 : Int)]) := by kernel_rfl

theorem pcEn_p1 (H : List Int) (W : List Int) (n : Nat) (N : Nat) (H2 : List Int) (W2 : List Int) :
  alongPc Tryz.prog (pcEn H W n N H2 W2) [true] = (some (.normal, St.mk (mkT 63 [(0, .ptr (.o 0) 0 0 0 0), (2, .ptr (.o 1) 0 0 0 0), (3, .int .i64 ((8 : Int) * (↑N : Int)))]) [(.o 0, .flat [.seg .u32 8 H2, .seg .u8 64 W2, .int .i64 (↑(n + 1) : Int)]), (.o 1, .flat [.seg .u8 32 z32L])] 2 [], [(0 : Int) ≤ (↑n : Int) ∧ (0 : Int) < (64 : Int), (!decide ((↑n : Int) % (64 : Int) = (56 : Int))) = true, T Tryz.prog 104 [.ptr (.o 0) 0 0 0 0, .sl (.o 450) 1 0 0 0 1 (some 1)] [(.o 0, .flat [.seg .u32 8 H, .seg .u8 64 W, .int .i64 ↑n]), (.o 450, .rows 1 1 (getL [[.int .u8 0]]) false)] (.tup []) [(.o 0, .flat [.seg .u32 8 H2, .seg .u8 64 W2, .int .i64 (↑(n + 1) : Int)]), (.o 450, .rows 1 1 (getL [[.int .u8 0]]) false)], q (8 : Nat), q H2, q (64 : Nat), q W2, q (↑(n + (1 : Nat)) : Int), q (32 : Nat), q z32L, q0, q0, q0, q0, q0, q0, q ((8 : Int) * (↑N : Int))]) : Option (Exit × St × List Prop)) := by kernel_rfl
theorem pcEn_p0 (H : List Int) (W : List Int) (n : Nat) (N : Nat) (H2 : List Int) (W2 : List Int) :
  alongPc Tryz.prog (pcEn H W n N H2 W2) [false] = (some (.exit 0, St.mk (mkT 63 [(0, .ptr (.o 0) 0 0 0 0), (2, .ptr (.o 1) 0 0 0 0), (3, .int .i64 ((8 : Int) * (↑N : Int)))]) [(.o 0, .flat [.seg .u32 8 H, .seg .u8 64 W, .int .i64 ↑n]), (.o 1, .flat [.seg .u8 32 z32L])] 2 [], [(0 : Int) ≤ (↑n : Int) ∧ (0 : Int) < (64 : Int), (!decide ((↑n : Int) % (64 : Int) = (56 : Int))) = false, q (8 : Nat), q H, q (64 : Nat), q W, q (↑n : Int), q (32 : Nat), q z32L, q0, q0, q0, q0, q0, q0, q ((8 : Int) * (↑N : Int))]) : Option (Exit × St × List Prop)) := by kernel_rfl

theorem pcEl_p1 (H : List Int) (W : List Int) (n : Nat) (N : Nat) (j : Nat) :
  alongPc Tryz.prog (pcEl H W n N j) [true] = (some (.normal, St.mk (mkT 63 [(0, .ptr (.o 0) 0 0 0 0), (2, .ptr (.o 1) 0 0 0 0), (3, .int .i64 ((8 : Int) * (↑N : Int))), (4, .sl (.o 2) 1 0 0 0 8 none), (26, .int .i64 8), (27, .int .i64 (↑(j + 1) : Int))]) [(.o 0, .flat [.seg .u32 8 H, .seg .u8 64 W, .int .i64 ↑n]), (.o 1, .flat [.seg .u8 32 z32L]), (.o 2, .rows 1 8 (enR N (j + 1)) false)] 3 [], [decide ((↑j : Int) < (8 : Int)) = true, InR IntKind.i64 ((8 : Int) * (↑j : Int)), InR IntKind.i64 ((56 : Int) - (8 : Int) * (↑j : Int)), (0 : Int) ≤ (56 : Int) - (8 : Int) * (↑j : Int) ∧ (56 : Int) - (8 : Int) * (↑j : Int) ≤ (64 : Int), (0 : Int) ≤ (↑j : Int) ∧ (↑j : Int) < (8 : Int), (0 : Nat) + Int.toNat (↑j : Int) < (8 : Nat), InR IntKind.i64 ((↑j : Int) + (1 : Int)), q (8 : Nat), q H, q (64 : Nat), q W, q (↑n : Int), q (32 : Nat), q z32L, q (8 : Nat), ∀ (k : Nat), k < (8 : Nat) → Bool.rec [V.int IntKind.u8 (if k < j then lenE ((8 : Int) * (↑N : Int)) k else (0 : Int))] [V.int IntKind.u8 (IntKind.wrap IntKind.u8 ((8 : Int) * (↑N : Int) / (2 : Int) ^ Int.toNat ((56 : Int) - (8 : Int) * (↑j : Int))))] (Nat.beq k ((0 : Nat) + Int.toNat (↑j : Int))) = [V.int IntKind.u8 (if k < j + (1 : Nat) then lenE ((8 : Int) * (↑N : Int)) k else (0 : Int))], false = false → false = false, q0, q0, q0, q0, q0, q0, q ((8 : Int) * (↑N : Int)), q0, q0, q0, q (8 : Nat), (none : Option Nat) = none ∨ (none : Option Nat) = none, q (8 : Int), (↑j : Int) + (1 : Int) = (↑(j + (1 : Nat)) : Int)]) : Option (Exit × St × List Prop)) := by kernel_rfl
theorem pcEl_p0 (H : List Int) (W : List Int) (n : Nat) (N : Nat) (j : Nat) :
  alongPc Tryz.prog (pcEl H W n N j) [false] = (some (.exit 2, St.mk (mkT 63 [(0, .ptr (.o 0) 0 0 0 0), (2, .ptr (.o 1) 0 0 0 0), (3, .int .i64 ((8 : Int) * (↑N : Int))), (4, .sl (.o 2) 1 0 0 0 8 none), (26, .int .i64 8), (27, .int .i64 8)]) [(.o 0, .flat [.seg .u32 8 H, .seg .u8 64 W, .int .i64 ↑n]), (.o 1, .flat [.seg .u8 32 z32L]), (.o 2, .rows 1 8 (enR N 8) false)] 3 [], [decide ((↑j : Int) < (8 : Int)) = false, q (8 : Nat), q H, q (64 : Nat), q W, q (↑n : Int), q (32 : Nat), q z32L, q (8 : Nat), ∀ (k : Nat), k < (8 : Nat) → [V.int IntKind.u8 (if k < j then lenE ((8 : Int) * (↑N : Int)) k else (0 : Int))] = [V.int IntKind.u8 (if k < (8 : Nat) then lenE ((8 : Int) * (↑N : Int)) k else (0 : Int))], false = false → false = false, q0, q0, q0, q0, q0, q0, q ((8 : Int) * (↑N : Int)), q0, q0, q0, q (8 : Nat), (none : Option Nat) = none ∨ (none : Option Nat) = none, q (8 : Int), (↑j : Int) = (8 : Int)]) : Option (Exit × St × List Prop)) := by kernel_rfl

theorem pcEj_p1 (H : List Int) (W : List Int) (n : Nat) (d : List Int) (k : Nat) (d2 : List Int) :
  alongPc Tryz.prog (pcEj H W n d k d2) [true] = (some (.normal, St.mk (mkT 63 [(0, .ptr (.o 0) 0 0 0 0), (2, .ptr (.o 1) 0 0 0 0), (43, .int .i64 (↑(k + 1) : Int))]) [(.o 0, .flat [.seg .u32 8 H, .seg .u8 64 W, .int .i64 ↑n]), (.o 1, .flat [.seg .u8 32 d2])] 2 [], [decide ((↑k : Int) < (32 : Int)) = true, (0 : Int) ≤ (↑k : Int) ∧ (0 : Int) < (4 : Int) ∧ InR IntKind.i64 ((↑k : Int) / (4 : Int)), (0 : Int) ≤ (↑k : Int) / (4 : Int) ∧ (↑k : Int) / (4 : Int) < (8 : Int), (0 : Nat) + Int.toNat ((↑k : Int) / (4 : Int)) < (8 : Nat), (0 : Int) ≤ (↑k : Int) ∧ (0 : Int) < (4 : Int), InR IntKind.i64 ((8 : Int) * ((↑k : Int) % (4 : Int))), InR IntKind.i64 ((24 : Int) - (8 : Int) * ((↑k : Int) % (4 : Int))), (0 : Int) ≤ (24 : Int) - (8 : Int) * ((↑k : Int) % (4 : Int)) ∧ (24 : Int) - (8 : Int) * ((↑k : Int) % (4 : Int)) ≤ (32 : Int), (0 : Int) ≤ (↑k : Int) ∧ (↑k : Int) < (32 : Int), (0 : Nat) + Int.toNat (↑k : Int) < (32 : Nat), InR IntKind.i64 ((↑k : Int) + (1 : Int)), q (8 : Nat), q H, q (64 : Nat), q W, q (↑n : Int), q (32 : Nat), List.set d ((0 : Nat) + Int.toNat (↑k : Int)) (IntKind.wrap IntKind.u8 (List.getD H ((0 : Nat) + Int.toNat ((↑k : Int) / (4 : Int))) (0 : Int) / (2 : Int) ^ Int.toNat ((24 : Int) - (8 : Int) * ((↑k : Int) % (4 : Int))))) = d2, q0, q0, q0, q0, q0, q0, (↑k : Int) + (1 : Int) = (↑(k + (1 : Nat)) : Int)]) : Option (Exit × St × List Prop)) := by kernel_rfl
theorem pcEj_p0 (H : List Int) (W : List Int) (n : Nat) (d : List Int) (k : Nat) (d2 : List Int) :
  alongPc Tryz.prog (pcEj H W n d k d2) [false] = (some (.exit 4, St.mk (mkT 63 [(0, .ptr (.o 0) 0 0 0 0), (2, .ptr (.o 1) 0 0 0 0), (43, .int .i64 32)]) [(.o 0, .flat [.seg .u32 8 H, .seg .u8 64 W, .int .i64 ↑n]), (.o 1, .flat [.seg .u8 32 d])] 2 [], [decide ((↑k : Int) < (32 : Int)) = false, q (8 : Nat), q H, q (64 : Nat), q W, q (↑n : Int), q (32 : Nat), q d, q0, q0, q0, q0, q0, q0, (↑k : Int) = (32 : Int)]) : Option (Exit × St × List Prop)) := by kernel_rfl

theorem g1 (v : Int) : ∀ k, k < [v].length → getL [[V.int .u8 v]] k = [.int .u8 ([v].getD k 0)] := by
 intro k hk
 have : k = 0 := by simp at hk; omega
 subst this
 rfl
theorem freeSt (H W : List Int) (n : Int) : FreeB (stB H W n) := FreeB.flat rfl
theorem T_wr5 {B H W : List Int} (hI : Inv B H W) (l : List Int) (hb : B.length + l.length ≤ 1000000000000) (f : Nat → List V) (hf : ∀ k, k < l.length → f k = [.int .u8 (l.getD k 0)]) (cap : Option Nat) (g : Bool) :
  ∃ H2 W2, Inv (B ++ l) H2 W2 ∧ T Tryz.prog 104 [p0K 0, .sl (.o 5) 1 0 0 0 l.length cap] [(.o 0, stB H W (B.length : Nat)), (.o 5, .rows 1 l.length f g)] (.tup []) [(.o 0, stB H2 W2 ((B.length + l.length : Nat) : Int)), (.o 5, .rows 1 l.length f g)] := by
 obtain ⟨H2, W2, h1, h2⟩ := T_wr hI l hb
 refine ⟨H2, W2, h1, ?_⟩
 refine T.lendH (pre0' := [(.o 0, stB H W (B.length : Nat))]) (pre1 := [(.o 5, .rows 1 l.length f g)]) h2 rfl ?_ rfl ?_ FreeV.tup0 ?_ ?_
 ·simp only [All]; and_intros
  all_goals first | exact True.intro | (intro k hk; rw [Nat.zero_add]; exact hf k hk) | omega | (intro h; cases h; done)
 ·simp only [All]; and_intros
  all_goals first | exact True.intro
 ·intro q hq
  obtain rfl := List.mem_singleton.1 hq
  exact freeSt _ _ _
 ·rintro n ⟨b, hb1⟩ ⟨b', hb2⟩
  cases List.mem_singleton.1 hb1
  cases List.mem_singleton.1 hb2
theorem T_wrS {B H W : List Int} (hI : Inv B H W) (l : List Int) (hb : B.length + l.length ≤ 1000000000000) (f : Nat → List V) (hf : ∀ k, k < l.length → f k = [.int .u8 (l.getD k 0)]) (cap : Option Nat) (g : Bool) {x : Nat} (hx : [Nm.o 0, Nm.o x].Nodup) :
  ∃ H2 W2, Inv (B ++ l) H2 W2 ∧ T Tryz.prog 104 [p0K 0, .sl (.o x) 1 0 0 0 l.length cap] [(.o 0, stB H W (B.length : Nat)), (.o x, .rows 1 l.length f g)] (.tup []) [(.o 0, stB H2 W2 ((B.length + l.length : Nat) : Int)), (.o x, .rows 1 l.length f g)] := by
 obtain ⟨H2, W2, h1, h2⟩ := T_wr5 hI l hb f hf cap g
 obtain ⟨σ, hσ, h3⟩ := T.at h2 [.o 0, .o 5] [.o 0, .o x] (by decide) hx rfl
 simp only [List.map_cons, List.map_nil, List.cons.injEq, and_true] at hσ
 exact ⟨H2, W2, h1, by simpa [V.rens, V.ren, Heap.ren, Sy.B.ren, p0K, stB, hσ.1, hσ.2] using h3⟩
theorem en0 (N : Nat) : ∀ (r : Nat) (B H W : List Int), Inv B H W → (B.length + r) % 64 = 56 → (∀ i, i < r → (B.length + i) % 64 ≠ 56) → B.length + r ≤ 100000000000 → ∃ H2 W2, Inv (B ++ List.replicate r 0) H2 W2 ∧
  RLoop Tryz.prog none 1 (cB (cB (cL (cR (cR (cR (bodyOf Tryz.f105))))))) (r + 1) (enI H W B.length N) (.exit 0) (enI H2 W2 (B.length + r) N) := by
 intro r
 induction r with
 | zero =>
  intro B H W hI h1 h2 h3
  refine ⟨H, W, by rw [List.replicate_zero, List.append_nil]; exact hI, ?_⟩
  refine RLoop.out ?_ (by simp)
  refine R_alongPc NG MO _ (pcEn_p0 H W B.length N [] []) ?_ (by show 1 ≤ 2; decide)
  have e : (!decide ((B.length : Int) % 64 = 56)) = false := by rw [decide_eq_true (by omega)]; rfl
  simp only [All]; and_intros
  all_goals first | exact True.intro | exact e | omega
 | succ r ih =>
  intro B H W hI h1 h2 h3
  have h0 := h2 0 (Nat.succ_pos _)
  have e : (!decide ((B.length : Int) % 64 = 56)) = true := by rw [decide_eq_false (by omega)]; rfl
  obtain ⟨H1, W1, hI1, hT⟩ := T_wrS hI [0] (by simp; omega) (getL [[V.int IntKind.u8 0]]) (g1 _) (some 1) false (x := 450) (by decide)
  have hl : (B ++ [0]).length = B.length + 1 := by simp
  obtain ⟨H2, W2, hI2, hL⟩ := ih (B ++ [0]) H1 W1 hI1 (by rw [hl]; omega) (fun i hi => by rw [hl]; have := h2 (i + 1) (by omega); rwa [show B.length + 1 + i = B.length + (i + 1) by omega]) (by rw [hl]; omega)
  rw [hl] at hL
  rw [List.append_assoc, show [0] ++ List.replicate r 0 = List.replicate (r + 1) (0 : Int) from rfl] at hI2
  rw [show B.length + 1 + r = B.length + (r + 1) by omega] at hL
  refine ⟨H2, W2, hI2, RLoop.step ?_ hL⟩
  refine R_alongPc NG MO _ (pcEn_p1 H W B.length N H1 W1) ?_ (by show 1 ≤ 2; decide)
  simp only [All]; and_intros
  all_goals first | exact True.intro | exact e | exact hT | omega
theorem enLL (H W : List Int) (n N : Nat) (hN : N ≤ 100000000000) : RLoop Tryz.prog none 1 (cB (cB (cR (cL (cR (cR (cR (cR (cR (bodyOf Tryz.f105)))))))))) (8 + 1) (enL H W n N 0) (.exit 2) (enL H W n N 8) := by
 have hstep : ∀ j, j < 8 → R Tryz.prog none 1 (cB (cB (cR (cL (cR (cR (cR (cR (cR (bodyOf Tryz.f105)))))))))) (enL H W n N j) .normal (enL H W n N (j + 1)) := by
  intro j hj
  have e1 : Int.toNat (56 - 8 * (j : Int)) = 56 - 8 * j := by omega
  have key : ∀ k, k < 8 → (Bool.rec [V.int IntKind.u8 (if k < j then lenE (8 * (N : Int)) k else 0)] [V.int IntKind.u8 (IntKind.wrap IntKind.u8 (8 * (N : Int) / 2 ^ (56 - 8 * j)))] (Nat.beq k j) : List V) = [V.int IntKind.u8 (if k < j + 1 then lenE (8 * (N : Int)) k else 0)] := by
   intro k hk
   cases hb : Nat.beq k j with
   | true =>
    have := Nat.eq_of_beq_eq_true hb; subst this
    rw [show (if k < k + 1 then lenE (8 * (N : Int)) k else 0) = lenE (8 * (N : Int)) k from if_pos (Nat.lt_succ_self k)]; rfl
   | false =>
    have hne : k ≠ j := fun e => by rw [e, Nat.beq_refl] at hb; cases hb
    by_cases h : k < j
    ·rw [if_pos h, if_pos (by omega)]
    ·rw [if_neg h, if_neg (by omega)]
  refine R_alongPc NG MO _ (pcEl_p1 H W n N j) ?_ (by show 1 ≤ 3; decide)
  simp only [All, e1, Int.toNat_natCast, Nat.zero_add]; and_intros
  all_goals first | exact True.intro | exact key | (with_reducible assumption) | (rw [decide_eq_true_eq]; omega) | (simp only [IntKind.min, IntKind.max, IntKind.signed, IntKind.bits, if_true]; omega) | omega | (intro h; exact h) | exact .inl True.intro
 have hend : R Tryz.prog none 1 (cB (cB (cR (cL (cR (cR (cR (cR (cR (bodyOf Tryz.f105)))))))))) (enL H W n N 8) (.exit 2) (enL H W n N 8) := by
  refine R_alongPc NG MO _ (pcEl_p0 H W n N 8) ?_ (by show 1 ≤ 3; decide)
  simp only [All]; and_intros
  all_goals first | exact True.intro | (rw [decide_eq_false_iff_not]; omega) | (intro _ _; exact True.intro) | omega | (intro h; exact h) | exact .inl True.intro
 exact RLoop.inv (fun j => enL H W n N j) 8 hstep hend (by simp)
theorem enJL (H W : List Int) (n : Nat) : RLoop Tryz.prog none 1 (cB (cB (cR (cL (cR (cR (cR (cR (cR (cR (cR (bodyOf Tryz.f105)))))))))))) (32 + 1) (enJ H W n (dA H 0) 0) (.exit 4) (enJ H W n (dA H 32) 32) := by
 have hstep : ∀ k, k < 32 → R Tryz.prog none 1 (cB (cB (cR (cL (cR (cR (cR (cR (cR (cR (cR (bodyOf Tryz.f105)))))))))))) (enJ H W n (dA H k) k) .normal (enJ H W n (dA H (k + 1)) (k + 1)) := by
  intro k hk
  have e1 : Int.toNat (24 - 8 * ((k : Int) % 4)) = 24 - 8 * (k % 4) := by omega
  have e2 : Int.toNat ((k : Int) / 4) = k / 4 := by omega
  refine R_alongPc NG MO _ (pcEj_p1 H W n (dA H k) k (dA H (k + 1))) ?_ (by show 1 ≤ 2; decide)
  simp only [All, e1, e2, Int.toNat_natCast, Nat.zero_add]; and_intros
  all_goals first | exact True.intro | rfl | (with_reducible assumption) | (rw [decide_eq_true_eq]; omega) | (simp only [IntKind.min, IntKind.max, IntKind.signed, IntKind.bits, if_true]; omega) | omega
 have hend : R Tryz.prog none 1 (cB (cB (cR (cL (cR (cR (cR (cR (cR (cR (cR (bodyOf Tryz.f105)))))))))))) (enJ H W n (dA H 32) 32) (.exit 4) (enJ H W n (dA H 32) 32) := by
  refine R_alongPc NG MO _ (pcEj_p0 H W n (dA H 32) 32 []) ?_ (by show 1 ≤ 2; decide)
  simp only [All]; and_intros
  all_goals first | exact True.intro | (rw [decide_eq_false_iff_not]; omega) | omega
 exact RLoop.inv (fun k => enJ H W n (dA H k) k) 32 hstep hend (by simp)
theorem T_en {B H W : List Int} (hI : Inv B H W) (hb : B.length ≤ 10000000000) : ∃ H3 W3 n3, T Tryz.prog 105 [p0K 0] [(.o 0, stB H W (B.length : Nat))] (.agg [.seg .u8 32 (shaV B)]) [(.o 0, stB H3 W3 n3)] := by
 obtain ⟨H1, W1, hI1, hT1⟩ := T_wrS hI [128] (by simp; omega) (getL [[V.int IntKind.u8 128]]) (g1 _) (some 1) false (x := 513) (by decide)
 have hl1 : (B ++ [128]).length = B.length + 1 := by simp
 have hz : padZ (B.length + 1) < 64 := by unfold padZ; omega
 obtain ⟨H2, W2, hI2, hL2⟩ := en0 B.length (padZ (B.length + 1)) (B ++ [128]) H1 W1 hI1 (by rw [hl1]; exact padZ_at _) (fun i hi => by rw [hl1]; exact padZ_lt hi) (by rw [hl1]; omega)
 have hl2 : (B ++ [128] ++ List.replicate (padZ (B.length + 1)) 0).length = B.length + 1 + padZ (B.length + 1) := by rw [List.length_append, hl1, List.length_replicate]
 rw [hl1] at hL2
 have h8 := lenB_len (8 * (B.length : Int))
 obtain ⟨H3, W3, hI3, hT3⟩ := T_wrS hI2 (lenB (8 * (B.length : Int))) (by rw [hl2, h8]; omega) (enR B.length 8) (fun k hk => by rw [h8] at hk; rw [lenB_get hk, enR, if_pos hk]) none false (x := 2) (by decide)
 rw [hl2, h8] at hT3
 have hLL := enLL H2 W2 (B.length + 1 + padZ (B.length + 1)) B.length (by omega)
 have hJ := enJL H3 W3 (B.length + 1 + padZ (B.length + 1) + 8)
 have hH3 : dA H3 32 = shaV B := by rw [shaV, padL, ← hI3.h]
 rw [hH3] at hJ
 refine ⟨H3, W3, ((B.length + 1 + padZ (B.length + 1) + 8 : Nat) : Int), ?_⟩
 refine T_al (bdEn_p H W B.length H1 W1 (padZ (B.length + 1)) H2 W2 H3 W3 (shaV B)) Tryz.func105 ?_
 simp only [All]; and_intros
 all_goals first | exact True.intro | exact hT1 | exact hL2 | exact hLL | exact hT3 | exact hJ | rfl | (intro _ _; exact True.intro) | (simp only [IntKind.min, IntKind.max, IntKind.signed, IntKind.bits, if_true]; omega) | omega | (intro h; exact h) | exact .inl True.intro
end Go.Proofs.YtnmccoincblecaaGreat
namespace Go.Proofs.YtnmccoincblecaaGreat
open Go Sy Go.Proofs
def z64L : List Int := List.replicate 64 0
def suW (H W : List Int) (n : Int) : List V → List Cl
 | .ptr s _ _ _ _ :: _ => [{ pre := [s], val := .tup [], post := [(s, stB H W n)] }]
 | _ => []
def suE (d H W : List Int) (n : Int) : List V → List Cl
 | .ptr s _ _ _ _ :: _ => [{ pre := [s], val := .agg [.seg .u8 32 d], post := [(s, stB H W n)] }]
 | _ => []
noncomputable def suDb (H1 W1 : List Int) (n1 : Int) (H2 W2 : List Int) (n2 : Int) (d H3 W3 : List Int) (n3 : Int) : Nat → List V → Heap → Nat → List Cl := dbQ [
 (103, fun _ _ lo => [{ val := .ptr (.o lo) 0 0 0 0, post := [(.o lo, stB iv z64L 0)] }]),
 (104, fun a _ lo => bif Nat.ble lo 1000 then suW H1 W1 n1 a else suW H2 W2 n2 a),
 (105, fun a _ _ => suE d H3 W3 n3 a)]
end Go.Proofs.YtnmccoincblecaaGreat
namespace Go.Proofs.YtnmccoincblecaaGreat
open Go Sy Go.Proofs
theorem T_be : T Tryz.prog 103 [] [] (p0K 65) [(.o 65, stB iv z64L 0)] := by
 have h : T Tryz.prog 103 [] [] (p0K 192) [(.o 192, stB iv z64L 0)] := T_along NG MO _ bdBe_p Tryz.func103 (by kernel_rfl) True.intro (pinH_ok (by kernel_rfl)) (by kernel_rfl)
 obtain ⟨σ, hσ, h3⟩ := T.at h [.o 192] [.o 65] (by decide) (by decide) rfl
 simp only [List.map_cons, List.map_nil, List.cons.injEq, and_true] at hσ
 simpa [V.rens, V.ren, Heap.ren, Sy.B.ren, p0K, stB, hσ] using h3
theorem T_wrA {B H W : List Int} (hI : Inv B H W) (l : List Int) (hb : B.length + l.length ≤ 1000000000000) (s : Nat) : ∃ H2 W2, Inv (B ++ l) H2 W2 ∧ T Tryz.prog 104 [p0K s, rb l] [(.o s, stB H W (B.length : Nat))] (.tup []) [(.o s, stB H2 W2 ((B.length + l.length : Nat) : Int))] := by
 obtain ⟨H2, W2, h1, h2⟩ := T_wr hI l hb
 obtain ⟨σ, hσ, h3⟩ := T.at h2 [.o 0] [.o s] (by decide) (by simp) rfl
 simp only [List.map_cons, List.map_nil, List.cons.injEq, and_true] at hσ
 exact ⟨H2, W2, h1, by simpa [V.rens, V.ren, Heap.ren, Sy.B.ren, p0K, stB, rb, hσ] using h3⟩
theorem T_enA {B H W : List Int} (hI : Inv B H W) (hb : B.length ≤ 10000000000) (s : Nat) : ∃ H3 W3 n3, T Tryz.prog 105 [p0K s] [(.o s, stB H W (B.length : Nat))] (.agg [.seg .u8 32 (shaV B)]) [(.o s, stB H3 W3 n3)] := by
 obtain ⟨H3, W3, n3, h2⟩ := T_en hI hb
 obtain ⟨σ, hσ, h3⟩ := T.at h2 [.o 0] [.o s] (by decide) (by simp) rfl
 simp only [List.map_cons, List.map_nil, List.cons.injEq, and_true] at hσ
 exact ⟨H3, W3, n3, by simpa [V.rens, V.ren, Heap.ren, Sy.B.ren, p0K, stB, hσ] using h3⟩
end Go.Proofs.YtnmccoincblecaaGreat
namespace Go.Proofs.YtnmccoincblecaaGreat
open Go Sy Go.Proofs
end Go.Proofs.YtnmccoincblecaaGreat
namespace Go.Proofs.YtnmccoincblecaaGreat
open Go Sy Go.Proofs
end Go.Proofs.YtnmccoincblecaaGreat
namespace Go.Proofs.YtnmccoincblecaaGreat
open Go Sy Go.Proofs
end Go.Proofs.YtnmccoincblecaaGreat
namespace Go.Proofs.YtnmccoincblecaaGreat
open Go Sy Go.Proofs
end Go.Proofs.YtnmccoincblecaaGreat
namespace Go.Proofs.YtnmccoincblecaaGreat
open Go Sy Go.Proofs
def rbs (n : Nat) (ls : Nat → List Int) : V := .ros 1 n (fun k => [rb (ls k)]) false
noncomputable def bdR2 (ls : Nat → List Int) (H1 W1 : List Int) (n1 : Int) (H2 W2 : List Int) (n2 : Int) (d H3 W3 : List Int) (n3 : Int) : Bd := { f := Tryz.f82, args := [rbs 2 ls], base := 1, kb := { db := suDb H1 W1 n1 H2 W2 n2 d H3 W3 n3, lp := fun _ _ => [(True, .rounds 3)], lit := true } }
end Go.Proofs.YtnmccoincblecaaGreat
namespace Go.Proofs.YtnmccoincblecaaGreat
open Go Sy Go.Proofs
theorem bdR2_p (ls : Nat → List Int) (H1 : List Int) (W1 : List Int) (n1 : Int) (H2 : List Int) (W2 : List Int) (n2 : Int) (d : List Int) (H3 : List Int) (W3 : List Int) (n3 : Int) :
  along Tryz.prog (bdR2 ls H1 W1 n1 H2 W2 n2 d H3 W3 n3) [] = (some (.agg [.seg .u8 32 d], [], [T Tryz.prog 103 [] [] (.ptr (.o 65) 0 0 0 0) [(.o 65, .flat [.seg .u32 8 [(1779033703 : Int), (3144134277 : Int), (1013904242 : Int), (2773480762 : Int), (1359893119 : Int), (2600822924 : Int), (528734635 : Int), (1541459225 : Int)], .seg .u8 64 z64L, .int .i64 0])], q2, (0 : Int) ≤ (0 : Int) ∧ (0 : Int) < (2 : Int), T Tryz.prog 104 [.ptr (.o 65) 0 0 0 0, .ros 1 (List.length (ls 0)) (ib (ls 0)) false] [(.o 65, .flat [.seg .u32 8 [(1779033703 : Int), (3144134277 : Int), (1013904242 : Int), (2773480762 : Int), (1359893119 : Int), (2600822924 : Int), (528734635 : Int), (1541459225 : Int)], .seg .u8 64 z64L, .int .i64 0])] (.tup []) [(.o 65, .flat [.seg .u32 8 H1, .seg .u8 64 W1, .int .i64 n1])], InR IntKind.i64 (1 : Int), q2, (0 : Int) ≤ (1 : Int) ∧ (1 : Int) < (2 : Int), T Tryz.prog 104 [.ptr (.o 65) 0 0 0 0, .ros 1 (List.length (ls 1)) (ib (ls 1)) false] [(.o 65, .flat [.seg .u32 8 H1, .seg .u8 64 W1, .int .i64 n1])] (.tup []) [(.o 65, .flat [.seg .u32 8 H2, .seg .u8 64 W2, .int .i64 n2])], InR IntKind.i64 (2 : Int), q false, T Tryz.prog 105 [.ptr (.o 65) 0 0 0 0] [(.o 65, .flat [.seg .u32 8 H2, .seg .u8 64 W2, .int .i64 n2])] (.agg [.seg .u8 32 d]) [(.o 65, .flat [.seg .u32 8 H3, .seg .u8 64 W3, .int .i64 n3])]]) : Option (V × Heap × List Prop)) := by kernel_rfl

theorem T_sr2 (ls : Nat → List Int) (hb : (ls 0).length + (ls 1).length ≤ 10000000000) : T Tryz.prog 82 [rbs 2 ls] [] (.agg [.seg .u8 32 (shaV (ls 0 ++ ls 1))]) [] := by
 have hB := T_be
 obtain ⟨H1, W1, hI1, hT1⟩ := T_wrA (inv_nil (W := z64L) (by simp [z64L])) (ls 0) (by simp; omega) 65
 rw [List.nil_append] at hI1
 rw [List.length_nil, Nat.zero_add] at hT1
 obtain ⟨H2, W2, hI2, hT2⟩ := T_wrA hI1 (ls 1) (by omega) 65
 obtain ⟨H3, W3, n3, hT3⟩ := T_enA hI2 (by rw [List.length_append]; omega) 65
 rw [List.length_append] at hT3
 refine T_al (bdR2_p ls H1 W1 ((ls 0).length : Nat) H2 W2 (((ls 0).length + (ls 1).length : Nat) : Int) (shaV (ls 0 ++ ls 1)) H3 W3 n3) Tryz.func82 ?_
 simp only [All]; and_intros
 all_goals first | exact True.intro | exact hB | exact hT1 | exact hT2 | exact hT3 | (simp only [IntKind.min, IntKind.max, IntKind.signed, IntKind.bits, if_true]; omega) | omega
end Go.Proofs.YtnmccoincblecaaGreat
namespace Go.Proofs.YtnmccoincblecaaGreat
open Go Sy Go.Proofs
/-- The last digits. -/
def lastD (n k : Nat) : List UInt8 := (digs 8 n).drop ((digs 8 n).length - k)
def dgI (n k : Nat) : St := ⟨mkT 15 [(0, .int .i64 (n / 256 ^ k : Nat)), (3, sb (.o 1) (lastD n k))], [(.o 1, bs (lastD n k))], 2, []⟩
def dgS (n : Nat) (b : Bool) : St := ⟨mkT 15 ((0, .int .i64 (n : Nat)) :: (if b then [(3, .snil)] else [])), [], 1, []⟩
noncomputable def pcDa (n : Nat) : Pc := { c := cL (bodyOf Tryz.f81), st := ⟨[.int .i64 (n : Nat)] ++ List.replicate 14 (.tup []), [], 1, []⟩, p := 1, kb := kb0, k := fun _ _ => some (wTo (dgS n false)) }
noncomputable def pcDb (n : Nat) : Pc := { c := cL (cR (bodyOf Tryz.f81)), st := dgS n false, p := 1, kb := kb0, k := fun _ _ => some (wTo (dgS n true)) }
noncomputable def pcDc (n : Nat) : Pc := { c := cR (cR (bodyOf Tryz.f81)), st := dgS n true, p := 1, kb := { db := fun _ _ _ _ => [], lp := fun _ t => match getV t.tmps 3 with | .sl a _ _ _ _ _ _ => [(True, .loop ((digs 8 n).length + 1) (wToS [(.o 1, a)] (dgI n 0)) (.exit 0) (dgI n (digs 8 n).length))] | _ => [], fx := fun id _ => bif Nat.beq id 2 then [.virt 3 1] else [] }, k := kSb 2 63 (digs 8 n) }
noncomputable def pcDg (n k : Nat) : Pc := { c := cB (cB (cL (cR (cR (bodyOf Tryz.f81))))), st := dgI n k, p := 1, kb := kb0, k := fun e t => match e with
 | .normal => match getV t.tmps 3 with
  | .sl a _ _ _ _ _ _ => some (wToS [(.o 1, a)] (dgI n (k + 1)))
  | _ => none
 | _ => some (wTo (dgI n k)) }
noncomputable def bdRp (n : Nat) (l : List UInt8) : Bd := { f := Tryz.f37, args := [sb (.o 0) l, .int .i64 n], pre := [(.o 0, bs l)], base := 1, kb := { db := fun k _ _ lo => bif Nat.beq k 81 then [{ val := sb (.o lo) (digs 8 n), post := [(.o lo, bs (digs 8 n))] }] else [] }, names := fun _ => [.o 63], k := kSb 4 63 (l ++ putN n) }
noncomputable def bdRt (l : List UInt8) (s : ByteArray) : Bd := { f := Tryz.f36, args := [sb (.o 0) l, .str s], pre := [(.o 0, bs l)], base := 1, kb := { db := fun k a _ lo => bif Nat.beq k 37 then cNew (l ++ putZ s.size) a lo else [] }, k := kSb 4 63 (l ++ textB s), names := fun _ => [.o 63] }
end Go.Proofs.YtnmccoincblecaaGreat
namespace Go.Proofs.YtnmccoincblecaaGreat
open Go Sy Go.Proofs
theorem pcDa_p (n : Nat) :
  alongPc Tryz.prog (pcDa n) [] = (some (.normal, St.mk (mkT 15 [(0, .int .i64 ↑n)]) [] 1 [], [q (↑n : Int)]) : Option (Exit × St × List Prop)) := by kernel_rfl

theorem pcDb_p (n : Nat) :
  alongPc Tryz.prog (pcDb n) [] = (some (.normal, St.mk (mkT 15 [(0, .int .i64 ↑n), (3, .snil)]) [] 1 [], [q (↑n : Int)]) : Option (Exit × St × List Prop)) := by kernel_rfl

theorem pcDc_p (n : Nat) :
  alongPc Tryz.prog (pcDc n) [] = (some (.ret, St.mk (mkT 15 [(2, sb (.o 63) (digs 8 n))]) [(.o 63, bs (digs 8 n))] 130 [], [RLoop Tryz.prog none 1 (cB (cB (cL (Pc.c (pcDc n))))) (List.length (digs 8 n) + 1) (St.mk (mkT 15 [(0, .int .i64 (↑(n / nat_lit 1) : Int)), (3, .sl (.o 1) 1 0 0 0 (List.length (lastD n 0)) none)]) [(.o 1, bs (lastD n 0))] 2 []) (.exit 0) (St.mk (mkT 15 [(0, .int .i64 (↑(n / 256 ^ List.length (digs 8 n)) : Int)), (3, .sl (.o 1) 1 0 0 0 (List.length (lastD n (List.length (digs 8 n)))) none)]) [(.o 1, bs (lastD n (List.length (digs 8 n))))] 2 []), (0 : Nat) = List.length (lastD n (0 : Nat)), ∀ (k : Nat), k < (0 : Nat) → [] = bl (lastD n (0 : Nat)) k, true = false → true = false, (↑n : Int) = (↑(n / nat_lit 1) : Int), q0, q0, q0, (0 : Nat) = List.length (lastD n (0 : Nat)), (none : Option Nat) = none ∨ (none : Option Nat) = none, List.length (lastD n (List.length (digs (8 : Nat) n))) = List.length (digs (8 : Nat) n), ∀ (k : Nat), k < List.length (lastD n (List.length (digs (8 : Nat) n))) → bl (lastD n (List.length (digs (8 : Nat) n))) k = bl (digs (8 : Nat) n) k, true = false → true = false, q0, q0, q0, List.length (lastD n (List.length (digs (8 : Nat) n))) = List.length (digs (8 : Nat) n), (none : Option Nat) = none ∨ (none : Option Nat) = none]) : Option (Exit × St × List Prop)) := by kernel_rfl

theorem pcDg_p1 (n : Nat) (k : Nat) :
  alongPc Tryz.prog (pcDg n k) [true] = (some (.normal, St.mk (mkT 15 [(0, .int .i64 (↑(n / 256 ^ (k + 1)) : Int)), (3, .sl (.o 1) 1 0 0 0 (List.length (lastD n (k + 1))) none)]) [(.o 1, bs (lastD n (k + 1)))] 2 [], [decide ((0 : Int) < (↑(n / (256 : Nat) ^ k) : Int)) = true, (0 : Int) ≤ (↑(n / (256 : Nat) ^ k) : Int) ∧ (0 : Int) < (256 : Int), q (1 : Nat), (0 : Nat) + List.length (lastD n k) ≤ List.length (lastD n k), ∀ (k_1 : Nat), k_1 < List.length (lastD n k) → true = true, ((1 : Nat) + List.length (lastD n k)) * (1 : Nat) ≤ (140737488355328 : Nat), (0 : Int) ≤ (↑(n / (256 : Nat) ^ k) : Int) ∧ (0 : Int) < (256 : Int) ∧ InR IntKind.i64 ((↑(n / (256 : Nat) ^ k) : Int) / (256 : Int)), (1 : Nat) + List.length (lastD n k) = List.length (lastD n (k + (1 : Nat))), ∀ (k_1 : Nat), k_1 < (1 : Nat) + List.length (lastD n k) → catF (1 : Nat) (getL [[V.int IntKind.u8 (IntKind.wrap IntKind.u8 ((↑(n / (256 : Nat) ^ k) : Int) % (256 : Int)))]]) (fun k_2 => bl (lastD n k) ((0 : Nat) + k_2)) k_1 = bl (lastD n (k + (1 : Nat))) k_1, true = false → true = false, (↑(n / (256 : Nat) ^ k) : Int) / (256 : Int) = (↑(n / (256 : Nat) ^ (k + (1 : Nat))) : Int), q0, q0, q0, (1 : Nat) + List.length (lastD n k) = List.length (lastD n (k + (1 : Nat))), (none : Option Nat) = none ∨ (none : Option Nat) = none]) : Option (Exit × St × List Prop)) := by kernel_rfl
theorem pcDg_p0 (n : Nat) (k : Nat) :
  alongPc Tryz.prog (pcDg n k) [false] = (some (.exit 0, St.mk (mkT 15 [(0, .int .i64 (↑(n / 256 ^ k) : Int)), (3, .sl (.o 1) 1 0 0 0 (List.length (lastD n k)) none)]) [(.o 1, bs (lastD n k))] 2 [], [decide ((0 : Int) < (↑(n / (256 : Nat) ^ k) : Int)) = false, q (List.length (lastD n k)), ∀ (k_1 : Nat), k_1 < List.length (lastD n k) → bl (lastD n k) k_1 = bl (lastD n k) k_1, true = false → true = false, q (↑(n / (256 : Nat) ^ k) : Int), q0, q0, q0, q (List.length (lastD n k)), (none : Option Nat) = none ∨ (none : Option Nat) = none]) : Option (Exit × St × List Prop)) := by kernel_rfl

theorem bdRp_p0 (n : Nat) (l : List UInt8) :
  along Tryz.prog (bdRp n l) [false] = (some (.sl (.o 63) 1 0 0 0 (List.length (l ++ putN n)) none, [(.o 63, bs (l ++ putN n))], [q0, (0 : Nat) + List.length l ≤ List.length l, ∀ (k : Nat), k < List.length l → true = true, ((0 : Nat) + List.length l) * (1 : Nat) ≤ (140737488355328 : Nat), q false, T Tryz.prog 81 [.int .i64 ↑n] [] (sb (.o 513) (digs 8 n)) [(.o 513, bs (digs 8 n))], q ((0 : Nat) + List.length l), nat_lit 1 ≤ (1 : Nat), ∀ (k : Nat), k < (1 : Nat) → solid (getL [[V.int IntKind.u8 (IntKind.wrap IntKind.u8 (↑(List.length (digs (8 : Nat) n)) : Int))]] ((0 : Nat) + k)) = true, ((0 : Nat) + List.length l + (1 : Nat)) * (1 : Nat) ≤ (140737488355328 : Nat), q ((0 : Nat) + List.length l + (1 : Nat)), (0 : Nat) + List.length (digs (8 : Nat) n) ≤ List.length (digs (8 : Nat) n), ∀ (k : Nat), k < List.length (digs (8 : Nat) n) → true = true, ((0 : Nat) + List.length l + (1 : Nat) + List.length (digs (8 : Nat) n)) * (1 : Nat) ≤ (140737488355328 : Nat), (0 : Nat) + List.length l + (1 : Nat) + List.length (digs (8 : Nat) n) = List.length (l ++ putN n), ∀ (k : Nat), k < (0 : Nat) + List.length l + (1 : Nat) + List.length (digs (8 : Nat) n) → catF ((0 : Nat) + List.length l + (1 : Nat)) (catF ((0 : Nat) + List.length l) (catF (0 : Nat) (getL []) fun k => bl l ((0 : Nat) + k)) fun k => getL [[V.int IntKind.u8 (IntKind.wrap IntKind.u8 (↑(List.length (digs (8 : Nat) n)) : Int))]] ((0 : Nat) + k)) (fun k => bl (digs (8 : Nat) n) ((0 : Nat) + k)) k = bl (l ++ putN n) k, true = false → true = false, q0, q0, q0, (0 : Nat) + List.length l + (1 : Nat) + List.length (digs (8 : Nat) n) = List.length (l ++ putN n), (none : Option Nat) = none ∨ (none : Option Nat) = none]) : Option (V × Heap × List Prop)) := by kernel_rfl

theorem bdRt_p (l : List UInt8) (s : ByteArray) :
  along Tryz.prog (bdRt l s) [] = (some (.sl (.o 63) 1 0 0 0 (List.length (l ++ textB s)) none, [(.o 63, bs (l ++ textB s))], [T Tryz.prog 37 [.sl (.o 0) 1 0 0 0 (List.length l) none, .int .i64 (↑(ByteArray.size s) : Int)] [(.o 0, bs l)] (sb (.o 257) (l ++ putZ (↑(ByteArray.size s) : Int))) [(.o 257, bs (l ++ putZ (↑(ByteArray.size s) : Int)))], q (List.length (l ++ putZ (↑(ByteArray.size s) : Int))), (List.length (l ++ putZ (↑(ByteArray.size s) : Int)) + ByteArray.size s) * (1 : Nat) ≤ (140737488355328 : Nat), List.length (l ++ putZ (↑(ByteArray.size s) : Int)) + ByteArray.size s = List.length (l ++ textB s), ∀ (k : Nat), k < List.length (l ++ putZ (↑(ByteArray.size s) : Int)) + ByteArray.size s → catF (List.length (l ++ putZ (↑(ByteArray.size s) : Int))) (bl (l ++ putZ (↑(ByteArray.size s) : Int))) (fun k => [V.int IntKind.u8 (byteAt s k)]) k = bl (l ++ textB s) k, true = false → true = false, q0, q0, q0, List.length (l ++ putZ (↑(ByteArray.size s) : Int)) + ByteArray.size s = List.length (l ++ textB s), (none : Option Nat) = none ∨ (none : Option Nat) = none]) : Option (V × Heap × List Prop)) := by kernel_rfl

theorem lastD0 (n : Nat) : lastD n 0 = [] := by simp [lastD]
theorem lastDe (n : Nat) : lastD n (digs 8 n).length = digs 8 n := by simp [lastD]
theorem lastD_len {n k : Nat} (h : k ≤ (digs 8 n).length) : (lastD n k).length = k := by simp [lastD]; omega
theorem lastD_s {n k : Nat} (h : n < 9223372036854775808) (hk : k < (digs 8 n).length) : lastD n (k + 1) = UInt8.ofNat (n / 256 ^ k % 256) :: lastD n k := by
 have hg := digs_get 8 n ((digs 8 n).length - (k + 1)) (digs8 h) (by omega)
 rw [show (digs 8 n).length - 1 - ((digs 8 n).length - (k + 1)) = k by omega] at hg
 have hi : (digs 8 n).length - (k + 1) < (digs 8 n).length := by omega
 rw [List.getElem?_eq_getElem hi, Option.some.injEq] at hg
 rw [lastD, List.drop_eq_getElem_cons hi, hg, lastD, show (digs 8 n).length - (k + 1) + 1 = (digs 8 n).length - k by omega]
theorem catF_ext {n : Nat} {f f' g g' : Nat → List V} (h : ∀ k, k < n → f k = f' k) (h' : ∀ k, g k = g' k) (k : Nat) : catF n f g k = catF n f' g' k := by
 unfold catF
 cases hb : Nat.blt k n with
 | true => exact h k (Nat.le_of_ble_eq_true hb)
 | false => exact h' _
theorem catF_cons (l : List UInt8) {v : Int} {x : UInt8} (h : v = (x.toNat : Int)) (k : Nat) : catF 1 (getL [[V.int .u8 v]]) (fun k => bl l (0 + k)) k = bl (x :: l) k := by
 rw [show x :: l = [x] ++ l from rfl, bl_append]
 refine catF_ext (n := 1) (fun j hj => ?_) (fun j => by rw [Nat.zero_add]) k
 rw [show j = 0 by omega, h]; rfl
theorem put_catF (l D : List UInt8) {v : Int} {x : UInt8} (h : v = (x.toNat : Int)) (k : Nat) : catF (0 + l.length + 1) (catF (0 + l.length) (catF 0 (getL []) fun k => bl l (0 + k)) fun k => getL [[V.int .u8 v]] (0 + k)) (fun k => bl D (0 + k)) k = bl (l ++ x :: D) k := by
 rw [show l ++ x :: D = (l ++ [x]) ++ D by simp, bl_append, List.length_append, List.length_singleton]
 simp only [Nat.zero_add]
 refine catF_ext (fun j hj => ?_) (fun _ => rfl) k
 have := catF_bl1 l v x h j hj
 simp only [Nat.zero_add] at this
 exact this
theorem T_dg1 {n : Nat} (h : n < 9223372036854775808) : T Tryz.prog 81 [.int .i64 n] [] (sb (.o 63) (digs 8 n)) [(.o 63, bs (digs 8 n))] := by
 have h1 := digs_len 8 n (digs8 h)
 have hL : RLoop Tryz.prog none 1 (cB (cB (cL (cR (cR (bodyOf Tryz.f81)))))) ((digs 8 n).length + 1) (dgI n 0) (.exit 0) (dgI n (digs 8 n).length) := by
  refine RLoop.inv (dgI n) (digs 8 n).length (fun k hk => ?_) ?_ (by simp)
  ·refine R_alongPc NG MO _ (pcDg_p1 n k) ?_ (show 1 ≤ 2 by decide)
   have hp : 0 < n / 256 ^ k := h1.2.2 k hk
   have hq : n / 256 ^ k ≤ n := Nat.div_le_self _ _
   have e := lastD_s h hk
   have hl := lastD_len (n := n) (k := k) (by omega)
   have hv : IntKind.wrap IntKind.u8 (((n / 256 ^ k : Nat) : Int) % 256) = ((UInt8.ofNat (n / 256 ^ k % 256)).toNat : Int) := by
    rw [show ((n / 256 ^ k : Nat) : Int) % 256 = ((n / 256 ^ k % 256 : Nat) : Int) from rfl, wrap8']; simp
   have hd : ((n / 256 ^ k : Nat) : Int) / 256 = ((n / 256 ^ (k + 1) : Nat) : Int) := by
    rw [Nat.pow_succ, ← Nat.div_div_eq_div_mul]; rfl
   have hI : InR IntKind.i64 (((n / 256 ^ k : Nat) : Int) / 256) := by
    generalize n / 256 ^ k = q at hq
    simp [InR, IntKind.min, IntKind.max, IntKind.signed, IntKind.bits]; omega
   simp only [All]
   and_intros
   all_goals first | (rw [decide_eq_true_eq]; omega) | exact hd | exact hI.1 | exact hI.2 | (rw [e, List.length_cons]; omega) | (rw [e]; intro j _; exact catF_cons _ hv j) | omega | trivial | (simp [IntKind.min, IntKind.max, IntKind.signed, IntKind.bits] <;> omega)
  ·refine R_alongPc NG MO _ (pcDg_p0 n (digs 8 n).length) ?_ (show 1 ≤ 2 by decide)
   have hz := h1.2.1
   simp only [All]
   and_intros
   all_goals first | (rw [decide_eq_false_iff_not]; omega) | trivial | (simp; done)
 have ha := R_alongPc NG MO _ (pcDa_p n) (by simp [All]) (Nat.le_refl _)
 have hb := R_alongPc NG MO _ (pcDb_p n) (by simp [All]) (Nat.le_refl _)
 have hc := R_alongPc NG MO _ (pcDc_p n) (by
  simp only [All]
  and_intros
  all_goals first | exact hL | trivial | (simp only [lastD0]; rfl) | (simp only [lastDe]; done) | (simp only [Nat.div_one]; done) | (intro k hk; omega) | (rw [lastDe]; intro _ _; rfl)) (Nat.le_refl _)
 exact T_of_end (c0 := []) Tryz.func81 (by kernel_rfl) (R.seq ha (R.seq hb hc)) (names := [.o 63]) (tl := none) rfl trivial (pinH_ok (by kernel_rfl)) (by kernel_rfl)
theorem T_dg {n : Nat} (h : n < 9223372036854775808) {m : Nat} : T Tryz.prog 81 [.int .i64 n] [] (sb (.o m) (digs 8 n)) [(.o m, bs (digs 8 n))] := by
 obtain ⟨σ, hσ, h1⟩ := T.at (T_dg1 h) [.o 63] [.o m] (by simp) (by simp) rfl
 simp only [List.map_cons, List.map_nil, List.cons.injEq, and_true] at hσ
 simpa [V.rens, V.ren, sb, bs, Heap.ren, B.ren, hσ] using h1
theorem T_rp1 {n : Nat} (h : n < 9223372036854775808) {l : List UInt8} (hl : l.length ≤ 70368744177664) : T Tryz.prog 37 [sb (.o 0) l, .int .i64 n] [(.o 0, bs l)] (sb (.o 63) (l ++ putN n)) [(.o 63, bs (l ++ putN n))] := by
 have h1 := digs_len 8 n (digs8 h)
 have hv : IntKind.wrap IntKind.u8 ((digs 8 n).length : Int) = ((UInt8.ofNat (digs 8 n).length).toNat : Int) := wrap8 _
 refine T_al (bdRp_p0 n l) Tryz.func37 ?_
 simp only [All]
 and_intros
 all_goals first | exact T_dg h | omega | (intro k _; exact put_catF l (digs 8 n) hv k) | (intro k hk; rw [show k = 0 by omega]; rfl) | (simp [putN, IntKind.min, IntKind.max, IntKind.signed, IntKind.bits] <;> omega)
theorem T_rp {z : Int} (h : num63 z) {l : List UInt8} (hl : l.length ≤ 70368744177664) {a m : Nat} (hne : a ≠ m) : T Tryz.prog 37 [sb (.o a) l, .int .i64 z] [(.o a, bs l)] (sb (.o m) (l ++ putZ z)) [(.o m, bs (l ++ putZ z))] := by
 have e : ((z.toNat : Nat) : Int) = z := Int.toNat_of_nonneg h.1
 have h0 := T_rp1 (n := z.toNat) (by have := h.2; omega) hl
 rw [e] at h0
 obtain ⟨σ, hσ, h1⟩ := T.at h0 [.o 0, .o 63] [.o a, .o m] (by simp) (by simp [hne]) rfl
 simp only [List.map_cons, List.map_nil, List.cons.injEq, and_true] at hσ
 simpa [V.rens, V.ren, sb, bs, Heap.ren, B.ren, hσ.1, hσ.2, putZ] using h1
theorem T_rt1 {l : List UInt8} {s : ByteArray} (hl : l.length ≤ 17592186044416) (hs : s.size ≤ 1099511627776) : T Tryz.prog 36 [sb (.o 0) l, .str s] [(.o 0, bs l)] (sb (.o 63) (l ++ textB s)) [(.o 63, bs (l ++ textB s))] := by
 have hz := num63_nat (n := s.size) (by omega)
 have e : l ++ textB s = (l ++ putZ s.size) ++ strB s := by rw [textB_eq, List.append_assoc]
 have h9 := putZ_len hz
 have hlen : (l ++ putZ (s.size : Int)).length ≤ l.length + 9 := by rw [List.length_append]; omega
 have hle : (l ++ putZ (s.size : Int)).length + s.size = (l ++ textB s).length := by rw [e, List.length_append (bs := strB s), strB_len]
 refine T_al (bdRt_p l s) Tryz.func36 ?_
 simp only [All]
 and_intros
 all_goals first | exact T_rp hz (by omega) (by decide) | exact hle | omega | (rw [e, bl_append (l ++ putZ (s.size : Int)) (strB s)]; intro k _; rfl) | simp
theorem T_rt {l : List UInt8} {s : ByteArray} (hl : l.length ≤ 17592186044416) (hs : s.size ≤ 1099511627776) {a m : Nat} (hne : a ≠ m) : T Tryz.prog 36 [sb (.o a) l, .str s] [(.o a, bs l)] (sb (.o m) (l ++ textB s)) [(.o m, bs (l ++ textB s))] := by
 obtain ⟨σ, hσ, h1⟩ := T.at (T_rt1 hl hs) [.o 0, .o 63] [.o a, .o m] (by simp) (by simp [hne]) rfl
 simp only [List.map_cons, List.map_nil, List.cons.injEq, and_true] at hσ
 simpa [V.rens, V.ren, sb, bs, Heap.ren, B.ren, hσ.1, hσ.2] using h1
end Go.Proofs.YtnmccoincblecaaGreat
namespace Sy
open Go
def x8 (x y : Int) : Int := ibits (fun _ x y => x ^^^ y) .u8 x y
/-- A key's block, each byte turned by one. -/
def padK (k : List Int) (x : Int) : List Int := (List.range 64).map fun i => x8 (k.getD i 0) x
/-- So many of them are turned. -/
def padJ (k : List Int) (x : Int) (j : Nat) : List Int := (List.range 64).map fun i => if i < j then x8 (k.getD i 0) x else k.getD i 0
theorem padK_len (k : List Int) (x : Int) : (padK k x).length = 64 := by simp [padK]
theorem padJ_len (k : List Int) (x : Int) (j : Nat) : (padJ k x j).length = 64 := by simp [padJ]
theorem padJ_end (k : List Int) (x : Int) : padJ k x 64 = padK k x := by
 unfold padJ padK
 apply List.map_congr_left
 intro i hi
 rw [if_pos (List.mem_range.1 hi)]
theorem padJ_get (k : List Int) (x : Int) (j : Nat) {i : Nat} (h : i < 64) : (padJ k x j).getD i 0 = if i < j then x8 (k.getD i 0) x else k.getD i 0 := by
 rw [padJ, List.getD_eq_getElem?_getD, List.getElem?_map, List.getElem?_range h]; rfl
theorem padJ_set (k : List Int) (x : Int) {j : Nat} (h : j < 64) : (padJ k x j).set j (x8 ((padJ k x j).getD j 0) x) = padJ k x (j + 1) := by
 apply List.ext_getElem?
 intro i
 rw [List.getElem?_set]
 by_cases hi : i < 64
 ·have e : ∀ j', (padJ k x j')[i]? = some (if i < j' then x8 (k.getD i 0) x else k.getD i 0) := fun j' => by
   rw [padJ, List.getElem?_map, List.getElem?_range hi]; rfl
  rw [e, e]
  by_cases h1 : j = i
  ·subst h1
   rw [if_pos rfl, if_pos (by rw [padJ_len]; exact h), padJ_get k x j h, if_neg (Nat.lt_irrefl j), if_pos (Nat.lt_succ_self j)]
  ·rw [if_neg h1]
   by_cases h2 : i < j
   ·rw [if_pos h2, if_pos (by omega)]
   ·rw [if_neg h2, if_neg (by omega)]
 ·have e : ∀ j', (padJ k x j')[i]? = none := fun j' => by rw [List.getElem?_eq_none_iff, padJ_len]; omega
  rw [e, e, padJ_len]
  by_cases h1 : j = i
  ·subst h1; rw [if_pos rfl, if_neg (by omega)]
  ·rw [if_neg h1]
theorem padJ_zero (k : List Int) (x : Int) : padJ k x 0 = (List.range 64).map fun i => k.getD i 0 := by
 unfold padJ
 apply List.map_congr_left
 intro i _
 rw [if_neg (Nat.not_lt_zero i)]
def macV (k b : List Int) : List Int := shaV (padK k 92 ++ shaV (padK k 54 ++ b))
theorem dA_len (H : List Int) : ∀ i, (dA H i).length = 32
 | 0 => by simp [dA]
 | i + 1 => by rw [dA, List.length_set, dA_len H i]
theorem shaV_len (B : List Int) : (shaV B).length = 32 := dA_len _ _
theorem macV_len (k b : List Int) : (macV k b).length = 32 := shaV_len _
def uI (l : List UInt8) : List Int := l.map fun x => (x.toNat : Int)
theorem uI_len (l : List UInt8) : (uI l).length = l.length := by simp [uI]
theorem uI_app (a b : List UInt8) : uI (a ++ b) = uI a ++ uI b := by simp [uI]
theorem uI_get (l : List UInt8) (i : Nat) : (uI l).getD i 0 = ((l.getD i 0).toNat : Int) := by
 simp only [uI, List.getD_eq_getElem?_getD, List.getElem?_map]
 cases l[i]? <;> rfl
/-- A text's bytes. -/
def bI (s : ByteArray) : List Int := uI s.data.toList
theorem bI_len (s : ByteArray) : (bI s).length = s.size := by rw [bI, uI_len]; rfl
theorem bI_get (s : ByteArray) (i : Nat) : (bI s).getD i 0 = byteAt s i := by rw [bI, uI_get]; rfl
/-- The first bytes of a mac. -/
def tagJ (d : List Int) (j : Nat) : List Int := (List.range 16).map fun i => if i < j then d.getD i 0 else 0
def tagL (d : List Int) : List Int := (List.range 16).map fun i => d.getD i 0
theorem tagJ_len (d : List Int) (j : Nat) : (tagJ d j).length = 16 := by simp [tagJ]
theorem tagL_len (d : List Int) : (tagL d).length = 16 := by simp [tagL]
theorem tagJ_end (d : List Int) : tagJ d 16 = tagL d := by
 unfold tagJ tagL
 apply List.map_congr_left
 intro i hi
 rw [if_pos (List.mem_range.1 hi)]
theorem tagJ_zero (d : List Int) : tagJ d 0 = List.replicate 16 0 := by simp [tagJ]; rfl
theorem tagJ_set (d : List Int) {j : Nat} (h : j < 16) : (tagJ d j).set j (d.getD j 0) = tagJ d (j + 1) := by
 apply List.ext_getElem?
 intro i
 rw [List.getElem?_set]
 by_cases hi : i < 16
 ·have e : ∀ j', (tagJ d j')[i]? = some (if i < j' then d.getD i 0 else 0) := fun j' => by
   rw [tagJ, List.getElem?_map, List.getElem?_range hi]; rfl
  rw [e, e]
  by_cases h1 : j = i
  ·subst h1
   rw [if_pos rfl, if_pos (by rw [tagJ_len]; exact h), if_pos (Nat.lt_succ_self j)]
  ·rw [if_neg h1]
   by_cases h2 : i < j
   ·rw [if_pos h2, if_pos (by omega)]
   ·rw [if_neg h2, if_neg (by omega)]
 ·have e : ∀ j', (tagJ d j')[i]? = none := fun j' => by rw [List.getElem?_eq_none_iff, tagJ_len]; omega
  rw [e, e, tagJ_len]
  by_cases h1 : j = i
  ·subst h1; rw [if_pos rfl, if_neg (by omega)]
  ·rw [if_neg h1]
/-- A tag: of what bytes the key is the digest, of which body. -/
def tagV (kb : List UInt8) (body : ByteArray) : List Int := tagL (macV (shaV (uI kb)) (bI body))
end Sy
namespace Go.Proofs.YtnmccoincblecaaGreat
open Go Sy Go.Proofs
def ubC (l : List UInt8) : List V → Heap → Nat → List Cl := fun _ _ lo => [{ val := sb (.o lo) l, post := [(.o lo, bs l)] }]
def agD (d : List Int) : V := .agg [.seg .u8 32 d]
def kyV (s : ByteArray) (n : Int) : V := .agg [.str s, .int .i64 n]
end Go.Proofs.YtnmccoincblecaaGreat
namespace Go.Proofs.YtnmccoincblecaaGreat
open Go Sy Go.Proofs
theorem ib_uI (l : List UInt8) (k : Nat) : bl l k = ib (uI l) k := by
 show [V.int .u8 ((l.getD k 0).toNat : Int)] = [V.int .u8 ((uI l).getD k 0)]
 rw [uI_get]
/-- A tag by the document, or why there is none. -/
def sgnV (s : ByteArray) (n id : Int) (b : ByteArray) : List Int := if 0 ≤ id ∧ id < n then tagV (textB s ++ putZ id) b else List.replicate 16 0
def sgnE (n id : Int) : Int := if 0 ≤ id ∧ id < n then 0 else 2
/-- Is a tag an identity's of a body? -/
def chkB (s : ByteArray) (n id : Int) (b : ByteArray) (t : List Int) : Bool := decide (0 ≤ id ∧ id < n) && decide (tagV (textB s ++ putZ id) b = t)
end Go.Proofs.YtnmccoincblecaaGreat
namespace Go.Proofs.YtnmccoincblecaaGreat
open Go Sy Go.Proofs
def msI (x : Int) (K : List Int) (ls : Nat → List Int) (L : List Int) (j : Nat) : St := ⟨mkT 24 [(0, .int .u8 x), (1, rbs 1 ls), (5, p0K 2), (6, p0K 1), (9, .int .i64 (j : Nat))], [(.o 0, .flat [.seg .u8 64 K]), (.o 1, .flat [.seg .u8 64 L]), (.o 2, .flat [.seg .u8 32 z32L])], 3, []⟩
def apF (xs : List Int) (g : Nat → List V) : Nat → List V := catF 1 (fun _ => [rb xs]) g
def apP : Prim → List V → Heap → Nat → List Cl := fun pr vs h lo => match pr with
 | .append _ _ => match vs with
  | [.sl y _ _ _ _ _ _, .ros _ n g _] => match pull y h with
   | some (.flat [.sl b _ _ _ _ _ _], _) => match pull b h with
    | some (.flat [.seg _ _ xs], _) => [{ pre := [y, b], val := .sl (.o lo) 1 0 0 0 (1 + n) none, post := [(.o lo, .rows 1 (1 + n) (apF xs g) true)] }]
    | _ => []
   | _ => []
  | _ => []
 | _ => []
def suC (d : List Int) : List V → Heap → Nat → List Cl := fun a _ _ => match a with
 | [.sl y _ _ _ _ _ _] => [{ pre := [y], val := agD d }]
 | _ => []
noncomputable def bdMs (x : Int) (K : List Int) (ls : Nat → List Int) (L d : List Int) : Bd := { f := Tryz.f106, args := [.int .u8 x, rbs 1 ls, p0K 0], pre := [(.o 0, .flat [.seg .u8 64 K])], base := 1, kb := { db := dbQ [(82, suC d)], pr := apP, lp := fun _ t => [(True, .loop (64 + 1) (wToS [(.o 1, nmV (getV t.tmps 6)), (.o 2, nmV (getV t.tmps 5))] (msI x K ls K 0)) (.exit 0) (msI x K ls L 64))] }, names := fun _ => [.o 0] }
noncomputable def pcMs (x : Int) (K : List Int) (ls : Nat → List Int) (L : List Int) (j : Nat) (L2 : List Int) : Pc := { c := cB (cB (cR (cL (cR (cR (bodyOf Tryz.f106)))))), st := msI x K ls L j, p := 1, kb := kb0, k := fun x_ _ => match x_ with
 | .normal => some (wTo (msI x K ls L2 (j + 1)))
 | _ => some (wTo (msI x K ls L 64)) }
def maC (d1 d2 : List Int) : List V → Heap → Nat → List Cl := fun a h _ => match a with
 | [.int _ 54, _, .ptr n _ _ _ _] => [{ rd := [n], val := agD d1 }]
 | [.int _ 92, .sl y _ _ _ _ _ _, .ptr n _ _ _ _] => match pull y h with
  | some (.flat [.sl b _ _ _ _ _ _], _) => match pull n h with
   | some (blk, _) => [{ pre := [n, y, b], val := agD d2, post := [(n, blk)] }]
   | none => []
  | _ => []
 | _ => []
noncomputable def bdMa (k : List Int) (ls : Nat → List Int) (d1 d2 : List Int) : Bd := { f := Tryz.f83, args := [rb k, rbs 1 ls], kb := { db := dbQ [(106, maC d1 d2)] } }
def kyB (s : ByteArray) (n : Int) : B := .flat [.str s, .int .i64 n]
noncomputable def bdLe (s : ByteArray) (n : Int) : Bd := { f := Tryz.f40, args := [p0K 0], pre := [(.o 0, kyB s n)], base := 1, kb := kb0, names := fun _ => [.o 0] }
noncomputable def bdDe (s : ByteArray) (n : Int) : Bd := { f := Tryz.f39, args := [.str s, .int .i64 n], kb := kb0, names := fun t => match getV t.tmps 4 with | .ptr a _ _ _ _ => [a] | _ => [] }
noncomputable def bdRe (s : ByteArray) (n : Int) : Bd := { f := Tryz.f38, args := [.str s, .int .i64 n], kb := kb0 }
noncomputable def bdTz (s : ByteArray) : Bd := { f := Tryz.f34, args := [.snil, .str s], base := 1, kb := { db := fun k a _ lo => bif Nat.beq k 35 then cNew (putZ s.size) a lo else [] }, k := kSb 4 63 (textB s), names := fun _ => [.o 63] }
def sgS (kd m : List Int) : Nat → List V → Heap → Nat → List Cl := dbQ [
 (82, fun a h _ => match a with
  | [.sl y _ _ _ _ _ _] => match pull y h with
   | some (.flat [.sl b _ _ _ _ _ _, .sl c _ _ _ _ _ _], _) => [{ pre := [y, b, c], val := agD kd }]
   | _ => []
  | _ => []),
 (83, fun a _ _ => match a with
  | [.sl y _ _ _ _ _ _, .sl b _ _ _ _ _ _] => [{ pre := [y, b], val := agD m }]
  | _ => [])]
def cpP (t : List Int) : Prim → List V → Heap → Nat → List Cl := fun pr vs _ _ => match pr with
 | .copy _ _ => match vs with
  | [.sl a _ _ _ _ _ _, .sl b _ _ _ _ _ _] => [{ pre := [a, b], val := .int .i64 16, post := [(a, .flat [.seg .u8 16 t])] }]
  | _ => []
 | _ => []
noncomputable def bdSg (s : ByteArray) (n id : Int) (b : ByteArray) (l1 l2 : List UInt8) (kd m t : List Int) : Bd := { f := Tryz.f41, args := [p0K 0, .int .i64 id, .str b], pre := [(.o 0, kyB s n)], base := 1, kb := { db := fun k a h lo => bif Nat.beq k 40 then [{ rd := [.o 0], val := .int .i64 n }] else bif Nat.beq k 34 then ubC l1 a h lo else bif Nat.beq k 35 then ubC l2 a h lo else sgS kd m k a h lo, pr := cpP t }, names := fun _ => [.o 0] }
noncomputable def bdCk (s : ByteArray) (n id : Int) (b : ByteArray) (t u : List Int) (e : Int) : Bd := { f := Tryz.f23, args := [p0K 0, .int .i64 id, .str b, .agg [.seg .u8 16 t]], pre := [(.o 0, kyB s n)], base := 1, kb := { db := fun k _ _ _ => bif Nat.beq k 41 then [{ rd := [.o 0], val := .tup [.agg [.seg .u8 16 u], .int .i64 e] }] else [] }, names := fun _ => [.o 0] }
end Go.Proofs.YtnmccoincblecaaGreat
