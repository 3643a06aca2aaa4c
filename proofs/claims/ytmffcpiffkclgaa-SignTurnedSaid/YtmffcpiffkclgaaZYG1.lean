/- A writer: numbers' bytes, one behind the other. -/
import Derived.Test.YtmffcpiffkclgaaZYW8
import Derived.Test.YtmffcpiffkclgaaZYW1
set_option linter.unusedSimpArgs false
set_option linter.unusedVariables false
set_option maxRecDepth 10000
namespace Go.Proofs.Ytmffcpiffkclgaa.ZJM.DC
open Go.Proofs.Ytmffcpiffkclgaa.ZJM Go.RowKit
def wrC (ver : Nat) (b : List Int) : PV := match b with
 | [] => .lst none true 1 []
 | x :: r => .vec ver (r.length + 1) 1 (Bs (x :: r))
def wE (e k n : Int) : Int := if e = 0 then (if wfits k n = true then 0 else 2) else e
def wB (e k n : Int) (b : List Int) : List Int := if e = 0 then (if wfits k n = true then b ++ kb (ksz k).toNat n else b) else b
theorem appx172 {M : Mem} {lv q : Nat} {e x : Int} {B : PV} (hq : mget M lv q [] = some [.int .i64 e,B]) :
  app E false (.fn 172 []) [.ptr lv q [] 0,.int .i64 x] ([] :: M) = some (.bool (!decide ((if e = 0 then x else e) = 0)),emptyBag,[] :: wr M lv q [.int .i64 (if e = 0 then x else e),B]) := by
 have l0 := mget_lt hq
 have l1 : lv ≠ M.length := by omega
 have l2 : lv ≠ M.length + 1 := by omega
 rw [app_fn E rfl hx172 rfl]
 by_cases he : e = 0
 ·subst he
  simp only [if_true]
  obtain ⟨hs,hl,hg,-⟩ := mset_ok hq [.int .i64 x,B]
  have l3 : lv ≠ (wr M lv q [.int .i64 x,B]).length := by omega
  by_cases hx : x = 0
  ·subst hx; simp [cx172,hq,hs,hg,l1,l2,hl]
  ·have hx' : (x == 0) = false := by simpa using hx
   simp [cx172,hq,hs,hg,l1,l2,hl,hx,hx']
 ·rw [if_neg he]
  have he' : (e == 0) = false := by simpa using he
  have := wr_same hq
  simp [cx172,hq,he,he',l1,l2,this]
theorem wrC_ne (ver : Nat) {b : List Int} (h : b ≠ []) : wrC ver b = .vec ver b.length 1 (Bs b) := by
 cases b with
 | nil => exact absurd rfl h
 | cons x r => rfl
theorem bs_cellI (b : List Int) : (∀ x,x ∈ Bs b → x.isCell = true) ↔ True := iff_true_intro fun x hx => by
 simp only [encs,List.mem_map] at hx
 obtain ⟨n,_,rfl⟩ := hx
 rfl
theorem bs_cellI2 (b : List Int) : (∀ x,x ∈ Bs b → ∀ y,y ∈ x.cells → y.isCell = true) ↔ True := iff_true_intro fun x hx y hy => by
 simp only [encs,List.mem_map] at hx
 obtain ⟨n,_,rfl⟩ := hx
 simp only [cells_int,List.mem_singleton] at hy
 subst hy
 rfl
theorem bs_movesI (b : List Int) (m : Nat) : (∀ x,x ∈ Bs b → moves m x = false) ↔ True := iff_true_intro fun x hx => by
 simp only [encs,List.mem_map] at hx
 obtain ⟨n,_,rfl⟩ := hx
 rfl
theorem bs_placeI (b : List Int) : (∀ x,x ∈ Bs b → isPlace x = false) ↔ True := iff_true_intro fun x hx => by
 simp only [encs,List.mem_map] at hx
 obtain ⟨n,_,rfl⟩ := hx
 rfl
theorem appx158 {M : Mem} {lv q ver : Nat} {e : Int} {b : List Int} (hlen : b.length ≤ 1000) (hq : mget M lv q [] = some [.int .i64 e,wrC ver b]) (k n : Int) :
  ∃ ver',app E false (.fn 158 []) [.ptr lv q [] 0,.int .i64 k,.int .i64 n] M = some (.tup [],emptyBag,wr M lv q [.int .i64 (wE e k n),wrC ver' (wB e k n b)]) := by
 have l0 := mget_lt hq
 have l1 : lv ≠ M.length := by omega
 have h102 := app102 k n
 unfold wE wB
 by_cases he : e = 0
 ·subst he
  simp only [if_true]
  by_cases hw : wfits k n = true
  ·rw [if_pos hw] at h102
   simp only [if_pos hw]
   have h50 := appx172 (x := 0) hq
   rw [if_pos rfl,wr_same hq] at h50
   have hkl := kb_len (ksz k).toNat n
   have hks := ksz_le k
   have hk0 : 0 < ksz k := by simp only [wfits,Bool.and_eq_true,decide_eq_true_eq] at hw; exact hw.1.1
   obtain ⟨y,B,hB⟩ : ∃ y B,kb (ksz k).toNat n = y :: B := by
    cases h : kb (ksz k).toNat n with
    | nil => rw [h] at hkl; simp at hkl; omega
    | cons y B => exact ⟨y,B,rfl⟩
   have hl4 : B.length ≤ 3 := by rw [hB] at hkl; simp at hkl; omega
   rw [hB] at h102 ⊢
   have hx : B.length + 1 ≤ maxBytes := by
      have : maxBytes ≥ 1000000 := by decide
      omega
   rcases b with _ | ⟨x,r⟩
   ·refine ⟨0,?_⟩
    simp only [wrC,List.nil_append] at hq ⊢
    obtain ⟨hs,hl,hg,-⟩ := mset_ok hq [.int .i64 0,.vec 0 (B.length + 1) 1 (Bs (y :: B))]
    rw [app_fn E rfl hx158 rfl]
    simp only [encs_cons] at *
    simp [cx158,h102,h50,hq,l1,hx,hs,hl,bs_cells,bs_cellI,bs_cellI2,bs_movesI,bs_placeI,bs_out,bs_len,bs_okns]
   ·refine ⟨ver + 1,?_⟩
    have hne : x :: r ++ y :: B ≠ [] := by simp
    rw [wrC_ne _ hne]
    rw [wrC_ne _ (by simp)] at hq
    have e1 : (x :: r ++ y :: B).length = (x :: r).length + (B.length + 1) := by simp [Nat.add_comm,Nat.add_left_comm]
    have e2 : Bs (x :: r ++ y :: B) = Bs (x :: r) ++ .int .u8 y :: Bs B := by rw [bs_app]; rfl
    rw [e1,e2]
    generalize x :: r = b at *
    have hx2 : b.length + (B.length + 1) ≤ maxBytes := by
       have : maxBytes ≥ 1000000 := by decide
       omega
    obtain ⟨ho1,hl1,hg1,-⟩ := mset_ok hq [.int .i64 0,.gone ver 1]
    obtain ⟨hs,hl2,hg2,-⟩ := mset_ok hg1 [.int .i64 0,.vec (ver + 1) (b.length + (B.length + 1)) 1 (Bs b ++ .int .u8 y :: Bs B)]
    have hww := wr_wr (x := [.int .i64 0,.gone ver 1]) (y := [.int .i64 0,.vec (ver + 1) (b.length + (B.length + 1)) 1 (Bs b ++ .int .u8 y :: Bs B)]) hq
    rw [hww] at hs hl2
    have l3 : lv ≠ (wr M lv q [.int .i64 0,.gone ver 1]).length := by omega
    rw [app_fn E rfl hx158 rfl]
    simp only [encs_cons] at *
    simp [cx158,h102,h50,hq,l1,hx,hx2,ho1,hg1,hs,hl1,bs_cells,bs_cellI,bs_cellI2,bs_movesI,bs_placeI,bs_out,bs_len,bs_okns]
  ·rw [if_neg hw] at h102
   simp only [if_neg hw]
   refine ⟨ver,?_⟩
   have h50 := appx172 (x := 2) hq
   rw [if_pos rfl] at h50
   rw [app_fn E rfl hx158 rfl]
   simp [cx158,h102,h50,l1]
 ·simp only [if_neg he]
  refine ⟨ver,?_⟩
  have hws := wr_same hq
  rw [hws,app_fn E rfl hx158 rfl]
  by_cases hw : wfits k n = true
  ·rw [if_pos hw] at h102
   have h50 := appx172 (x := 0) hq
   rw [if_neg he,hws] at h50
   simp [cx158,h102,h50,l1,he]
  ·rw [if_neg hw] at h102
   have h50 := appx172 (x := 2) hq
   rw [if_neg he,hws] at h50
   simp [cx158,h102,h50,l1,he]
end Go.Proofs.Ytmffcpiffkclgaa.ZJM.DC
set_option linter.unusedSimpArgs false
set_option linter.unusedVariables false
set_option maxRecDepth 10000
namespace Go.Proofs.Ytmffcpiffkclgaa.ZJM.DC
open Go.Proofs.Ytmffcpiffkclgaa.ZJM Go.RowKit
def bits8 (n : Int) : List Int := [n / 128 % 2,n / 64 % 2,n / 32 % 2,n / 16 % 2,n / 8 % 2,n / 4 % 2,n / 2 % 2,n % 2]
theorem wrap_u32 (n : Int) (h0 : 0 ≤ n) (h : n < 4294967296) : IntKind.u32.wrap n = n := by
 show n % 4294967296 = n
 omega
theorem wrap_u8 (n : Int) (h0 : 0 ≤ n) (h : n < 256) : IntKind.u8.wrap n = n := by
 show n % 256 = n
 omega
theorem and32 (a : Int) (p : Nat) (hp : p ≤ 16) (ha : 0 ≤ a ∧ a < 4294967296) : intBits .and .u32 a (2 ^ p - 1) = a % 2 ^ p := by
 obtain ⟨n,rfl⟩ : ∃ n : Nat,a = n := ⟨a.toNat,by omega⟩
 have hq : (2 : Nat) ^ p ≤ 2 ^ 16 := Nat.pow_le_pow_right (by decide) hp
 have hq0 : 0 < (2 : Nat) ^ p := Nat.pow_pos (by decide)
 have e0 : ((2 : Int) ^ p - 1) = ((2 ^ p - 1 : Nat) : Int) := by
  rw [Int.natCast_sub hq0]; simp
 have e1 : ((2 : Int) ^ p) = ((2 ^ p : Nat) : Int) := by simp
 rw [e0]
 show IntKind.u32.wrap ((BitVec.ofInt 32 (n : Int) &&& BitVec.ofInt 32 ((2 ^ p - 1 : Nat) : Int)).toNat : Int) = _
 have e : n &&& (2 ^ p - 1) = n % 2 ^ p := Nat.and_two_pow_sub_one_eq_mod n p
 have hm : n % 2 ^ p < 2 ^ p := Nat.mod_lt _ hq0
 rw [BitVec.ofInt_natCast,BitVec.ofInt_natCast,BitVec.toNat_and,BitVec.toNat_ofNat,BitVec.toNat_ofNat,Nat.mod_eq_of_lt (by omega),Nat.mod_eq_of_lt (by omega),e,wrap_u32 _ (by omega) (by omega),e1]
 exact Int.natCast_emod n (2 ^ p)
theorem and8 (a : Int) (ha : 0 ≤ a ∧ a < 256) : intBits .and .u8 a 1 = a % 2 := by
 obtain ⟨n,rfl⟩ : ∃ n : Nat,a = n := ⟨a.toNat,by omega⟩
 show IntKind.u8.wrap ((BitVec.ofInt 8 (n : Int) &&& BitVec.ofInt 8 ((1 : Nat) : Int)).toNat : Int) = _
 have e : n &&& 1 = n % 2 := Nat.and_one_is_mod n
 rw [BitVec.ofInt_natCast,BitVec.ofInt_natCast,BitVec.toNat_and,BitVec.toNat_ofNat,BitVec.toNat_ofNat,Nat.mod_eq_of_lt (by omega),Nat.mod_eq_of_lt (by omega),e,wrap_u8 _ (by omega) (by omega)]
 omega
theorem xor32 (n m : Nat) (hn : n < 65536) (hm : m < 65536) : intBits .xor .u32 n m = ((n ^^^ m : Nat) : Int) := by
 have hx : n ^^^ m < 2 ^ 16 := Nat.xor_lt_two_pow (by omega) (by omega)
 show IntKind.u32.wrap ((BitVec.ofInt 32 (n : Int) ^^^ BitVec.ofInt 32 (m : Int)).toNat : Int) = _
 rw [BitVec.ofInt_natCast,BitVec.ofInt_natCast,BitVec.toNat_xor,BitVec.toNat_ofNat,BitVec.toNat_ofNat,Nat.mod_eq_of_lt (by omega),Nat.mod_eq_of_lt (by omega),wrap_u32 _ (by omega) (by omega)]
def lowX (a : Int) : Int := ((a.toNat ^^^ 4129 : Nat) : Int)
theorem lowX_lt {a : Int} (h0 : 0 ≤ a) (h : a < 65536) : 0 ≤ lowX a ∧ lowX a < 65536 := by
 unfold lowX
 have hx : a.toNat ^^^ 4129 < 2 ^ 16 := Nat.xor_lt_two_pow (by omega) (by omega)
 omega
theorem xor_low {a : Int} (h0 : 0 ≤ a) (h : a < 65536) : intBits .xor .u32 a 4129 = lowX a := by
 obtain ⟨n,rfl⟩ : ∃ n : Nat,a = n := ⟨a.toNat,by omega⟩
 exact xor32 n 4129 (by omega) (by decide)
theorem xor_bit {a b : Int} (ha : 0 ≤ a ∧ a < 2) (hb : 0 ≤ b ∧ b < 2) : intBits .xor .u32 a b = (a + b) % 2 := by
 rcases (by omega : a = 0 ∨ a = 1) with rfl | rfl <;> rcases (by omega : b = 0 ∨ b = 1) with rfl | rfl <;> decide
def feedI (r x : Int) : Int := if (r / 32768 + x) % 2 = 1 then lowX (2 * r % 65536) else 2 * r % 65536
def byteI (r n : Int) : Int := (bits8 n).foldl feedI r
def crcI (b : List Int) : Int := b.foldl byteI 0
theorem feed_lt (r x : Int) : 0 ≤ feedI r x ∧ feedI r x < 65536 := by
 unfold feedI
 split
 ·exact lowX_lt (by omega) (by omega)
 ·omega
theorem appx178 : app E false (.fn 178 []) [.agg [.int .i64 16,.int .u32 4129]] [] = some (.int .u32 65535,emptyBag,[]) := by
 rw [app_fn E rfl hx178 rfl]
 simp [cx178,IntKind.wrap,IntKind.bits,IntKind.signed]
theorem appx175 : app E false (.fn 175 []) [.agg [.int .i64 16,.int .u32 4129]] [] = some (.bool true,emptyBag,[]) := by
 have e : Int.fdiv 4129 (2 ^ min 16 IntKind.u32.bits) = 0 := by decide
 rw [app_fn E rfl hx175 rfl]
 simp [cx175,e]
theorem appx177 (m : Mem) (r x : Int) (hr : 0 ≤ r ∧ r < 65536) (hx : 0 ≤ x ∧ x < 256) : app E false (.fn 177 []) [.agg [.int .i64 16,.int .u32 4129],.int .u32 r,.int .u8 x] m = some (.int .u32 (feedI r x),emptyBag,m) := by
 have h92 := appx178
 have w15 : IntKind.i64.wrap 15 = 15 := by decide
 have m15 : min 15 IntKind.u32.bits = 15 := by decide
 have m1 : min 1 IntKind.u32.bits = 1 := by decide
 have e1 : Int.fdiv r 32768 = r / 32768 := Int.fdiv_eq_ediv_of_nonneg _ (by decide)
 have e2 : intBits .and .u32 (r / 32768) 1 = r / 32768 % 2 := and32 _ 1 (by decide) (by omega)
 have e3 := and8 x hx
 have w3 : IntKind.u32.wrap (x % 2) = x % 2 := wrap_u32 _ (by omega) (by omega)
 have e4 := xor_bit (a := r / 32768 % 2) (b := x % 2) (by omega) (by omega)
 have e5 : IntKind.u32.wrap (r * 2) = 2 * r := by rw [wrap_u32 _ (by omega) (by omega)]; omega
 have e6 : intBits .and .u32 (2 * r) 65535 = 2 * r % 65536 := and32 _ 16 (by decide) (by omega)
 have e7 := xor_low (a := 2 * r % 65536) (by omega) (by omega)
 have e8 : (r / 32768 % 2 + x % 2) % 2 = (r / 32768 + x) % 2 := by omega
 rw [app_fn E rfl hx177 rfl]
 unfold feedI
 rw [e8] at e4
 by_cases h : (r / 32768 + x) % 2 = 1
 ·rw [if_pos h]
  rw [h] at e4
  simp [cx177,h92,w15,m15,m1,e1,e2,e3,w3,e4,e5,e6,e7]
 ·rw [if_neg h]
  have h0 : (r / 32768 + x) % 2 = 0 := by omega
  rw [h0] at e4
  simp [cx177,h92,w15,m15,m1,e1,e2,e3,w3,e4,e5,e6,e7]
section
variable (r : Int) (hr : 0 ≤ r ∧ r < 65536) (L : List Int) (hL : ∀ x ∈ L,0 ≤ x ∧ x < 256) (hn : L.length ≤ 1000)
def S90 (r : Int) (L : List Int) (t : Nat) : St := ⟨[(0,.fn 177 [.gone 0 0,.agg [.int .i64 16,.int .u32 4129]]),(1,.int .u32 ((L.take t).foldl feedI r)),(9,.lst none false 1 (Bs L)),(10,.int .i64 L.length),(11,.int .i64 t)],[],[],[],[]⟩
include hr in
theorem fold_lt (t : Nat) : 0 ≤ (L.take t).foldl feedI r ∧ (L.take t).foldl feedI r < 65536 := by
 cases h : (L.take t).reverse with
 | nil =>
  have : L.take t = [] := by simpa using h
  rw [this]; exact hr
 | cons x q =>
  have : L.take t = q.reverse ++ [x] := by rw [← List.reverse_reverse (L.take t),h,List.reverse_cons]
  rw [this,List.foldl_append]
  exact feed_lt _ _
theorem take_fold {σ α : Type} (g : σ → α → σ) (s : σ) (L : List α) (t : Nat) (h : t < L.length) : (L.take (t + 1)).foldl g s = g ((L.take t).foldl g s) L[t] := by
 rw [List.take_add_one,List.foldl_append,List.getElem?_eq_getElem h]; rfl
include hr hL hn in
theorem appx176 : app E false (.fn 176 []) [.fn 177 [.gone 0 0,.agg [.int .i64 16,.int .u32 4129]],.int .u32 r,.lst none false 1 (Bs L)] [] = some (.int .u32 (L.foldl feedI r),emptyBag,[]) := by
 have hS0 : maskSt [0,1,9,10,11] [] [] [] (S90 r L 0) = some (S90 r L 0) := by
  simp [S90,bs_okns]
 have hl := loop_eq (mask := maskSt [0,1,9,10,11] [] [] []) (body := Cd.run (app E) cx176.body.inner.body) (fun t => S90 r L t) L.length (fun t ht => by
  have htI : (t : Int) < L.length := by omega
  have hw := wrap_succ t (by omega)
  have hlt := fold_lt r hr L t
  have h91 := appx177 [[]] ((L.take t).foldl feedI r) L[t] hlt (hL _ (List.getElem_mem ht))
  have hb := @app_bnd E 177 [.agg [.int .i64 16,.int .u32 4129]] [.int .u32 ((L.take t).foldl feedI r),.int .u8 L[t]] 0 0 false [[]]
  have hb2 : app E false (.fn 177 [.gone 0 0,.agg [.int .i64 16,.int .u32 4129]]) [.int .u32 ((L.take t).foldl feedI r),.int .u8 L[t]] [[]] = some (.int .u32 (feedI ((L.take t).foldl feedI r) L[t]),emptyBag,[[]]) := hb.trans h91
  have ht1 := take_fold feedI r L t ht
  have hl1 := bs_len L
  have hgE := bs_getE L t (by rw [hl1]; exact ht)
  simp only [S90]
  generalize (L.take t).foldl feedI r = a at *
  generalize hb0 : (L.take (t + 1)).foldl feedI r = b at *
  simp [cx176,Cd.inner,Cd.body,S90,htI,ht,hw,hb2,hb0,← ht1,bs_getE,bs_okns]) (by simp [cx176,Cd.inner,Cd.body,S90]) hS0
 have hl2 := loop_at hS0 hl
 simp only [cx176,Cd.inner,Cd.body,S90] at hl2
 have key : maskSt [0,1,9,10,11] [] [] [] ⟨[(11,PV.int IntKind.i64 0),(10,PV.int IntKind.i64 L.length),(9,PV.lst none false 1 (Bs L)),(6,PV.int IntKind.u32 0),(0,PV.fn 177 [PV.gone 0 0,PV.agg [PV.int IntKind.i64 16,PV.int IntKind.u32 4129]]),(1,PV.int IntKind.u32 r),(2,PV.lst none false 1 (Bs L))],[],[],[],[]⟩ = some (S90 r L 0) := by simp [S90,bs_okns]
 have hl3 := hl2 _ key
 rw [app_fn E rfl hx176 rfl]
 have hn1 : (L.take L.length).foldl feedI r = L.foldl feedI r := by rw [List.take_length]
 simp [cx176,hl3,bs_okns,hn1]
include hr hL hn in
theorem appx53 : app E false (.fn 164 []) [.agg [.int .i64 16,.int .u32 4129],.int .u32 r,.lst none false 1 (Bs L)] [] = some (.int .u32 (L.foldl feedI r),emptyBag,[]) := by
 have h90 := appx176 r hr L hL hn
 have h92 := appx178
 have h89 := appx175
 have e6 : intBits .and .u32 r 65535 = r := by rw [show (65535 : Int) = 2 ^ 16 - 1 by decide,and32 _ 16 (by decide) (by omega)]; omega
 rw [app_fn E rfl hy53 rfl]
 simp [cy53,h89,h90,h92,e6,bs_okns]
end
def row54 (n : Int) : Nat → List Int
 | 0 => [0,0,0,0,0,0,0,0]
 | 1 => [0,0,0,0,0,0,0,n % 2]
 | 2 => [0,0,0,0,0,0,n / 2 % 2,n % 2]
 | 3 => [0,0,0,0,0,n / 4 % 2,n / 2 % 2,n % 2]
 | 4 => [0,0,0,0,n / 8 % 2,n / 4 % 2,n / 2 % 2,n % 2]
 | 5 => [0,0,0,n / 16 % 2,n / 8 % 2,n / 4 % 2,n / 2 % 2,n % 2]
 | 6 => [0,0,n / 32 % 2,n / 16 % 2,n / 8 % 2,n / 4 % 2,n / 2 % 2,n % 2]
 | 7 => [0,n / 64 % 2,n / 32 % 2,n / 16 % 2,n / 8 % 2,n / 4 % 2,n / 2 % 2,n % 2]
 | _ => bits8 n
def sh54 (n : Int) : Nat → Int
 | 0 => n
 | 1 => n / 2
 | 2 => n / 4
 | 3 => n / 8
 | 4 => n / 16
 | 5 => n / 32
 | 6 => n / 64
 | 7 => n / 128
 | _ => n / 256
def S54b (n : Int) (t : Nat) : St := ⟨[(0,.int .u32 (sh54 n t)),(5,.slr 0 1000000000 [] 0 8 1),(6,.int .i64 (7 - (t : Int)))],[],[(1000000000,Bs (row54 n t))],[],[]⟩
theorem appx165 (n : Int) (hn : 0 ≤ n ∧ n < 256) : app E false (.fn 165 []) [.int .u32 n,.int .i64 8] [] = some (.lst none false 1 (Bs (bits8 n)),emptyBag,[]) := by
 have w0 : ∀ a : Int,0 ≤ a ∧ a < 256 → IntKind.u8.wrap (intBits .and .u32 a 1) = a % 2 := fun a ha => by
  rw [show (1 : Int) = 2 ^ 1 - 1 by decide,and32 _ 1 (by decide) (by omega),wrap_u8 _ (by omega) (by omega)]; omega
 have wi : ∀ a : Int,-1 ≤ a ∧ a < 100 → IntKind.i64.wrap a = a := fun a ha => wrap_id _ (by omega) (by omega)
 have d2 : n / 2 / 2 = n / 4 := by omega
 have d4 : n / 4 / 2 = n / 8 := by omega
 have d8 : n / 8 / 2 = n / 16 := by omega
 have d16 : n / 16 / 2 = n / 32 := by omega
 have d32 : n / 32 / 2 = n / 64 := by omega
 have d64 : n / 64 / 2 = n / 128 := by omega
 have d128 : n / 128 / 2 = n / 256 := by omega
 have w1 : ∀ a : Int,Int.fdiv a 2 = a / 2 := fun a => Int.fdiv_eq_ediv_of_nonneg _ (by decide)
 have m1 : min 1 IntKind.u32.bits = 1 := by decide
 have hS0 : maskSt [0,5,6] [] [] [5] (S54b n 0) = some (S54b n 0) := by
  simp [S54b,row54,sh54]
 have hl := loop_eq (mask := maskSt [0,5,6] [] [] [5]) (body := Cd.run (app E) cx165.body.inner.body) (fun t => S54b n t) 8 (fun t ht => by
  rcases (by omega : t = 0 ∨ t = 1 ∨ t = 2 ∨ t = 3 ∨ t = 4 ∨ t = 5 ∨ t = 6 ∨ t = 7) with rfl | rfl | rfl | rfl | rfl | rfl | rfl | rfl
  ·have e := w0 n (by omega)
   have e1 := wi 6 (by omega)
   simp [cx165,Cd.inner,Cd.body,S54b,row54,sh54,bits8,e,e1,w1,m1,d2,d4,d8,d16,d32,d64,d128]
  ·have e := w0 (n / 2) (by omega)
   have e1 := wi 5 (by omega)
   simp [cx165,Cd.inner,Cd.body,S54b,row54,sh54,bits8,e,e1,w1,m1,d2,d4,d8,d16,d32,d64,d128]
  ·have e := w0 (n / 4) (by omega)
   have e1 := wi 4 (by omega)
   simp [cx165,Cd.inner,Cd.body,S54b,row54,sh54,bits8,e,e1,w1,m1,d2,d4,d8,d16,d32,d64,d128]
  ·have e := w0 (n / 8) (by omega)
   have e1 := wi 3 (by omega)
   simp [cx165,Cd.inner,Cd.body,S54b,row54,sh54,bits8,e,e1,w1,m1,d2,d4,d8,d16,d32,d64,d128]
  ·have e := w0 (n / 16) (by omega)
   have e1 := wi 2 (by omega)
   simp [cx165,Cd.inner,Cd.body,S54b,row54,sh54,bits8,e,e1,w1,m1,d2,d4,d8,d16,d32,d64,d128]
  ·have e := w0 (n / 32) (by omega)
   have e1 := wi 1 (by omega)
   simp [cx165,Cd.inner,Cd.body,S54b,row54,sh54,bits8,e,e1,w1,m1,d2,d4,d8,d16,d32,d64,d128]
  ·have e := w0 (n / 64) (by omega)
   have e1 := wi 0 (by omega)
   simp [cx165,Cd.inner,Cd.body,S54b,row54,sh54,bits8,e,e1,w1,m1,d2,d4,d8,d16,d32,d64,d128]
  ·have e := w0 (n / 128) (by omega)
   have e1 := wi (-1) (by omega)
   simp [cx165,Cd.inner,Cd.body,S54b,row54,sh54,bits8,e,e1,w1,m1,d2,d4,d8,d16,d32,d64,d128]
  ) (by simp [cx165,Cd.inner,Cd.body,S54b]) hS0
 have hl2 := loop_at hS0 hl
 simp only [cx165,Cd.inner,Cd.body,S54b] at hl2
 rw [app_fn E rfl hx165 rfl]
 have h8 : 8 ≤ maxBytes := by decide
 have hr8 : rep [PV.int .u8 0] 8 = [.int .u8 0,.int .u8 0,.int .u8 0,.int .u8 0,.int .u8 0,.int .u8 0,.int .u8 0,.int .u8 0] := rfl
 have e7 := wi 7 (by omega)
 have e8 := wi (-1) (by omega)
 have hl8 : (bits8 n).length = 8 := rfl
 have hch := bs_chunks (bits8 n)
 have hlb := bs_len (bits8 n)
 rw [hl8] at hch hlb
 have hr0 : row54 n 0 = [0,0,0,0,0,0,0,0] := rfl
 have hr9 : row54 n 8 = bits8 n := rfl
 have ho := bs_okns (bits8 n)
 have hou := bs_out (bits8 n)
 have htk := bs_take (bits8 n)
 rw [hl8] at htk
 rw [hr9] at hl2
 generalize bits8 n = B at *
 simp [cx165,hl2,hr0,sh54,h8,hr8,e7,e8,hch,hlb,hl8,ho,hou,htk]
theorem bits8_ok (n : Int) : ∀ x ∈ bits8 n,0 ≤ x ∧ x < 256 := by
 intro x hx
 simp only [bits8,List.mem_cons,List.not_mem_nil,or_false] at hx
 rcases hx with rfl | rfl | rfl | rfl | rfl | rfl | rfl | rfl <;> omega
theorem byte_lt (r n : Int) : 0 ≤ byteI r n ∧ byteI r n < 65536 := feed_lt _ _
theorem crc_lt (b : List Int) : 0 ≤ crcI b ∧ crcI b < 65536 := by
 unfold crcI
 cases h : b.reverse with
 | nil =>
  have : b = [] := by simpa using h
  rw [this]; decide
 | cons x q =>
  have : b = q.reverse ++ [x] := by rw [← List.reverse_reverse b,h,List.reverse_cons]
  rw [this,List.foldl_append,List.foldl_cons,List.foldl_nil]
  exact byte_lt _ _
section
variable (b : List Int) (hb : OkB b) (hn : b.length ≤ 1000)
def S28c (b : List Int) (t : Nat) : St := ⟨[(3,.ptr 0 3 [] 0),(4,.int .u32 (crcI (b.take t))),(8,.lst none false 1 (Bs b)),(9,.int .i64 b.length),(10,.int .i64 t)],[],[(3,[.int .i64 16,.int .u32 4129])],[],[]⟩
include hb hn in
theorem appx127 : app E false (.fn 127 []) [.lst none false 1 (Bs b)] [] = some (.int .i64 (crcI b),emptyBag,[]) := by
 have hS0 : maskSt [3,4,8,9,10] [3] [] [] (S28c b 0) = some (S28c b 0) := by
  simp [S28c,bs_okns]
 have hl := loop_eq (mask := maskSt [3,4,8,9,10] [3] [] []) (body := Cd.run (app E) cx127.body.inner.body) (fun t => S28c b t) b.length (fun t ht => by
  have htI : (t : Int) < b.length := by omega
  have hw := wrap_succ t (by omega)
  have hx := hb _ (List.getElem_mem ht)
  have h54 := appx165 b[t] hx
  have hu : IntKind.u32.wrap b[t] = b[t] := wrap_u32 _ (by omega) (by omega)
  have hlt := crc_lt (b.take t)
  have h53 := appx53 (crcI (b.take t)) hlt (bits8 b[t]) (bits8_ok _) (by simp [bits8])
  have ht1 : crcI (b.take (t + 1)) = (bits8 b[t]).foldl feedI (crcI (b.take t)) := by
   unfold crcI
   rw [take_fold byteI 0 b t ht]
   rfl
  rw [← ht1] at h53
  simp only [S28c]
  generalize crcI (b.take (t + 1)) = a1 at *
  generalize crcI (b.take t) = a at *
  generalize bits8 b[t] = B at *
  simp [cx127,Cd.inner,Cd.body,htI,ht,hw,hu,h54,h53,bs_getE,bs_okns]) (by simp [cx127,Cd.inner,Cd.body,S28c]) hS0
 have hl2 := loop_at hS0 hl
 have hn1 : b.take b.length = b := List.take_length
 have hlt := crc_lt b
 have hw : IntKind.i64.wrap (crcI b) = crcI b := wrap_id _ (by omega) (by omega)
 have key : maskSt [3,4,8,9,10] [3] [] [] ⟨[(10,.int .i64 0),(9,.int .i64 b.length),(8,.lst none false 1 (Bs b)),(4,.int .u32 0),(3,.ptr 0 3 [] 0),(7,.agg [.int .i64 16,.int .u32 4129]),(2,.int .i64 0),(0,.lst none false 1 (Bs b))],[],[(3,[.int .i64 16,.int .u32 4129])],[],[]⟩ = some (S28c b 0) := by simp [S28c,bs_okns,crcI]
 have hl3 := hl2 _ key
 simp only [cx127,Cd.inner,Cd.body,S28c,hn1] at hl3
 rw [app_fn E rfl hx127 rfl]
 generalize crcI b = c at *
 simp [cx127,hl3,bs_okns,hw]
end
end Go.Proofs.Ytmffcpiffkclgaa.ZJM.DC
set_option linter.unusedSimpArgs false
set_option linter.unusedVariables false
set_option maxRecDepth 10000
namespace Go.Proofs.Ytmffcpiffkclgaa.ZJM.DC
open Go.Proofs.Ytmffcpiffkclgaa.ZJM Go.RowKit
theorem appx173 {M : Mem} {lv q : Nat} {e : Int} {B : PV} (hq : mget M lv q [] = some [.int .i64 e,B]) : app E false (.fn 173 []) [.ptr lv q [] 0] M = some (.int .i64 e,emptyBag,M) := by
 have l0 := mget_lt hq
 have l1 : lv ≠ M.length := by omega
 rw [app_fn E rfl hx173 rfl]
 simp [cx173,hq,l1]
theorem appx160 {M : Mem} {lv q : Nat} {e : Int} {B : PV} (hq : mget M lv q [] = some [.int .i64 e,B]) : app E false (.fn 160 []) [.ptr lv q [] 0] M = some (.int .i64 e,emptyBag,M) := by
 have l0 := mget_lt hq
 have l1 : lv ≠ M.length := by omega
 have hq2 : mget ([] :: M) lv q [] = some [.int .i64 e,B] := by simp [mget,l1,hq]
 have h52 := appx173 hq2
 rw [app_fn E rfl hx160 rfl]
 simp [cx160,hq,l1,h52]
theorem appx161 {M : Mem} {lv q ver : Nat} {e : Int} {b : List Int} (hb : b ≠ []) (hlen : b.length ≤ 1000) (hq : mget M lv q [] = some [.int .i64 e,wrC ver b]) : app E false (.fn 161 []) [.ptr lv q [] 0] M = some (Bl false b,emptyBag,M) := by
 have l0 := mget_lt hq
 have l1 : lv ≠ M.length := by omega
 have hx : b.length ≤ maxBytes := by
    have : maxBytes ≥ 1000000 := by decide
    omega
 rw [wrC_ne _ hb] at hq
 have hq1 : mget M lv q [(1,ver)] = some (Bs b) := by rw [mget_path,hq]; simp [tget]
 have c6 := bs_chunks b
 have c7 := bs_take b
 have c8 := bs_len b
 have c9 := fun x y c d => bs_out b x y c d
 have c10 := fun x y c => bs_okns b x y c
 obtain ⟨y,Y,hY⟩ : ∃ y Y,Bs b = y :: Y ∧ ∀ a c d,PV.okn a c d y = true ∧ PV.okns a c d Y = true := by
  cases b with
  | nil => exact absurd rfl hb
  | cons x r => exact ⟨_,_,rfl,fun a c d => ⟨rfl,bs_okns r a c d⟩⟩
 obtain ⟨hY,o⟩ := hY
 have o1 := fun a c d => (o a c d).1
 have o2 := fun a c d => (o a c d).2
 simp only [Bl]
 rw [hY] at hq hq1 c6 c7 c8 c9 c10 ⊢
 rw [app_fn E rfl hx161 rfl]
 simp [cx161,hq,hq1,l1,hx,c6,c7,c8,c9,o1,o2,-List.take_succ_cons]
def putS (w : Int × List Int) (k n : Int) : Int × List Int := (wE w.1 k n,wB w.1 k n w.2)
def slW (w : Int × List Int) (L : List Slot) : Int × List Int := L.foldl (fun w x => putS w 4 (wordA x.i x.s x.n).1) w
def wOk (L : List Slot) : Bool := L.all fun x => (wordA x.i x.s x.n).2 == 0
theorem put_len (w : Int × List Int) (k n : Int) : (putS w k n).2.length ≤ w.2.length + 4 := by
 have hk := ksz_le k
 simp only [putS,wB]
 split
 ·split
  ·rw [List.length_append,kb_len]; omega
  ·omega
 ·omega
theorem slW_len (w : Int × List Int) (L : List Slot) : (slW w L).2.length ≤ w.2.length + 4 * L.length := by
 induction L generalizing w with
 | nil => simp [slW]
 | cons x r ih =>
  have := ih (putS w 4 (wordA x.i x.s x.n).1)
  have h := put_len w 4 (wordA x.i x.s x.n).1
  simp only [slW,List.foldl_cons,List.length_cons] at this ⊢
  omega
section
variable {M : Mem} {lv q : Nat} {w : Int × List Int} (L : List Slot) (hL : L.length ≤ 8) (hw : w.2.length ≤ 100)
def S159 (lv q : Nat) (L : List Slot) (t : Nat) (M : Mem) : St := ⟨[(0,.fn 158 [.gone 0 0,.ptr lv q [] 0]),(9,Sl false L),(10,.int .i64 L.length),(11,.int .i64 t)],[],[],[],M⟩
include hL hw in
theorem loop159 {ver : Nat} (hq : mget M lv q [] = some [.int .i64 w.1,wrC ver w.2]) {st : St} (h0 : maskSt [0,9,10,11] [] [] [] st = some (S159 lv q L 0 M)) :
  ∃ e st',loopW (maskSt [0,9,10,11] [] [] []) (Cd.run (app E) cx159.body.inner.body) st = some (e,st') ∧ e ≠ .normal ∧
   ∃ ver' w',st'.m = wr M lv q [.int .i64 w'.1,wrC ver' w'.2] ∧ ((e = .exit 0 ∧ wOk L = true ∧ w' = slW w L) ∨ (e = .ret ∧ wOk L = false ∧ get st'.f 4 = some (.int .i64 2))) := by
 have l0 := mget_lt hq
 have l1 : lv ≠ M.length := by omega
 refine loop_inv (fun t S => wOk (L.take t) = true ∧ ∃ ver' : Nat,S = S159 lv q L t (wr M lv q [.int .i64 (slW w (L.take t)).1,wrC ver' (slW w (L.take t)).2])) L.length _ h0 ⟨rfl,ver,by simp only [List.take_zero,slW,List.foldl_nil]; rw [wr_same hq]⟩ ?_ ?_
 ·rintro t S ht ⟨hall,ver1,rfl⟩
  have htI : (t : Int) < L.length := by omega
  have hws := wrap_succ t (by omega)
  have hgE : (Ss L)[t]? = some L[t].enc := by rw [List.getElem?_eq_getElem (by rw [encs_len]; exact ht),encs_getE]
  have h18 : app E false (.fn 83 []) [slt L[t].i L[t].s L[t].n] [] = some (.tup [.int .i64 (wordA L[t].i L[t].s L[t].n).1,.int .i64 (wordA L[t].i L[t].s L[t].n).2],emptyBag,[]) := app18 _ _ _
  have ht1 := take_fold (fun w (x : Slot) => putS w 4 (wordA x.i x.s x.n).1) w L t ht
  have hwk : wOk (L.take (t + 1)) = ((wordA L[t].i L[t].s L[t].n).2 == 0) := by
   unfold wOk at hall ⊢
   rw [List.take_add_one,List.all_append,hall,List.getElem?_eq_getElem ht]
   simp
  have hbad : (wordA L[t].i L[t].s L[t].n).2 ≠ 0 → wOk L = false := by
   intro h
   unfold wOk
   rw [List.all_eq_false]
   exact ⟨L[t],List.getElem_mem ht,by simpa using h⟩
  have hlen := slW_len w (L.take t)
  rw [List.length_take] at hlen
  have he2 : (wordA L[t].i L[t].s L[t].n).2 = 0 ∨ (wordA L[t].i L[t].s L[t].n).2 = 2 := by unfold wordA; split <;> simp
  obtain ⟨g1,g2,g3,-⟩ := mset_ok hq [.int .i64 (slW w (L.take t)).1,wrC ver1 (slW w (L.take t)).2]
  have hlvM : lv ≠ (wr M lv q [.int .i64 (slW w (L.take t)).1,wrC ver1 (slW w (L.take t)).2]).length := by omega
  have hq3 : mget ([(6,[.int .i64 L[t].i,.int .i64 L[t].s,.int .i64 L[t].n])] :: wr M lv q [.int .i64 (slW w (L.take t)).1,wrC ver1 (slW w (L.take t)).2]) lv q [] = some [.int .i64 (slW w (L.take t)).1,wrC ver1 (slW w (L.take t)).2] := by
   rw [mget_cons,if_neg hlvM]; exact g3
  obtain ⟨ver2,h22⟩ := appx158 (by omega) hq3 4 (wordA L[t].i L[t].s L[t].n).1
  rw [wr_cons hlvM,wr_wr hq] at h22
  have hb2 := (@app_bnd E 158 [.ptr lv q [] 0] [.int .i64 4,.int .i64 (wordA L[t].i L[t].s L[t].n).1] 0 0 false ([(6,[.int .i64 L[t].i,.int .i64 L[t].s,.int .i64 L[t].n])] :: wr M lv q [.int .i64 (slW w (L.take t)).1,wrC ver1 (slW w (L.take t)).2])).trans h22
  have hnew : (wE (slW w (L.take t)).1 4 (wordA L[t].i L[t].s L[t].n).1,wB (slW w (L.take t)).1 4 (wordA L[t].i L[t].s L[t].n).1 (slW w (L.take t)).2) = slW w (L.take (t + 1)) := ht1.symm
  have hn1 := congrArg Prod.fst hnew
  have hn2 := congrArg Prod.snd hnew
  simp only at hn1 hn2
  rw [hn1,hn2] at hb2
  obtain ⟨-,g5,-,-⟩ := mset_ok hq [.int .i64 (slW w (L.take (t + 1))).1,wrC ver2 (slW w (L.take (t + 1))).2]
  have hokS := fun a b c => ss_okns L a b c
  have hgE2 : ∀ h,(Ss L)[t]'h = L[t].enc := fun h => (List.getElem?_eq_some_iff.1 hgE).2
  have hlS : (Ss L).length = L.length := encs_len L
  clear hnew ht1 g1 hn1 hn2 h22
  simp only [S159,Sl,Slot.enc] at *
  generalize hW : slW w (L.take t) = W at *
  generalize hW1 : slW w (L.take (t + 1)) = W1 at *
  generalize hM1 : wr M lv q [.int .i64 W.1,wrC ver1 W.2] = M1 at *
  generalize hM2 : wr M lv q [.int .i64 W1.1,wrC ver2 W1.2] = M2 at *
  rcases he2 with hz | hz
  ·rw [hz] at h18 hwk
   have hG : Goes (maskSt [0,9,10,11] [] [] []) ⟨[(0,.fn 158 [.gone 0 0,.ptr lv q [] 0]),(9,.lst none false 3 (Ss L)),(10,.int .i64 L.length),(11,.int .i64 ((t + 1 : Nat) : Int))],[],[],[],M2⟩ (Cd.run (app E) cx159.body.inner.body ⟨[(0,.fn 158 [.gone 0 0,.ptr lv q [] 0]),(9,.lst none false 3 (Ss L)),(10,.int .i64 L.length),(11,.int .i64 (t : Int))],[],[],[],M1⟩) := by
    generalize L[t] = x at *
    generalize Ss L = SL at *
    simp [cx159,Cd.inner,Cd.body,htI,ht,hws,h18,hb2,hgE,hgE2,hlS,hokS,g5,l1]
   obtain ⟨st2,q1,q2⟩ := hG.get
   exact .inl ⟨st2,_,q1,q2,by rw [hwk]; rfl,ver2,by rw [hM2]⟩
  ·rw [hz] at h18
   refine .inr ?_
   have hno := hbad (by omega)
   generalize L[t] = x at *
   generalize Ss L = SL at *
   simp [cx159,Cd.inner,Cd.body,htI,ht,hws,h18,hgE,hgE2,hlS,hokS,l1,EndsL]
   exact ⟨⟨ver1,W.1,W.2,hM1.symm⟩,hno⟩
 ·rintro S ⟨hall,ver1,rfl⟩
  rw [List.take_length] at hall ⊢
  generalize slW w L = W at *
  simp [cx159,Cd.inner,Cd.body,S159,EndsL]
  exact ⟨⟨ver1,rfl⟩,hall⟩
include hL hw in
theorem appx159 {ver : Nat} (hq : mget M lv q [] = some [.int .i64 w.1,wrC ver w.2]) :
  ∃ ver' w',app E false (.fn 159 []) [.fn 158 [.gone 0 0,.ptr lv q [] 0],Sl false L] M = some (.int .i64 (if wOk L = true then 0 else 2),emptyBag,wr M lv q [.int .i64 w'.1,wrC ver' w'.2]) ∧ (wOk L = true → w' = slW w L) := by
 have l0 := mget_lt hq
 have l1 : lv ≠ M.length := by omega
 have hokS := fun a b c => ss_okns L a b c
 have hS0 : maskSt [0,9,10,11] [] [] [] (S159 lv q L 0 M) = some (S159 lv q L 0 M) := by simp [S159,hokS,l1]
 obtain ⟨e,⟨f',tops',own',dead',m'⟩,q1,q2,ver',w',rfl,q3⟩ := loop159 L hL hw hq hS0
 have key : maskSt [0,9,10,11] [] [] [] ⟨[(11,.int .i64 0),(10,.int .i64 L.length),(9,Sl false L),(4,.int .i64 0),(0,.fn 158 [.gone 0 0,.ptr lv q [] 0]),(1,Sl false L)],[],[],[],M⟩ = some (S159 lv q L 0 M) := by simp [S159,hokS,l1]
 have hl := loop_at hS0 q1 _ key
 have hlS : (Ss L).length = L.length := encs_len L
 simp only [cx159,Cd.inner,Cd.body,Sl] at hl
 refine ⟨ver',w',?_,?_⟩
 ·rcases q3 with ⟨rfl,hz,hww⟩ | ⟨rfl,hz,hg⟩
  ·rw [if_pos hz,app_fn E rfl hx159 rfl]
   simp only [Sl]
   generalize Ss L = SL at *
   simp [cx159,hl,l1,hlS]
  ·rw [hz,app_fn E rfl hx159 rfl]
   simp only [Sl]
   simp only at hg
   generalize Ss L = SL at *
   simp [cx159,hl,l1,hlS,hg]
 ·intro hz
  rcases q3 with ⟨rfl,hz2,hww⟩ | ⟨rfl,hz2,hg⟩
  ·exact hww
  ·rw [hz] at hz2; cases hz2
end
def hdW (f : Nat → Int) : Int × List Int := putS (putS (putS (putS (putS (putS (0,[]) 2 (f 0)) 3 (f 1)) 3 (f 2)) 4 (f 3)) 4 (f 4)) 2 (f 5)
def tabW (f : Nat → Int) : Int × List Int := slW (hdW f) (slsF f (f 5).toNat)
def tabB (f : Nat → Int) : Option (List Int) := if 0 ≤ f 5 ∧ f 5 ≤ 8 then (if wOk (slsF f (f 5).toNat) = true then (if (tabW f).1 = 0 then some (tabW f).2 else none) else none) else none
def blO : Option (List Int) → PV × Int
 | some b => (Bl false b,0)
 | none => (Bl true [],2)
theorem kb_ne {k n : Int} (h : wfits k n = true) : kb (ksz k).toNat n ≠ [] := by
 intro h0
 have := kb_len (ksz k).toNat n
 rw [h0] at this
 simp only [wfits,Bool.and_eq_true,decide_eq_true_eq] at h
 simp at this
 omega
theorem put_ok {w : Int × List Int} {k n : Int} (h : (putS w k n).1 = 0) : w.1 = 0 ∧ wfits k n = true ∧ (putS w k n).2 = w.2 ++ kb (ksz k).toNat n := by
 simp only [putS,wE,wB] at h ⊢
 by_cases h1 : w.1 = 0
 ·rw [if_pos h1] at h ⊢
  by_cases h2 : wfits k n = true
  ·exact ⟨h1,h2,by rw [if_pos h2]⟩
  ·rw [if_neg h2] at h; simp at h
 ·rw [if_neg h1] at h; exact absurd h h1
theorem slW_ok {w : Int × List Int} {L : List Slot} (h : (slW w L).1 = 0) : w.1 = 0 ∧ (w.2 ≠ [] → (slW w L).2 ≠ []) := by
 induction L generalizing w with
 | nil => exact ⟨h,fun h => h⟩
 | cons x r ih =>
  obtain ⟨h1,h2⟩ := ih (w := putS w 4 (wordA x.i x.s x.n).1) h
  obtain ⟨h3,h4,h5⟩ := put_ok h1
  refine ⟨h3,fun _ => h2 ?_⟩
  rw [h5]
  intro h0
  exact kb_ne h4 (List.append_eq_nil_iff.1 h0).2
theorem tabW_ne {f : Nat → Int} (h : (tabW f).1 = 0) : (tabW f).2 ≠ [] := by
 obtain ⟨h1,h2⟩ := slW_ok h
 obtain ⟨h3,h4,h5⟩ := put_ok h1
 refine h2 ?_
 show (putS _ 2 (f 5)).2 ≠ []
 rw [h5]
 intro h0
 exact kb_ne h4 (List.append_eq_nil_iff.1 h0).2
theorem hdW_len (f : Nat → Int) : (hdW f).2.length ≤ 24 := by
 have h1 := put_len (0,[]) 2 (f 0)
 have h2 := put_len (putS (0,[]) 2 (f 0)) 3 (f 1)
 have h3 := put_len (putS (putS (0,[]) 2 (f 0)) 3 (f 1)) 3 (f 2)
 have h4 := put_len (putS (putS (putS (0,[]) 2 (f 0)) 3 (f 1)) 3 (f 2)) 4 (f 3)
 have h5 := put_len (putS (putS (putS (putS (0,[]) 2 (f 0)) 3 (f 1)) 3 (f 2)) 4 (f 3)) 4 (f 4)
 have h6 := put_len (putS (putS (putS (putS (putS (0,[]) 2 (f 0)) 3 (f 1)) 3 (f 2)) 4 (f 3)) 4 (f 4)) 2 (f 5)
 unfold hdW
 simp only [List.length_nil] at h1
 omega
theorem tabW_len (f : Nat → Int) (h : f 5 ≤ 8) : (tabW f).2.length ≤ 56 := by
 have h1 := slW_len (hdW f) (slsF f (f 5).toNat)
 have h2 := hdW_len f
 rw [slsF_len] at h1
 unfold tabW
 omega
section
variable (f : Nat → Int)
theorem wr1 (q : Nat) (x y : List PV) : wr [[(q,x)]] 0 q y = [[(q,y)]] := by simp [wr]
theorem appy6 : app E false (.fn 124 []) [.agg (CF f 30)] [] = some (.tup [(blO (tabB f)).1,.int .i64 (blO (tabB f)).2],emptyBag,[]) := by
 have k0 := CF_get f 30 (k := 0) (by omega)
 have k1 := CF_get f 30 (k := 1) (by omega)
 have k2 := CF_get f 30 (k := 2) (by omega)
 have k3 := CF_get f 30 (k := 3) (by omega)
 have k4 := CF_get f 30 (k := 4) (by omega)
 have k5 := CF_get f 30 (k := 5) (by omega)
 unfold tabB
 by_cases hb0 : f 5 < 0
 ·rw [if_neg (by omega),app_fn E rfl hy6 rfl]
  simp [cy6,k5,hb0,blO]
 by_cases hb8 : 8 < f 5
 ·rw [if_neg (by omega),app_fn E rfl hy6 rfl]
  simp [cy6,k5,hb0,hb8,blO]
 rw [if_pos (by omega)]
 have step : ∀ (w : Int × List Int) (hw : w.2.length ≤ 1000) (ver : Nat) (k n : Int),∃ ver',app E false (.fn 158 []) [.ptr 0 15 [] 0,.int .i64 k,.int .i64 n] [[(15,[.int .i64 w.1,wrC ver w.2])]] = some (.tup [],emptyBag,[[(15,[.int .i64 (putS w k n).1,wrC ver' (putS w k n).2])]]) := by
  intro w hw ver k n
  obtain ⟨v,h⟩ := appx158 (M := [[(15,[.int .i64 w.1,wrC ver w.2])]]) (lv := 0) (q := 15) (e := w.1) (ver := ver) (b := w.2) hw (by simp) k n
  rw [wr1] at h
  exact ⟨v,h⟩
 have l1 := put_len (0,[]) 2 (f 0)
 have l2 := put_len (putS (0,[]) 2 (f 0)) 3 (f 1)
 have l3 := put_len (putS (putS (0,[]) 2 (f 0)) 3 (f 1)) 3 (f 2)
 have l4 := put_len (putS (putS (putS (0,[]) 2 (f 0)) 3 (f 1)) 3 (f 2)) 4 (f 3)
 have l5 := put_len (putS (putS (putS (putS (0,[]) 2 (f 0)) 3 (f 1)) 3 (f 2)) 4 (f 3)) 4 (f 4)
 simp only [List.length_nil] at l1
 obtain ⟨v1,s1⟩ := step (0,[]) (by simp) 0 2 (f 0)
 obtain ⟨v2,s2⟩ := step (putS (0,[]) 2 (f 0)) (by omega) v1 3 (f 1)
 obtain ⟨v3,s3⟩ := step (putS (putS (0,[]) 2 (f 0)) 3 (f 1)) (by omega) v2 3 (f 2)
 obtain ⟨v4,s4⟩ := step (putS (putS (putS (0,[]) 2 (f 0)) 3 (f 1)) 3 (f 2)) (by omega) v3 4 (f 3)
 obtain ⟨v5,s5⟩ := step (putS (putS (putS (putS (0,[]) 2 (f 0)) 3 (f 1)) 3 (f 2)) 4 (f 3)) (by omega) v4 4 (f 4)
 obtain ⟨v6,s6⟩ := step (putS (putS (putS (putS (putS (0,[]) 2 (f 0)) 3 (f 1)) 3 (f 2)) 4 (f 3)) 4 (f 4)) (by omega) v5 2 (f 5)
 change app E false (.fn 158 []) _ [[(15,[.int .i64 0,.lst none true 1 []])]] = _ at s1
 have hhl := hdW_len f
 have hbl := tabW_len f (by omega)
 have hbw : tabW f = slW (hdW f) (slsF f (f 5).toNat) := rfl
 have hbn : (tabW f).1 = 0 → (tabW f).2 ≠ [] := tabW_ne
 change app E false (.fn 158 []) _ _ = some (_,_,[[(15,[.int .i64 (hdW f).1,wrC v6 (hdW f).2])]]) at s6
 generalize putS (putS (putS (putS (putS (0,[]) 2 (f 0)) 3 (f 1)) 3 (f 2)) 4 (f 3)) 4 (f 4) = W5 at *
 generalize putS (putS (putS (putS (0,[]) 2 (f 0)) 3 (f 1)) 3 (f 2)) 4 (f 3) = W4 at *
 generalize putS (putS (putS (0,[]) 2 (f 0)) 3 (f 1)) 3 (f 2) = W3 at *
 generalize putS (putS (0,[]) 2 (f 0)) 3 (f 1) = W2 at *
 generalize putS (0,[]) 2 (f 0) = W1 at *
 generalize hdW f = W6 at *
 have hsl := slsF_len f (f 5).toNat
 obtain ⟨v7,w',s7,s8⟩ := appx159 (M := [[(15,[.int .i64 W6.1,wrC v6 W6.2])]]) (lv := 0) (q := 15) (w := W6) (slsF f (f 5).toNat) (by omega) (by omega) (ver := v6) (by simp)
 rw [wr1] at s7
 have hch := CF_chunks f (f 5).toNat (by omega)
 have hn : ((f 5).toNat : Int) = f 5 := by omega
 have hmx : max (f 5) 0 = f 5 := by omega
 have hlen2 : (Ss (slsF f (f 5).toNat)).length = (f 5).toNat := by rw [encs_len,hsl]
 have h0 : (0 : Int) ≤ f 5 := by omega
 have h8 : f 5 ≤ 8 := by omega
 by_cases hwk : wOk (slsF f (f 5).toNat) = true
 ·rw [if_pos hwk] at s7 ⊢
  have e7 := s8 hwk
  rw [← hbw] at e7
  subst e7
  have h24 := appx160 (M := [[(15,[.int .i64 (tabW f).1,wrC v7 (tabW f).2])]]) (lv := 0) (q := 15) (e := (tabW f).1) (B := wrC v7 (tabW f).2) (by simp)
  by_cases hz : (tabW f).1 = 0
  ·rw [if_pos hz]
   have h25 := appx161 (M := [[(15,[.int .i64 (tabW f).1,wrC v7 (tabW f).2])]]) (lv := 0) (q := 15) (e := (tabW f).1) (hbn hz) (by omega) (ver := v7) (by simp)
   have hbo := fun a b c => bs_okns (tabW f).2 a b c
   generalize (tabW f).2 = BB at *
   generalize (tabW f).1 = EE at *
   subst hz
   rw [app_fn E rfl hy6 rfl]
   simp only [Sl] at s7
   generalize Ss (slsF f (f 5).toNat) = SL at *
   simp [cy6,k0,k1,k2,k3,k4,k5,hb0,hb8,h0,h8,hn,hmx,s1,s2,s3,s4,s5,s6,s7,h24,h25,hch,blO,hbo]
  ·rw [if_neg hz]
   generalize (tabW f).2 = BB at *
   generalize (tabW f).1 = EE at *
   have hz' : (EE != 0) = true := by simpa using hz
   rw [app_fn E rfl hy6 rfl]
   simp only [Sl] at s7
   generalize Ss (slsF f (f 5).toNat) = SL at *
   simp [cy6,k0,k1,k2,k3,k4,k5,hb0,hb8,h0,h8,hn,hmx,s1,s2,s3,s4,s5,s6,s7,h24,hz',hch,blO]
 ·rw [if_neg hwk] at s7 ⊢
  rw [app_fn E rfl hy6 rfl]
  simp only [Sl] at s7
  generalize Ss (slsF f (f 5).toNat) = SL at *
  simp [cy6,k0,k1,k2,k3,k4,k5,hb0,hb8,h0,h8,hn,hmx,s1,s2,s3,s4,s5,s6,s7,hch,blO]
end
end Go.Proofs.Ytmffcpiffkclgaa.ZJM.DC
