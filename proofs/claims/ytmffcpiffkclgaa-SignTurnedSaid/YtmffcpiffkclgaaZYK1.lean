/- Kinds of numbers: sizes, bounds; which specs may be. -/
import Derived.Test.YtmffcpiffkclgaaZY1
set_option linter.unusedSimpArgs false
set_option linter.unusedVariables false
set_option maxRecDepth 4000
namespace Go.Proofs.Ytmffcpiffkclgaa.ZJM.DC
open Go.Proofs.Ytmffcpiffkclgaa.ZJM Go.RowKit
theorem wrap_id (n : Int) (h1 : -9223372036854775808 ≤ n) (h2 : n < 9223372036854775808) : IntKind.i64.wrap n = n := by
 unfold IntKind.wrap; simp [IntKind.bits,IntKind.signed]; omega
theorem bits64 : IntKind.i64.bits = 64 := rfl
def ksz (k : Int) : Int := if k = 1 ∨ k = 2 ∨ k = 5 then 1 else if k = 3 ∨ k = 6 then 2 else if k = 4 ∨ k = 7 then 4 else 0
def ksg (k : Int) : Bool := decide (k = 5 ∨ k = 6 ∨ k = 7)
def klo (k : Int) : Int := if k = 5 then -128 else if k = 6 then -32768 else if k = 7 then -2147483648 else 0
def khi (k : Int) : Int := if k = 1 then 1 else if k = 2 then 255 else if k = 3 then 65535 else if k = 4 then 4294967295 else if k = 5 then 127 else if k = 6 then 32767 else if k = 7 then 2147483647 else 0
def NoKind (k : Int) : Prop := (k == 1) = false ∧ (k == 2) = false ∧ (k == 3) = false ∧ (k == 4) = false ∧ (k == 5) = false ∧ (k == 6) = false ∧ (k == 7) = false ∧ ksz k = 0 ∧ ksg k = false ∧ klo k = 0 ∧ khi k = 0
theorem kinds (k : Int) : k = 1 ∨ k = 2 ∨ k = 3 ∨ k = 4 ∨ k = 5 ∨ k = 6 ∨ k = 7 ∨ NoKind k := by
 by_cases h1 : k = 1; · simp [h1]
 by_cases h2 : k = 2; · simp [h2]
 by_cases h3 : k = 3; · simp [h3]
 by_cases h4 : k = 4; · simp [h4]
 by_cases h5 : k = 5; · simp [h5]
 by_cases h6 : k = 6; · simp [h6]
 by_cases h7 : k = 7; · simp [h7]
 refine .inr (.inr (.inr (.inr (.inr (.inr (.inr ?_))))))
 simp [NoKind,ksz,ksg,klo,khi,h1,h2,h3,h4,h5,h6,h7]
def wfits (k n : Int) : Bool := decide (0 < ksz k) && decide (klo k ≤ n) && decide (n ≤ khi k)
theorem app100 (k : Int) : app E false (.fn 93 []) [.int .i64 k] [] = some (.int .i64 (ksz k),emptyBag,[]) := by
 rw [app_fn E rfl h100 rfl]
 rcases kinds k with rfl | rfl | rfl | rfl | rfl | rfl | rfl | ⟨h1,h2,h3,h4,h5,h6,h7,e1,e2,e3,e4⟩
 all_goals first | (simp [c100,ksz]; done) | simp [c100,h1,h2,h3,h4,h5,h6,h7,e1]
theorem app121 (k : Int) : app E false (.fn 169 []) [.int .i64 k] [] = some (.bool (ksg k),emptyBag,[]) := by
 rw [app_fn E rfl h121 rfl]
 rcases kinds k with rfl | rfl | rfl | rfl | rfl | rfl | rfl | ⟨h1,h2,h3,h4,h5,h6,h7,e1,e2,e3,e4⟩
 all_goals first | (simp [c121,ksg]; done) | simp [c121,h1,h2,h3,h4,h5,h6,h7,e2]
theorem app108 (k : Int) : app E false (.fn 156 []) [.int .i64 k] [] = some (.int .i64 (khi k),emptyBag,[]) := by
 rw [app_fn E rfl h108 rfl]
 rcases kinds k with rfl | rfl | rfl | rfl | rfl | rfl | rfl | ⟨h1,h2,h3,h4,h5,h6,h7,e1,e2,e3,e4⟩
 all_goals first | (simp [c108,app100,app121,khi,ksz,ksg,wrap_id,bits64]; done) | (simp [c108,app100,app121,h1,h2,h3,h4,h5,h6,h7,e1,e2,e4,wrap_id,bits64]; done)
theorem app109 (k : Int) : app E false (.fn 155 []) [.int .i64 k] [] = some (.int .i64 (klo k),emptyBag,[]) := by
 rw [app_fn E rfl h109 rfl]
 rcases kinds k with rfl | rfl | rfl | rfl | rfl | rfl | rfl | ⟨h1,h2,h3,h4,h5,h6,h7,e1,e2,e3,e4⟩
 all_goals first | (simp [c109,app100,app121,klo,ksz,ksg,wrap_id,bits64]; done) | simp [c109,app100,app121,h1,h2,h3,h4,h5,h6,h7,e1,e2,e3]
theorem app69 (k n : Int) : app E false (.fn 145 []) [.int .i64 k,.int .i64 n] [] = some (.bool (wfits k n),emptyBag,[]) := by
 rw [app_fn E rfl h69 rfl]
 by_cases a : 0 < ksz k
 ·by_cases b : klo k ≤ n
  ·simp [c69,app100,app108,app109,wfits,a,b]
  ·simp [c69,app100,app108,app109,wfits,a,b]
 ·simp [c69,app100,app108,app109,wfits,a]
theorem app98 (k a l h : Int) : app E false (.fn 148 []) [.agg [.int .i64 k,.int .i64 a,.int .i64 l,.int .i64 h]] [] = some (.bool (decide (0 < ksz k)),emptyBag,[]) := by
 rw [app_fn E rfl h98 rfl]
 simp [c98,app100]
def lenA (n lo hi : Int) : Int := if n < lo then 101122067 else if n > hi then 101122066 else 0
theorem app99 (n l h : Int) : app E false (.fn 149 []) [.int .i64 n,.int .i64 l,.int .i64 h] [] = some (.int .i64 (lenA n l h),emptyBag,[]) := by
 rw [app_fn E rfl h99 rfl]
 by_cases a : n < l
 ·simp [c99,lenA,a]
 ·by_cases b : n > h
  ·have b' : h < n := b
   simp [c99,lenA,a,b']
  ·have b' : ¬ h < n := b
   simp [c99,lenA,a,b']
def mayA (k a l h : Int) : Bool := decide (1 ≤ a) && decide (a ≤ 4) && decide (l ≤ h) && (if 0 < ksz k then decide (klo k ≤ l) && decide (h ≤ khi k) else k == 8 && decide (0 ≤ l) && decide (h ≤ 64))
theorem app56 (k a l h : Int) : app E false (.fn 108 []) [.agg [.int .i64 k,.int .i64 a,.int .i64 l,.int .i64 h]] [] = some (.bool (mayA k a l h),emptyBag,[]) := by
 rw [app_fn E rfl h56 rfl]
 by_cases a1 : a < 1
 ·have : ¬ 1 ≤ a := by omega
  simp [c56,mayA,a1,this]
 have a1' : 1 ≤ a := by omega
 by_cases a2 : 4 < a
 ·have : ¬ a ≤ 4 := by omega
  simp [c56,mayA,a1,a2,this]
 have a2' : a ≤ 4 := by omega
 by_cases a3 : h < l
 ·have : ¬ l ≤ h := by omega
  simp [c56,mayA,a1,a2,a3,this]
 have a3' : l ≤ h := by omega
 by_cases a4 : 0 < ksz k
 ·by_cases b1 : klo k ≤ l
  ·by_cases b2 : h ≤ khi k
   ·have b3 : l ≤ khi k := by omega
    have b4 : klo k ≤ h := by omega
    simp [c56,mayA,a1,a2,a3,a1',a2',a3',app98,app69,a4,wfits,b1,b2,b3,b4]
   ·by_cases b3 : l ≤ khi k
    ·have b4 : klo k ≤ h := by omega
     simp [c56,mayA,a1,a2,a3,a1',a2',a3',app98,app69,a4,wfits,b1,b2,b3,b4]
    ·simp [c56,mayA,a1,a2,a3,a1',a2',a3',app98,app69,a4,wfits,b1,b2,b3]
  ·simp [c56,mayA,a1,a2,a3,a1',a2',a3',app98,app69,a4,wfits,b1]
 ·by_cases b1 : k = 8
  ·subst b1
   by_cases b2 : 0 ≤ l
   ·simp [c56,mayA,a1,a2,a3,a1',a2',a3',app98,a4,b2]
   ·simp [c56,mayA,a1,a2,a3,a1',a2',a3',app98,a4,b2]
  ·have b1' : (k == 8) = false := by simpa using b1
   simp [c56,mayA,a1,a2,a3,a1',a2',a3',app98,a4,b1']
theorem app74 (k : Int) : app E false (.fn 94 []) [.int .i64 k] [] = some (.tup [.int .i64 (ksz k),.int .i64 (klo k),.int .i64 (khi k)],emptyBag,[]) := by
 rw [app_fn E rfl h74 rfl]
 rcases kinds k with rfl | rfl | rfl | rfl | rfl | rfl | rfl | ⟨h1,h2,h3,h4,h5,h6,h7,e1,e2,e3,e4⟩
 all_goals first | (simp [c74,ksz,klo,khi]; done) | simp [c74,h1,h2,h3,h4,h5,h6,h7,e1,e3,e4]
theorem app53 (k a l h : Int) : app E false (.fn 116 []) [.agg [.int .i64 k,.int .i64 a,.int .i64 l,.int .i64 h]] [] = some (.bool (mayA k a l h),emptyBag,[]) := by
 rw [app_fn E rfl h53 rfl]
 by_cases b1 : k = 8
 ·subst b1
  have e1 : ¬ 0 < ksz 8 := by decide
  by_cases a1 : 1 ≤ a <;> by_cases a2 : a ≤ 4 <;> by_cases a3 : l ≤ h <;> by_cases a4 : 0 ≤ l <;> simp [c53,mayA,app74,a1,a2,a3,a4,e1]
 ·have b1' : (k == 8) = false := by simpa using b1
  by_cases e1 : 0 < ksz k
  ·by_cases a1 : 1 ≤ a <;> by_cases a2 : a ≤ 4 <;> by_cases a3 : l ≤ h <;> by_cases a4 : klo k ≤ l <;> simp [c53,mayA,app74,a1,a2,a3,a4,e1,b1']
  ·simp [c53,mayA,app74,e1,b1']
end Go.Proofs.Ytmffcpiffkclgaa.ZJM.DC
set_option linter.unusedSimpArgs false
set_option linter.unusedVariables false
set_option maxRecDepth 4000
namespace Go.Proofs.Ytmffcpiffkclgaa.ZJM.DC
open Go.Proofs.Ytmffcpiffkclgaa.ZJM Go.RowKit
abbrev Bs (l : List Int) : List PV := encs (PV.int .u8) l
abbrev Bl (nl : Bool) (l : List Int) : PV := .lst none nl 1 (Bs l)
def OkB (l : List Int) : Prop := ∀ x ∈ l,0 ≤ x ∧ x < 256
theorem bs_data (l : List Int) : PV.datas (Bs l) = true := encs_data fun x _ => rfl
theorem bs_okns (l : List Int) (a b c) : PV.okns a b c (Bs l) = true := PV.datas_okns _ _ _ _ (bs_data l)
theorem bs_deps (l : List Int) (a) : PV.deps a (Bs l) = true := PV.datas_deps _ _ (bs_data l)
theorem bs_names (l : List Int) (a) : PV.namess a (Bs l) = [] := PV.datas_namess _ _ (bs_data l)
theorem bs_rens (l : List Int) (a b ρ) : PV.rens a b ρ (Bs l) = Bs l := PV.datas_rens _ _ _ _ (bs_data l)
theorem bs_getE (l : List Int) (i : Nat) (h : i < (Bs l).length) : (Bs l)[i] = PV.int .u8 (l[i]'(by simpa [encs] using h)) := encs_getE l i h
theorem bs_len (l : List Int) : (Bs l).length = l.length := encs_len l
attribute [simp] Nat.testBit bs_okns bs_deps bs_names bs_rens okns_append deps_append namess_append rens_append turnSt reach dedup idxOf turnName PV.names PV.namess PV.ren PV.rens
def pw (n : Nat) : Int := 256 ^ n
theorem pw_succ (n : Nat) : pw (n + 1) = pw n * 256 := by simp only [pw,Int.pow_succ]
theorem pw_pos (n : Nat) : 0 < pw n := by
 induction n with
 | zero => simp [pw]
 | succ n ih => rw [pw_succ]; omega
def bnum : List Int → Int
 | [] => 0
 | x :: r => x + 256 * bnum r
theorem bnum_bound {l : List Int} (h : OkB l) : 0 ≤ bnum l ∧ bnum l < pw l.length := by
 induction l with
 | nil => simp [bnum,pw]
 | cons x r ih =>
  have h1 := h x (by simp)
  have h2 := ih fun y hy => h y (by simp [hy])
  simp only [bnum,List.length_cons,pw_succ]
  omega
theorem bnum_append (l r : List Int) : bnum (l ++ r) = bnum l + bnum r * pw l.length := by
 induction l with
 | nil => simp [bnum,pw]
 | cons x l ih =>
  simp only [List.cons_append,bnum,ih,List.length_cons,pw_succ]
  rw [Int.mul_add,Int.add_assoc,← Int.mul_assoc,Int.mul_comm 256 (bnum r),Int.mul_assoc,Int.mul_comm 256 (pw _)]
theorem or_add (a x : Int) (i : Nat) (hi : i < 4) (ha : 0 ≤ a ∧ a < pw i) (hx : 0 ≤ x ∧ x < 256) : intBits .or .i64 a (x * pw i) = a + x * pw i := by
 obtain ⟨n,rfl⟩ : ∃ n : Nat,a = n := ⟨a.toNat,by omega⟩
 obtain ⟨m,rfl⟩ : ∃ m : Nat,x = m := ⟨x.toNat,by omega⟩
 have key : ∀ (p : Nat) (hp : p ≤ 24),n < 2 ^ p → m < 256 → intBits .or .i64 (n : Int) ((2 ^ p * m : Nat) : Int) = (n : Int) + ((2 ^ p * m : Nat) : Int) := by
  intro p hp hn hm
  have h1 : 2 ^ p ≤ 2 ^ 24 := Nat.pow_le_pow_right (by decide) hp
  have h3 : 2 ^ p * m ≤ 2 ^ 24 * 255 := Nat.mul_le_mul h1 (by omega)
  have hb : 2 ^ p * m < 18446744073709551616 := by omega
  have hn' : n < 18446744073709551616 := by omega
  show IntKind.i64.wrap ((BitVec.ofInt 64 (n : Int) ||| BitVec.ofInt 64 ((2 ^ p * m : Nat) : Int)).toNat : Int) = _
  rw [BitVec.ofInt_natCast,BitVec.ofInt_natCast,BitVec.toNat_or,BitVec.toNat_ofNat,BitVec.toNat_ofNat]
  rw [Nat.mod_eq_of_lt (by simpa using hn'),Nat.mod_eq_of_lt (by simpa using hb),Nat.or_comm,← Nat.two_pow_add_eq_or_of_lt hn,wrap_id _ (by omega) (by omega)]
  omega
 have e : ((m : Int) * pw i) = ((2 ^ (8 * i) * m : Nat) : Int) := by
  have : ((2 ^ (8 * i) : Nat) : Int) = pw i := by rw [Nat.pow_mul]; simp [pw]
  rw [Int.natCast_mul,this,Int.mul_comm]
 rw [e]
 refine key (8 * i) (by omega) ?_ (by omega)
 have : ((2 ^ (8 * i) : Nat) : Int) = pw i := by rw [Nat.pow_mul]; simp [pw]
 omega
theorem shl1 (i : Nat) (hi : i ≤ 4) : IntKind.i64.wrap (1 * 2 ^ (min (IntKind.i64.wrap (8 * (i : Int))).toNat 64)) = pw i := by
 rcases (by omega : i = 0 ∨ i = 1 ∨ i = 2 ∨ i = 3 ∨ i = 4) with rfl | rfl | rfl | rfl | rfl <;> simp [wrap_id,pw]
theorem okB_take {l : List Int} (h : OkB l) (n : Nat) : OkB (l.take n) := fun x hx => h x (List.mem_of_mem_take hx)
theorem okB_drop {l : List Int} (h : OkB l) (n : Nat) : OkB (l.drop n) := fun x hx => h x (List.mem_of_mem_drop hx)
theorem shl8 (i : Nat) (hi : i < 4) (x : Int) (hx : 0 ≤ x ∧ x < 256) : IntKind.i64.wrap (x * 2 ^ (min (IntKind.i64.wrap (8 * (i : Int))).toNat 64)) = x * pw i := by
 rcases (by omega : i = 0 ∨ i = 1 ∨ i = 2 ∨ i = 3) with rfl | rfl | rfl | rfl <;> simp [wrap_id,pw] <;> rw [wrap_id] <;> omega
def getA (k : Int) (b : List Int) : Int × Int :=
 if ksz k = 0 then (0,2) else if (b.length : Int) = ksz k then
  (if wfits k (if khi k < bnum b then bnum b - pw b.length else bnum b) = true then ((if khi k < bnum b then bnum b - pw b.length else bnum b),0) else (0,4))
 else (0,11)
theorem ksz_le (k : Int) : 0 ≤ ksz k ∧ ksz k ≤ 4 := by
 rcases kinds k with rfl | rfl | rfl | rfl | rfl | rfl | rfl | ⟨h1,h2,h3,h4,h5,h6,h7,e1,e2,e3,e4⟩
 all_goals first | (simp [ksz]; done) | simp [e1]
def S101 (k : Int) (nl : Bool) (b : List Int) (i : Nat) : St :=
 ⟨[(0,.int .i64 k),(1,Bl nl b),(7,.int .i64 (bnum (b.take i))),(20,Bl nl b),(21,.int .i64 b.length),(22,.int .i64 i)],[],[],[],[]⟩
theorem loop101 (k : Int) (nl : Bool) (b : List Int) (hb : OkB b) (hl : b.length ≤ 4) {st : St} (h0 : maskSt [0,1,7,20,21,22] [] [] [] st = some (S101 k nl b 0)) :
  loopW (maskSt [0,1,7,20,21,22] [] [] []) (Cd.run (app E) c101.body.inner.body) st = c101.body.inner.body.run (app E) (S101 k nl b b.length) := by
 refine loop_eq (S101 k nl b) b.length (fun i hi => ?_) ?_ h0
 ·have hi' : (i : Int) < b.length := by omega
  have hw := wrap_succ i (by omega)
  have hx := hb _ (List.getElem_mem hi)
  have hx1 : IntKind.i64.wrap b[i] = b[i] := wrap_id _ (by omega) (by omega)
  have h1 := bnum_bound (okB_take hb i)
  rw [List.length_take,Nat.min_eq_left (by omega)] at h1
  have h2 := or_add (bnum (b.take i)) b[i] i (by omega) h1 hx
  have h3 := shl8 i (by omega) b[i] hx
  have h4 : ¬ IntKind.i64.wrap (8 * (i : Int)) < 0 := by rw [wrap_id] <;> omega
  have h5 : bnum (b.take (i + 1)) = bnum (b.take i) + b[i] * pw i := by
   rw [take_succ' b i hi,bnum_append,List.length_take,Nat.min_eq_left (by omega)]; simp [bnum]
  unfold S101
  rw [h5,← h2]
  simp [c101,Cd.inner,Cd.body,hi',hi,bs_getE,hw,hx1,h3,h4,bits64,bs_okns]
 ·simp [c101,Cd.inner,Cd.body,S101]
theorem app101 (k : Int) (nl : Bool) (b : List Int) (hb : OkB b) : app E false (.fn 150 []) [.int .i64 k,Bl nl b] [] = some (.tup [.int .i64 (getA k b).1,.int .i64 (getA k b).2],emptyBag,[]) := by
 rw [app_fn E rfl h101 rfl]
 by_cases a : ksz k = 0
 ·have a' : (ksz k == 0) = true := by simpa using a
  simp [c101,app100,getA,a]
 have a' : (ksz k == 0) = false := by simpa using a
 by_cases hl : (b.length : Int) = ksz k
 ·have hkz := ksz_le k
  have h := @loop101 k nl b hb (by omega)
  simp only [c101,Cd.inner,Cd.body,S101,List.take_length] at h
  have hl' : ((b.length : Int) != ksz k) = false := by simpa using hl
  have hq := (bnum_bound hb)
  have hp := shl1 b.length (by omega)
  rw [Int.one_mul] at hp
  have hp2 : ¬ IntKind.i64.wrap (8 * (b.length : Int)) < 0 := by rw [wrap_id] <;> omega
  have hpw : pw b.length ≤ 4294967296 := by
   rcases (by omega : b.length = 0 ∨ b.length = 1 ∨ b.length = 2 ∨ b.length = 3 ∨ b.length = 4) with e | e | e | e | e <;> rw [e] <;> simp [pw]
  have hsub : IntKind.i64.wrap (bnum b - pw b.length) = bnum b - pw b.length := wrap_id _ (by omega) (by omega)
  simp [c101,app100,a',hl']
  rw [hl] at hp hp2
  rw [h (by simp [bs_okns,bnum])]
  by_cases hs : ksg k = true
  ·by_cases hn : khi k < bnum b
   ·cases hf : wfits k (bnum b - pw b.length) <;> simp [app121,app108,app69,hs,hn,hp,hp2,hsub,hf,getA,a,hl,bits64]
   ·cases hf : wfits k (bnum b) <;> simp [app121,app108,app69,hs,hn,hf,getA,a,hl]
  ·have hs' : ksg k = false := by simpa using hs
   by_cases hn : khi k < bnum b
   ·have f1 : wfits k (bnum b) = false := by simp [wfits]; omega
    have f2 : wfits k (bnum b - pw b.length) = false := by
     have : klo k = 0 := by
      rcases kinds k with rfl | rfl | rfl | rfl | rfl | rfl | rfl | ⟨h1,h2,h3,h4,h5,h6,h7,e1,e2,e3,e4⟩
      all_goals first | (simp [klo]; done) | (simp [ksg] at hs'; done) | exact e3
     simp [wfits]; omega
    simp [app121,app108,app69,hs',hn,f1,f2,getA,a,hl]
   ·cases hf : wfits k (bnum b) <;> simp [app121,app108,app69,hs',hn,hf,getA,a,hl]
 ·have hl' : ((b.length : Int) != ksz k) = true := by simpa using hl
  simp [c101,app100,a',hl',getA,a,hl]
end Go.Proofs.Ytmffcpiffkclgaa.ZJM.DC
set_option linter.unusedSimpArgs false
set_option linter.unusedVariables false
set_option maxRecDepth 4000
namespace Go.Proofs.Ytmffcpiffkclgaa.ZJM.DC
open Go.Proofs.Ytmffcpiffkclgaa.ZJM Go.RowKit
abbrev sp (k a l h : Int) : PV := .agg [.int .i64 k,.int .i64 a,.int .i64 l,.int .i64 h]
def fitsA (k a l h : Int) (b : List Int) : Int :=
 if mayA k a l h = true then (if 0 < ksz k then (if lenA b.length (ksz k) (ksz k) = 0 then (if (getA k b).2 = 0 then (if h < (getA k b).1 then 101253169 else if (getA k b).1 < l then 101253170 else 0) else 101253168) else lenA b.length (ksz k) (ksz k))
  else lenA b.length l h) else 134217728
theorem app112 (n : Nat) (hn : n ≤ 4) : app E false (.fn 167 []) [.int .i64 n] [] = some (.int .i64 (pw n),emptyBag,[]) := by
 rw [app_fn E rfl h112 rfl]
 have h : ∀ st,maskSt [0,3,4] [] [] [] st = some ⟨[(0,.int .i64 n),(3,.int .i64 (pw 0)),(4,.int .i64 (0 : Nat))],[],[],[],[]⟩ →
   loopW (maskSt [0,3,4] [] [] []) (Cd.run (app E) c112.body.inner.body) st = c112.body.inner.body.run (app E) ⟨[(0,.int .i64 n),(3,.int .i64 (pw n)),(4,.int .i64 n)],[],[],[],[]⟩ := fun st h0 => by
  refine loop_eq (fun i => ⟨[(0,.int .i64 n),(3,.int .i64 (pw i)),(4,.int .i64 (i : Nat))],[],[],[],[]⟩) n (fun i hi => ?_) ?_ h0
  ·have hi' : (i : Int) < n := by omega
   have hw := wrap_succ i (by omega)
   have h1 : IntKind.i64.wrap (pw i * 256) = pw (i + 1) := by
    rw [pw_succ]
    rcases (by omega : i = 0 ∨ i = 1 ∨ i = 2 ∨ i = 3) with e | e | e | e <;> rw [e] <;> simp [pw,wrap_id]
   simp [c112,Cd.inner,Cd.body,hi',hw,h1]
  ·simp [c112,Cd.inner,Cd.body]
 simp only [c112,Cd.inner,Cd.body] at h
 simp [c112]
 rw [h _ (by simp [pw])]
 simp
theorem fits_get {k a l h : Int} {b : List Int} (hz : 0 < ksz k) (hf : fitsA k a l h b = 0) : (getA k b).2 = 0 ∧ mayA k a l h = true ∧ (b.length : Int) = ksz k ∧ l ≤ (getA k b).1 ∧ (getA k b).1 ≤ h := by
 by_cases h1 : mayA k a l h = true
 ·rw [fitsA,if_pos h1,if_pos hz] at hf
  by_cases h2 : lenA b.length (ksz k) (ksz k) = 0
  ·rw [if_pos h2] at hf
   by_cases h3 : (getA k b).2 = 0
   ·rw [if_pos h3] at hf
    refine ⟨h3,h1,?_,?_⟩
    ·unfold lenA at h2
     by_cases d1 : (b.length : Int) < ksz k
     ·rw [if_pos d1] at h2; simp at h2
     ·rw [if_neg d1] at h2
      by_cases d2 : (b.length : Int) > ksz k
      ·rw [if_pos d2] at h2; simp at h2
      ·omega
    ·by_cases d1 : h < (getA k b).1
     ·rw [if_pos d1] at hf; simp at hf
     ·rw [if_neg d1] at hf
      by_cases d2 : (getA k b).1 < l
      ·rw [if_pos d2] at hf; simp at hf
      ·omega
   ·rw [if_neg h3] at hf; simp at hf
  ·rw [if_neg h2] at hf; exact absurd hf h2
 ·rw [fitsA,if_neg h1] at hf; simp at hf
section
variable (k a l h : Int) (nl : Bool) (b : List Int) (hb : OkB b)
include hb
theorem app57 : app E false (.fn 109 []) [sp k a l h,Bl nl b] [] = some (.int .i64 (fitsA k a l h b),emptyBag,[]) := by
 rw [app_fn E rfl h57 rfl]
 by_cases c1 : mayA k a l h = true
 ·by_cases c2 : 0 < ksz k
  ·by_cases c3 : lenA b.length (ksz k) (ksz k) = 0
   ·by_cases c4 : (getA k b).2 = 0
    ·by_cases c5 : h < (getA k b).1
     ·simp [c57,app56,app98,app99,app100,app101 k nl b hb,bs_deps,c1,c2,c3,c4,c5,fitsA]
     ·by_cases c6 : (getA k b).1 < l
      ·simp [c57,app56,app98,app99,app100,app101 k nl b hb,bs_deps,c1,c2,c3,c4,c5,c6,fitsA]
      ·simp [c57,app56,app98,app99,app100,app101 k nl b hb,bs_deps,c1,c2,c3,c4,c5,c6,fitsA]
    ·have c4' : ((getA k b).2 != 0) = true := by simpa using c4
     simp [c57,app56,app98,app99,app100,app101 k nl b hb,bs_deps,c1,c2,c3,c4,c4',fitsA]
   ·have c3' : (lenA b.length (ksz k) (ksz k) != 0) = true := by simpa using c3
    simp [c57,app56,app98,app99,app100,bs_deps,c1,c2,c3,c3',fitsA]
  ·simp [c57,app56,app98,app99,app100,bs_deps,c1,c2,fitsA]
 ·simp [c57,app56,bs_deps,c1,fitsA]
def S75 (k : Int) (nl : Bool) (b : List Int) (j : Nat) : St :=
 ⟨[(1,Bl nl b),(6,.int .i64 (ksz k)),(7,.int .i64 (klo k)),(8,.int .i64 (khi k)),(9,.int .i64 (bnum (b.drop (b.length - j)))),(10,.int .i64 ((b.length : Int) - 1 - j))],[],[],[],[]⟩
theorem loop75 (hl : b.length ≤ 4) {st : St} (h0 : maskSt [1,6,7,8,9,10] [] [] [] st = some (S75 k nl b 0)) :
  loopW (maskSt [1,6,7,8,9,10] [] [] []) (Cd.run (app E) c75.body.inner.body) st = c75.body.inner.body.run (app E) (S75 k nl b b.length) := by
 refine loop_eq (S75 k nl b) b.length (fun j hj => ?_) ?_ h0
 ·obtain ⟨i,hi⟩ : ∃ i,i = b.length - 1 - j := ⟨_,rfl⟩
  have hil : i < b.length := by omega
  have e0 : (b.length : Int) - 1 - j = i := by omega
  have e1 : (b.length : Int) - 1 - ((j + 1 : Nat) : Int) = i - 1 := by omega
  have hx := hb _ (List.getElem_mem hil)
  have h1 := bnum_bound (okB_drop hb (i + 1))
  have h2 : pw (b.drop (i + 1)).length ≤ 16777216 := by
   rw [List.length_drop]
   rcases (by omega : b.length - (i + 1) = 0 ∨ b.length - (i + 1) = 1 ∨ b.length - (i + 1) = 2 ∨ b.length - (i + 1) = 3) with e | e | e | e <;> rw [e] <;> simp [pw]
  have hd : b.drop i = b[i] :: b.drop (i + 1) := List.drop_eq_getElem_cons hil
  have h3 : bnum (b.drop i) = b[i] + 256 * bnum (b.drop (i + 1)) := by rw [hd]; rfl
  have w0 : IntKind.i64.wrap b[i] = b[i] := wrap_id _ (by omega) (by omega)
  have w1 : IntKind.i64.wrap (bnum (b.drop (i + 1)) * 256) = bnum (b.drop (i + 1)) * 256 := wrap_id _ (by omega) (by omega)
  have w2 : IntKind.i64.wrap (bnum (b.drop (i + 1)) * 256 + b[i]) = bnum (b.drop i) := by rw [h3,wrap_id _ (by omega) (by omega)]; omega
  have w3 : IntKind.i64.wrap ((i : Int) - 1) = i - 1 := wrap_id _ (by omega) (by omega)
  unfold S75
  rw [e0,e1,show b.length - j = i + 1 by omega,show b.length - (j + 1) = i by omega]
  simp [c75,Cd.inner,Cd.body,hil,bs_getE,w0,w1,w2,w3,bs_okns]
 ·have e0 : ¬ ((b.length : Int) ≤ (b.length : Int) - 1) := by omega
  simp [c75,Cd.inner,Cd.body,S75,e0]
theorem app75 : app E false (.fn 132 []) [.int .i64 k,Bl nl b] [] = some (.tup [.int .i64 (getA k b).1,.int .i64 (getA k b).2],emptyBag,[]) := by
 rw [app_fn E rfl h75 rfl]
 by_cases a : ksz k = 0
 ·simp [c75,app74,getA,a]
 have a' : (ksz k == 0) = false := by simpa using a
 by_cases hl : (b.length : Int) = ksz k
 ·have hkz := ksz_le k
  have hl' : ((b.length : Int) != ksz k) = false := by simpa using hl
  have hq := (bnum_bound hb)
  have hpw : pw b.length ≤ 4294967296 := by
   rcases (by omega : b.length = 0 ∨ b.length = 1 ∨ b.length = 2 ∨ b.length = 3 ∨ b.length = 4) with e | e | e | e | e <;> rw [e] <;> simp [pw]
  have hsub : IntKind.i64.wrap (bnum b - pw b.length) = bnum b - pw b.length := wrap_id _ (by omega) (by omega)
  have hs1 : IntKind.i64.wrap (ksz k - 1) = (b.length : Int) - 1 := by rw [wrap_id] <;> omega
  have h112 := app112 b.length (by omega)
  rw [hl] at h112
  have h := @loop75 k nl b hb (by omega)
  simp only [c75,Cd.inner,Cd.body,S75,Nat.sub_self,List.drop_zero] at h
  have hz : 0 < ksz k := by omega
  simp [c75,app74,a',hl',hs1]
  rw [h (by simp [bs_okns,bnum,hl])]
  have hzz : ¬ ksz k ≤ ksz k - 1 := by omega
  by_cases hn : khi k < bnum b
  ·by_cases f1 : bnum b - pw b.length < klo k
   ·have f1' : ¬ klo k ≤ bnum b - pw b.length := by omega
    have f : wfits k (bnum b - pw b.length) = false := by simp [wfits,f1']
    simp [hzz,hn,h112,hsub,f,f1,getA,a,hl]
   ·have f1' : klo k ≤ bnum b - pw b.length := by omega
    by_cases f2 : khi k < bnum b - pw b.length
    ·have f2' : ¬ bnum b - pw b.length ≤ khi k := by omega
     have f : wfits k (bnum b - pw b.length) = false := by simp [wfits,f2']
     simp [hzz,hn,h112,hsub,f,f1,f2,getA,a,hl]
    ·have f2' : bnum b - pw b.length ≤ khi k := by omega
     have f : wfits k (bnum b - pw b.length) = true := by simp [wfits,f1',f2',hz]
     simp [hzz,hn,h112,hsub,f,f1,f2,getA,a,hl]
  ·by_cases f1 : bnum b < klo k
   ·have f1' : ¬ klo k ≤ bnum b := by omega
    have f : wfits k (bnum b) = false := by simp [wfits,f1']
    simp [hzz,hn,f,f1,getA,a,hl]
   ·have f1' : klo k ≤ bnum b := by omega
    have f2' : bnum b ≤ khi k := by omega
    have f : wfits k (bnum b) = true := by simp [wfits,f1',f2',hz]
    simp [hzz,hn,f,f1,getA,a,hl]
 ·have hl' : ((b.length : Int) != ksz k) = true := by simpa using hl
  simp [c75,app74,a',hl',getA,a,hl]
theorem app27 : app E false (.fn 66 []) [sp k a l h,Bl nl b] [] = some (.int .i64 (fitsA k a l h b),emptyBag,[]) := by
 rw [app_fn E rfl h27 rfl]
 by_cases c1 : mayA k a l h = true
 ·by_cases c8 : k = 8
  ·subst c8
   have z : ¬ 0 < ksz 8 := by decide
   by_cases d1 : (b.length : Int) < l
   ·simp [c27,app53,app74,bs_deps,c1,fitsA,z,d1,lenA]
   ·by_cases d2 : h < (b.length : Int)
    ·simp [c27,app53,app74,bs_deps,c1,fitsA,z,d1,d2,lenA]
    ·simp [c27,app53,app74,bs_deps,c1,fitsA,z,d1,d2,lenA]
  ·have c8' : (k == 8) = false := by simpa using c8
   have c2 : 0 < ksz k := by
    by_cases c2 : 0 < ksz k
    ·exact c2
    ·simp [mayA,c2,c8] at c1
   by_cases d1 : (b.length : Int) < ksz k
   ·simp [c27,app53,app74,bs_deps,c1,fitsA,c2,c8',d1,lenA]
   ·by_cases d2 : ksz k < (b.length : Int)
    ·simp [c27,app53,app74,bs_deps,c1,fitsA,c2,c8',d1,d2,lenA]
    ·by_cases c4 : (getA k b).2 = 0
     ·by_cases c5 : h < (getA k b).1
      ·simp [c27,app53,app74,app75 k nl b hb,bs_deps,c1,c2,c4,c5,c8',d1,d2,fitsA,lenA]
      ·by_cases c6 : (getA k b).1 < l
       ·simp [c27,app53,app74,app75 k nl b hb,bs_deps,c1,c2,c4,c5,c6,c8',d1,d2,fitsA,lenA]
       ·simp [c27,app53,app74,app75 k nl b hb,bs_deps,c1,c2,c4,c5,c6,c8',d1,d2,fitsA,lenA]
     ·have c4' : ((getA k b).2 != 0) = true := by simpa using c4
      simp [c27,app53,app74,app75 k nl b hb,bs_deps,c1,c2,c4,c4',c8',d1,d2,fitsA,lenA]
 ·simp [c27,app53,bs_deps,c1,fitsA]
def numA (k a l h : Int) (b : List Int) : Int × Bool := if 0 < ksz k ∧ fitsA k a l h b = 0 then ((getA k b).1,true) else (0,false)
theorem app79 : app E false (.fn 138 []) [sp k a l h,Bl nl b] [] = some (.tup [.int .i64 (numA k a l h b).1,.bool (numA k a l h b).2],emptyBag,[]) := by
 rw [app_fn E rfl h79 rfl]
 by_cases c1 : 0 < ksz k
 ·by_cases c2 : fitsA k a l h b = 0
  ·have := (fits_get c1 c2).1
   simp [c79,app98,app57 k a l h nl b hb,app101 k nl b hb,bs_deps,c1,c2,numA,this]
  ·have c2' : (fitsA k a l h b != 0) = true := by simpa using c2
   simp [c79,app98,app57 k a l h nl b hb,bs_deps,c1,c2,c2',numA]
 ·simp [c79,app98,bs_deps,c1,numA]
end
def readsA (a : Int) : Int := if a = 1 ∨ a = 3 ∨ a = 4 then 0 else if a = 2 then 100728833 else 100728832
def writesA (a : Int) : Int := if a = 2 ∨ a = 3 then 0 else if a = 1 ∨ a = 4 then 100728834 else 100728832
end Go.Proofs.Ytmffcpiffkclgaa.ZJM.DC
set_option linter.unusedSimpArgs false
set_option linter.unusedVariables false
set_option maxRecDepth 4000
namespace Go.Proofs.Ytmffcpiffkclgaa.ZJM.DC
open Go.Proofs.Ytmffcpiffkclgaa.ZJM Go.RowKit
def kb (sz : Nat) (n : Int) : List Int := (List.range sz).map fun i => (n / pw i) % 256
theorem kb_succ (i : Nat) (n : Int) : kb (i + 1) n = kb i n ++ [(n / pw i) % 256] := by simp [kb,List.range_succ]
theorem kb_len (i : Nat) (n : Int) : (kb i n).length = i := by simp [kb]
theorem kb_ok (i : Nat) (n : Int) : OkB (kb i n) := by
 intro x hx
 simp only [kb,List.mem_map] at hx
 obtain ⟨j,_,rfl⟩ := hx
 omega
theorem pw_add (a b : Nat) : pw (a + b) = pw a * pw b := by simp only [pw,Int.pow_add]
theorem kb_up (sz : Nat) (n : Int) : kb sz (n + pw sz) = kb sz n := by
 refine List.map_congr_left fun i hi => ?_
 have hlt : i < sz := by simpa using hi
 obtain ⟨d,rfl⟩ : ∃ d,sz = i + (d + 1) := ⟨sz - i - 1,by omega⟩
 rw [pw_add i (d + 1),Int.add_mul_ediv_left _ _ (by have := pw_pos i; omega),pw_succ]
 omega
def zs (n : Nat) : List Int := List.replicate n 0
theorem rep_zs (n : Nat) : rep [PV.int .u8 0] n = Bs (zs n) := by
 induction n with
 | zero => rfl
 | succ n ih => simp only [rep,ih,zs,List.replicate_succ]; rfl
theorem bs_app (l r : List Int) : Bs (l ++ r) = Bs l ++ Bs r := encs_append l r
theorem bs_chunks (l : List Int) : chunks 1 l.length (Bs l) = Bs l := by
 induction l with
 | nil => rfl
 | cons x l ih => simp only [List.length_cons,chunks,encs_cons,List.take_succ_cons,List.take_zero,List.drop_succ_cons,List.drop_zero,mkc,if_true]; exact congrArg _ ih
theorem bs_out (l : List Int) (a b c d) : outCs a b c d (Bs l) = some (Bs l) := by
 induction l generalizing d with
 | nil => rfl
 | cons x l ih => simp only [encs_cons,outCs,outC,ih (d + 1)]
theorem bs_take (l : List Int) : (Bs l).take l.length = Bs l := List.take_of_length_le (by simp)
theorem wrap8 (n : Int) : IntKind.u8.wrap n = n % 256 := by unfold IntKind.wrap; simp [IntKind.bits,IntKind.signed]
theorem shr8 (i : Nat) (hi : i < 4) (n : Int) : n.fdiv (2 ^ (min (IntKind.i64.wrap (8 * (i : Int))).toNat 64)) = n / pw i := by
 rw [Int.fdiv_eq_ediv_of_nonneg _ (by exact Int.le_of_lt (Int.pow_pos (by decide)))]
 rcases (by omega : i = 0 ∨ i = 1 ∨ i = 2 ∨ i = 3) with rfl | rfl | rfl | rfl <;> simp [wrap_id,pw]
def S102 (n : Int) (sz : Nat) (i : Nat) : St :=
 ⟨[(1,.int .i64 n),(6,.slr 0 1000000000 [] 0 sz 1),(16,.int .i64 sz),(17,.int .i64 i)],[],[(1000000000,Bs (kb i n ++ zs (sz - i)))],[],[]⟩
theorem loop102 (n : Int) (sz : Nat) (hz : sz ≤ 4) {st : St} (h0 : maskSt [1,6,16,17] [] [] [6] st = some (S102 n sz 0)) :
  loopW (maskSt [1,6,16,17] [] [] [6]) (Cd.run (app E) c102.body.inner.body) st = c102.body.inner.body.run (app E) (S102 n sz sz) := by
 refine loop_eq (S102 n sz) sz (fun i hi => ?_) ?_ h0
 ·have hi' : (i : Int) < sz := by omega
  have hw := wrap_succ i (by omega)
  have h1 := shr8 i (by omega) n
  have h2 : ¬ IntKind.i64.wrap (8 * (i : Int)) < 0 := by rw [wrap_id] <;> omega
  have hl : (Bs (kb i n ++ zs (sz - i))).length = sz := by rw [bs_len,List.length_append,kb_len,zs,List.length_replicate]; omega
  have hz : zs (sz - i) = 0 :: zs (sz - (i + 1)) := by
   obtain ⟨d,hd⟩ : ∃ d,sz - i = d + 1 := ⟨sz - i - 1,by omega⟩
   rw [hd,show sz - (i + 1) = d by omega]; rfl
  have ht : (Bs (kb i n ++ zs (sz - i))).take i = Bs (kb i n) := by rw [bs_app,List.take_append_of_le_length (by simp [kb_len]),List.take_of_length_le (by simp [kb_len])]
  have hd : (Bs (kb i n ++ zs (sz - i))).drop (i + 1) = Bs (zs (sz - (i + 1))) := by
   rw [bs_app,hz,List.drop_append,List.drop_of_length_le (by simp [kb_len])]; simp [kb_len]
  have hg : (Bs (kb i n ++ zs (sz - i))).drop i = PV.int .u8 0 :: Bs (zs (sz - (i + 1))) := by
   rw [bs_app,hz,List.drop_append,List.drop_of_length_le (by simp [kb_len])]; simp [kb_len]
  have hn : kb (i + 1) n ++ zs (sz - (i + 1)) = kb i n ++ ((n / pw i) % 256) :: zs (sz - (i + 1)) := by rw [kb_succ]; simp
  unfold S102
  rw [hn]
  generalize hq : Bs (kb i n ++ zs (sz - i)) = q at hl ht hd hg
  have hle : i + 1 ≤ sz := hi
  simp [c102,Cd.inner,Cd.body,hi',hi,hw,h1,h2,bits64,wrap8,hl,ht,hd,hg,hle,turnSt,reach,dedup,idxOf,turnName,PV.names,PV.namess,PV.ren,PV.rens,bs_names,bs_rens,bs_okns]
 ·simp [c102,Cd.inner,Cd.body,S102]
theorem app102 (k n : Int) : app E false (.fn 151 []) [.int .i64 k,.int .i64 n] [] = some (if wfits k n = true then .tup [Bl false (kb (ksz k).toNat n),.int .i64 0] else .tup [Bl true [],.int .i64 2],emptyBag,[]) := by
 rw [app_fn E rfl h102 rfl]
 cases hf : wfits k n with
 | false => simp [c102,app69,hf]
 | true =>
  obtain ⟨sz,hsz⟩ : ∃ sz : Nat,ksz k = sz := ⟨(ksz k).toNat,by have := ksz_le k; omega⟩
  have hz : sz ≤ 4 := by have := ksz_le k; omega
  have h := @loop102 n sz hz
  simp only [c102,Cd.inner,Cd.body,S102] at h
  have hb : sz ≤ maxBytes := by unfold maxBytes; omega
  simp [c102,app69,app100,hf,hsz,hb,rep_zs]
  rw [h (by simp [turnSt,reach,dedup,idxOf,turnName,PV.names,PV.namess,PV.ren,PV.rens,bs_names,bs_rens,bs_okns,kb])]
  have e1 : zs 0 = [] := rfl
  have hl := kb_len sz n
  have hc := bs_chunks (kb sz n)
  have ht := bs_take (kb sz n)
  rw [hl] at hc ht
  simp [hc,ht,bs_out,kb_len,e1,bs_okns]
theorem put_up (k n : Int) (h : wfits k n = true) : (n < 0 → (0 ≤ n + pw (ksz k).toNat)) ∧ n < pw (ksz k).toNat ∧ -9223372036854775808 ≤ n ∧ pw (ksz k).toNat ≤ 4294967296 := by
 unfold wfits at h
 simp only [Bool.and_eq_true,decide_eq_true_eq] at h
 rcases kinds k with rfl | rfl | rfl | rfl | rfl | rfl | rfl | ⟨h1,h2,h3,h4,h5,h6,h7,e1,e2,e3,e4⟩
 all_goals first | (simp [ksz,klo,khi,pw] at h ⊢; omega) | (exfalso; omega)
def S97 (n : Int) (sz : Nat) (i : Nat) : St :=
 ⟨[(1,.int .i64 (n / pw i)),(6,.int .i64 sz),(9,.lst (some 35) false 1 (Bs (kb i n))),(10,.int .i64 i)],[(35,i,5)],[],[],[]⟩
theorem loop97 (n : Int) (hn : 0 ≤ n ∧ n < 9223372036854775808) (sz : Nat) (hz : sz ≤ 4) {st : St} (h0 : maskSt [1,6,9,10] [] [35] [] st = some (S97 n sz 0)) :
  loopW (maskSt [1,6,9,10] [] [35] []) (Cd.run (app E) c97.body.inner.body) st = c97.body.inner.body.run (app E) (S97 n sz sz) := by
 refine loop_eq (S97 n sz) sz (fun i hi => ?_) ?_ h0
 ·have hi' : (i : Int) < sz := by omega
  have hw := wrap_succ i (by omega)
  have h0 : 0 ≤ n / pw i ∧ n / pw i ≤ n := ⟨Int.ediv_nonneg hn.1 (Int.le_of_lt (pw_pos i)),Int.ediv_le_self _ hn.1⟩
  have h1 : (n / pw i).tmod 256 = n / pw i % 256 := Int.tmod_eq_emod_of_nonneg h0.1
  have h2 : (n / pw i).tdiv 256 = n / pw (i + 1) := by
   rw [Int.tdiv_eq_ediv_of_nonneg h0.1,pw_succ,Int.ediv_ediv_of_nonneg (Int.le_of_lt (pw_pos i))]
  have h3 : 0 ≤ n / pw (i + 1) ∧ n / pw (i + 1) ≤ n := ⟨Int.ediv_nonneg hn.1 (Int.le_of_lt (pw_pos _)),Int.ediv_le_self _ hn.1⟩
  have h4 : IntKind.i64.wrap (n / pw (i + 1)) = n / pw (i + 1) := wrap_id _ (by omega) (by omega)
  have h5 : n / pw i % 256 % 256 = n / pw i % 256 := by omega
  have hb : i + 1 ≤ maxBytes := by unfold maxBytes; omega
  unfold S97
  simp [c97,Cd.inner,Cd.body,hi',hi,hw,h1,h2,h4,h5,wrap8,kb_succ,kb_len,hb,bs_okns,okns_append]
 ·simp [c97,Cd.inner,Cd.body,S97]
theorem app97 (k n : Int) : app E false (.fn 139 []) [.int .i64 k,.int .i64 n] [] = some (if wfits k n = true then .tup [Bl false (kb (ksz k).toNat n),.int .i64 0] else .tup [Bl true [],.int .i64 2],emptyBag,[]) := by
 rw [app_fn E rfl h97 rfl]
 cases hf : wfits k n with
 | false =>
  by_cases a : ksz k = 0
  ·simp [c97,app74,a]
  ·have a' : (ksz k == 0) = false := by simpa using a
   by_cases b : n < klo k
   ·simp [c97,app74,a',b]
   ·have c : khi k < n := by
     have := ksz_le k
     simp [wfits] at hf
     by_cases c : khi k < n
     ·exact c
     ·have := hf (by omega) (by omega); omega
    simp [c97,app74,a',b,c]
 | true =>
  have hq := put_up k n hf
  have hf' := hf
  simp only [wfits,Bool.and_eq_true,decide_eq_true_eq] at hf'
  have a' : (ksz k == 0) = false := by simp; omega
  have b1 : ¬ n < klo k := by omega
  have b2 : ¬ khi k < n := by omega
  obtain ⟨sz,hsz⟩ : ∃ sz : Nat,ksz k = sz := ⟨(ksz k).toNat,by have := ksz_le k; omega⟩
  have hz : sz ≤ 4 := by have := ksz_le k; omega
  have h112 := app112 sz hz
  rw [hsz,Int.toNat_natCast] at hq
  rw [hsz] at a'
  by_cases hn : n < 0
  ·have h := @loop97 (n + pw sz) (by omega) sz hz
   simp only [c97,Cd.inner,Cd.body,S97] at h
   have hw : IntKind.i64.wrap (n + pw sz) = n + pw sz := wrap_id _ (by omega) (by omega)
   simp [c97,app74,hsz,a',b1,b2,hn,h112,hw]
   rw [h (by simp [kb,pw])]
   simp [kb_up,bs_okns]
  ·have h := @loop97 n (by omega) sz hz
   simp only [c97,Cd.inner,Cd.body,S97] at h
   simp [c97,app74,hsz,a',b1,b2,hn]
   rw [h (by simp [kb,pw])]
   simp [bs_okns]
end Go.Proofs.Ytmffcpiffkclgaa.ZJM.DC
set_option linter.unusedSimpArgs false
set_option linter.unusedVariables false
set_option maxRecDepth 4000
namespace Go.Proofs.Ytmffcpiffkclgaa.ZJM.DC
open Go.Proofs.Ytmffcpiffkclgaa.ZJM Go.RowKit
def firstN (l h : Int) : Int := if h < (if l > 0 then l else 0) then h else (if l > 0 then l else 0)
def firstA (k l h : Int) : List Int := if 0 < ksz k then kb (ksz k).toNat (firstN l h) else zs l.toNat
theorem may_first {k a l h : Int} (hm : mayA k a l h = true) (hz : 0 < ksz k) : wfits k (firstN l h) = true := by
 simp only [mayA,hz,if_true,Bool.and_eq_true,decide_eq_true_eq] at hm
 have h1 : klo k ≤ 0 ∧ 0 ≤ khi k := by
  rcases kinds k with rfl | rfl | rfl | rfl | rfl | rfl | rfl | ⟨h1,h2,h3,h4,h5,h6,h7,e1,e2,e3,e4⟩
  all_goals first | (simp [klo,khi]; done) | omega
 have h2 : klo k ≤ firstN l h ∧ firstN l h ≤ khi k := by
  unfold firstN
  by_cases d1 : l > 0
  ·simp only [d1,if_true]; split <;> omega
  ·simp only [d1,if_false]; split <;> omega
 simp only [wfits,hz,Bool.and_eq_true,decide_eq_true_eq]
 exact ⟨⟨trivial,h2.1⟩,h2.2⟩
theorem may_text {k a l h : Int} (hm : mayA k a l h = true) (hz : ¬ 0 < ksz k) : k = 8 ∧ 0 ≤ l ∧ l ≤ h ∧ h ≤ 64 := by
 simp only [mayA,hz,if_false,Bool.and_eq_true,decide_eq_true_eq,beq_iff_eq] at hm
 omega
theorem ksz_nat (k : Int) : ((ksz k).toNat : Int) = ksz k := by have := ksz_le k; omega
theorem app58 (k a l h : Int) (hm : mayA k a l h = true) : app E false (.fn 110 []) [sp k a l h] [] = some (Bl false (firstA k l h),emptyBag,[]) := by
 rw [app_fn E rfl h58 rfl]
 by_cases hz : 0 < ksz k
 ·have hf := may_first hm hz
  simp only [firstN,gt_iff_lt] at hf
  simp [c58,app56,app98,app102,hm,hz,hf,firstA,firstN,bs_okns]
 ·obtain ⟨rfl,h1,h2,h3⟩ := may_text hm hz
  obtain ⟨n,rfl⟩ : ∃ n : Nat,l = n := ⟨l.toNat,by omega⟩
  have hb : n ≤ maxBytes := by unfold maxBytes; omega
  have hl : (zs n).length = n := by simp [zs]
  have hc := bs_chunks (zs n)
  have ht := bs_take (zs n)
  rw [hl] at hc ht
  simp [c58,app56,app98,hm,hz,firstA,hb,rep_zs,hl,hc,ht,bs_out]
def S54 (k a l h : Int) (i : Nat) : St :=
 ⟨[(1,.ptr 0 1 [] 0),(3,.lst (some 8) false 1 (Bs (zs i))),(4,.int .i64 i)],[(8,i,5)],[(1,[.int .i64 k,.int .i64 a,.int .i64 l,.int .i64 h])],[],[]⟩
theorem zs_succ (i : Nat) : zs (i + 1) = zs i ++ [0] := by simp [zs,List.replicate_succ']
theorem loop54 (k a h : Int) (n : Nat) (hn : n ≤ 64) {st : St} (h0 : maskSt [1,3,4] [1] [8] [] st = some (S54 k a n h 0)) :
  loopW (maskSt [1,3,4] [1] [8] []) (Cd.run (app E) c54.body.inner.body) st = c54.body.inner.body.run (app E) (S54 k a n h n) := by
 refine loop_eq (S54 k a n h) n (fun i hi => ?_) ?_ h0
 ·have hi' : (i : Int) < n := by omega
  have hw := wrap_succ i (by omega)
  have hb : i + 1 ≤ maxBytes := by unfold maxBytes; omega
  have hl : (zs i).length = i := by simp [zs]
  unfold S54
  rw [zs_succ]
  simp [c54,Cd.inner,Cd.body,hi',hw,hl,hb]
 ·simp [c54,Cd.inner,Cd.body,S54]
theorem app54 (k a l h : Int) (hm : mayA k a l h = true) : app E false (.fn 117 []) [sp k a l h] [] = some (Bl false (firstA k l h),emptyBag,[]) := by
 rw [app_fn E rfl h54 rfl]
 by_cases hz : 0 < ksz k
 ·have hf := may_first hm hz
  have c8 : (k == 8) = false := by
   rcases kinds k with rfl | rfl | rfl | rfl | rfl | rfl | rfl | ⟨h1,h2,h3,h4,h5,h6,h7,e1,e2,e3,e4⟩
   all_goals first | rfl | omega
  have hlh : l ≤ h := by
   simp only [mayA,Bool.and_eq_true,decide_eq_true_eq] at hm; exact hm.1.2
  simp only [firstN,gt_iff_lt] at hf
  by_cases d1 : 0 < l
  ·have d2 : ¬ h < 0 := by omega
   have d3 : ¬ h < l := by omega
   simp only [d1,d3,if_true,if_false] at hf
   simp [c54,app53,app97,hm,hz,hf,firstA,firstN,c8,d1,d2,d3]
  ·by_cases d2 : h < 0
   ·simp only [d1,d2,if_true,if_false] at hf
    simp [c54,app53,app97,hm,hz,hf,firstA,firstN,c8,d1,d2]
   ·simp only [d1,d2,if_true,if_false] at hf
    simp [c54,app53,app97,hm,hz,hf,firstA,firstN,c8,d1,d2]
 ·obtain ⟨rfl,h1,h2,h3⟩ := may_text hm hz
  obtain ⟨n,rfl⟩ : ∃ n : Nat,l = n := ⟨l.toNat,by omega⟩
  have h := @loop54 8 a h n (by omega)
  simp only [c54,Cd.inner,Cd.body,S54] at h
  simp [c54,app53,hm,hz]
  rw [h (by simp [zs])]
  simp [firstA,hz]
def bytesA (k a l h n : Int) : Bool × List Int × Int :=
 if mayA k a l h = true ∧ 0 < ksz k then (if n < l ∨ h < n then (true,[],14) else (false,kb (ksz k).toNat n,0)) else (true,[],2)
theorem may_put {k a l h n : Int} (hm : mayA k a l h = true) (hz : 0 < ksz k) (h1 : l ≤ n) (h2 : n ≤ h) : wfits k n = true := by
 simp only [mayA,hz,if_true,Bool.and_eq_true,decide_eq_true_eq] at hm
 obtain ⟨_,e1,e2⟩ := hm
 simp only [wfits,hz,Bool.and_eq_true,decide_eq_true_eq]
 exact ⟨⟨trivial,by omega⟩,by omega⟩
theorem app92 (k a l h n : Int) : app E false (.fn 135 []) [sp k a l h,.int .i64 n] [] = some (.tup [Bl (bytesA k a l h n).1 (bytesA k a l h n).2.1,.int .i64 (bytesA k a l h n).2.2],emptyBag,[]) := by
 rw [app_fn E rfl h92 rfl]
 by_cases hm : mayA k a l h = true
 ·by_cases hz : 0 < ksz k
  ·by_cases d1 : n < l
   ·simp [c92,app56,app98,hm,hz,d1,bytesA]
   ·by_cases d2 : h < n
    ·simp [c92,app56,app98,hm,hz,d1,d2,bytesA]
    ·have := may_put (n := n) hm hz (by omega) (by omega)
     simp [c92,app56,app98,app102,hm,hz,d1,d2,this,bytesA]
  ·simp [c92,app56,app98,hm,hz,bytesA]
 ·simp [c92,app56,hm,bytesA]
theorem app62 (nl : Bool) (b : List Int) (hn : nl = true → b = []) (hl : b.length ≤ maxBytes) : app E false (.fn 114 []) [Bl nl b] [] = some (Bl nl b,emptyBag,[]) := by
 rw [app_fn E rfl h62 rfl]
 cases nl with
 | true => rw [hn rfl]; simp [c62]
 | false => simp [c62,hl]
theorem bytesP_bs (b : List Int) : bytesP (Bs b) = some b := by
 induction b with
 | nil => rfl
 | cons x r ih => simp only [encs_cons,bytesP,ih]
theorem toList_mk (l : List UInt8) : (ByteArray.mk l.toArray).toList = l := by
 simp
theorem strOf_inj {a b : List Int} (ha : OkB a) (hb : OkB b) : (strOf a).toList = (strOf b).toList ↔ a = b := by
 constructor
 ·intro h
  unfold strOf at h
  rw [toList_mk,toList_mk] at h
  induction a generalizing b with
  | nil => cases b with
   | nil => rfl
   | cons => simp at h
  | cons x a ih => cases b with
   | nil => simp at h
   | cons y b =>
    simp only [List.map_cons,List.cons.injEq] at h
    have hx := ha x (by simp)
    have hy := hb y (by simp)
    have e : x = y := by
     have := congrArg UInt8.toNat h.1
     simp only [UInt8.toNat_ofNat'] at this
     omega
    rw [e,ih (fun z hz => ha z (by simp [hz])) (fun z hz => hb z (by simp [hz])) h.2]
 ·rintro rfl; rfl
theorem app111 (nl nl' : Bool) (a b : List Int) (ha : OkB a) (hb : OkB b) : app E false (.fn 104 []) [Bl nl a,Bl nl' b] [] = some (.bool (decide (a = b)),emptyBag,[]) := by
 rw [app_fn E rfl h111 rfl]
 have := strOf_inj ha hb
 by_cases h : a = b
 ·subst h; simp [c111,bytesP_bs]
 ·have h' : ((strOf a).toList == (strOf b).toList) = false := by simpa [this] using h
  simp [c111,bytesP_bs,h,h']
abbrev ky (i s : Int) : PV := .agg [.int .i64 i,.int .i64 s]
def okK (i s : Int) : Bool := decide (1 ≤ i) && decide (i < 65536) && decide (0 ≤ s) && decide (s < 256)
def knum (i s : Int) : Int := if okK i s = true then i * 256 + s else -1
theorem app55 (i s : Int) : app E false (.fn 107 []) [ky i s] [] = some (.int .i64 (knum i s),emptyBag,[]) := by
 rw [app_fn E rfl h55 rfl]
 by_cases a1 : i < 1
 ·have : ¬ 1 ≤ i := by omega
  simp [c55,knum,okK,a1,this]
 have a1' : 1 ≤ i := by omega
 by_cases a2 : 65536 ≤ i
 ·have : ¬ i < 65536 := by omega
  simp [c55,knum,okK,a1,a2,this]
 have a2' : i < 65536 := by omega
 by_cases a3 : s < 0
 ·have : ¬ 0 ≤ s := by omega
  simp [c55,knum,okK,a1,a2,a3,this]
 have a3' : 0 ≤ s := by omega
 by_cases a4 : 256 ≤ s
 ·have : ¬ s < 256 := by omega
  simp [c55,knum,okK,a1,a2,a3,a4,this]
 have a4' : s < 256 := by omega
 have w1 : IntKind.i64.wrap (i * 256) = i * 256 := wrap_id _ (by omega) (by omega)
 have w2 : IntKind.i64.wrap (i * 256 + s) = i * 256 + s := wrap_id _ (by omega) (by omega)
 simp [c55,knum,okK,a1,a2,a3,a4,a1',a2',a3',a4',w1,w2]
theorem app44 (i s : Int) : app E false (.fn 115 []) [ky i s] [] = some (.bool (okK i s),emptyBag,[]) := by
 rw [app_fn E rfl h44 rfl]
 by_cases a1 : 1 ≤ i <;> by_cases a2 : i ≤ 65535 <;> by_cases a3 : 0 ≤ s <;> by_cases a4 : s ≤ 255 <;> simp [c44,okK,a1,a2,a3,a4] <;> omega
end Go.Proofs.Ytmffcpiffkclgaa.ZJM.DC
