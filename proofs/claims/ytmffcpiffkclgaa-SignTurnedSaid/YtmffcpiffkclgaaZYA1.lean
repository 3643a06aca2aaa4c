/- Slots' words. -/
import Derived.Test.YtmffcpiffkclgaaZYS1
set_option linter.unusedSimpArgs false
set_option linter.unusedVariables false
set_option maxRecDepth 4000
namespace Go.Proofs.Ytmffcpiffkclgaa.ZJM.DC
open Go.Proofs.Ytmffcpiffkclgaa.ZJM Go.RowKit
theorem or_high (a b : Int) (p : Nat) (hp : p ≤ 16) (ha : 0 ≤ a ∧ a < 4294967296) (hb : 0 ≤ b ∧ b < 2 ^ p) : intBits .or .i64 (a * 2 ^ p) b = a * 2 ^ p + b := by
 obtain ⟨n,rfl⟩ : ∃ n : Nat,a = n := ⟨a.toNat,by omega⟩
 obtain ⟨m,rfl⟩ : ∃ m : Nat,b = m := ⟨b.toNat,by omega⟩
 have e : ((n : Int) * 2 ^ p) = ((2 ^ p * n : Nat) : Int) := by
  rw [Int.natCast_mul,Int.mul_comm]; simp
 have hm : m < 2 ^ p := by
  have : ((2 ^ p : Nat) : Int) = 2 ^ p := by simp
  omega
 have h1 : 2 ^ p ≤ 2 ^ 16 := Nat.pow_le_pow_right (by decide) hp
 have h3 : 2 ^ p * n ≤ 2 ^ 16 * 4294967296 := Nat.mul_le_mul h1 (by omega)
 rw [e]
 show IntKind.i64.wrap ((BitVec.ofInt 64 ((2 ^ p * n : Nat) : Int) ||| BitVec.ofInt 64 (m : Int)).toNat : Int) = _
 rw [BitVec.ofInt_natCast,BitVec.ofInt_natCast,BitVec.toNat_or,BitVec.toNat_ofNat,BitVec.toNat_ofNat,Nat.mod_eq_of_lt (by omega),Nat.mod_eq_of_lt (by omega),← Nat.two_pow_add_eq_or_of_lt hm,wrap_id _ (by omega) (by omega)]
 omega
theorem and_255 (a : Int) (ha : 0 ≤ a ∧ a < 4294967296) : intBits .and .i64 a 255 = a % 256 := by
 obtain ⟨n,rfl⟩ : ∃ n : Nat,a = n := ⟨a.toNat,by omega⟩
 show IntKind.i64.wrap ((BitVec.ofInt 64 (n : Int) &&& BitVec.ofInt 64 ((255 : Nat) : Int)).toNat : Int) = _
 have e : n &&& 255 = n % 256 := Nat.and_two_pow_sub_one_eq_mod n 8
 rw [BitVec.ofInt_natCast,BitVec.ofInt_natCast,BitVec.toNat_and,BitVec.toNat_ofNat,BitVec.toNat_ofNat,Nat.mod_eq_of_lt (by omega),Nat.mod_eq_of_lt (by omega),e,wrap_id _ (by omega) (by omega)]
 omega
abbrev slt (i s n : Int) : PV := .agg [.int .i64 i,.int .i64 s,.int .i64 n]
def okS (i s n : Int) : Bool := decide (0 ≤ i) && decide (i ≤ 65535) && decide (0 ≤ s) && decide (s ≤ 255) && decide (0 ≤ n) && decide (n ≤ 255)
def wordA (i s n : Int) : Int × Int := if okS i s n = true then (i * 65536 + s * 256 + n,0) else (0,2)
theorem app18 (i s n : Int) : app E false (.fn 83 []) [slt i s n] [] = some (.tup [.int .i64 (wordA i s n).1,.int .i64 (wordA i s n).2],emptyBag,[]) := by
 rw [app_fn E rfl h18 rfl]
 by_cases a1 : i < 0
 ·have : ¬ 0 ≤ i := by omega
  simp [c18,wordA,okS,a1,this]
 have a1' : 0 ≤ i := by omega
 by_cases a2 : 65535 < i
 ·have : ¬ i ≤ 65535 := by omega
  simp [c18,wordA,okS,a1,a2,this]
 have a2' : i ≤ 65535 := by omega
 by_cases a3 : s < 0
 ·have : ¬ 0 ≤ s := by omega
  simp [c18,wordA,okS,a1,a2,a3,this]
 have a3' : 0 ≤ s := by omega
 by_cases a4 : 255 < s
 ·have : ¬ s ≤ 255 := by omega
  simp [c18,wordA,okS,a1,a2,a3,a4,this]
 have a4' : s ≤ 255 := by omega
 by_cases a5 : n < 0
 ·have : ¬ 0 ≤ n := by omega
  simp [c18,wordA,okS,a1,a2,a3,a4,a5,this]
 have a5' : 0 ≤ n := by omega
 by_cases a6 : 255 < n
 ·have : ¬ n ≤ 255 := by omega
  simp [c18,wordA,okS,a1,a2,a3,a4,a5,a6,this]
 have a6' : n ≤ 255 := by omega
 have w1 : IntKind.i64.wrap (i * 65536) = i * 65536 := wrap_id _ (by omega) (by omega)
 have w2 : IntKind.i64.wrap (s * 256) = s * 256 := wrap_id _ (by omega) (by omega)
 have o1 : intBits .or .i64 (i * 65536) (s * 256) = i * 65536 + s * 256 := or_high i (s * 256) 16 (by decide) (by omega) (by omega)
 have o2 : intBits .or .i64 (i * 65536 + s * 256) n = i * 65536 + s * 256 + n := by
  have := or_high (i * 256 + s) n 8 (by decide) (by omega) (by omega)
  have e : (i * 256 + s) * 2 ^ 8 = i * 65536 + s * 256 := by omega
  rw [e] at this; exact this
 simp [c18,wordA,okS,a1,a2,a3,a4,a5,a6,a1',a2',a3',a4',a5',a6',bits64,w1,w2,o1,o2]
theorem app19 (i s n : Int) : app E false (.fn 122 []) [slt i s n] [] = some (.tup [.int .i64 (wordA i s n).1,.int .i64 (wordA i s n).2],emptyBag,[]) := by
 rw [app_fn E rfl h19 rfl]
 by_cases a1 : i < 0
 ·have : ¬ 0 ≤ i := by omega
  simp [c19,wordA,okS,a1,this]
 have a1' : 0 ≤ i := by omega
 by_cases a2 : 65535 < i
 ·have : ¬ i ≤ 65535 := by omega
  simp [c19,wordA,okS,a1,a2,this]
 have a2' : i ≤ 65535 := by omega
 by_cases a3 : s < 0
 ·have : ¬ 0 ≤ s := by omega
  simp [c19,wordA,okS,a1,a2,a3,this]
 have a3' : 0 ≤ s := by omega
 by_cases a4 : 255 < s
 ·have : ¬ s ≤ 255 := by omega
  simp [c19,wordA,okS,a1,a2,a3,a4,this]
 have a4' : s ≤ 255 := by omega
 by_cases a5 : n < 0
 ·have : ¬ 0 ≤ n := by omega
  simp [c19,wordA,okS,a1,a2,a3,a4,a5,this]
 have a5' : 0 ≤ n := by omega
 by_cases a6 : 255 < n
 ·have : ¬ n ≤ 255 := by omega
  simp [c19,wordA,okS,a1,a2,a3,a4,a5,a6,this]
 have a6' : n ≤ 255 := by omega
 have w1 : IntKind.i64.wrap (i * 65536) = i * 65536 := wrap_id _ (by omega) (by omega)
 have w2 : IntKind.i64.wrap (s * 256) = s * 256 := wrap_id _ (by omega) (by omega)
 have w3 : IntKind.i64.wrap (i * 65536 + s * 256) = i * 65536 + s * 256 := wrap_id _ (by omega) (by omega)
 have w4 : IntKind.i64.wrap (i * 65536 + s * 256 + n) = i * 65536 + s * 256 + n := wrap_id _ (by omega) (by omega)
 simp [c19,wordA,okS,a1,a2,a3,a4,a5,a6,a1',a2',a3',a4',a5',a6',w1,w2,w3,w4]
theorem app20_bad (n : Int) (h : wfits 4 n = false) : app E false (.fn 97 []) [.int .i64 n] [] = some (.tup [slt 0 0 0,.int .i64 2],emptyBag,[]) := by
 rw [app_fn E rfl h20 rfl]
 simp [c20,app69,h]
theorem wfits4 (n : Int) : wfits 4 n = (decide (0 ≤ n) && decide (n ≤ 4294967295)) := by simp [wfits,ksz,klo,khi]
theorem app20 (n : Int) (h0 : 0 ≤ n) (h1 : n ≤ 4294967295) : app E false (.fn 97 []) [.int .i64 n] [] = some (.tup [slt (n / 65536) (n / 256 % 256) (n % 256),.int .i64 0],emptyBag,[]) := by
 rw [app_fn E rfl h20 rfl]
 have h : wfits 4 n = true := by rw [wfits4]; simp [h0,h1]
 have f1 : n.fdiv 65536 = n / 65536 := Int.fdiv_eq_ediv_of_nonneg _ (by decide)
 have f2 : n.fdiv 256 = n / 256 := Int.fdiv_eq_ediv_of_nonneg _ (by decide)
 have a1 := and_255 (n / 256) (by omega)
 have a2 := and_255 n (by omega)
 simp [c20,app69,h,bits64,f1,f2,a1,a2]
theorem app21 (n : Int) (h0 : 0 ≤ n) (h1 : n ≤ 4294967295) : app E false (.fn 91 []) [.int .i64 n] [] = some (slt (n / 65536) (n / 256 % 256) (n % 256),emptyBag,[]) := by
 rw [app_fn E rfl h21 rfl]
 have t1 : n.tdiv 65536 = n / 65536 := Int.tdiv_eq_ediv_of_nonneg h0
 have t2 : n.tdiv 256 = n / 256 := Int.tdiv_eq_ediv_of_nonneg h0
 have t3 : (n / 256).tmod 256 = n / 256 % 256 := Int.tmod_eq_emod_of_nonneg (by omega)
 have t4 : n.tmod 256 = n % 256 := Int.tmod_eq_emod_of_nonneg h0
 have w1 : IntKind.i64.wrap (n / 65536) = n / 65536 := wrap_id _ (by omega) (by omega)
 have w2 : IntKind.i64.wrap (n / 256) = n / 256 := wrap_id _ (by omega) (by omega)
 simp [c21,t1,t2,t3,t4,w1,w2]
section
variable (hlive : app E false (.fn 999999999924 []) [] [] = some (.bool true,emptyBag,[]))
include hlive
end
end Go.Proofs.Ytmffcpiffkclgaa.ZJM.DC
