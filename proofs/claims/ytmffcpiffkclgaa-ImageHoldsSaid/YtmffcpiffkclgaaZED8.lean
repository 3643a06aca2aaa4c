/- The shelf, gone through: tell, All. -/
import Derived.Test.YtmffcpiffkclgaaZED5
set_option linter.unusedSimpArgs false
set_option linter.unusedVariables false
set_option maxRecDepth 4000
namespace Go.Proofs.Ytmffcpiffkclgaa.ZJM.DC
open Go.Proofs.Ytmffcpiffkclgaa.ZJM Go.RowKit

section
variable (f : FuncId) (i : Nat) (fs : List Nat) (cap : List PV) (lv j : Nat)
@[simp] theorem isCell_rnd : PV.isCell (.rnd f i fs cap lv j) = true := rfl
@[simp] theorem isVal_rnd : PV.isVal (.rnd f i fs cap lv j) = true := rfl
@[simp] theorem cells_rnd : PV.cells (.rnd f i fs cap lv j) = [.rnd f i fs cap lv j] := rfl
@[simp] theorem untag1_rnd : PV.untag1 (.rnd f i fs cap lv j) = .rnd f i fs cap lv j := rfl
@[simp] theorem untag_rnd : PV.untag (.rnd f i fs cap lv j) = .rnd f i fs cap lv j := rfl
end
theorem app110_nil (pr : Bool) (m : Mem) : app E pr (.fn 157 []) [.lst none true 6 []] m = some (.lst none true 6 [], emptyBag, m) := by
  rw [app_fn E rfl h110 rfl]
  cases pr <;> simp [c110]
section
variable (m : Mem) (lv a ver : Nat) (l : List Row)
/-- The whole, as a row. -/
theorem app110r (x : Row) (r : List Row) (hm : mget m lv a [] = some [.vec ver (r.length + 1) 6 (Rc (x :: r))]) (hl : r.length + 1 ≤ 512) :
    app E true (.fn 157 []) [.slr lv a [(0, ver)] 0 (r.length + 1) 6] m = some (.slr m.length 0 [] 0 (r.length + 1) 6, ⟨[(0, Rc (x :: r))], []⟩, m) := by
  have hlv : lv ≠ m.length := by have := mget_lt hm; omega
  have hpp : mget m lv a [(0, ver)] = some (Rc (x :: r)) := by rw [mget_sub hm]; simp [tget]
  have hcl := rc_len (x :: r)
  have hc := rc_chunks (x :: r)
  have hcells := rs_cells (x :: r)
  have hca := rc_all (x :: r)
  have ho := fun a b c d => rc_out (x :: r) a b c d
  have ht : (Rc (x :: r)).take ((r.length + 1) * 6) = Rc (x :: r) := List.take_of_length_le (by rw [rc_len]; exact Nat.le_refl _)
  have hbb : (r.length + 1) * 64 ≤ maxBytes := by unfold maxBytes; omega
  have hdd := rc_data (x :: r)
  have hir : (∀ z ∈ Rc (x :: r), isRec z = false) = True := eq_true fun z hz => by
    have := List.all_eq_true.1 (rc_cell _) z hz
    cases z <;> first | rfl | (simp [PV.isCell] at this)
  have hRd := rs_data (x :: r)
  rw [app_fn E rfl h110 rfl]
  simp only [List.length_cons] at *
  have k1' := fun a b c => PV.datas_okns a b c _ hdd
  have k2' := fun a => PV.datas_deps a _ hdd
  have k3' := fun a => PV.datas_namess a _ hdd
  have k4' := fun a b c => PV.datas_rens a b c _ hdd
  have hRe : Rs (x :: r) = x.enc :: Rs r := rfl
  rw [hRe] at hc hcells
  simp only [List.flatMap_cons] at hcells
  have hRl : (Rs r).length = r.length := encs_len r
  generalize Rc (x :: r) = C at *
  generalize x.enc = Y at *
  generalize Rs r = R at *
  simp [c110, hlv, hpp, hcl, ht, ho, hc, hcells, hca, hbb, hRl, k1', k2', k3', k4', hir, bagEv, bagOf, bagChk, renB, obsB, topsB, nameIn, noTagB, nodupB, tagsOf, tagOf, PV.retag, PV.retag1]
end
/-! ### rows, one by one -/
section
variable {σ : Type} (M : σ → Mem) (N : Nat) (hN : ∀ s, (M s).length = N) (l : List Row) (nl : Bool) (hl : l.length ≤ 512) (f0 : FuncId) (i0 : Nat) (fs0 : List Nat) (cap0 : List PV) (lv0 j0 : Nat) (hlv0 : lv0 < N) (hcap : ∀ n ks ts, N ≤ n → PV.okns n ks ts cap0 = true)
  (J : Nat → σ → Prop) (Stop : σ → Prop)
  (hyld : ∀ (i : Nat) (hi : i < l.length) (s : σ) (o1 : Lvl), J i s → ∃ b s', app E false (.rnd f0 i0 fs0 cap0 lv0 j0) [.int .i64 l[i].n, eny l[i].k l[i].a l[i].l l[i].h l[i].nl l[i].b] (o1 :: M s) = some (.bool b, emptyBag, o1 :: M s') ∧ (if b = true then J (i + 1) s' else Stop s'))
end
end Go.Proofs.Ytmffcpiffkclgaa.ZJM.DC

set_option linter.unusedSimpArgs false
set_option linter.unusedVariables false
set_option maxRecDepth 4000
namespace Go.Proofs.Ytmffcpiffkclgaa.ZJM.DC
open Go.Proofs.Ytmffcpiffkclgaa.ZJM Go.RowKit

section
variable {σ : Type} (M : σ → Mem) (N : Nat) (hN : ∀ s, (M s).length = N) (l : List Row) (hl : l.length ≤ 512) (f0 : FuncId) (i0 : Nat) (fs0 : List Nat) (cap0 : List PV) (lv0 j0 : Nat) (hlv0 : lv0 < N) (hcap : ∀ n ks ts, N ≤ n → PV.okns n ks ts cap0 = true)
  (J : Nat → σ → Prop) (Stop : σ → Prop)
section
variable (hyld : ∀ (i : Nat) (hi : i < l.length) (s : σ) (o1 o2 : Lvl), J i s → ∃ b s', app E false (.rnd f0 i0 fs0 cap0 lv0 j0) [.int .i64 l[i].n, eny l[i].k l[i].a l[i].l l[i].h l[i].nl l[i].b] (o1 :: o2 :: M s) = some (.bool b, emptyBag, o1 :: o2 :: M s') ∧ (if b = true then J (i + 1) s' else Stop s'))
end
end
section
variable {σ : Type} (M : σ → Mem) (N : Nat) (hN : ∀ s, (M s).length = N) (l : List Row) (hk : Dok l) (f0 : FuncId) (i0 : Nat) (fs0 : List Nat) (cap0 : List PV) (lv0 j0 : Nat) (hlv0 : lv0 < N)
  (J : Nat → σ → Prop) (Stop : σ → Prop)
  (hyld : ∀ (i : Nat) (hi : i < l.length) (s : σ) (o1 o2 o3 o4 : Lvl), J i s → ∃ b s', app E false (.rnd f0 i0 fs0 cap0 lv0 j0) [ky (l[i].n / 256) (l[i].n % 256)] (o1 :: o2 :: o3 :: o4 :: M s) = some (.bool b, emptyBag, o1 :: o2 :: o3 :: o4 :: M s') ∧ (if b = true then J (i + 1) s' else Stop s'))
end
end Go.Proofs.Ytmffcpiffkclgaa.ZJM.DC

set_option linter.unusedSimpArgs false
set_option linter.unusedVariables false
set_option maxRecDepth 4000
namespace Go.Proofs.Ytmffcpiffkclgaa.ZJM.DC
open Go.Proofs.Ytmffcpiffkclgaa.ZJM Go.RowKit

def fromW (l : List Row) (k : Int) : List Row := l.dropWhile fun x => decide (x.n < k)
section
variable {σ : Type} (M : σ → Mem) (N : Nat) (hN : ∀ s, (M s).length = N) (l : List Row) (hl : l.length ≤ 512) (hs : Rising l) (k : Int) (f0 : FuncId) (i0 : Nat) (fs0 : List Nat) (cap0 : List PV) (lv0 j0 : Nat) (hlv0 : lv0 < N) (hcap : ∀ n ks ts, N ≤ n → PV.okns n ks ts cap0 = true)
  (J : Nat → σ → Prop) (Stop : σ → Prop)
  (hyld : ∀ (i : Nat) (hi : i < (fromW l k).length) (s : σ) (o1 o2 : Lvl), J i s → ∃ b s', app E false (.rnd f0 i0 fs0 cap0 lv0 j0) [.int .i64 (fromW l k)[i].n, eny (fromW l k)[i].k (fromW l k)[i].a (fromW l k)[i].l (fromW l k)[i].h (fromW l k)[i].nl (fromW l k)[i].b] (o1 :: o2 :: M s) = some (.bool b, emptyBag, o1 :: o2 :: M s') ∧ (if b = true then J (i + 1) s' else Stop s'))
end
/-- The sub-indices of an object. -/
def subW (l : List Row) (i : Int) : List Row := if knum i 0 < 0 then [] else (fromW l (knum i 0)).takeWhile fun x => decide (x.n - knum i 0 < 256)
section
variable {σ : Type} (M : σ → Mem) (N : Nat) (hN : ∀ s, (M s).length = N) (l : List Row) (hk : Dok l) (ix : Int) (f0 : FuncId) (i0 : Nat) (fs0 : List Nat) (cap0 : List PV) (lv0 j0 : Nat) (hlv0 : lv0 < N)
  (J : Nat → σ → Prop) (Stop : σ → Prop)
  (hyld : ∀ (i : Nat) (hi : i < (subW l ix).length) (s : σ) (o1 o2 o3 o4 : Lvl), J i s → ∃ b s', app E false (.rnd f0 i0 fs0 cap0 lv0 j0) [.int .i64 ((subW l ix)[i].n - knum ix 0)] (o1 :: o2 :: o3 :: o4 :: M s) = some (.bool b, emptyBag, o1 :: o2 :: o3 :: o4 :: M s') ∧ (if b = true then J (i + 1) s' else Stop s'))
end
end Go.Proofs.Ytmffcpiffkclgaa.ZJM.DC

set_option linter.unusedSimpArgs false
set_option linter.unusedVariables false
set_option maxRecDepth 4000
namespace Go.Proofs.Ytmffcpiffkclgaa.ZJM.DC
open Go.Proofs.Ytmffcpiffkclgaa.ZJM Go.RowKit

def missW (l : List Row) (i : Int) : Int := if subW l i = [] then 100794368 else 101253137
section
variable {m : Mem} {lv a a' ver : Nat} {l : List Row} {c : Int} (hd : DA m lv a a' ver l c) (hk : Dok l)
end
/-- A dictionary's missing entries, and its found ones. -/
structure FM (m : Mem) (dp : PV) (i s : Int) (o : Option Row) (mi : Int) : Prop where
  isd : isD dp
  finds : Finds m dp i s o
  miss : ∀ own : Lvl, app E false (.fn 142 []) [dp, ky i s] (own :: m) = some (.int .i64 mi, emptyBag, own :: m)
def readO (o : Option Row) (mi : Int) : Bool × List Int × Int := match o with
  | none => (true, [], mi)
  | some x => if readsA x.a = 0 then (x.nl, x.b, 0) else (true, [], readsA x.a)
section
variable {m : Mem} {dp : PV} {i s : Int} {o : Option Row} {mi : Int} (hf : FM m dp i s o mi) (ho : okO o)
end
def writeO (o : Option Row) (mi : Int) (b : List Int) : Int := match o with
  | none => mi
  | some x => if writesA x.a = 0 then fitsA x.k x.a x.l x.h b else writesA x.a
section
variable {m : Mem} {lv a a' ver : Nat} {l : List Row} {c : Int} (hd : DA m lv a a' ver l c) (hk : Dok l)
end
end Go.Proofs.Ytmffcpiffkclgaa.ZJM.DC

set_option linter.unusedSimpArgs false
set_option linter.unusedVariables false
set_option maxRecDepth 4000
namespace Go.Proofs.Ytmffcpiffkclgaa.ZJM.DC
open Go.Proofs.Ytmffcpiffkclgaa.ZJM Go.RowKit

theorem app52 (m : Mem) : app E false (.fn 98 []) [] m = some (.ptr m.length 0 [] 0, ⟨[(0, [shC 0 []])], []⟩, m) := by
  rw [app_fn E rfl h52 rfl]
  simp [c52, shC, frzV, frzR, bagEv, bagOf, bagChk, renB, obsB, topsB, nameIn, isRec, noTagB, nodupB, tagsOf, tagOf, PV.retag, PV.retag1]
theorem app11 (m : Mem) : app E false (.fn 32 []) [] m = some (.ptr m.length 0 [] 0, ⟨[(0, [.ptr m.length 1 [] 0, .int .i64 0]), (1, [shC 0 []])], []⟩, m) := by
  have h := app52 ([] :: m)
  rw [app_fn E rfl h11 rfl]
  simp [c11, h, shC, bagName, frzV, frzR, bagEv, bagOf, bagChk, renB, obsB, topsB, nameIn, isRec, noTagB, nodupB, tagsOf, tagOf, PV.retag, PV.retag1]
section
variable (m : Mem) (lv a ver : Nat) (l : List Row)
theorem app70 (hm : mget m lv a [] = some [shC ver l]) (hl : l.length ≤ 512) : app E false (.fn 120 []) [.ptr lv a [] 0] m = some (.ptr m.length 0 [] 0, ⟨[(0, [shC 0 l])], []⟩, m) := by
  have hlv : lv ≠ m.length := by have := mget_lt hm; omega
  rw [app_fn E rfl h70 rfl]
  cases l with
  | nil =>
    have h := app110_nil true ([] :: m)
    simp only [shC] at hm
    simp [c70, hlv, hm, h, shC, bagName, frzV, frzR, bagEv, bagOf, bagChk, renB, obsB, topsB, nameIn, isRec, noTagB, nodupB, tagsOf, tagOf, PV.retag, PV.retag1]
  | cons x r =>
    have h := app110r ([] :: m) lv a ver x r (by simp [hlv, hm, shC]) (by simpa using hl)
    simp only [shC] at hm
    have hcl := rc_len (x :: r)
    have hca := rc_all (x :: r)
    have hdd := rc_data (x :: r)
    have hir : (∀ z ∈ Rc (x :: r), isRec z = false) = True := eq_true fun z hz => by
      have := List.all_eq_true.1 (rc_cell _) z hz
      cases z <;> first | rfl | (simp [PV.isCell] at this)
    have k1' := fun a b c => PV.datas_okns a b c _ hdd
    have k2' := fun a => PV.datas_deps a _ hdd
    have k3' := fun a => PV.datas_namess a _ hdd
    have k4' := fun a b c => PV.datas_rens a b c _ hdd
    simp only [List.length_cons] at hcl
    simp only [shC]
    generalize Rc (x :: r) = C at *
    simp [c70, hlv, hm, h, hcl, hca, hir, k1', k2', k3', k4', bagName, frzV, frzR, bagEv, bagOf, bagChk, renB, obsB, topsB, nameIn, isRec, noTagB, nodupB, tagsOf, tagOf, PV.retag, PV.retag1]
end
theorem shC_names (lv ver : Nat) (l : List Row) : PV.names lv (shC ver l) = [] := by cases l <;> simp [shC]
theorem shC_ren (a b : Nat) (ρ : Nat → Nat) (ver : Nat) (l : List Row) : PV.ren a b ρ (shC ver l) = shC ver l := by cases l <;> simp [shC]
theorem shC_okn (a : Nat) (ks ts : List Nat) (ver : Nat) (l : List Row) : PV.okn a ks ts (shC ver l) = true := by cases l <;> simp [shC]
theorem shC_rec (ver : Nat) (l : List Row) : isRec (shC ver l) = false := by cases l <;> rfl
section
variable {m : Mem} {lv a a' ver : Nat} {l : List Row} {c : Int} (hd : DA m lv a a' ver l c) (hk : Dok l)
include hd hk in
theorem app23 : app E false (.fn 51 []) [.ptr lv a [] 0] m = some (.ptr m.length 0 [] 0, ⟨[(0, [.ptr m.length 1 [] 0, .int .i64 c]), (1, [shC 0 l])], []⟩, m) := by
  have hlv : lv ≠ m.length := by have := hd.lv_lt; omega
  have hd1 := hd.d
  have h := app70 ([] :: m) lv a' ver l (hd.cons _).s hk.len
  rw [app_fn E rfl h23 rfl]
  have s1 := fun lv => shC_names lv 0 l
  have s2 := fun a b ρ => shC_ren a b ρ 0 l
  have s3 := fun a ks ts => shC_okn a ks ts 0 l
  have r1 : ∀ a b p o, isRec (.ptr a b p o) = false := fun _ _ _ _ => rfl
  have r2 : ∀ k n, isRec (.int k n) = false := fun _ _ => rfl
  have s4 := shC_rec 0 l
  generalize shC 0 l = S at *
  simp [c23, hlv, hd1, h, s1, s2, s3, s4, r1, r2, bagName, frzV, frzR, bagEv, bagOf, bagChk, renB, obsB, topsB, nameIn, noTagB, nodupB, tagsOf, tagOf, PV.retag, PV.retag1]
end
end Go.Proofs.Ytmffcpiffkclgaa.ZJM.DC
