/- The shelf, gone through: tell, All. -/
import Derived.Test.YtmffcpiffkclgaaZYD5
set_option linter.unusedSimpArgs false
set_option linter.unusedVariables false
set_option maxRecDepth 4000
namespace Go.Proofs.Ytmffcpiffkclgaa.ZJM.DC
open Go.Proofs.Ytmffcpiffkclgaa.ZJM Go.RowKit
section
variable (f : FuncId) (i : Nat) (fs : List Nat) (cap : List PV) (lv j : Nat)
@[simp] theorem isCell_rnd : PV.isCell (.rnd f i fs cap lv j) = true := rfl
@[simp] theorem isVal_rnd : PV.isVal (.rnd f i fs cap lv j) = true := rfl
@[simp] theorem cells_rnd : PV.cells (.rnd f i fs cap lv j) = [.rnd f i fs cap lv j] := rfl
@[simp] theorem untag1_rnd : PV.untag1 (.rnd f i fs cap lv j) = .rnd f i fs cap lv j := rfl
@[simp] theorem untag_rnd : PV.untag (.rnd f i fs cap lv j) = .rnd f i fs cap lv j := rfl
end
section
variable (m : Mem) (lv a ver : Nat) (l : List Row)
end
section
variable {σ : Type} (M : σ → Mem) (N : Nat) (hN : ∀ s,(M s).length = N) (l : List Row) (nl : Bool) (hl : l.length ≤ 512) (f0 : FuncId) (i0 : Nat) (fs0 : List Nat) (cap0 : List PV) (lv0 j0 : Nat) (hlv0 : lv0 < N) (hcap : ∀ n ks ts,N ≤ n → PV.okns n ks ts cap0 = true)
 (J : Nat → σ → Prop) (Stop : σ → Prop)
 (hyld : ∀ (i : Nat) (hi : i < l.length) (s : σ) (o1 : Lvl),J i s → ∃ b s',app E false (.rnd f0 i0 fs0 cap0 lv0 j0) [.int .i64 l[i].n,eny l[i].k l[i].a l[i].l l[i].h l[i].nl l[i].b] (o1 :: M s) = some (.bool b,emptyBag,o1 :: M s') ∧ (if b = true then J (i + 1) s' else Stop s'))
end
end Go.Proofs.Ytmffcpiffkclgaa.ZJM.DC
set_option linter.unusedSimpArgs false
set_option linter.unusedVariables false
set_option maxRecDepth 4000
namespace Go.Proofs.Ytmffcpiffkclgaa.ZJM.DC
open Go.Proofs.Ytmffcpiffkclgaa.ZJM Go.RowKit
section
variable {σ : Type} (M : σ → Mem) (N : Nat) (hN : ∀ s,(M s).length = N) (l : List Row) (hl : l.length ≤ 512) (f0 : FuncId) (i0 : Nat) (fs0 : List Nat) (cap0 : List PV) (lv0 j0 : Nat) (hlv0 : lv0 < N) (hcap : ∀ n ks ts,N ≤ n → PV.okns n ks ts cap0 = true)
 (J : Nat → σ → Prop) (Stop : σ → Prop)
section
variable (hyld : ∀ (i : Nat) (hi : i < l.length) (s : σ) (o1 o2 : Lvl),J i s → ∃ b s',app E false (.rnd f0 i0 fs0 cap0 lv0 j0) [.int .i64 l[i].n,eny l[i].k l[i].a l[i].l l[i].h l[i].nl l[i].b] (o1 :: o2 :: M s) = some (.bool b,emptyBag,o1 :: o2 :: M s') ∧ (if b = true then J (i + 1) s' else Stop s'))
end
end
section
variable {σ : Type} (M : σ → Mem) (N : Nat) (hN : ∀ s,(M s).length = N) (l : List Row) (hk : Dok l) (f0 : FuncId) (i0 : Nat) (fs0 : List Nat) (cap0 : List PV) (lv0 j0 : Nat) (hlv0 : lv0 < N)
 (J : Nat → σ → Prop) (Stop : σ → Prop)
 (hyld : ∀ (i : Nat) (hi : i < l.length) (s : σ) (o1 o2 o3 o4 : Lvl),J i s → ∃ b s',app E false (.rnd f0 i0 fs0 cap0 lv0 j0) [ky (l[i].n / 256) (l[i].n % 256)] (o1 :: o2 :: o3 :: o4 :: M s) = some (.bool b,emptyBag,o1 :: o2 :: o3 :: o4 :: M s') ∧ (if b = true then J (i + 1) s' else Stop s'))
end
end Go.Proofs.Ytmffcpiffkclgaa.ZJM.DC
set_option linter.unusedSimpArgs false
set_option linter.unusedVariables false
set_option maxRecDepth 4000
namespace Go.Proofs.Ytmffcpiffkclgaa.ZJM.DC
open Go.Proofs.Ytmffcpiffkclgaa.ZJM Go.RowKit
def fromW (l : List Row) (k : Int) : List Row := l.dropWhile fun x => decide (x.n < k)
section
variable {σ : Type} (M : σ → Mem) (N : Nat) (hN : ∀ s,(M s).length = N) (l : List Row) (hl : l.length ≤ 512) (hs : Rising l) (k : Int) (f0 : FuncId) (i0 : Nat) (fs0 : List Nat) (cap0 : List PV) (lv0 j0 : Nat) (hlv0 : lv0 < N) (hcap : ∀ n ks ts,N ≤ n → PV.okns n ks ts cap0 = true)
 (J : Nat → σ → Prop) (Stop : σ → Prop)
 (hyld : ∀ (i : Nat) (hi : i < (fromW l k).length) (s : σ) (o1 o2 : Lvl),J i s → ∃ b s',app E false (.rnd f0 i0 fs0 cap0 lv0 j0) [.int .i64 (fromW l k)[i].n,eny (fromW l k)[i].k (fromW l k)[i].a (fromW l k)[i].l (fromW l k)[i].h (fromW l k)[i].nl (fromW l k)[i].b] (o1 :: o2 :: M s) = some (.bool b,emptyBag,o1 :: o2 :: M s') ∧ (if b = true then J (i + 1) s' else Stop s'))
end
def subW (l : List Row) (i : Int) : List Row := if knum i 0 < 0 then [] else (fromW l (knum i 0)).takeWhile fun x => decide (x.n - knum i 0 < 256)
section
variable {σ : Type} (M : σ → Mem) (N : Nat) (hN : ∀ s,(M s).length = N) (l : List Row) (hk : Dok l) (ix : Int) (f0 : FuncId) (i0 : Nat) (fs0 : List Nat) (cap0 : List PV) (lv0 j0 : Nat) (hlv0 : lv0 < N)
 (J : Nat → σ → Prop) (Stop : σ → Prop)
 (hyld : ∀ (i : Nat) (hi : i < (subW l ix).length) (s : σ) (o1 o2 o3 o4 : Lvl),J i s → ∃ b s',app E false (.rnd f0 i0 fs0 cap0 lv0 j0) [.int .i64 ((subW l ix)[i].n - knum ix 0)] (o1 :: o2 :: o3 :: o4 :: M s) = some (.bool b,emptyBag,o1 :: o2 :: o3 :: o4 :: M s') ∧ (if b = true then J (i + 1) s' else Stop s'))
end
end Go.Proofs.Ytmffcpiffkclgaa.ZJM.DC
set_option linter.unusedSimpArgs false
set_option linter.unusedVariables false
set_option maxRecDepth 4000
namespace Go.Proofs.Ytmffcpiffkclgaa.ZJM.DC
open Go.Proofs.Ytmffcpiffkclgaa.ZJM Go.RowKit
def missW (l : List Row) (i : Int) : Int := if subW l i = [] then 100794368 else 101253137
section
variable {m : Mem} {lv a a' ver : Nat} {l : List Row} {c : Int} (hd : DA m lv a a' ver l c) (hk : Dok l)
end
structure FM (m : Mem) (dp : PV) (i s : Int) (o : Option Row) (mi : Int) : Prop where
 isd : isD dp
 finds : Finds m dp i s o
 miss : ∀ own : Lvl,app E false (.fn 142 []) [dp,ky i s] (own :: m) = some (.int .i64 mi,emptyBag,own :: m)
def readO (o : Option Row) (mi : Int) : Bool × List Int × Int := match o with
 | none => (true,[],mi)
 | some x => if readsA x.a = 0 then (x.nl,x.b,0) else (true,[],readsA x.a)
section
variable {m : Mem} {dp : PV} {i s : Int} {o : Option Row} {mi : Int} (hf : FM m dp i s o mi) (ho : okO o)
end
def writeO (o : Option Row) (mi : Int) (b : List Int) : Int := match o with
 | none => mi
 | some x => if writesA x.a = 0 then fitsA x.k x.a x.l x.h b else writesA x.a
section
variable {m : Mem} {lv a a' ver : Nat} {l : List Row} {c : Int} (hd : DA m lv a a' ver l c) (hk : Dok l)
end
end Go.Proofs.Ytmffcpiffkclgaa.ZJM.DC
set_option linter.unusedSimpArgs false
set_option linter.unusedVariables false
set_option maxRecDepth 4000
namespace Go.Proofs.Ytmffcpiffkclgaa.ZJM.DC
open Go.Proofs.Ytmffcpiffkclgaa.ZJM Go.RowKit
theorem app52 (m : Mem) : app E false (.fn 98 []) [] m = some (.ptr m.length 0 [] 0,⟨[(0,[shC 0 []])],[]⟩,m) := by
 rw [app_fn E rfl h52 rfl]
 simp [c52,shC,frzV,frzR,bagEv,bagOf,bagChk,renB,obsB,topsB,nameIn,isRec,noTagB,nodupB,tagsOf,tagOf,PV.retag,PV.retag1]
theorem app11 (m : Mem) : app E false (.fn 32 []) [] m = some (.ptr m.length 0 [] 0,⟨[(0,[.ptr m.length 1 [] 0,.int .i64 0]),(1,[shC 0 []])],[]⟩,m) := by
 have h := app52 ([] :: m)
 rw [app_fn E rfl h11 rfl]
 simp [c11,h,shC,bagName,frzV,frzR,bagEv,bagOf,bagChk,renB,obsB,topsB,nameIn,isRec,noTagB,nodupB,tagsOf,tagOf,PV.retag,PV.retag1]
section
variable (m : Mem) (lv a ver : Nat) (l : List Row)
end
theorem shC_names (lv ver : Nat) (l : List Row) : PV.names lv (shC ver l) = [] := by cases l <;> simp [shC]
theorem shC_ren (a b : Nat) (ρ : Nat → Nat) (ver : Nat) (l : List Row) : PV.ren a b ρ (shC ver l) = shC ver l := by cases l <;> simp [shC]
theorem shC_okn (a : Nat) (ks ts : List Nat) (ver : Nat) (l : List Row) : PV.okn a ks ts (shC ver l) = true := by cases l <;> simp [shC]
theorem shC_rec (ver : Nat) (l : List Row) : isRec (shC ver l) = false := by cases l <;> rfl
section
variable {m : Mem} {lv a a' ver : Nat} {l : List Row} {c : Int} (hd : DA m lv a a' ver l c) (hk : Dok l)
end
end Go.Proofs.Ytmffcpiffkclgaa.ZJM.DC
