/- All channels that do something: the program's range. -/
import Derived.Test.YtmffcpiffkclgaaZYW8
set_option linter.unusedSimpArgs false
set_option linter.unusedVariables false
set_option maxRecDepth 10000
namespace Go.Proofs.Ytmffcpiffkclgaa.ZJM.DC
open Go.Proofs.Ytmffcpiffkclgaa.ZJM Go.RowKit
def chF (r : RD) (k : Nat) : Nat → Int := loadT r (k : Int) 8
section
variable {σ : Type} (M : σ → Mem) (N : Nat) (hN : ∀ s,(M s).length = N) {lv a a' ver : Nat} {l : List Row} {c : Int} (hd : ∀ s,DA (M s) lv a a' ver l c) {r : RD} (hs : Sim l c r) (hk : skel r = skel rAll) (f0 : FuncId) (i0 : Nat) (fs0 : List Nat) (cap0 : List PV) (lv0 j0 : Nat) (hlv0 : lv0 < N) (hcap : ∀ n ks ts,N ≤ n → PV.okns n ks ts cap0 = true)
 (J : Nat → σ → Prop) (Stop : σ → Prop)
 (hyld : ∀ (k : Nat),k < 4 → ∀ (s : σ) (o1 : Lvl),chF r k 0 ≠ 0 → J k s → ∃ b s',app E false (.rnd f0 i0 fs0 cap0 lv0 j0) [.int .i64 (k : Int),.agg (CF (chF r k) 30)] (o1 :: M s) = some (.bool b,emptyBag,o1 :: M s') ∧ (if b = true then J (k + 1) s' else Stop s'))
 (hskip : ∀ (k : Nat),k < 4 → ∀ (s : σ),chF r k 0 = 0 → J k s → J (k + 1) s)
end
end Go.Proofs.Ytmffcpiffkclgaa.ZJM.DC
set_option linter.unusedSimpArgs false
set_option linter.unusedVariables false
set_option maxRecDepth 10000
namespace Go.Proofs.Ytmffcpiffkclgaa.ZJM.DC
open Go.Proofs.Ytmffcpiffkclgaa.ZJM Go.RowKit
section
variable (m : Mem) (lvb sb : Nat) (hb : mget m lvb sb [] = some [.nilp]) (f0 : FuncId) (i0 : Nat) (fs0 : List Nat) (cap0 : List PV) (lv0 j0 : Nat) (hlv0 : lv0 < m.length) (hcap : ∀ n ks ts,m.length ≤ n → PV.okns n ks ts cap0 = true)
end
section
variable {r : RD} (hr : r.ok) (hk : skel r = skel rAll) (ver : Nat) (rows : List Row) (c : Int) (sp : Int) (hsp : 0 ≤ sp ∧ sp ≤ 255)
end
end Go.Proofs.Ytmffcpiffkclgaa.ZJM.DC
