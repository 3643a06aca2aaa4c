/- A program's functions, known by their compact codes. -/
import Derived.Test.YtmffcpiffkclgaaGreatZJ20
namespace Go.Proofs.YtmffcpiffkclgaaGreat.ZJM
def fnsOf (l:List (Nat × CFn)):FuncId→Option CFn:=fun f=>get l f
def chkAt (P:Program) (p:Nat × CFn):Bool :=
 match P.funcs[p.1]? with
 | some fn=>chkFn P p.1 fn p.2
 | none=>false
theorem knows_of {P:Program} {l:List (Nat × CFn)} (h:∀ p∈l,chkAt P p=true):Knows P (fnsOf l):=by
 have key:∀ l:List (Nat × CFn),(∀ p∈l,chkAt P p=true)→∀ f c,get l f=some c→∃ fn,P.funcs[f]?=some fn∧chkFn P f fn c=true:=by
  intro l
  induction l with
  | nil=>intro _ f c h; cases h
  | cons p r ih =>
   intro h f c hc
   simp only [get] at hc
   split at hc
   ·rename_i he
    cases hc
    have:=h p List.mem_cons_self
    have he':=beq_iff_eq.1 he
    subst he'
    simp only [chkAt] at this
    split at this
    ·rename_i fn hfn; exact ⟨fn,hfn,this⟩
    ·cases this
   ·exact ih (fun q hq=>h q (List.mem_cons_of_mem _ hq)) f c hc
 exact fun f c hc=>key l h f c hc
theorem ball_nil {α:Type} {p:α→Prop}:∀ x∈([]:List α),p x:=fun x h=>by cases h
theorem ball_cons {α:Type} {p:α→Prop} {x:α} {r:List α} (h:p x) (k:∀ y∈r,p y):∀ y∈x::r,p y:=fun y hy=>by
 rcases List.mem_cons.1 hy with rfl | hy
 ·exact h
 ·exact k y hy
end Go.Proofs.YtmffcpiffkclgaaGreat.ZJM
