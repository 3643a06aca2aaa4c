/- A region, code, a call: the ideal machine is sound. -/
import Derived.Test.YtmffcpiffkclgaaZJ14
import Derived.OrdersIn
set_option linter.unusedSimpArgs false
set_option linter.unusedVariables false
namespace Go.Proofs.Ytmffcpiffkclgaa.ZJM
open Go.RowKit
def guardOk (ops : Array Oper) (o : Oper) (c : COp) : Bool :=
 match o.guard,c.guard with
 | none,none => true
 | some (j,b),some (s,b') => b == b' && decide ((ops[j]?).bind (·.dst) = some s)
 | _,_ => false
def chkOper (P : Program) (nt : Nat) (ops : Array Oper) (o : Oper) (c : COp) : Bool := chkC P o.op c.op c.args && chkDst nt o c && guardOk ops o c
def chkOps (P : Program) (nt : Nat) (ops : Array Oper) : List Oper → List COp → Bool
 | [],[] => true
 | o :: os,c :: cs => chkOper P nt ops o c && chkOps P nt ops os cs
 | _,_ => false
section
variable {P : Program} {okP : OkP × Tab} {d nt : Nat} {m0 : Mem} {g0 : Gh} {w0 : World}
theorem chkC_defer {c : Call} {k : OpC} {args : List Opd} : chkC P (.defer c) k args = false := by cases k <;> rfl
theorem semAt_ok {ro : Option Nat} {o : Oper} {c : OpC} {args : List Opd} (hk : chkC P o.op c args = true) (ρ : Operand → Value) : o.semAt ro ρ = execOp ρ o :=
 Oper.semAt_eq ro ρ o fun x hx => by rw [hx,chkC_defer] at hk; cases hk
theorem InvE.und {st : St} {a : Act} {w : World} (h : InvE d nt m0 g0 w0 st a w) {dst : Option Nat} (hd : ∀ t,dst = some t → t < nt) : InvE d nt m0 g0 w0 (st.put dst .und) (a.put dst undef) w := by
 obtain ⟨g,om,szm,h⟩ := h
 exact ⟨g,om,szm,h.put hd .und (by simp only [Tg]; trivial)⟩
theorem wanted_none {o : Oper} (h : o.guard = none) (y : Nat → Option Bool) : Region.wanted o y = true := by simp [Region.wanted,h]
theorem wanted_some {o : Oper} {j : Nat} {b : Bool} (h : o.guard = some (j,b)) (y : Nat → Option Bool) : Region.wanted o y = (y j == some b) := by simp [Region.wanted,h]
theorem yielded_ok {st : St} {a : Act} {w : World} (h : InvE d nt m0 g0 w0 st a w) {ops : Array Oper} {j s : Nat} (hj : (ops[j]?).bind (·.dst) = some s) {b : Bool} (hs : get st.f s = some (.bool b)) : yielded ops a.tmps j = some b := by
 obtain ⟨g,om,szm,h⟩ := h
 obtain ⟨h1,h2,_⟩ := h.f s _ hs
 have h3 : a.tmps.getD s undef = .bool b := by generalize a.tmps.getD s undef = q at h2; cases h2; rfl
 have hlt : s < a.tmps.size := by rw [h.nt]; exact h1
 have h4 : a.tmps[s]? = some (.bool b) := by
  rw [Array.getD_eq_getD_getElem?,Array.getElem?_eq_getElem hlt,Option.getD_some] at h3
  rw [Array.getElem?_eq_getElem hlt,h3]
 simp [yielded,hj,h4]
theorem yielded_und {st : St} {a : Act} {w : World} (h : InvE d nt m0 g0 w0 st a w) {ops : Array Oper} {j s : Nat} (hj : (ops[j]?).bind (·.dst) = some s) (hs : get st.f s = some .und) : yielded ops a.tmps j = none := by
 obtain ⟨g,om,szm,h⟩ := h
 obtain ⟨h1,h2,_⟩ := h.f s _ hs
 have h3 : a.tmps.getD s undef = undef := by generalize a.tmps.getD s undef = q at h2; cases h2; rfl
 have hlt : s < a.tmps.size := by rw [h.nt]; exact h1
 have h4 : a.tmps[s]? = some undef := by
  rw [Array.getD_eq_getD_getElem?,Array.getElem?_eq_getElem hlt,Option.getD_some] at h3
  rw [Array.getElem?_eq_getElem hlt,h3]
 simp [yielded,hj,h4,undef]
theorem cop_ok {ro : Option Nat} {K : Callee} (hK : Snd P okP K) (hok : OkG okP g0 w0) {ops : Array Oper} {o : Oper} {c : COp} (hc : chkOper P nt ops o c = true) {st st' : St} {a : Act} {w : World} (h : InvE d nt m0 g0 w0 st a w) (he : c.ev K st = some st')
  {next : Act → World → Prop} {Q : Exit → Act → World → Prop} (hn : ∀ a' w',InvE d nt m0 g0 w0 st' a' w' → next a' w') :
  if Region.wanted o (yielded ops a.tmps) then o.wpIn (Fw ro) 0 P a w next Q else (∀ f,o.about P w a.eval = some f → (Fw ro).fn f) ∧ next (a.put o.dst undef) w := by
 simp only [chkOper,Bool.and_eq_true] at hc
 obtain ⟨⟨hc1,hc2⟩,hc3⟩ := hc
 have run : ∀ vs,evs st.f c.args = some vs → opEv K c.dst c.op vs st = some st' → o.wpIn (Fw ro) 0 P a w next Q := by
  intro vs hv hop
  obtain ⟨g,om,szm,hi⟩ := h
  refine ⟨fun _ _ => trivial,?_⟩
  have hsem : o.semAt (Fw ro).round a.eval = execOp a.eval o := semAt_ok hc1 a.eval
  rw [hsem]
  exact op_ok hK hok hi hc1 hc2 hv hop hn
 simp only [COp.ev] at he
 cases hg : o.guard with
 | none =>
  rw [wanted_none hg,if_pos rfl]
  have hcg : c.guard = none := by
   simp only [guardOk,hg] at hc3
   split at hc3 <;> first | assumption | cases hc3 | simp_all
  rw [hcg] at he
  simp only at he
  split at he
  ·rename_i vs hv; exact run vs hv he
  ·cases he
 | some p =>
  obtain ⟨j,b⟩ := p
  obtain ⟨s,hcg,hjs⟩ : ∃ s,c.guard = some (s,b) ∧ (ops[j]?).bind (·.dst) = some s := by
   simp only [guardOk,hg] at hc3
   split at hc3
   ·simp_all
   ·rename_i j' b1 s b' h1 h2
    simp only [Bool.and_eq_true,beq_iff_eq,decide_eq_true_eq] at hc3
    cases h1
    obtain ⟨rfl,h3⟩ := hc3
    exact ⟨s,h2,h3⟩
   ·cases hc3
  rw [hcg] at he
  simp only at he
  split at he
  ·rename_i b2 hs
   have hy := yielded_ok h hjs hs
   rw [wanted_some hg,hy]
   split at he
   ·rename_i hb
    have : b2 = b := beq_iff_eq.1 hb
    subst this
    simp only [beq_self_eq_true,if_true]
    split at he
    ·rename_i vs hv; exact run vs hv he
    ·cases he
   ·rename_i hb
    have hne : b2 ≠ b := by simpa using hb
    cases he
    rw [if_neg (by simpa using hne)]
    refine ⟨fun _ _ => trivial,hn _ _ ?_⟩
    have hdst : o.dst = c.dst := by simp only [chkDst,Bool.and_eq_true,decide_eq_true_eq] at hc2; exact hc2.1.1
    rw [hdst]
    refine h.und fun t ht => ?_
    simp only [chkDst,Bool.and_eq_true,decide_eq_true_eq] at hc2
    have := hc2.1.2
    rw [ht] at this
    simpa using this
  ·rename_i hs
   have hy := yielded_und h hjs hs
   rw [wanted_some hg,hy]
   cases he
   rw [if_neg (by simp)]
   refine ⟨fun _ _ => trivial,hn _ _ ?_⟩
   have hdst : o.dst = c.dst := by simp only [chkDst,Bool.and_eq_true,decide_eq_true_eq] at hc2; exact hc2.1.1
   rw [hdst]
   refine h.und fun t ht => ?_
   simp only [chkDst,Bool.and_eq_true,decide_eq_true_eq] at hc2
   have := hc2.1.2
   rw [ht] at this
   simpa using this
  ·cases he
theorem reg_ok {ro : Option Nat} {K : Callee} (hK : Snd P okP K) (hok : OkG okP g0 w0) {ops : Array Oper} {Q : Exit → Act → World → Prop} : ∀ {cs : List COp} {os : List Oper} {i : Nat} {st st' : St} {a : Act} {w : World},
  chkOps P nt ops os cs = true → (∀ j o,os[j]? = some o → ops[i + j]? = some o) → InvE d nt m0 g0 w0 st a w → regEv K cs st = some st' → (∀ a' w',InvE d nt m0 g0 w0 st' a' w' → Q .normal a' w') →
  wpOpsIn (Fw ro) 0 P ops Q (List.range' i os.length) a w
 | [],[],i,st,st',a,w,_,_,h,he,hq => by
  simp only [regEv,Option.some.injEq] at he; subst he
  exact hq a w h
 | c :: cs,o :: os,i,st,st',a,w,hk,ho,h,he,hq => by
  simp only [chkOps,Bool.and_eq_true] at hk
  simp only [regEv] at he
  split at he
  ·rename_i st1 h1
   have ho0 := ho 0 o rfl
   simp only [Nat.add_zero] at ho0
   have := cop_ok (ro := ro) hK hok hk.1 h h1 (next := wpOpsIn (Fw ro) 0 P ops Q (List.range' (i + 1) os.length)) (Q := Q)
    (fun a' w' hi => reg_ok hK hok hk.2 (fun j o hj => by have := ho (j + 1) o (by simpa using hj); rwa [show i + (j + 1) = i + 1 + j by omega] at this) hi he hq)
   simp only [List.length_cons,List.range'_succ,wpOpsIn,ho0]
   exact this
  ·cases he
 | [],_ :: _,_,_,_,_,_,hk,_,_,_,_ => by simp [chkOps] at hk
 | _ :: _,[],_,_,_,_,_,hk,_,_,_,_ => by simp [chkOps] at hk
end
end Go.Proofs.Ytmffcpiffkclgaa.ZJM
set_option linter.unusedSimpArgs false
set_option linter.unusedVariables false
namespace Go.Proofs.Ytmffcpiffkclgaa.ZJM
open Go.RowKit
def opdSlot : Opd → Option Nat
 | .t n => some n
 | .c _ => none
def slotsOf (c : COp) : List Nat := (match c.guard with | some (g,_) => [g] | none => []) ++ c.args.filterMap opdSlot
def touches (s : Option Nat) (c : COp) : Bool :=
 match s with
 | some s => (slotsOf c).contains s || c.dst == some s
 | none => false
def edgeMask (rows : List Nat) (j : Nat) : List Edge → Nat
 | [] => 0
 | e :: r => if (Region.binds .any e && decide (e.on < j)) = true then (2 ^ e.on ||| rows.getD e.on 0) ||| edgeMask rows j r else edgeMask rows j r
def rowOk (rows : List Nat) (j : Nat) (o : Oper) : Bool :=
 (rows.getD j 0 &&& edgeMask rows j o.after.toList == rows.getD j 0) && o.after.all fun e => !Region.binds .any e || decide (e.on < j)
def pairsOk (rows : List Nat) (cs : List COp) (n : Nat) : Bool :=
 (List.range n).all fun i => (List.range i).all fun j => match cs[i]?,cs[j]? with
  | some a,some b => !(touches b.dst a || touches a.dst b) || (rows.getD i 0).testBit j
  | _,_ => true
def bslOk (c : COp) : Bool :=
 match c.op with
 | .bsl _ _ _ => c.dst.isSome
 | .s2b _ _ => c.dst.isSome
 | _ => true
def flatC : PV → Bool
 | .bool _ | .int _ _ | .str _ | .lst _ _ _ _ | .nilp | .nilfn | .nilif => true
 | _ => false
def allocC (c : COp) : Bool :=
 match c with
 | ⟨some _,none,.alloc z,[]⟩ => z.all flatC
 | _ => false
def lightC (c : COp) : Bool := c.guard.isNone && (allocC c || calmOp c.op || (match c.op with | .store _ => true | .load _ _ => true | _ => false))
def floatOk (rows : List Nat) (k i j : Nat) (ci cj : COp) : Bool := (rows.getD i 0).testBit j || (decide (j < k) && lightC ci && !(touches cj.dst ci || touches ci.dst cj) && (calmOp cj.op || allocC ci))
def tailOk (rows : List Nat) (k : Nat) (cs : List COp) : Bool := (List.range cs.length).all fun i => decide (i < k) || (List.range i).all fun j => match cs[i]?,cs[j]? with
 | some ci,some cj => floatOk rows k i j ci cj
 | _,_ => false
def rowsOk (rows : List Nat) : Nat → List Oper → Bool
 | _,[] => true
 | j,o :: os => rowOk rows j o && rowsOk rows (j + 1) os
def drawOk (ops : Array Oper) (cs : List COp) (k : Nat) (rows : List Nat) : Bool :=
 cs.all bslOk && decide (k ≤ cs.length) && rowsOk rows 0 ops.toList && pairsOk rows cs k && tailOk rows k cs
section
variable {P : Program} {okP : OkP × Tab} {d nt : Nat} {m0 : Mem} {g0 : Gh} {w0 : World}
theorem opH_ok {ro : Option Nat} {K : Callee} (hK : Snd P okP K) (hok : OkG okP g0 w0) {g : Gh} {om : Nat → Value} {szm : Nat → Nat} {st : St} {a : Act} {w : World} (h : Inv d nt m0 g0 w0 g om szm st a w) {o : Oper} {c : COp} (hk : chkC P o.op c.op c.args = true) (hdst : chkDst nt o c = true) (hbs : bslOk c = true) {vs : List PV} (hv : evs st.f c.args = some vs)
  {v : PV} (he : opH K c.op vs st = some v) {next : Act → World → Prop} {Q : Exit → Act → World → Prop} (hn : ∀ a' w',InvE d nt m0 g0 w0 (st.put c.dst v) a' w' → next a' w') :
  o.uponIn (Fw ro) 0 P a next Q ((execOp a.eval o).run P w) := by
 have hdst0 := hdst
 simp only [chkDst,Bool.and_eq_true,decide_eq_true_eq] at hdst
 obtain ⟨⟨hd1,hd2⟩,hd3⟩ := hdst
 have hd : ∀ t,c.dst = some t → t < nt := fun t ht => by rw [ht] at hd2; simpa using hd2
 have pure_case : ∀ v',c.op.ev st.own st.m vs = some v' → v' = v → o.uponIn (Fw ro) 0 P a next Q ((execOp a.eval o).run P w) := by
  intro v' hv' hst
  subst hst
  obtain ⟨r,h1,h2,h3⟩ := pure_ok h hk hv hv'
  rw [h1,Oper.uponIn_value,hd1]
  exact hn _ _ ⟨g,om,szm,h.put hd h2 h3⟩
 obtain ⟨cdst,cg,cop,cargs⟩ := c
 simp only at hk hv he hd1 hd2 hd3 hd pure_case hn
 cases cop
 case nil tag sz e =>
  simp only [opH] at he
  split at he
  ·cases he
  ·rename_i ht
   have ht' : tag = false := by simpa using ht
   subst ht'
   cases he
   have key : (execOp a.eval o).run P w = .ok (.value (.slice none 0 0)) w := by
    obtain ⟨dst,op,ty,pos,aft,gd⟩ := o
    simp only [chkC] at hk
    split at hk
    ·rfl
    ·rfl
    ·cases hk
   rw [key,Oper.uponIn_value,hd1]
   exact hn _ _ ⟨g,om,szm,h.put hd (.nil none sz) (by simp only [Tg]; trivial)⟩
 case bsl tag sz e =>
  simp only [opH] at he
  split at he
  ·cases he
  ·rename_i ht
   have ht' : tag = false := by simpa using ht
   subst ht'
   split at he
   ·cases he
   rename_i hmark
   split at he
   ·rename_i hsz
    cases he
    cases cdst with
    | none => simp [bslOk] at hbs
    | some dd =>
     refine op_ok (ro := ro) hK hok h (c := ⟨some dd,cg,.bsl false sz e,cargs⟩) hk hdst0 hv (st' := st.put (some dd) (.lst none false sz (vs.map PV.untag))) ?_ hn
     simp [opEv,hmark,hsz,newList,St.put]
   ·cases he
 case s2b tag e =>
  simp only [opH] at he
  split at he
  ·cases he
  ·rename_i ht
   have ht' : tag = false := by simpa using ht
   subst ht'
   unfold s2bH at he
   split at he
   ·split at he
    ·rename_i hsz
     cases he
     cases cdst with
     | none => simp [bslOk] at hbs
     | some dd =>
      refine op_ok (ro := ro) hK hok h (c := ⟨some dd,cg,.s2b false e,cargs⟩) hk hdst0 hv (st' := st.put (some dd) _) ?_ hn
      simp [opEv,on1,s2bEv,hsz,newList,St.put]
    ·cases he
   ·cases he
 case call f pr =>
  simp only [opH] at he
  split at he
  case isTrue => cases he
  obtain ⟨dst,op,ty,pos,aft,gd⟩ := o
  simp only [chkC] at hk
  split at hk
  ·rename_i f' as ts
   simp only [Bool.and_eq_true,beq_iff_eq] at hk
   obtain ⟨rfl,hk⟩ := hk
   obtain ⟨hl,hV⟩ := opds_V h hk hv
   obtain ⟨hl2,hV2⟩ := args_V (a := a) (g := g) hl (fun i v x h1 h2 => (hV i v x h1 h2).1)
   simp only at hd1
   refine call_step rfl rfl rfl (callH_ok hK hok h (rf := .func (.func f) #[] #[]) he (.fn f [] #[] rfl (fun j c hj => by simp at hj)) hl2 hV2) ?_
   rintro rv w' ⟨g',hi,hvv,hu⟩
   simp only
   rw [hd1]
   exact hn _ _ ⟨g',om,szm,hi.put hd hvv hu⟩
  ·cases hk
 case callh f =>
  simp only [opH] at he
  obtain ⟨dst,op,ty,pos,aft,gd⟩ := o
  simp only [chkC] at hk
  split at hk
  ·rename_i f' as ts
   simp only [Bool.and_eq_true,beq_iff_eq] at hk
   obtain ⟨rfl,hk⟩ := hk
   obtain ⟨hl,hV⟩ := opds_V h hk hv
   obtain ⟨hl2,hV2⟩ := args_V (a := a) (g := g) hl (fun i v x h1 h2 => (hV i v x h1 h2).1)
   simp only at hd1
   refine call_step rfl rfl rfl (callH_ok hK hok h (rf := .func (.func f) #[] #[]) he (.fn f [] #[] rfl (fun j c hj => by simp at hj)) hl2 hV2) ?_
   rintro rv w' ⟨g',hi,hvv,hu⟩
   simp only
   rw [hd1]
   exact hn _ _ ⟨g',om,szm,hi.put hd hvv hu⟩
  ·cases hk
 case callv =>
  simp only [opH] at he
  obtain ⟨dst,op,ty,pos,aft,gd⟩ := o
  simp only [chkC] at hk
  split at hk
  ·rename_i x as ts
   unfold callHv at he
   split at he
   ·rename_i fv vs'
    obtain ⟨hl,hV⟩ := opds_V h hk hv
    have hx := hV 0 fv x rfl rfl
    obtain ⟨hl2,hV2⟩ := args_V (a := a) (g := g) (as := as) (vs := vs') (by simpa using hl) (fun i v y h1 h2 => (hV (i + 1) v y (by simpa using h1) (by simpa using h2)).1)
    simp only at hd1
    refine callv_step rfl rfl rfl (callH_ok hK hok h he hx.1 hl2 hV2) ?_
    rintro rv w' ⟨g',hi,hvv,hu⟩
    simp only
    rw [hd1]
    exact hn _ _ ⟨g',om,szm,hi.put hd hvv hu⟩
   ·cases he
  ·cases hk
 case callvh =>
  simp only [opH] at he
  obtain ⟨dst,op,ty,pos,aft,gd⟩ := o
  simp only [chkC] at hk
  split at hk
  ·rename_i x as ts
   unfold callHv at he
   split at he
   ·rename_i fv vs'
    obtain ⟨hl,hV⟩ := opds_V h hk hv
    have hx := hV 0 fv x rfl rfl
    obtain ⟨hl2,hV2⟩ := args_V (a := a) (g := g) (as := as) (vs := vs') (by simpa using hl) (fun i v y h1 h2 => (hV (i + 1) v y (by simpa using h1) (by simpa using h2)).1)
    simp only at hd1
    refine callv_step rfl rfl rfl (callH_ok hK hok h he hx.1 hl2 hV2) ?_
    rintro rv w' ⟨g',hi,hvv,hu⟩
    simp only
    rw [hd1]
    exact hn _ _ ⟨g',om,szm,hi.put hd hvv hu⟩
   ·cases he
  ·cases hk
 all_goals
  simp only [opH] at he
  exact pure_case v he rfl
theorem copH_ok {ro : Option Nat} {K : Callee} (hK : Snd P okP K) (hok : OkG okP g0 w0) {ops : Array Oper} {o : Oper} {c : COp} (hc : chkOper P nt ops o c = true) (hbs : bslOk c = true) {st : St} {v : PV} {a : Act} {w : World} (h : InvE d nt m0 g0 w0 st a w) (he : c.evH K st = some v)
  {next : Act → World → Prop} {Q : Exit → Act → World → Prop} (hn : ∀ a' w',InvE d nt m0 g0 w0 (st.put c.dst v) a' w' → next a' w') :
  if Region.wanted o (yielded ops a.tmps) then o.wpIn (Fw ro) 0 P a w next Q else (∀ f,o.about P w a.eval = some f → (Fw ro).fn f) ∧ next (a.put o.dst undef) w := by
 simp only [chkOper,Bool.and_eq_true] at hc
 obtain ⟨⟨hc1,hc2⟩,hc3⟩ := hc
 have run : ∀ vs,evs st.f c.args = some vs → opH K c.op vs st = some v → o.wpIn (Fw ro) 0 P a w next Q := by
  intro vs hv hop
  obtain ⟨g,om,szm,hi⟩ := h
  refine ⟨fun _ _ => trivial,?_⟩
  have hsem : o.semAt (Fw ro).round a.eval = execOp a.eval o := semAt_ok hc1 a.eval
  rw [hsem]
  exact opH_ok hK hok hi hc1 hc2 hbs hv hop hn
 simp only [COp.evH] at he
 cases hg : o.guard with
 | none =>
  rw [wanted_none hg,if_pos rfl]
  have hcg : c.guard = none := by
   simp only [guardOk,hg] at hc3
   split at hc3 <;> first | assumption | cases hc3 | simp_all
  rw [hcg] at he
  simp only at he
  split at he
  ·rename_i vs hv; exact run vs hv he
  ·cases he
 | some p =>
  obtain ⟨j,b⟩ := p
  obtain ⟨s,hcg,hjs⟩ : ∃ s,c.guard = some (s,b) ∧ (ops[j]?).bind (·.dst) = some s := by
   simp only [guardOk,hg] at hc3
   split at hc3
   ·simp_all
   ·rename_i j' b1 s b' h1 h2
    simp only [Bool.and_eq_true,beq_iff_eq,decide_eq_true_eq] at hc3
    cases h1
    obtain ⟨rfl,h3⟩ := hc3
    exact ⟨s,h2,h3⟩
   ·cases hc3
  rw [hcg] at he
  simp only at he
  split at he
  ·rename_i b2 hs
   have hy := yielded_ok h hjs hs
   rw [wanted_some hg,hy]
   split at he
   ·rename_i hb
    have : b2 = b := beq_iff_eq.1 hb
    subst this
    simp only [beq_self_eq_true,if_true]
    split at he
    ·rename_i vs hv; exact run vs hv he
    ·cases he
   ·rename_i hb
    have hne : b2 ≠ b := by simpa using hb
    cases he
    rw [if_neg (by simpa using hne)]
    refine ⟨fun _ _ => trivial,hn _ _ ?_⟩
    have hdst : o.dst = c.dst := by simp only [chkDst,Bool.and_eq_true,decide_eq_true_eq] at hc2; exact hc2.1.1
    rw [hdst]
    refine h.und fun t ht => ?_
    simp only [chkDst,Bool.and_eq_true,decide_eq_true_eq] at hc2
    have := hc2.1.2
    rw [ht] at this
    simpa using this
  ·rename_i hs
   have hy := yielded_und h hjs hs
   rw [wanted_some hg,hy]
   cases he
   rw [if_neg (by simp)]
   refine ⟨fun _ _ => trivial,hn _ _ ?_⟩
   have hdst : o.dst = c.dst := by simp only [chkDst,Bool.and_eq_true,decide_eq_true_eq] at hc2; exact hc2.1.1
   rw [hdst]
   refine h.und fun t ht => ?_
   simp only [chkDst,Bool.and_eq_true,decide_eq_true_eq] at hc2
   have := hc2.1.2
   rw [ht] at this
   simpa using this
  ·cases he
end
end Go.Proofs.Ytmffcpiffkclgaa.ZJM
set_option linter.unusedSimpArgs false
set_option linter.unusedVariables false
namespace Go.Proofs.Ytmffcpiffkclgaa.ZJM
open Go.RowKit
def putf (f : List (Nat × PV)) (d : Option Nat) (v : PV) : List (Nat × PV) :=
 match d with
 | some d => (d,v) :: f
 | none => f
def putL (p : Nat → Bool) : Nat → List (COp × PV) → List (Nat × PV) → List (Nat × PV)
 | _,[],f => f
 | i,x :: r,f => putL p (i + 1) r (if p i = true then putf f x.1.dst x.2 else f)
theorem get_putf (f : List (Nat × PV)) (d : Option Nat) (v : PV) (t : Nat) : get (putf f d v) t = if d = some t then some v else get f t := by
 cases d with
 | none => simp [putf]
 | some d => rw [putf,get_cons]; by_cases h : d = t <;> simp [h]
theorem putL_congr {p q : Nat → Bool} {s : Nat} : ∀ {l : List (COp × PV)} {i : Nat} {f f' : List (Nat × PV)},get f s = get f' s → (∀ m x,l[m]? = some x → x.1.dst = some s → p (i + m) = q (i + m)) → get (putL p i l f) s = get (putL q i l f') s
 | [],_,_,_,h,_ => h
 | x :: r,i,f,f',h,hq => by
  simp only [putL]
  refine putL_congr ?_ fun m y hm hy => by have := hq (m + 1) y (by simpa using hm) hy; rwa [show i + (m + 1) = i + 1 + m by omega] at this
  have h0 := hq 0 x rfl
  simp only [Nat.add_zero] at h0
  by_cases hx : x.1.dst = some s
  ·rw [h0 hx]
   split
   ·rw [get_putf,get_putf,if_pos hx,if_pos hx]
   ·exact h
  ·have e1 : ∀ (b : Bool) (g : List (Nat × PV)),get (if b = true then putf g x.1.dst x.2 else g) s = get g s := by
    intro b g
    split
    ·rw [get_putf,if_neg hx]
    ·rfl
   rw [e1,e1,h]
theorem putL_last {p : Nat → Bool} {s : Nat} : ∀ {l : List (COp × PV)} {i m : Nat} {f : List (Nat × PV)} {x : COp × PV},l[m]? = some x → x.1.dst = some s → p (i + m) = true →
  (∀ m' y,m < m' → l[m']? = some y → y.1.dst = some s → p (i + m') = false) → get (putL p i l f) s = some x.2
 | [],_,_,_,_,h,_,_,_ => by simp at h
 | x :: r,i,0,f,y,h,hd,hp,hl => by
  simp only [List.getElem?_cons_zero,Option.some.injEq] at h
  subst h
  simp only [putL]
  simp only [Nat.add_zero] at hp
  rw [if_pos hp]
  rw [putL_congr (q := fun _ => false) (f' := putf f x.1.dst x.2) rfl fun m y hm hy => by have := hl (m + 1) y (by omega) (by simpa using hm) hy; rwa [show i + (m + 1) = i + 1 + m by omega] at this]
  have : ∀ (l : List (COp × PV)) (i : Nat) (f : List (Nat × PV)),putL (fun _ => false) i l f = f := by
   intro l
   induction l with
   | nil => intro i f; rfl
   | cons z r ih => intro i f; simp [putL,ih]
  rw [this,get_putf,if_pos hd]
 | x :: r,i,m + 1,f,y,h,hd,hp,hl => by
  simp only [putL]
  refine putL_last (m := m) (by simpa using h) hd (by rwa [show i + 1 + m = i + (m + 1) by omega]) fun m' z hm hz hzd => ?_
  have := hl (m' + 1) z (by omega) (by simpa using hz) hzd
  rwa [show i + (m' + 1) = i + 1 + m' by omega] at this
theorem St.put_eq (st : St) (d : Option Nat) (v : PV) : st.put d v = { st with f := putf st.f d v } := by cases d <;> rfl
theorem headVs_spec {K : Callee} : ∀ {cs : List COp} {st st' : St},headEv K cs st = some st' → ∃ l : List (COp × PV),l.map (·.1) = cs ∧ st' = { st with f := putL (fun _ => true) 0 l st.f } ∧
  ∀ (j : Nat) (x : COp × PV),l[j]? = some x → x.1.evH K { st with f := putL (fun m => decide (m < j)) 0 l st.f } = some x.2
 | [],st,st',h => by simp only [headEv,Option.some.injEq] at h; subst h; exact ⟨[],rfl,rfl,fun j x hj => by simp at hj⟩
 | c :: cs,st,st',h => by
  simp only [headEv] at h
  split at h
  ·rename_i v hv
   obtain ⟨l,h1,h2,h3⟩ := headVs_spec h
   have shift : ∀ (p q : Nat → Bool) (l : List (COp × PV)) (i i' : Nat) (f : List (Nat × PV)),(∀ m,p (i + m) = q (i' + m)) → putL p i l f = putL q i' l f := by
    intro p q l
    induction l with
    | nil => intros; rfl
    | cons y r ih =>
     intro i i' f hpq
     simp only [putL]
     have h0 := hpq 0
     simp only [Nat.add_zero] at h0
     rw [h0]
     exact ih _ _ _ fun m => by have := hpq (m + 1); rwa [show i + (m + 1) = i + 1 + m by omega,show i' + (m + 1) = i' + 1 + m by omega] at this
   have none : ∀ (p : Nat → Bool) (l : List (COp × PV)) (i : Nat) (f : List (Nat × PV)),(∀ m,p (i + m) = false) → putL p i l f = f := by
    intro p l
    induction l with
    | nil => intros; rfl
    | cons y r ih =>
     intro i f hp
     have h0 := hp 0
     simp only [Nat.add_zero] at h0
     simp only [putL,h0]
     exact ih _ _ fun m => by have := hp (m + 1); rwa [show i + (m + 1) = i + 1 + m by omega] at this
   refine ⟨(c,v) :: l,by simp [h1],?_,fun j x hj => ?_⟩
   ·rw [h2,St.put_eq]
    simp only [putL,if_pos]
    rw [shift (fun _ => true) (fun _ => true) l 0 (0 + 1) _ (fun _ => rfl)]
   ·cases j with
    | zero =>
     simp only [List.getElem?_cons_zero,Option.some.injEq] at hj
     subst hj
     simp only [putL]
     rw [none _ l _ _ (fun m => by simp)]
     simpa using hv
    | succ j =>
     have := h3 j x (by simpa using hj)
     rw [St.put_eq] at this
     simp only [putL]
     rw [if_pos (by simp),shift (fun m => decide (m < j + 1)) (fun m => decide (m < j)) l (0 + 1) 0 _ (fun m => by simp only [decide_eq_decide]; omega)]
     exact this
  ·cases h
theorem evs_congr {f f' : List (Nat × PV)} : ∀ {as : List Opd},(∀ s ∈ as.filterMap opdSlot,get f s = get f' s) → evs f as = evs f' as
 | [],_ => rfl
 | .t n :: r,h => by
  have h0 := h n (by simp [opdSlot])
  have h1 := evs_congr (as := r) fun s hs => h s (by simp only [List.filterMap_cons,opdSlot]; exact List.mem_cons_of_mem _ hs)
  simp only [evs,Opd.ev,h0,h1]
 | .c v :: r,h => by
  have h1 := evs_congr (as := r) fun s hs => h s (by simp only [List.filterMap_cons,opdSlot]; exact hs)
  simp only [evs,Opd.ev,h1]
theorem evH_congr {K : Callee} {st : St} {c : COp} {f f' : List (Nat × PV)} (h : ∀ s ∈ slotsOf c,get f s = get f' s) : c.evH K { st with f := f } = c.evH K { st with f := f' } := by
 have h1 : evs f c.args = evs f' c.args := evs_congr fun s hs => h s (by simp only [slotsOf,List.mem_append]; exact .inr hs)
 have h2 : ∀ vs,opH K c.op vs { st with f := f } = opH K c.op vs { st with f := f' } := by intro vs; cases c.op <;> rfl
 simp only [COp.evH,h1,h2]
 split
 ·rfl
 ·rename_i g b hg
  have : get f g = get f' g := h g (by simp [slotsOf,hg])
  simp only [this]
section
variable {P : Program} {okP : OkP × Tab} {d nt : Nat} {m0 : Mem} {g0 : Gh} {w0 : World}
theorem InvE.congr {st : St} {a : Act} {w : World} (h : InvE d nt m0 g0 w0 st a w) {f' : List (Nat × PV)} (hf : ∀ t,get f' t = get st.f t) : InvE d nt m0 g0 w0 { st with f := f' } a w := by
 obtain ⟨g,om,szm,h⟩ := h
 exact ⟨g,om,szm,⟨h.rel,h.lv,fun t v hv => h.f t v (by rwa [← hf t]),h.nt,h.df,h.dn,h.own,h.apart,h.kp,h.nm,h.nmL,h.roots⟩⟩
theorem InvE.drawn {st : St} {a : Act} {w : World} (h : InvE d nt m0 g0 w0 st a w) {n : Nat} : InvE d nt m0 g0 w0 st a { w with drawn := n } := by
 obtain ⟨g,om,szm,h⟩ := h
 exact ⟨g,om,szm,⟨⟨h.rel.hG,h.rel.hM,h.rel.hL,h.rel.inj,h.rel.injL,h.rel.ver,h.rel.lv,h.rel.lpv,h.rel.bd,h.rel.bdL,h.rel.pre⟩,h.lv,h.f,h.nt,h.df,h.dn,fun n p hp => h.own n p hp,h.apart,⟨h.kp.size,h.kp.keep,h.kp.G,h.kp.blk,h.kp.lpl,h.kp.new,h.kp.newL,h.kp.root,h.kp.os,h.kp.tape,h.kp.output,h.kp.ok⟩,h.nm,h.nmL,h.roots⟩⟩
theorem edgeMask_bit {rows : List Nat} {j i : Nat} : ∀ {es : List Edge},(edgeMask rows j es).testBit i = true → ∃ e ∈ es,Region.binds .any e = true ∧ (i = e.on ∨ (rows.getD e.on 0).testBit i = true)
 | [],h => by simp [edgeMask] at h
 | e :: r,h => by
  simp only [edgeMask] at h
  split at h
  ·rename_i hb
   simp only [Bool.and_eq_true,decide_eq_true_eq] at hb
   rw [Nat.testBit_or,Nat.testBit_or,Bool.or_eq_true,Bool.or_eq_true] at h
   rcases h with (h | h) | h
   ·rw [Nat.testBit_two_pow] at h
    exact ⟨e,List.mem_cons_self,hb.1,.inl (by have := of_decide_eq_true h; omega)⟩
   ·exact ⟨e,List.mem_cons_self,hb.1,.inr h⟩
   ·obtain ⟨e',h1,h2⟩ := edgeMask_bit h; exact ⟨e',List.mem_cons_of_mem _ h1,h2⟩
  ·obtain ⟨e',h1,h2⟩ := edgeMask_bit h; exact ⟨e',List.mem_cons_of_mem _ h1,h2⟩
theorem rowsOk_get {rows : List Nat} : ∀ {os : List Oper} {j i : Nat} {o : Oper},rowsOk rows j os = true → os[i]? = some o → rowOk rows (j + i) o = true
 | [],_,_,_,_,h => by simp at h
 | x :: r,j,0,o,h,ho => by simp only [rowsOk,Bool.and_eq_true] at h; simp at ho; subst ho; exact h.1
 | x :: r,j,i + 1,o,h,ho => by
  simp only [rowsOk,Bool.and_eq_true] at h
  have := rowsOk_get h.2 (i := i) (by simpa using ho)
  rwa [show j + 1 + i = j + (i + 1) by omega] at this
theorem row_ready {rows : List Nat} {j : Nat} {o : Oper} (h : rowOk rows j o = true) {L : Nat → Bool} (hcl : ∀ j,L j = true → ∀ i,(rows.getD j 0).testBit i = true → L i = true)
  (hr : ∀ e ∈ o.after,Region.binds .any e = true → L e.on = true) {i : Nat} (hi : (rows.getD j 0).testBit i = true) : L i = true := by
 simp only [rowOk,Bool.and_eq_true,beq_iff_eq] at h
 have h1 := h.1
 have : (edgeMask rows j o.after.toList).testBit i = true := by
  rw [← h1,Nat.testBit_and,Bool.and_eq_true] at hi
  exact hi.2
 obtain ⟨e,he,hb,hh⟩ := edgeMask_bit this
 have hon := hr e (by simpa using he) hb
 rcases hh with rfl | hh
 ·exact hon
 ·exact hcl _ hon _ hh
theorem chkOps_get {ops : Array Oper} : ∀ {os : List Oper} {cs : List COp} {j : Nat} {o : Oper},chkOps P nt ops os cs = true → os[j]? = some o → ∃ c,cs[j]? = some c ∧ chkOper P nt ops o c = true
 | [],_,_,_,_,h => by simp at h
 | o :: os,[],_,_,h,_ => by simp [chkOps] at h
 | o :: os,c :: cs,0,_,h,ho => by simp only [chkOps,Bool.and_eq_true] at h; simp at ho; subst ho; exact ⟨c,rfl,h.1⟩
 | o :: os,c :: cs,j + 1,_,h,ho => by
  simp only [chkOps,Bool.and_eq_true] at h
  obtain ⟨c',h1,h2⟩ := chkOps_get h.2 (j := j) (by simpa using ho)
  exact ⟨c',by simpa using h1,h2⟩
theorem chkOps_len {ops : Array Oper} : ∀ {os : List Oper} {cs : List COp},chkOps P nt ops os cs = true → os.length = cs.length
 | [],[],_ => rfl
 | [],_ :: _,h => by simp [chkOps] at h
 | _ :: _,[],h => by simp [chkOps] at h
 | _ :: os,_ :: cs,h => by simp only [chkOps,Bool.and_eq_true] at h; simp [chkOps_len h.2]
def LB (listed : Array Bool) (j : Nat) : Bool := listed.getD j false
theorem LB_set {listed : Array Bool} {i : Nat} (hi : i < listed.size) (j : Nat) : LB (listed.setIfInBounds i true) j = (decide (j = i) || LB listed j) := by
 simp only [LB,Array.getD_eq_getD_getElem?,Array.getElem?_setIfInBounds]
 by_cases h : i = j
 ·subst h; simp [hi]
 ·simp [h,Ne.symm h]
def missing (listed : Array Bool) : Nat := ((List.range listed.size).filter fun i => !LB listed i).length
theorem missing_set {listed : Array Bool} {i : Nat} (hi : i < listed.size) (hn : LB listed i = false) : missing (listed.setIfInBounds i true) < missing listed := by
 unfold missing
 have hs : (listed.setIfInBounds i true).size = listed.size := by simp
 rw [hs]
 have key : ∀ l : List Nat,(l.filter fun j => !LB (listed.setIfInBounds i true) j).length ≤ (l.filter fun j => !LB listed j).length ∧
   (i ∈ l → (l.filter fun j => !LB (listed.setIfInBounds i true) j).length < (l.filter fun j => !LB listed j).length) := by
  intro l
  induction l with
  | nil => simp
  | cons x r ih =>
   simp only [List.filter_cons,LB_set hi]
   by_cases hx : x = i
   ·subst hx
    simp only [decide_true,Bool.true_or,Bool.not_true,Bool.false_eq_true,if_false,hn,Bool.not_false,if_true,List.length_cons]
    simp only [LB_set hi] at ih
    exact ⟨by omega,fun _ => by omega⟩
   ·simp only [LB_set hi] at ih
    simp only [hx,decide_false,Bool.false_or,List.mem_cons]
    cases hb : LB listed x <;> simp only [Bool.not_false,Bool.not_true,if_true,Bool.false_eq_true,if_false,List.length_cons]
    ·exact ⟨by omega,fun h => by rcases h with h | h; exact (hx h.symm).elim; have := ih.2 h; omega⟩
    ·exact ⟨ih.1,fun h => by rcases h with h | h; exact (hx h.symm).elim; exact ih.2 h⟩
 exact (key _).2 (by simpa using hi)
theorem touches_some {d : Nat} {c : COp} (h : touches (some d) c = false) : ¬ d ∈ slotsOf c ∧ c.dst ≠ some d := by
 simp only [touches,Bool.or_eq_false_iff] at h
 refine ⟨fun hm => ?_,fun he => ?_⟩
 ·have := h.1
  rw [List.contains_iff_mem.2 hm] at this
  cases this
 ·rw [he] at h; simp at h
theorem mget_more {own : Lvl} {m : Mem} {d : Nat} {z : List PV} (hd : get own d = none) {l s : Nat} {p : Path} {cs : List PV} (h : mget (own :: m) l s p = some cs) : mget (((d,z) :: own) :: m) l s p = some cs := by
 simp only [mget] at h ⊢
 split
 ·rename_i hl
  rw [if_pos hl] at h
  simp only [lget] at h ⊢
  rw [get_cons]
  by_cases hs : d = s
  ·subst hs; rw [hd] at h; cases h
  ·rw [if_neg hs]; exact h
 ·rename_i hl
  rw [if_neg hl] at h
  exact h
theorem loadP_more {own : Lvl} {m : Mem} {d : Nat} {z : List PV} (hd : get own d = none) {ag : Bool} {sz : Nat} {x v : PV} (h : loadP own m ag sz x = some v) : loadP ((d,z) :: own) m ag sz x = some v := by
 cases x <;> simp only [loadP] at h ⊢ <;> first | exact h | (cases h; done) | skip
 split at h
 ·rename_i cs hcs
  rw [mget_more hd hcs]; exact h
 ·cases h
theorem derefP_more {own : Lvl} {m : Mem} {d : Nat} {z : List PV} (hd : get own d = none) {x v : PV} (h : derefP own m x = some v) : derefP ((d,z) :: own) m x = some v := by
 cases x <;> simp only [derefP] at h ⊢ <;> first | exact h | skip
 split at h
 ·rename_i cs hcs
  rw [mget_more hd hcs]; exact h
 ·cases h
theorem rslP_more {own : Lvl} {m : Mem} {d : Nat} {z : List PV} (hd : get own d = none) {sz len : Nat} {x v : PV} {lo hi : Option PV} (h : rslP own m sz len x lo hi = some v) : rslP ((d,z) :: own) m sz len x lo hi = some v := by
 cases x <;> simp only [rslP] at h ⊢ <;> first | exact h | (cases h; done) | skip
 split at h
 ·rename_i cs hcs
  rw [mget_more hd hcs]; exact h
 ·cases h
theorem ev_more {own : Lvl} {m : Mem} {d : Nat} {z : List PV} (hd : get own d = none) {op : OpC} {vs : List PV} {v : PV} (h : op.ev own m vs = some v) : op.ev ((d,z) :: own) m vs = some v := by
 cases op <;> first | exact h | skip
 case b2s =>
  simp only [OpC.ev,on1] at h ⊢
  split at h
  ·rename_i x
   split at h
   ·rename_i x' hx
    rw [derefP_more hd hx]; exact h
   ·cases h
  ·cases h
 case load ag sz =>
  simp only [OpC.ev,on1] at h ⊢
  split at h
  ·exact loadP_more hd h
  ·cases h
 case rsl sz len lo hi =>
  simp only [OpC.ev,lohi] at h ⊢
  split at h <;> simp only [on1,on2,on3] at h ⊢ <;> split at h <;> first | exact rslP_more hd h | cases h
theorem evH_more {K : Callee} {st : St} {d : Nat} {z : List PV} (hd : get st.own d = none) {c : COp} {v : PV} (h : c.evH K st = some v) : c.evH K { st with own := (d,z) :: st.own } = some v := by
 have key : ∀ vs v,opH K c.op vs st = some v → opH K c.op vs { st with own := (d,z) :: st.own } = some v := by
  intro vs v h
  obtain ⟨cd,cg,cop,ca⟩ := c
  cases cop <;> simp only [opH] at h ⊢ <;> first | exact h | exact ev_more hd h
 simp only [COp.evH] at h ⊢
 split at h
 ·split at h
  ·exact key _ _ h
  ·cases h
 ·split at h
  ·split at h
   ·rename_i hb
    rw [if_pos hb]
    split at h
    ·exact key _ _ h
    ·cases h
   ·rename_i hb
    rw [if_neg hb]
    exact h
  ·exact h
  ·cases h
theorem flat_new {st : St} {d : Nat} {z : List PV} (hz : z.all flatC = true) : newVar st (some d) z = if isFree st d = true then some { st with own := (d,z.map PV.untag1) :: st.own,f := (d,.ptr st.m.length d [] 0) :: st.f } else none := by
 have h1 : z.all PV.isCell = true := List.all_eq_true.2 fun x hx => by
  have := List.all_eq_true.1 hz x hx
  cases x <;> first | rfl | (simp [flatC] at this)
 have h2 : (z.all fun c => !moves st.m.length c) = true := List.all_eq_true.2 fun x hx => by
  have := List.all_eq_true.1 hz x hx
  cases x <;> first | rfl | (simp [flatC] at this)
 simp only [newVar,h1,h2,Bool.and_true,if_true]
theorem get_app {α : Type} : ∀ (D F : List (Nat × α)) (t : Nat),get (D ++ F) t = (get D t).or (get F t)
 | [],F,t => by simp [get]
 | p :: D,F,t => by
  obtain ⟨s,v⟩ := p
  rw [List.cons_append,get_cons,get_cons]
  by_cases h : s = t
  ·rw [if_pos h,if_pos h]; rfl
  ·rw [if_neg h,if_neg h]; exact get_app D F t
theorem get_notin {α : Type} : ∀ {D : List (Nat × α)} {t : Nat},(∀ p ∈ D,p.1 ≠ t) → get D t = none
 | [],_,_ => rfl
 | p :: D,t,h => by
  obtain ⟨s,v⟩ := p
  rw [get_cons,if_neg (h (s,v) List.mem_cons_self)]
  exact get_notin fun q hq => h q (List.mem_cons_of_mem _ hq)
theorem mem_f (st : St) (o : Option Mem) (B : List (Nat × PV)) : ({ st with f := B } : St).mem o = (st.mem o).map fun s => { s with f := B } := by
 unfold St.mem
 split <;> rfl
theorem mem_g {st st' : St} {o : Option Mem} (h : st.mem o = some st') : st'.f = st.f := by
 unfold St.mem at h
 split at h
 ·cases h; rfl
 ·cases h
theorem put1_f (st : St) (lv sl : Nat) (p : Path) (j : Nat) (c : PV) (B : List (Nat × PV)) : put1 { st with f := B } lv sl p j c = (put1 st lv sl p j c).map fun s => { s with f := B } := by
 simp only [put1]
 generalize mget (st.own :: st.m) lv sl p = q
 cases q with
 | none => rfl
 | some cs =>
  simp only
  generalize cs[j]? = q2
  cases q2 with
  | none => rfl
  | some old =>
   simp only
   generalize inC st.m.length st.own lv sl p j old c = q3
   rcases q3 with _ | ⟨c',k⟩
   ·rfl
   ·simp only
    split
    ·cases k with
     | none => exact mem_f st _ B
     | some s => exact mem_f { st with own := del st.own s,dead := s :: st.dead } _ B
    ·rfl
theorem put1_g {st st' : St} {lv sl : Nat} {p : Path} {j : Nat} {c : PV} (h : put1 st lv sl p j c = some st') : st'.f = st.f := by
 simp only [put1] at h
 split at h
 ·split at h
  ·split at h
   ·rename_i c' k hin
    split at h
    ·cases k with
     | none => exact (mem_g h : _)
     | some sl' => exact (mem_g h : _)
    ·cases h
   ·cases h
  ·cases h
 ·cases h
theorem putCs_f : ∀ (cs : List PV) (st : St) (lv sl : Nat) (p : Path) (j : Nat) (B : List (Nat × PV)),putCs lv sl p j cs { st with f := B } = (putCs lv sl p j cs st).map fun s => { s with f := B }
 | [],st,_,_,_,_,B => rfl
 | c :: cs,st,lv,sl,p,j,B => by
  simp only [putCs,put1_f]
  cases put1 st lv sl p j c with
  | none => rfl
  | some st1 => exact putCs_f cs st1 lv sl p (j + 1) B
theorem putCs_g : ∀ {cs : List PV} {st st' : St} {lv sl : Nat} {p : Path} {j : Nat},putCs lv sl p j cs st = some st' → st'.f = st.f
 | [],st,st',_,_,_,_,h => by simp only [putCs,Option.some.injEq] at h; subst h; rfl
 | c :: cs,st,st',lv,sl,p,j,h => by
  simp only [putCs] at h
  split at h
  ·rename_i st1 h1
   exact (putCs_g h).trans (put1_g h1)
  ·cases h
theorem storeEv_m (st : St) (sz : Nat) (x v : PV) (B : List (Nat × PV)) : storeEv { st with f := B } sz x v = (storeEv st sz x v).map fun s => { s with f := B } := by
 cases x <;> simp only [storeEv] <;> try rfl
 rename_i l s p off
 generalize mget (st.own :: st.m) l s p = q
 cases q with
 | none => rfl
 | some cs =>
  simp only
  split
  ·split
   ·split
    ·exact mem_f st _ B
    ·rfl
   ·exact putCs_f _ st _ _ _ _ B
  ·rfl
theorem storeEv_g {st st' : St} {sz : Nat} {x v : PV} (h : storeEv st sz x v = some st') : st'.f = st.f := by
 cases x <;> simp only [storeEv] at h <;> try (cases h; done)
 split at h
 ·split at h
  ·split at h
   ·split at h
    ·exact mem_g h
    ·cases h
   ·exact putCs_g h
  ·cases h
 ·cases h
theorem storeEv_f {st st' : St} {sz : Nat} {x v : PV} (h : storeEv st sz x v = some st') : st'.f = st.f ∧ ∀ B,storeEv { st with f := B } sz x v = some { st' with f := B } :=
 ⟨storeEv_g h,fun B => by rw [storeEv_m,h]; rfl⟩
theorem calm_ev {op : OpC} (h : calmOp op = true) (own own' : Lvl) (m m' : Mem) (vs : List PV) : op.ev own m vs = op.ev own' m' vs := by
 cases op <;> first | rfl | (simp [calmOp] at h)
theorem light_op {K : Callee} {dst : Option Nat} {op : OpC} (hop : calmOp op = true ∨ (∃ a b,op = .load a b)) {vs : List PV} {st st' : St} (h : opEv K dst op vs st = some st') : ∃ v,op.ev st.own st.m vs = some v ∧ st' = st.put dst v ∧ ∀ B,opEv K dst op vs { st with f := B } = some (({ st with f := B } : St).put dst v) := by
 have e : ∀ s : St,opEv K dst op vs s = match op.ev s.own s.m vs with | some v => some (s.put dst v) | none => none := by
  intro s
  rcases hop with hop | ⟨a,b,rfl⟩
  ·cases op <;> first | rfl | (simp [calmOp] at hop)
  ·rfl
 rw [e] at h
 split at h
 ·rename_i v hv
  cases h
  exact ⟨v,hv,rfl,fun B => by rw [e]; simp only [hv]⟩
 ·cases h
theorem light_step {K : Callee} {c : COp} (hc : lightC c = true) {st st' : St} (h : c.ev K st = some st') : ∃ add : List (Nat × PV),(∀ p ∈ add,c.dst = some p.1) ∧ st'.f = add ++ st.f ∧
  ∀ B,(∀ s ∈ slotsOf c,get B s = get st.f s) → c.ev K { st with f := B } = some { st' with f := add ++ B } := by
 obtain ⟨dst,g,op,args⟩ := c
 simp only [lightC,Bool.and_eq_true,Option.isNone_iff_eq_none,Bool.or_eq_true] at hc
 obtain ⟨rfl,hc⟩ := hc
 simp only [COp.ev] at h
 split at h
 case h_2 => cases h
 rename_i vs hvs
 have hevs : ∀ B,(∀ s ∈ slotsOf ⟨dst,none,op,args⟩,get B s = get st.f s) → evs B args = some vs := by
  intro B hB
  rw [← hvs]
  exact evs_congr fun s hs => hB s (by simp only [slotsOf,List.mem_append]; exact .inr hs)
 have pure_case : (calmOp op = true ∨ (∃ a b,op = .load a b)) → ∃ add : List (Nat × PV),(∀ p ∈ add,dst = some p.1) ∧ st'.f = add ++ st.f ∧
   ∀ B,(∀ s ∈ slotsOf ⟨dst,none,op,args⟩,get B s = get st.f s) → COp.ev K ⟨dst,none,op,args⟩ { st with f := B } = some { st' with f := add ++ B } := by
  intro hop
  obtain ⟨v,h1,h2,h3⟩ := light_op hop h
  cases dst with
  | none => exact ⟨[],(fun p hp => by cases hp),by rw [h2]; rfl,fun B hB => by simp only [COp.ev,hevs B hB]; rw [h3 B,h2]; rfl⟩
  | some d => exact ⟨[(d,v)],(fun p hp => by rw [List.mem_singleton.1 hp]),by rw [h2]; rfl,fun B hB => by simp only [COp.ev,hevs B hB]; rw [h3 B,h2]; rfl⟩
 rcases hc with (hc | hc) | hc
 ·
  unfold allocC at hc
  split at hc
  ·rename_i d z heq
   injection heq with e1 _ e2 e3
   subst e1; subst e2; subst e3
   simp only [opEv,flat_new hc] at h
   split at h
   ·rename_i hf
    cases h
    refine ⟨[(d,.ptr st.m.length d [] 0)],(fun p hp => by rw [List.mem_singleton.1 hp]),rfl,fun B hB => ?_⟩
    simp only [COp.ev,evs,opEv,flat_new hc]
    have e : isFree { st with f := B } d = isFree st d := rfl
    rw [e,hf,if_pos rfl]; rfl
   ·cases h
  ·cases hc
 ·exact pure_case (.inl hc)
 ·split at hc
  ·rename_i sz
   simp only [opEv] at h
   unfold on2 at h
   split at h
   ·rename_i x y
    obtain ⟨h1,h2⟩ := storeEv_f h
    refine ⟨[],(fun p hp => by cases hp),h1,fun B hB => ?_⟩
    simp only [COp.ev,hevs B hB,opEv,on2]
    exact h2 B
   ·cases h
  ·rename_i a b
   exact pure_case (.inr ⟨a,b,rfl⟩)
  ·cases hc
theorem alloc_step {K : Callee} {c : COp} (hc : allocC c = true) {st st' : St} (h : c.ev K st = some st') : ∃ d z p,get st.own d = none ∧ st' = { st with own := (d,z) :: st.own,f := (d,p) :: st.f } := by
 unfold allocC at hc
 split at hc
 ·rename_i d z
  simp only [COp.ev,evs,opEv,flat_new hc] at h
  split at h
  ·rename_i hf
   cases h
   refine ⟨d,_,_,?_,rfl⟩
   unfold isFree at hf
   simp only [Bool.and_eq_true,Option.isNone_iff_eq_none] at hf
   exact hf.1
  ·cases h
 ·cases hc
theorem evH_calm {K : Callee} {c : COp} (hc : calmOp c.op = true) (st st' : St) (F : List (Nat × PV)) : c.evH K { st with f := F } = c.evH K { st' with f := F } := by
 have key : ∀ vs,opH K c.op vs { st with f := F } = opH K c.op vs { st' with f := F } := by
  intro vs
  obtain ⟨cd,cg,cop,ca⟩ := c
  cases cop <;> first | (simp only [opH]; exact calm_ev (by first | rfl | exact hc) _ _ _ _ vs) | (simp [calmOp] at hc; done)
 simp only [COp.evH,key]
theorem draw_ok {ro : Option Nat} (hm : P.follows .mixedOrders = true) {K : Callee} (hK : Snd P okP K) (hok : OkG okP g0 w0) {ops : Array Oper} {cs : List COp} {k : Nat} {rows : List Nat} {Q : Exit → Act → World → Prop} {st st' : St} {a : Act} {w : World} {id : Nat}
  (hk : chkOps P nt ops ops.toList cs = true) (hdr : drawOk ops cs k rows = true) (h : InvE d nt m0 g0 w0 st a w) (h1 : drawEv K k rows cs st = some st') (hnx : k ≠ xMode)
  (hq : ∀ a' w',InvE d nt m0 g0 w0 st' a' w' → Q .normal a' w') : (Code.region id ops true).wpIn (Fw ro) 0 P Q a w := by
 refine wpIn_region_any hm ?_
 simp only [drawEv,if_neg hnx] at h1
 split at h1
 case h_2 => cases h1
 rename_i sth hh
 obtain ⟨l,hl1,hl2,hl3⟩ := headVs_spec hh
 simp only [drawOk,Bool.and_eq_true,decide_eq_true_eq] at hdr
 obtain ⟨⟨⟨⟨hbs,hkn⟩,hrows⟩,hpairs⟩,htail⟩ := hdr
 have hlen := chkOps_len hk
 have hn : ops.size = cs.length := by simpa using hlen
 have hll : l.length = k := by have := congrArg List.length hl1; simp at this; omega
 have hlget : ∀ {j : Nat} {x : COp × PV},l[j]? = some x → cs[j]? = some x.1 ∧ j < k := by
  intro j x hx
  have h2 : (l.map (·.1))[j]? = some x.1 := by rw [List.getElem?_map,hx]; rfl
  have hj : j < l.length := (List.getElem?_eq_some_iff.1 hx).1
  rw [hl1,List.getElem?_take] at h2
  rw [if_pos (by omega)] at h2
  exact ⟨h2,by omega⟩
 have hpair : ∀ {i j : Nat} {x y : COp × PV},j < i → l[i]? = some x → l[j]? = some y → (touches y.1.dst x.1 || touches x.1.dst y.1) = true → (rows.getD i 0).testBit j = true := by
  intro i j x y hji hx hy ht
  obtain ⟨h1,h2⟩ := hlget hx
  obtain ⟨h3,h4⟩ := hlget hy
  simp only [pairsOk,List.all_eq_true,List.mem_range] at hpairs
  have := hpairs i h2 j hji
  rw [h1,h3] at this
  simp only [ht,Bool.not_true,Bool.false_or] at this
  exact this
 have htl0 : ∀ {i j : Nat} {ci cj : COp},k ≤ i → cs[i]? = some ci → j < i → cs[j]? = some cj → floatOk rows k i j ci cj = true := by
  intro i j ci cj hki hi hji hj
  have hin : i < cs.length := (List.getElem?_eq_some_iff.1 hi).1
  simp only [tailOk,List.all_eq_true,List.mem_range,Bool.or_eq_true,decide_eq_true_eq] at htail
  have := (htail i hin).resolve_left (by omega) j hji
  rw [hi,hj] at this
  exact this
 have hbit : ∀ {i j : Nat},k ≤ i → i < cs.length → k ≤ j → j < i → (rows.getD i 0).testBit j = true := by
  intro i j hki hi hkj hji
  have h2 := htl0 hki (List.getElem?_eq_getElem hi) hji (List.getElem?_eq_getElem (by omega : j < cs.length))
  simp only [floatOk,Bool.or_eq_true,Bool.and_eq_true,decide_eq_true_eq] at h2
  rcases h2 with h2 | h2
  ·exact h2
  ·omega
 have main : ∀ (fuel : Nat) (listed : Array Bool) (a : Act) (w : World),missing listed ≤ fuel → listed.size = ops.size →
   (∀ j,LB listed j = true → ∀ i,(rows.getD j 0).testBit i = true → LB listed i = true) →
   ((∃ jj stj D,k ≤ jj ∧ jj ≤ cs.length ∧ (∀ i,k ≤ i → i < cs.length → LB listed i = decide (i < jj)) ∧ regEv K (cs.drop jj) stj = some st' ∧ (∀ t,get stj.f t = get (D ++ putL (fun _ => true) 0 l st.f) t) ∧
     InvE d nt m0 g0 w0 { stj with f := D ++ putL (LB listed) 0 l st.f } a w ∧
     ∀ j x,l[j]? = some x → LB listed j = false → (∀ p ∈ D,touches (some p.1) x.1 = false) ∧ ∀ F v,x.1.evH K { st with f := F } = some v → x.1.evH K { stj with f := F } = some v) ∨
    (∃ j stj,k ≤ j ∧ j ≤ cs.length ∧ (∀ i,i < cs.length → (LB listed i = decide (i < j))) ∧ InvE d nt m0 g0 w0 stj a w ∧ regEv K (cs.drop j) stj = some st')) →
   wpAnyIn (Fw ro) 0 P .any ops Q fuel listed a w := by
  intro fuel
  have hrow : ∀ {j : Nat} {o : Oper},ops[j]? = some o → rowOk rows j o = true := by
   intro j o ho
   have := rowsOk_get hrows (i := j) (o := o) (by simpa using ho)
   simpa using this
  have hdone : ∀ {listed : Array Bool},listed.size = ops.size → Region.ready .any ops listed = [] → ∀ j,j < ops.size → LB listed j = true := by
   intro listed hsz hr j
   induction j using Nat.strongRecOn with
   | _ j ih =>
    intro hj
    cases hb : LB listed j with
    | true => rfl
    | false =>
     have hmem : j ∈ Region.ready .any ops listed := by
      rw [mem_ready]
      refine ⟨?_,ops[j],by simp [hj],fun e he hbind => ?_⟩
      ·have hb' := hb
       simp only [LB,Array.getD_eq_getD_getElem?] at hb'
       simp only [Array.getD_eq_getD_getElem?]
       rw [Array.getElem?_eq_getElem (by omega)] at hb' ⊢
       exact hb'
      ·have hro := hrow (j := j) (o := ops[j]) (by simp [hj])
       simp only [rowOk,Bool.and_eq_true,Array.all_eq_true_iff_forall_mem,Bool.or_eq_true,Bool.not_eq_true',decide_eq_true_eq] at hro
       have hlt : e.on < j := (hro.2 e he).resolve_left (by simp [hbind])
       exact ih e.on hlt (by omega)
     rw [hr] at hmem
     cases hmem
  have hend : ∀ {listed : Array Bool} {a : Act} {w : World},listed.size = ops.size →
   ((∃ jj stj D,k ≤ jj ∧ jj ≤ cs.length ∧ (∀ i,k ≤ i → i < cs.length → LB listed i = decide (i < jj)) ∧ regEv K (cs.drop jj) stj = some st' ∧ (∀ t,get stj.f t = get (D ++ putL (fun _ => true) 0 l st.f) t) ∧
     InvE d nt m0 g0 w0 { stj with f := D ++ putL (LB listed) 0 l st.f } a w ∧
     ∀ j x,l[j]? = some x → LB listed j = false → (∀ p ∈ D,touches (some p.1) x.1 = false) ∧ ∀ F v,x.1.evH K { st with f := F } = some v → x.1.evH K { stj with f := F } = some v) ∨
    (∃ j stj,k ≤ j ∧ j ≤ cs.length ∧ (∀ i,i < cs.length → (LB listed i = decide (i < j))) ∧ InvE d nt m0 g0 w0 stj a w ∧ regEv K (cs.drop j) stj = some st')) →
   Region.ready .any ops listed = [] → Q .normal a w := by
   intro listed a w hsz hinv hr
   have hall := hdone hsz hr
   rcases hinv with ⟨jj,stj,D,hkj,hjn,hLj,hreg,hfD,hi,_⟩ | ⟨j,stj,hkj,hjn,hLj,hi,hreg⟩
   ·have hjn' : jj = cs.length := by
     rcases Nat.lt_or_ge jj cs.length with hlt | hge
     ·have h2 := hLj jj hkj hlt; rw [hall jj (by omega)] at h2; simp at h2
     ·omega
    rw [hjn',List.drop_length] at hreg
    simp only [regEv,Option.some.injEq] at hreg
    subst hreg
    refine hq a w (hi.congr fun t => ?_)
    show get stj.f t = get (D ++ putL (LB listed) 0 l st.f) t
    rw [hfD,get_app,get_app]
    congr 1
    refine putL_congr rfl fun m x hx _ => ?_
    have := (hlget hx).2
    simp only [Nat.zero_add]
    rw [hall m (by omega)]
   ·have hjn' : j = cs.length := by
     rcases Nat.lt_or_ge j cs.length with hlt | hge
     ·have h2 := hLj j hlt; rw [hall j (by omega)] at h2; simp at h2
     ·omega
    rw [hjn',List.drop_length] at hreg
    simp only [regEv,Option.some.injEq] at hreg
    subst hreg
    exact hq a w hi
  induction fuel with
  | zero =>
   intro listed a w hmis hsz hcl hinv
   have hr : Region.ready .any ops listed = [] := by
    cases hr : Region.ready .any ops listed with
    | nil => rfl
    | cons j r =>
     have hmem : j ∈ Region.ready .any ops listed := by rw [hr]; exact List.mem_cons_self
     rw [mem_ready] at hmem
     obtain ⟨h2,o,ho,_⟩ := hmem
     have hj : j < ops.size := (Array.getElem?_eq_some_iff.1 ho).1
     have hb : LB listed j = false := by
      simp only [LB,Array.getD_eq_getD_getElem?] at h2 ⊢
      rw [Array.getElem?_eq_getElem (by omega)] at h2 ⊢
      exact h2
     have := missing_set (i := j) (by omega : j < listed.size) hb
     omega
   exact ⟨hr,hend hsz hinv hr⟩
  | succ fuel ih =>
   intro listed a w hmis hsz hcl hinv
   refine ⟨hend hsz hinv,fun j hmem => ?_⟩
   rw [mem_ready] at hmem
   obtain ⟨h2,o,ho,hedges⟩ := hmem
   have hj : j < ops.size := (Array.getElem?_eq_some_iff.1 ho).1
   have hb : LB listed j = false := by
    simp only [LB,Array.getD_eq_getD_getElem?] at h2 ⊢
    rw [Array.getElem?_eq_getElem (by omega)] at h2 ⊢
    exact h2
   have hjs : j < listed.size := by omega
   obtain ⟨c,hc,hck⟩ := chkOps_get hk (j := j) (o := o) (by simpa using ho)
   have hmis' := missing_set hjs hb
   have hset := LB_set hjs
   have hrl : ∀ i,(rows.getD j 0).testBit i = true → LB listed i = true := fun i hi => row_ready (hrow ho) hcl hedges hi
   have hcl' : ∀ j',LB (listed.setIfInBounds j true) j' = true → ∀ i,(rows.getD j' 0).testBit i = true → LB (listed.setIfInBounds j true) i = true := by
    intro j' hj' i hi
    rw [hset] at hj' ⊢
    simp only [Bool.or_eq_true,decide_eq_true_eq] at hj' ⊢
    rcases hj' with rfl | hj'
    ·exact .inr (hrl i hi)
    ·exact .inr (hcl j' hj' i hi)
   have step2 : ∀ stj,k ≤ j → (∀ i,i < cs.length → (LB listed i = decide (i < j))) → InvE d nt m0 g0 w0 stj a w → regEv K (cs.drop j) stj = some st' →
     wpOpIn (Fw ro) 0 P ops Q j (wpAnyIn (Fw ro) 0 P .any ops Q fuel (listed.setIfInBounds j true)) a w := by
    intro stj hkj hLj hi hreg
    have hjc : j < cs.length := by omega
    have hcd : cs.drop j = c :: cs.drop (j + 1) := by
     rw [List.drop_eq_getElem_cons hjc]
     congr 1
     have := (List.getElem?_eq_some_iff.1 hc).2
     exact this
    rw [hcd] at hreg
    simp only [regEv] at hreg
    split at hreg
    ·rename_i stj' hev
     unfold wpOpIn
     simp only [ho]
     refine cop_ok hK hok hck hi hev fun a' w' hi' => ?_
     refine ih _ a' w' (by omega) (by simpa using hsz) hcl' (.inr ⟨j + 1,stj',by omega,by omega,fun i hi => ?_,hi',hreg⟩)
     rw [hset,hLj i hi]
     rw [Bool.eq_iff_iff]
     simp only [Bool.or_eq_true,decide_eq_true_eq]
     omega
    ·cases hreg
   rcases hinv with ⟨jj,stj,D,hkj,hjn,hLj,hreg,hfD,hi,hquiet⟩ | ⟨jj,stj,hkj,hjn,hLj,hi,hreg⟩
   ·rcases Nat.lt_or_ge j k with hlt | hge
    ·
     have hjl : j < l.length := by omega
     have hx : l[j]? = some l[j] := by simp [hjl]
     obtain ⟨hxc,_⟩ := hlget hx
     have hxc' : l[j].1 = c := by rw [hc] at hxc; injection hxc with hxc; exact hxc.symm
     have hev := hl3 j _ hx
     rw [hxc'] at hev
     obtain ⟨hqD,hqE⟩ := hquiet j _ hx hb
     rw [hxc'] at hqD hqE
     have hDn : ∀ s,(s ∈ slotsOf c ∨ c.dst = some s) → get D s = none := by
      intro s hs
      refine get_notin fun p hp he => ?_
      have := hqD p hp
      obtain ⟨t1,t2⟩ := touches_some this
      rcases hs with hs | hs
      ·exact t1 (he ▸ hs)
      ·exact t2 (by rw [hs,he])
     have hlater : ∀ m y,j < m → l[m]? = some y → (touches c.dst y.1 || touches y.1.dst c) = true → LB listed m = false := by
      intro m y hjm hy ht
      cases hbm : LB listed m with
      | false => rfl
      | true =>
       have := hcl m hbm j (hpair hjm hy hx (by rw [hxc']; exact ht))
       rw [hb] at this; cases this
     have hcong0 : c.evH K { st with f := putL (LB listed) 0 l st.f } = some l[j].2 := by
      rw [← hev]
      refine evH_congr fun s hs => putL_congr rfl fun m y hy hyd => ?_
      simp only [Nat.zero_add]
      have ht : touches y.1.dst c = true := by simp [touches,hyd,hs]
      rcases Nat.lt_trichotomy m j with hmj | rfl | hmj
      ·rw [hrl m (hpair hmj hx hy (by rw [hxc']; simp [ht]))]; simp [hmj]
      ·rw [hb]; simp
      ·rw [hlater m y hmj hy (by simp [ht])]
       simp; omega
     have hcong : c.evH K { stj with f := D ++ putL (LB listed) 0 l st.f } = some l[j].2 := by
      rw [← hqE _ _ hcong0]
      refine evH_congr fun s hs => ?_
      rw [get_app,hDn s (.inl hs)]; rfl
     unfold wpOpIn
     simp only [ho]
     refine copH_ok hK hok hck (List.all_eq_true.1 hbs c (List.mem_of_getElem? hc)) hi hcong fun a' w' hi' => ?_
     refine ih _ a' w' (by omega) (by simpa using hsz) hcl' (.inl ⟨jj,stj,D,hkj,hjn,fun i hki hin => ?_,hreg,hfD,?_,fun j' x' hx' hb' => hquiet j' x' hx' ?_⟩)
     ·rw [hset,hLj i hki hin]
      have : (decide (i = j)) = false := by simp; omega
      rw [this,Bool.false_or]
     ·rw [St.put_eq] at hi'
      refine hi'.congr fun t => ?_
      show get (D ++ putL _ 0 l st.f) t = get (putf (D ++ putL (LB listed) 0 l st.f) c.dst l[j].2) t
      rw [get_putf]
      split
      ·rename_i hd
       rw [get_app,hDn t (.inr hd)]
       show get (putL _ 0 l st.f) t = _
       refine putL_last (m := j) hx (by rw [hxc']; exact hd) (by rw [hset]; simp) fun m y hjm hy hyd => ?_
       rw [hset]
       simp only [Nat.zero_add]
       rw [hlater m y hjm hy (by simp [touches,hd,hyd])]
       simp; omega
      ·rename_i hd
       rw [get_app,get_app]
       congr 1
       refine putL_congr rfl fun m y hy hyd => ?_
       simp only [Nat.zero_add]
       rw [hset]
       have : m ≠ j := by
        rintro rfl
        rw [hx] at hy
        injection hy with hy
        subst hy
        rw [hxc'] at hyd
        exact hd hyd
       simp [this]
     ·rw [hset] at hb'
      simp only [Bool.or_eq_false_iff] at hb'
      exact hb'.2
    ·have hjj : j = jj := by
      have hjc : j < cs.length := by omega
      rcases Nat.lt_or_ge j jj with hlt | hge2
      ·have := hLj j hge hjc; rw [hb] at this; simp at this; omega
      ·rcases Nat.lt_or_ge jj j with hlt | hge'
       ·have h3 := hrl jj (hbit hge hjc hkj hlt)
        rw [hLj jj hkj (by omega)] at h3
        simp at h3
       ·omega
     subst hjj
     have hjc : j < cs.length := by omega
     by_cases hall : ∀ m,m < k → LB listed m = true
     ·refine step2 stj hkj (fun i hi2 => ?_) (hi.congr fun t => ?_) hreg
      ·rcases Nat.lt_or_ge i k with h3 | h3
       ·rw [hall i h3]; simp; omega
       ·exact hLj i h3 hi2
      ·show get stj.f t = get (D ++ putL (LB listed) 0 l st.f) t
       rw [hfD,get_app,get_app]
       congr 1
       refine putL_congr rfl fun m x hx _ => ?_
       have := (hlget hx).2
       simp only [Nat.zero_add]
       rw [hall m this]
     ·
      have hfree : ∀ m x,l[m]? = some x → LB listed m = false → lightC c = true ∧ touches x.1.dst c = false ∧ touches c.dst x.1 = false ∧ (calmOp x.1.op = true ∨ allocC c = true) := by
       intro m x hx hm
       obtain ⟨hxc,hmk⟩ := hlget hx
       have h2 := htl0 hkj hc (by omega : m < j) hxc
       simp only [floatOk,Bool.or_eq_true,Bool.and_eq_true,decide_eq_true_eq,Bool.not_eq_true',Bool.or_eq_false_iff] at h2
       rcases h2 with h2 | ⟨⟨⟨_,h3⟩,h4,h5⟩,h6⟩
       ·have := hrl m h2; rw [hm] at this; cases this
       ·exact ⟨h3,h4,h5,h6⟩
      obtain ⟨m0,hm0,hm1⟩ : ∃ m,m < k ∧ LB listed m = false := by
       refine Classical.byContradiction fun hno => hall fun m hm => ?_
       cases hb2 : LB listed m with
       | true => rfl
       | false => exact (hno ⟨m,hm,hb2⟩).elim
      have hl0 : m0 < l.length := by omega
      obtain ⟨hlight,_,_,_⟩ := hfree m0 _ (by simp [hl0] : l[m0]? = some l[m0]) hm1
      have hcd : cs.drop j = c :: cs.drop (j + 1) := by
       rw [List.drop_eq_getElem_cons hjc]
       congr 1
       exact (List.getElem?_eq_some_iff.1 hc).2
      rw [hcd] at hreg
      simp only [regEv] at hreg
      split at hreg
      case h_2 => cases hreg
      rename_i stj1 hev
      obtain ⟨add,ha1,ha2,ha3⟩ := light_step hlight hev
      have hev' := ha3 (D ++ putL (LB listed) 0 l st.f) (fun s hs => by
       rw [hfD,get_app,get_app]
       congr 1
       refine putL_congr rfl fun m y hy hyd => ?_
       simp only [Nat.zero_add]
       cases hm : LB listed m with
       | true => rfl
       | false =>
        obtain ⟨_,h4,_,_⟩ := hfree m y hy hm
        rw [hyd] at h4
        exact ((touches_some h4).1 hs).elim)
      unfold wpOpIn
      simp only [ho]
      refine cop_ok hK hok hck hi hev' fun a' w' hi' => ?_
      refine ih _ a' w' (by omega) (by simpa using hsz) hcl' (.inl ⟨j + 1,stj1,add ++ D,by omega,by omega,fun i hki hin => ?_,hreg,fun t => ?_,?_,fun j' x' hx' hb' => ?_⟩)
      ·rw [hset,hLj i hki hin]
       rw [Bool.eq_iff_iff]
       simp only [Bool.or_eq_true,decide_eq_true_eq]
       omega
      ·rw [ha2,get_app,hfD,List.append_assoc,get_app add]
      ·refine hi'.congr fun t => ?_
       show get ((add ++ D) ++ putL _ 0 l st.f) t = get (add ++ (D ++ putL (LB listed) 0 l st.f)) t
       rw [List.append_assoc,get_app add,get_app add,get_app D,get_app D]
       congr 2
       refine putL_congr rfl fun m y hy hyd => ?_
       have := (hlget hy).2
       simp only [Nat.zero_add]
       rw [hset]
       have : ¬ m = j := by omega
       simp [this]
      ·have hb2 : LB listed j' = false := by
        rw [hset] at hb'
        simp only [Bool.or_eq_false_iff] at hb'
        exact hb'.2
       obtain ⟨q1,q2⟩ := hquiet j' x' hx' hb2
       obtain ⟨_,h4,h5,h6⟩ := hfree j' x' hx' hb2
       refine ⟨fun p hp => ?_,fun F v hF => ?_⟩
       ·rcases List.mem_append.1 hp with hp | hp
        ·rw [← ha1 p hp]; exact h5
        ·exact q1 p hp
       ·have hF1 := q2 F v hF
        rcases h6 with h6 | h6
        ·rw [evH_calm h6 stj1 stj F]; exact hF1
        ·obtain ⟨d',z',p',hg,rfl⟩ := alloc_step h6 hev
         exact evH_more (st := { stj with f := F }) hg hF1
   ·have hjj : j = jj := by
     rcases Nat.lt_or_ge j jj with hlt | hge
     ·have := hLj j (by omega); rw [hb] at this; simp at this; omega
     ·rcases Nat.lt_or_ge jj j with hlt | hge'
      ·have h3 := hrl jj (hbit (by omega) (by omega) hkj hlt)
       rw [hLj jj (by omega)] at h3
       simp at h3
      ·omega
    subst hjj
    exact step2 stj hkj hLj hi hreg
 refine main ops.size _ a _ ?_ (by simp) ?_ (.inl ⟨k,sth,[],Nat.le_refl _,hkn,fun i hki _ => ?_,h1,fun t => by rw [hl2]; rfl,?_,fun j x hx _ => ⟨fun p hp => (by cases hp),fun F v hF => (by rw [hl2]; exact hF)⟩⟩)
 ·unfold missing
  refine Nat.le_trans (List.length_filter_le _ _) ?_
  simp
 ·intro j hj
  exfalso
  simp only [LB,Array.getD_eq_getD_getElem?,Array.getElem?_replicate] at hj
  split at hj <;> simp at hj
 ·simp only [LB,Array.getD_eq_getD_getElem?,Array.getElem?_replicate]
  split <;> simp <;> omega
 ·rw [hl2]
  refine h.drawn.congr fun t => ?_
  have : ∀ (l : List (COp × PV)) (i : Nat) (f : List (Nat × PV)),get (putL (LB (Array.replicate ops.size false)) i l f) t = get f t := by
   intro l
   induction l with
   | nil => intros; rfl
   | cons y r ih =>
    intro i f
    have : LB (Array.replicate ops.size false) i = false := by
     simp only [LB,Array.getD_eq_getD_getElem?,Array.getElem?_replicate]
     split <;> simp
    simp only [putL,this]
    exact ih _ _
  exact this l 0 st.f
end
end Go.Proofs.Ytmffcpiffkclgaa.ZJM
