/- Plain data; a law by the machine's limit. -/
import Derived.Test.YtmffcpiffkclgaaZJ23
import Derived.Test.YtmffcpiffkclgaaZJ26
import Derived.Test.YtmffcpiffkclgaaZJ1B
set_option linter.unusedSimpArgs false
set_option linter.unusedVariables false
namespace Go.Proofs.Ytmffcpiffkclgaa.ZJM
open Go.RowKit
mutual
def PV.data : PV → Bool
 | .lst o _ _ xs => o.isNone && PV.datas xs
 | .agg cs => PV.datas cs
 | .bool _ | .int _ _ | .str _ => true
 | _ => false
def PV.datas : List PV → Bool
 | [] => true
 | x :: r => PV.data x && PV.datas r
end
mutual
theorem PV.data_okn (lv : Nat) (ks ts : List Nat) : ∀ v : PV,v.data = true → v.okn lv ks ts = true
 | .lst none _ _ xs,h => by simp only [PV.okn,Bool.true_and]; exact PV.datas_okns lv ks ts xs (by simpa [PV.data] using h)
 | .lst (some _) _ _ xs,h => by simp [PV.data] at h
 | .agg cs,h => by simp only [PV.okn]; exact PV.datas_okns lv ks ts cs (by simpa [PV.data] using h)
 | .bool _,_ | .int _ _,_ | .str _,_ => rfl
 | .tup _,h | .nilp,h | .ptr _ _ _ _,h | .slr _ _ _ _ _ _,h | .elp _ _,h | .fn _ _,h | .rnd _ _ _ _ _ _,h | .nilfn,h | .nilif,h | .ifc _ _,h | .und,h | .vec _ _ _ _,h | .vnil _ _,h | .vfrz _ _ _,h | .gone _ _,h | .lrec _,h => by simp [PV.data] at h
theorem PV.datas_okns (lv : Nat) (ks ts : List Nat) : ∀ vs : List PV,PV.datas vs = true → PV.okns lv ks ts vs = true
 | [],_ => rfl
 | v :: r,h => by
  simp only [PV.datas,Bool.and_eq_true] at h
  simp only [PV.okns,Bool.and_eq_true]
  exact ⟨PV.data_okn lv ks ts v h.1,PV.datas_okns lv ks ts r h.2⟩
end
mutual
theorem PV.data_dep (n : Nat) : ∀ v : PV,v.data = true → v.dep n = true
 | .lst none _ _ xs,h => by simp only [PV.dep]; exact PV.datas_deps n xs (by simpa [PV.data] using h)
 | .lst (some _) _ _ xs,h => by simp [PV.data] at h
 | .agg cs,h => by simp only [PV.dep]; exact PV.datas_deps n cs (by simpa [PV.data] using h)
 | .bool _,_ | .int _ _,_ | .str _,_ => rfl
 | .tup _,h | .nilp,h | .ptr _ _ _ _,h | .slr _ _ _ _ _ _,h | .elp _ _,h | .fn _ _,h | .rnd _ _ _ _ _ _,h | .nilfn,h | .nilif,h | .ifc _ _,h | .und,h | .vec _ _ _ _,h | .vnil _ _,h | .vfrz _ _ _,h | .gone _ _,h | .lrec _,h => by simp [PV.data] at h
theorem PV.datas_deps (n : Nat) : ∀ vs : List PV,PV.datas vs = true → PV.deps n vs = true
 | [],_ => rfl
 | v :: r,h => by
  simp only [PV.datas,Bool.and_eq_true] at h
  simp only [PV.deps,Bool.and_eq_true]
  exact ⟨PV.data_dep n v h.1,PV.datas_deps n r h.2⟩
end
theorem PV.datas_mem {l : List PV} (h : ∀ x ∈ l,x.data = true) : PV.datas l = true := by
 induction l with
 | nil => rfl
 | cons x r ih => simp only [PV.datas,Bool.and_eq_true]; exact ⟨h x (by simp),ih fun y hy => h y (by simp [hy])⟩
theorem PV.datas_map' {α : Type} {f : α → PV} {l : List α} (h : ∀ x ∈ l,(f x).data = true) : PV.datas (l.map f) = true := PV.datas_mem fun y hy => by obtain ⟨x,hx,rfl⟩ := List.mem_map.1 hy; exact h x hx
mutual
theorem CT.has_data : ∀ {c : CT} {v : PV},c.has v → v.data = true ∧ v.isCell = true ∧ v.untag1 = v
 | .bool,v,h => by simp only [CT.has] at h; obtain ⟨b,rfl⟩ := h; exact ⟨rfl,rfl,rfl⟩
 | .int k,v,h => by simp only [CT.has] at h; obtain ⟨n,rfl,_⟩ := h; exact ⟨rfl,rfl,rfl⟩
 | .str,v,h => by simp only [CT.has] at h; obtain ⟨n,rfl,_⟩ := h; exact ⟨rfl,rfl,rfl⟩
 | .lst ag bytes cs,v,h => by
  simp only [CT.has] at h
  obtain ⟨nl,xs,rfl,_,_,hx⟩ := h
  refine ⟨?_,rfl,rfl⟩
  simp only [PV.data,Option.isNone_none,Bool.true_and]
  refine PV.datas_mem fun x hxm => ?_
  have := hx x hxm
  cases ag with
  | true => obtain ⟨ys,rfl,h2⟩ := this; simp only [PV.data]; exact CT.hass_data h2
  | false => have h3 := CT.hass_data this; simpa [PV.datas] using h3
theorem CT.hass_data : ∀ {cs : List CT} {vs : List PV},CT.hass cs vs → PV.datas vs = true
 | [],vs,h => by simp only [CT.hass] at h; subst h; rfl
 | c :: cs,vs,h => by
  simp only [CT.hass] at h
  obtain ⟨v,r,rfl,h1,h2⟩ := h
  simp only [PV.datas,Bool.and_eq_true]
  exact ⟨(CT.has_data h1).1,CT.hass_data h2⟩
end
theorem law_app {P : Program} {W : World} (hm : P.follows .mixedOrders = true) {E : Env} (hF : Knows P E.fns) (hP : Prims P (RoOk P E.fns,tabOf W) E.prim) {f : FuncId} {args : Array Value} {pvs : List PV} {bag : Bag} (hA : Args (RoOk P E.fns) W pvs args.toList)
  {pr : Bool} (hlaw : app E pr (.fn f []) pvs [] = some (.bool true,bag,[])) : Calls P f args W fun e W' => e = .returned (.bool true) ∧ Below W.heap.size W W' := by
 obtain ⟨k,hk⟩ := app_some.1 hlaw
 exact law_calls hm hF hP hA (fun g v h => is_true h) hk
end Go.Proofs.Ytmffcpiffkclgaa.ZJM
set_option linter.unusedSimpArgs false
set_option linter.unusedVariables false
namespace Go.Proofs.Ytmffcpiffkclgaa.ZJM
def Goes (mask : St → Option St) (S : St) : Option (Ex × St) → Prop
 | some (.normal,st) => mask st = some S
 | _ => False
def EndsL (Q : Ex → St → Prop) : Option (Ex × St) → Prop
 | some (.exit id,st) => Q (.exit id) st
 | some (.ret,st) => Q .ret st
 | _ => False
theorem Goes.get {mask : St → Option St} {S : St} {r : Option (Ex × St)} (h : Goes mask S r) : ∃ st,r = some (.normal,st) ∧ mask st = some S := by
 unfold Goes at h
 split at h
 ·exact ⟨_,rfl,h⟩
 ·exact h.elim
theorem EndsL.get {Q : Ex → St → Prop} {r : Option (Ex × St)} (h : EndsL Q r) : ∃ e st,r = some (e,st) ∧ e ≠ .normal ∧ Q e st := by
 unfold EndsL at h
 split at h
 ·exact ⟨_,_,rfl,(by intro hh; cases hh),h⟩
 ·exact ⟨_,_,rfl,(by intro hh; cases hh),h⟩
 ·exact h.elim
theorem loop_until {mask : St → Option St} {body : St → Option (Ex × St)} (S : Nat → St) (n : Nat) (stop : Nat → Prop) (Q : Nat → Ex → St → Prop) {st : St} (h0 : mask st = some (S 0))
  (hs : ∀ i,i < n → ¬ stop i → Goes mask (S (i + 1)) (body (S i))) (hx : ∀ i,i < n → stop i → EndsL (Q i) (body (S i))) (he : EndsL (Q n) (body (S n))) :
  ∃ i e st',i ≤ n ∧ (∀ j,j < i → ¬ stop j) ∧ (i < n → stop i) ∧ loopW mask body st = some (e,st') ∧ Q i e st' := by
 have key : ∀ (d i : Nat) (st : St),i + d = n → mask st = some (S i) → (∀ j,j < i → ¬ stop j) → ∃ i' e st',i' ≤ n ∧ (∀ j,j < i' → ¬ stop j) ∧ (i' < n → stop i') ∧ loopN mask body (d + 1) st = some (e,st') ∧ Q i' e st' := by
  intro d
  induction d with
  | zero =>
   intro i st hi hm hj
   have : i = n := by omega
   subst this
   obtain ⟨e,st2,h1,h2,h3⟩ := he.get
   refine ⟨i,e,st2,Nat.le_refl _,hj,fun h => by omega,?_,h3⟩
   simp only [loopN,hm,h1]
   cases e <;> first | rfl | exact absurd rfl h2
  | succ d ih =>
   intro i st hi hm hj
   by_cases hst : stop i
   ·obtain ⟨e,st2,h1,h2,h3⟩ := (hx i (by omega) hst).get
    refine ⟨i,e,st2,by omega,hj,fun _ => hst,?_,h3⟩
    rw [loopN]
    simp only [hm,h1]
    cases e <;> first | rfl | exact absurd rfl h2
   ·obtain ⟨st2,h1,h2⟩ := (hs i (by omega) hst).get
    obtain ⟨i',e,st3,a1,a2,a3,a4,a5⟩ := ih (i + 1) st2 (by omega) h2 (fun j hj' => by
     by_cases hji : j = i
     ·subst hji; exact hst
     ·exact hj j (by omega))
    refine ⟨i',e,st3,a1,a2,a3,?_,a5⟩
    rw [loopN]
    simp only [hm,h1]
    exact a4
 obtain ⟨i',e,st3,a1,a2,a3,a4,a5⟩ := key n 0 st (by omega) h0 (fun j hj => by omega)
 exact ⟨i',e,st3,a1,a2,a3,loopW_some.2 ⟨_,a4⟩,a5⟩
theorem loop_for {mask : St → Option St} {body : St → Option (Ex × St)} (S : Nat → St) (n : Nat) (Q : Ex → St → Prop) {st : St} (h0 : mask st = some (S 0))
  (hs : ∀ i,i < n → Goes mask (S (i + 1)) (body (S i))) (he : EndsL Q (body (S n))) : ∃ e st',loopW mask body st = some (e,st') ∧ Q e st' := by
 obtain ⟨i,e,st',h1,_,h3,h4,h5⟩ := loop_until S n (fun _ => False) (fun i => fun e st => i = n → Q e st) h0 (fun i hi _ => hs i hi) (fun i _ h => h.elim)
  (by obtain ⟨e,st,h1,h2,h3⟩ := he.get; rw [h1]; cases e <;> first | exact fun _ => h3 | exact absurd rfl h2)
 have : i = n := by
  rcases Nat.lt_or_ge i n with h | h
  ·exact (h3 h).elim
  ·omega
 exact ⟨e,st',h4,h5 this⟩
def Leaves : Option (Ex × St) → Prop
 | some (.exit _,_) => True
 | some (.ret,_) => True
 | _ => False
theorem loop_eq {mask : St → Option St} {body : St → Option (Ex × St)} (S : Nat → St) (n : Nat) (hs : ∀ i,i < n → Goes mask (S (i + 1)) (body (S i))) (he : Leaves (body (S n))) {st : St} (h0 : mask st = some (S 0)) :
  loopW mask body st = body (S n) := by
 obtain ⟨e,st',h1,h2⟩ := loop_for S n (fun e st' => body (S n) = some (e,st')) h0 hs (by
  cases hb : body (S n) with
  | none => rw [hb] at he; exact he.elim
  | some q =>
   rw [hb] at he
   obtain ⟨e,st1⟩ := q
   cases e with
   | normal => exact he.elim
   | exit id => exact rfl
   | ret => exact rfl)
 rw [h1,h2]
theorem loop_eq_until {mask : St → Option St} {body : St → Option (Ex × St)} (S : Nat → St) (n : Nat) (stop : Nat → Prop) (hs : ∀ i,i < n → ¬ stop i → Goes mask (S (i + 1)) (body (S i)))
  (hx : ∀ i,i < n → stop i → Leaves (body (S i))) (he : Leaves (body (S n))) {st : St} (h0 : mask st = some (S 0)) :
  ∃ i,i ≤ n ∧ (∀ j,j < i → ¬ stop j) ∧ (i < n → stop i) ∧ loopW mask body st = body (S i) := by
 have lv : ∀ i,Leaves (body (S i)) → EndsL (fun e st' => body (S i) = some (e,st')) (body (S i)) := by
  intro i he
  cases hb : body (S i) with
  | none => rw [hb] at he; exact he.elim
  | some q =>
   rw [hb] at he
   obtain ⟨e,st1⟩ := q
   cases e with
   | normal => exact he.elim
   | exit id => exact rfl
   | ret => exact rfl
 obtain ⟨i,e,st',h1,h2,h3,h4,h5⟩ := loop_until S n stop (fun i e st' => body (S i) = some (e,st')) h0 hs (fun i hi hst => lv i (hx i hi hst)) (lv n he)
 exact ⟨i,h1,h2,h3,by rw [h4,h5]⟩
def Cd.inner : Cd → Cd
 | .seq a b => match a.inner with
  | .loop f k t d x => .loop f k t d x
  | _ => b.inner
 | .block _ b => b.inner
 | .cond _ a b => match a.inner with
  | .loop f k t d x => .loop f k t d x
  | _ => b.inner
 | .loop f k t d x => .loop f k t d x
 | _ => .skip
def Cd.body : Cd → Cd
 | .loop _ _ _ _ a => a
 | c => c
theorem wrap_succ (i : Nat) (h : i < 4611686018427387904) : IntKind.i64.wrap ((i : Int) + 1) = ((i + 1 : Nat) : Int) := by
 unfold IntKind.wrap; simp [IntKind.bits,IntKind.signed]; omega
section
variable (b : Bool) (k : IntKind) (n : Int) (s : ByteArray) (o : Option Nat) (sz : Nat) (xs cs vs : List PV) (lv sl off nn : Nat) (p : Path) (x : PV) (f : FuncId) (t : TypeId)
@[simp] theorem isCell_bool : PV.isCell (.bool b) = true := rfl
@[simp] theorem isVal_bool : PV.isVal (.bool b) = true := rfl
@[simp] theorem cells_bool : PV.cells (.bool b) = [.bool b] := rfl
@[simp] theorem untag1_bool : PV.untag1 (.bool b) = .bool b := rfl
@[simp] theorem untag_bool : PV.untag (.bool b) = .bool b := rfl
@[simp] theorem isCell_int : PV.isCell (.int k n) = true := rfl
@[simp] theorem isVal_int : PV.isVal (.int k n) = true := rfl
@[simp] theorem cells_int : PV.cells (.int k n) = [.int k n] := rfl
@[simp] theorem untag1_int : PV.untag1 (.int k n) = .int k n := rfl
@[simp] theorem untag_int : PV.untag (.int k n) = .int k n := rfl
@[simp] theorem isCell_str : PV.isCell (.str s) = true := rfl
@[simp] theorem isVal_str : PV.isVal (.str s) = true := rfl
@[simp] theorem cells_str : PV.cells (.str s) = [.str s] := rfl
@[simp] theorem untag1_str : PV.untag1 (.str s) = .str s := rfl
@[simp] theorem untag_str : PV.untag (.str s) = .str s := rfl
@[simp] theorem isCell_lst : PV.isCell (.lst o b sz xs) = true := rfl
@[simp] theorem isVal_lst : PV.isVal (.lst o b sz xs) = true := rfl
@[simp] theorem cells_lst : PV.cells (.lst o b sz xs) = [.lst o b sz xs] := rfl
@[simp] theorem untag1_lst : PV.untag1 (.lst o b sz xs) = .lst none b sz xs := rfl
@[simp] theorem untag_lst : PV.untag (.lst o b sz xs) = .lst none b sz xs := rfl
@[simp] theorem isCell_nilp : PV.isCell (.nilp) = true := rfl
@[simp] theorem isVal_nilp : PV.isVal (.nilp) = true := rfl
@[simp] theorem cells_nilp : PV.cells (.nilp) = [.nilp] := rfl
@[simp] theorem untag1_nilp : PV.untag1 (.nilp) = .nilp := rfl
@[simp] theorem untag_nilp : PV.untag (.nilp) = .nilp := rfl
@[simp] theorem isCell_ptr : PV.isCell (.ptr lv sl p off) = true := rfl
@[simp] theorem isVal_ptr : PV.isVal (.ptr lv sl p off) = true := rfl
@[simp] theorem cells_ptr : PV.cells (.ptr lv sl p off) = [.ptr lv sl p off] := rfl
@[simp] theorem untag1_ptr : PV.untag1 (.ptr lv sl p off) = .ptr lv sl p off := rfl
@[simp] theorem untag_ptr : PV.untag (.ptr lv sl p off) = .ptr lv sl p off := rfl
@[simp] theorem isCell_elp : PV.isCell (.elp x off) = true := rfl
@[simp] theorem isVal_elp : PV.isVal (.elp x off) = true := rfl
@[simp] theorem cells_elp : PV.cells (.elp x off) = [.elp x off] := rfl
@[simp] theorem untag1_elp : PV.untag1 (.elp x off) = .elp x off := rfl
@[simp] theorem untag_elp : PV.untag (.elp x off) = .elp x off := rfl
@[simp] theorem isCell_fn : PV.isCell (.fn f cs) = true := rfl
@[simp] theorem isVal_fn : PV.isVal (.fn f cs) = true := rfl
@[simp] theorem cells_fn : PV.cells (.fn f cs) = [.fn f cs] := rfl
@[simp] theorem untag1_fn : PV.untag1 (.fn f cs) = .fn f cs := rfl
@[simp] theorem untag_fn : PV.untag (.fn f cs) = .fn f cs := rfl
@[simp] theorem isCell_nilfn : PV.isCell (.nilfn) = true := rfl
@[simp] theorem isVal_nilfn : PV.isVal (.nilfn) = true := rfl
@[simp] theorem cells_nilfn : PV.cells (.nilfn) = [.nilfn] := rfl
@[simp] theorem untag1_nilfn : PV.untag1 (.nilfn) = .nilfn := rfl
@[simp] theorem untag_nilfn : PV.untag (.nilfn) = .nilfn := rfl
@[simp] theorem isCell_nilif : PV.isCell (.nilif) = true := rfl
@[simp] theorem isVal_nilif : PV.isVal (.nilif) = true := rfl
@[simp] theorem cells_nilif : PV.cells (.nilif) = [.nilif] := rfl
@[simp] theorem untag1_nilif : PV.untag1 (.nilif) = .nilif := rfl
@[simp] theorem untag_nilif : PV.untag (.nilif) = .nilif := rfl
@[simp] theorem isCell_ifc : PV.isCell (.ifc t x) = true := rfl
@[simp] theorem isVal_ifc : PV.isVal (.ifc t x) = true := rfl
@[simp] theorem cells_ifc : PV.cells (.ifc t x) = [.ifc t x] := rfl
@[simp] theorem untag1_ifc : PV.untag1 (.ifc t x) = .ifc t x := rfl
@[simp] theorem untag_ifc : PV.untag (.ifc t x) = .ifc t x := rfl
@[simp] theorem isCell_slr : PV.isCell (.slr lv sl p off nn sz) = true := rfl
@[simp] theorem isVal_slr : PV.isVal (.slr lv sl p off nn sz) = true := rfl
@[simp] theorem cells_slr : PV.cells (.slr lv sl p off nn sz) = [.slr lv sl p off nn sz] := rfl
@[simp] theorem untag1_slr : PV.untag1 (.slr lv sl p off nn sz) = .slr lv sl p off nn sz := rfl
@[simp] theorem untag_slr : PV.untag (.slr lv sl p off nn sz) = .slr lv sl p off nn sz := rfl
@[simp] theorem isCell_agg : PV.isCell (.agg cs) = false := rfl
@[simp] theorem isVal_agg : PV.isVal (.agg cs) = cs.all PV.isCell := rfl
@[simp] theorem cells_agg : PV.cells (.agg cs) = cs := rfl
@[simp] theorem untag1_agg : PV.untag1 (.agg cs) = .agg cs := rfl
@[simp] theorem untag_agg : PV.untag (.agg cs) = .agg (cs.map PV.untag1) := rfl
end
attribute [simp] binS run_seq run_reg run_cond run_skip run_exit run_ret run_block run_draw run_loop run_range regEv COp.ev opEv OpC.ev evs Opd.ev get upd gets on1 on2 on3 asI binP binI St.put newVar storeEv splice newList firstList sized appEv callEv
 drawEv xMode xEv xPast xLate readOp calmOp s2bH PV.beq_self headEv COp.evH opH callH ladrP loadP partP addP fldP lenP slenP mnP mxP nilcP pickP beqP unP i2iP extP slclP slcsP lohi lnilP fnilP pnilP aadrP ixsP ixaP s2sP b2sP fillP eqP eqCs eqB mget mset maskSt keepSt0 dropMark dropTag rowMark rowLit retEv resEv resEvs ResC.ev numbered Goes Leaves
 PV.okn PV.okns PV.dep PV.deps shiftOp derefP boundsP rslP makeEv clrEv writeSt rowP outC outCs tget tset lget lset keepSt okSt frzV frzR frzRs unpack apprEv takeRow St.kill St.mem del put1 putCs inC moves nextVer isPlace isFree cpyEv cpyTo cpysEv s2bEv frz1 frzs floadEv
 rangeEv leftBy callHv putO isTup emptyBag recOf zipf rndSt rndEnd
end Go.Proofs.Ytmffcpiffkclgaa.ZJM
