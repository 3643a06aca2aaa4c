/- Channels (30 numbers), words, names and numbers of a table. -/
import Derived.Test.YtmffcpiffkclgaaGreatZFV1
import Derived.Test.YtmffcpiffkclgaaGreatZFI1
set_option linter.unusedSimpArgs false
set_option linter.unusedVariables false
set_option maxRecDepth 10000
namespace Go.Proofs.YtmffcpiffkclgaaGreat.ZJM.DC
open Go.Proofs.YtmffcpiffkclgaaGreat.ZJM Go.RowKit
section
variable (k:IntKind) (n:Int) (b:Bool) (s:ByteArray) (o:Option Nat) (z:Nat) (xs:List PV) (m lv sl off:Nat) (p:Path)
@[simp] theorem isPlace_int:isPlace (.int k n)=false:=rfl
@[simp] theorem isPlace_bool:isPlace (.bool b)=false:=rfl
@[simp] theorem isPlace_str:isPlace (.str s)=false:=rfl
@[simp] theorem isPlace_lst:isPlace (.lst o b z xs)=false:=rfl
@[simp] theorem isPlace_ptr:isPlace (.ptr lv sl p off)=false:=rfl
@[simp] theorem isPlace_nilp:isPlace .nilp=false:=rfl
@[simp] theorem moves_int:moves m (.int k n)=false:=rfl
@[simp] theorem moves_bool:moves m (.bool b)=false:=rfl
@[simp] theorem moves_str:moves m (.str s)=false:=rfl
@[simp] theorem moves_lst:moves m (.lst o b z xs)=false:=rfl
@[simp] theorem moves_ptr:moves m (.ptr lv sl p off)=false:=rfl
@[simp] theorem moves_nilp:moves m .nilp=false:=rfl
end
def CF (f:Nat→Int) (n:Nat):List PV:=(List.range n).map fun j=>PV.int .i64 (f j)
section
variable (f:Nat→Int) (n:Nat)
@[simp] theorem CF_len:(CF f n).length=n:=by simp [CF]
theorem CF_mem {x:PV} (h:x∈CF f n):∃ k,x=.int .i64 k:=by
 simp only [CF,List.mem_map] at h
 obtain ⟨j,_,rfl⟩:=h
 exact ⟨_,rfl⟩
theorem CF_get {k:Nat} (h:k < n):(CF f n)[k]?=some (PV.int .i64 (f k)):=by simp [CF,h]
@[simp] theorem CF_getE {k:Nat} (h:k < (CF f n).length):(CF f n)[k]'h=PV.int .i64 (f k):=by simp [CF]
theorem CF_sub (a b:Nat) (h:a+b≤n):((CF f n).drop a).take b=CF (fun j=>f (a+j)) b:=by
 apply List.ext_getElem?
 intro i
 by_cases hi:i < b
 ·rw [List.getElem?_take_of_lt hi,List.getElem?_drop,CF_get _ _ (by omega),CF_get _ _ hi]
 ·rw [List.getElem?_eq_none (by simp; omega),List.getElem?_eq_none (by simp; omega)]
theorem CF_three (a:Nat) (h:a+3≤n):((CF f n).drop a).take 3=[.int .i64 (f a),.int .i64 (f (a+1)),.int .i64 (f (a+2))]:=by
 rw [CF_sub f n a 3 h]; rfl
theorem CF_two (a:Nat) (h:a+2≤n):((CF f n).drop a).take 2=[.int .i64 (f a),.int .i64 (f (a+1))]:=by
 rw [CF_sub f n a 2 h]; rfl
theorem CF_one (a:Nat) (h:a+1≤n):((CF f n).drop a).take 1=[.int .i64 (f a)]:=by
 rw [CF_sub f n a 1 h]; rfl
@[simp] theorem CF_dropN:(CF f n).drop n=[]:=List.drop_of_length_le (by simp)
@[simp] theorem CF_all:(CF f n).take n=CF f n:=List.take_of_length_le (by simp)
@[simp] theorem CF_placeI (a b:Nat):(∀ x,x∈((CF f n).drop a).take b→isPlace x=false)↔True:=iff_true_intro fun x hx=>by obtain ⟨k,rfl⟩:=CF_mem f n (List.mem_of_mem_drop (List.mem_of_mem_take hx)); rfl
@[simp] theorem CF_place0:(∀ x,x∈CF f n→isPlace x=false)↔True:=iff_true_intro fun x hx=>by obtain ⟨k,rfl⟩:=CF_mem f n hx; rfl
@[simp] theorem CF_movesI (m:Nat):(∀ x,x∈CF f n→moves m x=false)↔True:=iff_true_intro fun x hx=>by obtain ⟨k,rfl⟩:=CF_mem f n hx; rfl
@[simp] theorem CF_cellI:(∀ x,x∈CF f n→x.isCell=true)↔True:=iff_true_intro fun x hx=>by obtain ⟨k,rfl⟩:=CF_mem f n hx; rfl
@[simp] theorem CF_cell:(CF f n).all PV.isCell=true:=List.all_eq_true.2 fun x hx=>by obtain ⟨k,rfl⟩:=CF_mem f n hx; rfl
@[simp] theorem CF_place (a b:Nat):(((CF f n).drop a).take b).all (fun c=>!isPlace c)=true:=List.all_eq_true.2 fun x hx=>by obtain ⟨k,rfl⟩:=CF_mem f n (List.mem_of_mem_drop (List.mem_of_mem_take hx)); rfl
@[simp] theorem CF_moves (m:Nat):(CF f n).all (fun c=>!moves m c)=true:=List.all_eq_true.2 fun x hx=>by obtain ⟨k,rfl⟩:=CF_mem f n hx; rfl
@[simp] theorem CF_untag:(CF f n).map PV.untag1=CF f n:=by
 rw [List.map_congr_left (g:=id) fun x hx=>by obtain ⟨k,rfl⟩:=CF_mem f n hx; rfl]; simp
theorem CF_data:PV.datas (CF f n)=true:=PV.datas_mem fun x hx=>by obtain ⟨k,rfl⟩:=CF_mem f n hx; rfl
@[simp] theorem CF_okns (a b c):PV.okns a b c (CF f n)=true:=PV.datas_okns _ _ _ _ (CF_data f n)
@[simp] theorem CF_deps (a):PV.deps a (CF f n)=true:=PV.datas_deps _ _ (CF_data f n)
@[simp] theorem CF_names (a):PV.namess a (CF f n)=[]:=PV.datas_namess _ _ (CF_data f n)
@[simp] theorem CF_rens (a b ρ):PV.rens a b ρ (CF f n)=CF f n:=PV.datas_rens _ _ _ _ (CF_data f n)
@[simp] theorem CF_out (lv sl:Nat) (p:Path) (j:Nat):outCs lv sl p j (CF f n)=some (CF f n):=by
 have key:∀ (l:List PV) (j:Nat),(∀ x∈l,∃ k,x=PV.int .i64 k)→outCs lv sl p j l=some l:=by
  intro l
  induction l with
  | nil=>intro j _; rfl
  | cons x l ih =>
   intro j h
   obtain ⟨k,rfl⟩:=h x (by simp)
   simp only [outCs,outC,ih (j+1) fun y hy=>h y (by simp [hy])]
 exact key _ j fun x hx=>CF_mem f n hx
@[simp] theorem CF_frz (own:Lvl) (m:Mem):frzRs own m (CF f n)=some (CF f n):=by
 have key:∀ l:List PV,(∀ x∈l,∃ k,x=PV.int .i64 k)→frzRs own m l=some l:=by
  intro l
  induction l with
  | nil=>intro _; rfl
  | cons x l ih =>
   intro h
   obtain ⟨k,rfl⟩:=h x (by simp)
   simp only [frzRs,frzR,ih fun y hy=>h y (by simp [hy])]
 exact key _ fun x hx=>CF_mem f n hx
end
theorem CF_ext {f g:Nat→Int} {n:Nat} (h:∀ k,k < n→f k=g k):CF f n=CF g n:=by
 unfold CF
 exact List.map_congr_left fun k hk=>by rw [h k (List.mem_range.1 hk)]
def up1 (f:Nat→Int) (a:Nat) (x:Int):Nat→Int:=fun j=>if j=a then x else f j
def up3 (f:Nat→Int) (a:Nat) (x y z:Int):Nat→Int:=fun j=>if j=a then x else if j=a+1 then y else if j=a+2 then z else f j
theorem CF_put1 (f:Nat→Int) {n a:Nat} (h:a < n) (x:Int):(CF f n).take a++PV.int .i64 x::(CF f n).drop (a+1)=CF (up1 f a x) n:=by
 apply List.ext_getElem?
 intro i
 by_cases hi:i < n
 ·rw [CF_get _ _ hi]
  have hl:((CF f n).take a).length=a:=by simp; omega
  rcases Nat.lt_trichotomy i a with h1 | h1 | h1
  ·rw [List.getElem?_append_left (by omega),List.getElem?_take_of_lt h1,CF_get _ _ hi,up1,if_neg (by omega)]
  ·subst h1
   rw [List.getElem?_append_right (by omega),hl,Nat.sub_self,List.getElem?_cons_zero,up1,if_pos rfl]
  ·rw [List.getElem?_append_right (by omega),hl]
   obtain ⟨d,rfl⟩:∃ d,i=a+1+d:=⟨i - a - 1,by omega⟩
   have e:a+1+d - a=d+1:=by omega
   rw [e,List.getElem?_cons_succ,List.getElem?_drop,CF_get _ _ hi,up1,if_neg (by omega)]
 ·rw [List.getElem?_eq_none (by simp; omega),List.getElem?_eq_none (by simp; omega)]
theorem CF_put3 (f:Nat→Int) {n a:Nat} (h:a+3≤n) (x y z:Int):(CF f n).take a++PV.int .i64 x::PV.int .i64 y::PV.int .i64 z::(CF f n).drop (a+3)=CF (up3 f a x y z) n:=by
 apply List.ext_getElem?
 intro i
 by_cases hi:i < n
 ·rw [CF_get _ _ hi]
  have hl:((CF f n).take a).length=a:=by simp; omega
  by_cases h1:i < a
  ·rw [List.getElem?_append_left (by omega),List.getElem?_take_of_lt h1,CF_get _ _ hi,up3,if_neg (by omega),if_neg (by omega),if_neg (by omega)]
  ·rw [List.getElem?_append_right (by omega),hl]
   rcases (by omega:i=a∨i=a+1∨i=a+2∨a+3≤i) with rfl | rfl | rfl | h2
   ·rw [Nat.sub_self,List.getElem?_cons_zero,up3,if_pos rfl]
   ·rw [show a+1 - a=1 by omega,List.getElem?_cons_succ,List.getElem?_cons_zero,up3,if_neg (by omega),if_pos rfl]
   ·rw [show a+2 - a=2 by omega,List.getElem?_cons_succ,List.getElem?_cons_succ,List.getElem?_cons_zero,up3,if_neg (by omega),if_neg (by omega),if_pos rfl]
   ·obtain ⟨d,rfl⟩:∃ d,i=a+3+d:=⟨i - a - 3,by omega⟩
    rw [show a+3+d - a=d+3 by omega,List.getElem?_cons_succ,List.getElem?_cons_succ,List.getElem?_cons_succ,List.getElem?_drop,CF_get _ _ hi,up3,if_neg (by omega),if_neg (by omega),if_neg (by omega)]
 ·rw [List.getElem?_eq_none (by simp; omega),List.getElem?_eq_none (by simp; omega)]
theorem CF_zero8:CF (fun _=>0) 8=[(.int .i64 0),(.int .i64 0),(.int .i64 0),(.int .i64 0),(.int .i64 0),(.int .i64 0),(.int .i64 0),(.int .i64 0)]:=rfl
theorem CF_zero30:CF (fun _=>0) 30=[(.int .i64 0),(.int .i64 0),(.int .i64 0),(.int .i64 0),(.int .i64 0),(.int .i64 0),(.int .i64 0),(.int .i64 0),(.int .i64 0),(.int .i64 0),(.int .i64 0),(.int .i64 0),(.int .i64 0),(.int .i64 0),(.int .i64 0),(.int .i64 0),(.int .i64 0),(.int .i64 0),(.int .i64 0),(.int .i64 0),(.int .i64 0),(.int .i64 0),(.int .i64 0),(.int .i64 0),(.int .i64 0),(.int .i64 0),(.int .i64 0),(.int .i64 0),(.int .i64 0),(.int .i64 0)]:=rfl
theorem loopW_congr {mask:St→Option St} {body:St→Option (Ex × St)} {st st':St} (h:mask st=mask st'):loopW mask body st=loopW mask body st':=by
 unfold loopW
 congr 1
 funext n
 cases n with
 | zero=>rfl
 | succ n=>simp only [loopN,h]
theorem loop_at {mask:St→Option St} {body:St→Option (Ex × St)} {S0:St} {r:Option (Ex × St)} (hS0:mask S0=some S0) (q1:loopW mask body S0=r) (st:St) (h:mask st=some S0):loopW mask body st=r:=(loopW_congr (h.trans hS0.symm)).trans q1
def slF (f:Nat→Int) (t:Nat):Slot:=⟨f (t * 3+6),f (t * 3+6+1),f (t * 3+6+2)⟩
def slsF (f:Nat→Int) (n:Nat):List Slot:=(List.range n).map (slF f)
def wordF (f:Nat→Int) (t:Nat):Int × Int:=wordA (slF f t).i (slF f t).s (slF f t).n
theorem CF_slot (f:Nat→Int) (t:Nat) (h:t < 8):((CF f 30).drop (6+t * 3)).take 3=[.int .i64 (slF f t).i,.int .i64 (slF f t).s,.int .i64 (slF f t).n]:=by
 rw [CF_three f 30 _ (by omega),show 6+t * 3=t * 3+6 by omega]; rfl
theorem CF_chunks (f:Nat→Int) (n:Nat) (h:n≤8):chunks 3 n ((CF f 30).drop 6)=Ss (slsF f n):=by
 have key:∀ (n a:Nat),a+n≤8→chunks 3 n ((CF f 30).drop (6+a * 3))=Ss ((List.range n).map fun j=>slF f (a+j)):=by
  intro n
  induction n with
  | zero=>intro a _; rfl
  | succ n ih =>
   intro a h
   rw [chunks,CF_slot f a (by omega),List.drop_drop,show 6+a * 3+3=6+(a+1) * 3 by omega,ih (a+1) (by omega),List.range_succ_eq_map,List.map_cons,List.map_map]
   show Slot.enc (slF f a)::_=Slot.enc (slF f (a+0))::encs Slot.enc _
   congr 1
   refine congrArg (encs Slot.enc) (List.map_congr_left fun j _=>?_)
   simp only [Function.comp,Nat.succ_eq_add_one]
   rw [show a+1+j=a+(j+1) by omega]
 have:=key n 0 (by omega)
 simp only [Nat.zero_mul,Nat.add_zero,Nat.zero_add] at this
 exact this
theorem appx84 (c:Int):app E false (.fn 63 []) [.int .i64 c] []=some (.bool (decide (0≤c) && decide (c < 4)),emptyBag,[]):=by
 rw [app_fn E rfl hx84 rfl]
 by_cases h:0≤c <;> by_cases h2:c < 4 <;> simp [cx84,h,h2]
def wordsOk (f:Nat→Int):Bool:=decide (0≤f 5) && decide (f 5≤8) && (List.range 8).all fun j=>!decide ((j:Int) < f 5) || (wordF f j).2 == 0
def wordL (f:Nat→Int) (j:Nat):Int:=if (j:Int) < f 5 then (wordF f j).1 else 0
theorem word_err (f:Nat→Int) (t:Nat):(wordF f t).2=0∨(wordF f t).2=2:=by
 unfold wordF wordA; split <;> simp
def wl (f:Nat→Int) (t:Nat):Nat→Int:=fun j=>if j < t then (wordF f j).1 else 0
theorem wl_succ (f:Nat→Int) (t:Nat):CF (up1 (wl f t) t (wordF f t).1) 8=CF (wl f (t+1)) 8:=by
 apply CF_ext
 intro k _
 unfold up1 wl
 by_cases h:k=t
 ·subst h; simp
 ·by_cases h2:k < t
  ·rw [if_neg h,if_pos h2,if_pos (by omega)]
  ·rw [if_neg h,if_neg h2,if_neg (by omega)]
theorem wordsOk_iff (f:Nat→Int):wordsOk f=true↔0≤f 5∧f 5≤8∧∀ j:Nat,(j:Int) < f 5→(wordF f j).2=0:=by
 unfold wordsOk
 simp only [Bool.and_eq_true,decide_eq_true_eq,List.all_eq_true,List.mem_range,Bool.or_eq_true,Bool.not_eq_true',decide_eq_false_iff_not,beq_iff_eq,and_assoc]
 constructor
 ·rintro ⟨h1,h2,h3⟩
  exact ⟨h1,h2,fun j hj=>(h3 j (by omega)).resolve_left (by omega)⟩
 ·rintro ⟨h1,h2,h3⟩
  refine ⟨h1,h2,fun j _=>?_⟩
  by_cases h:(j:Int) < f 5
  ·exact .inr (h3 j h)
  ·exact .inl h
section
variable (f:Nat→Int) (hf0:0≤f 5) (hf8:f 5≤8)
def S85 (t:Nat):St:=⟨[(1,.elp (.agg (CF f 30)) 0),(2,.ptr 0 2 [] 0),(4,.ptr 0 4 [] 0),(18,.int .i64 (f 5)),(19,.int .i64 t)],[],[(2,CF (fun _=>0) 8),(4,CF (wl f t) 8)],[],[]⟩
include hf0 hf8 in
theorem loop85 {st:St} (h0:maskSt [1,2,4,18,19] [2,4] [] [] st=some (S85 f 0)) :
  ∃ e st',loopW (maskSt [1,2,4,18,19] [2,4] [] []) (Cd.run (app E) cx85.body.inner.body) st=some (e,st')∧e≠.normal∧st'.m=[]∧st'.tops=[]∧st'.dead=[] ∧
   ((e=.exit 0∧wordsOk f=true∧get st'.f 2=some (.ptr 0 2 [] 0)∧get st'.f 4=some (.ptr 0 4 [] 0)∧st'.own=[(2,CF (fun _=>0) 8),(4,CF (wl f (f 5).toNat) 8)]) ∨
    (e=.ret∧wordsOk f=false∧get st'.f 2=some (.ptr 0 2 [] 0)∧get st'.f 3=some (.int .i64 2)∧∃ g,st'.own=[(2,CF g 8),(4,CF g 8)])):=by
 refine loop_inv (fun t S=>(∀ j,j < t→(wordF f j).2=0)∧S=S85 f t) (f 5).toNat _ h0 ⟨fun j hj=>by omega,rfl⟩ ?_ ?_
 ·rintro t S ht ⟨hall,rfl⟩
  have hti:(t:Int) < f 5:=by omega
  have ht8:t < 8:=by omega
  have hw:=wrap_succ t (by omega)
  have hsl:=CF_slot f t ht8
  have h18:app E false (.fn 51 []) [.agg [.int .i64 (slF f t).i,.int .i64 (slF f t).s,.int .i64 (slF f t).n]] []=some (.tup [.int .i64 (wordF f t).1,.int .i64 (wordF f t).2],emptyBag,[]):=app18 _ _ _
  have hb1:6+t * 3+3≤30:=by omega
  have hput:=CF_put1 (wl f t) ht8 (wordF f t).1
  rw [wl_succ] at hput
  have htI:(t:Int) < 8:=by omega
  have hone:=CF_one (wl f t) 8 t (by omega)
  have ht7:t≤7:=by omega
  rcases word_err f t with hz | hz
  ·rw [hz] at h18
   have hG:Goes (maskSt [1,2,4,18,19] [2,4] [] []) (S85 f (t+1)) (Cd.run (app E) cx85.body.inner.body (S85 f t)):=by
    simp [-isPlace,-moves,cx85,Cd.inner,Cd.body,S85,hti,ht8,ht7,htI,hb1,hsl,h18,hput,hone,hw]
   obtain ⟨st2,q1,q2⟩:=hG.get
   refine .inl ⟨st2,_,q1,q2,?_,rfl⟩
   intro j hj
   by_cases hj2:j=t
   ·rw [hj2]; exact hz
   ·exact hall j (by omega)
  ·rw [hz] at h18
   refine .inr ?_
   have hno:wordsOk f=false:=by
    cases hq:wordsOk f with
    | false=>rfl
    | true =>
     have:=((wordsOk_iff f).1 hq).2.2 t hti
     omega
   rw [hno]
   simp [-isPlace,-moves,cx85,Cd.inner,Cd.body,S85,hti,ht8,ht7,htI,hb1,hsl,h18,hw,EndsL]
   exact ⟨_,rfl⟩
 ·rintro S ⟨hall,rfl⟩
  have hyes:wordsOk f=true:=(wordsOk_iff f).2 ⟨hf0,hf8,fun j hj=>hall j (by omega)⟩
  rw [hyes]
  have hn:((f 5).toNat:Int)=f 5:=by omega
  simp [-isPlace,-moves,cx85,Cd.inner,Cd.body,S85,EndsL,hn]
end
def wordsC (f:Nat→Int):Int:=if wordsOk f=true then 0 else 2
theorem appx85 (f:Nat→Int):∃ g,app E false (.fn 64 []) [.agg (CF f 30)] []=some (.tup [.agg (CF g 8),.int .i64 (wordsC f)],emptyBag,[])∧(wordsOk f=true→CF g 8=CF (wordL f) 8):=by
 have h5:=CF_get f 30 (k:=5) (by omega)
 have z8:=CF_zero8
 by_cases h0:f 5 < 0
 ·have hno:wordsOk f=false:=by
   cases hq:wordsOk f with
   | false=>rfl
   | true=>have:=((wordsOk_iff f).1 hq).1; omega
  refine ⟨fun _=>0,?_,fun h=>by rw [hno] at h; cases h⟩
  rw [app_fn E rfl hx85 rfl,wordsC,hno]
  simp [-isPlace,-moves,cx85,h5,h0,← z8]
 by_cases h8:8 < f 5
 ·have hno:wordsOk f=false:=by
   cases hq:wordsOk f with
   | false=>rfl
   | true=>have:=((wordsOk_iff f).1 hq).2.1; omega
  refine ⟨fun _=>0,?_,fun h=>by rw [hno] at h; cases h⟩
  rw [app_fn E rfl hx85 rfl,wordsC,hno]
  simp [-isPlace,-moves,cx85,h5,h0,h8,← z8]
 obtain ⟨e,⟨f',tops',own',dead',m'⟩,q1,q2,gm,gt,gd,q3⟩:=loop85 f (by omega) (by omega) (st:=⟨[(19,.int .i64 0),(18,.int .i64 (f 5)),(17,.elp (.agg (CF f 30)) 5),(15,.bool false),(14,.bool false),(13,.int .i64 (f 5)),(12,.elp (.agg (CF f 30)) 5),(11,.bool false),(10,.bool false),(9,.int .i64 (f 5)),(8,.elp (.agg (CF f 30)) 5),(4,.ptr 0 4 [] 0),(3,.int .i64 0),(2,.ptr 0 2 [] 0),(1,.elp (.agg (CF f 30)) 0),(0,.agg (CF f 30))],[],[(4,CF (fun _=>0) 8),(2,CF (fun _=>0) 8)],[],[]⟩) (by
  have:CF (wl f 0) 8=CF (fun _=>0) 8:=CF_ext fun k _=>by simp [wl]
  simp [S85,this])
 simp only at gm gt gd
 subst gm gt gd
 simp only [cx85,Cd.inner,Cd.body] at q1
 rcases q3 with ⟨rfl,hz,g2,g4,go⟩ | ⟨rfl,hz,g2,g3,g,go⟩
 ·simp only at g2 g4 go
  subst go
  refine ⟨wl f (f 5).toNat,?_,fun _=>CF_ext fun k _=>?_⟩
  ·rw [app_fn E rfl hx85 rfl,wordsC,if_pos hz]
   simp [-isPlace,-moves,cx85,h5,h0,h8,← z8,q1,g2,g4]
  ·unfold wl wordL
   by_cases hk:(k:Int) < f 5
   ·rw [if_pos (by omega),if_pos hk]
   ·rw [if_neg (by omega),if_neg hk]
 ·simp only at g2 g3 go
  subst go
  refine ⟨g,?_,fun h=>by rw [hz] at h; cases h⟩
  rw [app_fn E rfl hx85 rfl,wordsC,hz]
  simp [-isPlace,-moves,cx85,h5,h0,h8,← z8,q1,g2,g3]
def numL (f:Nat→Int) (t:Nat):List Int:=[f 0,f 1,f 2,f 3,f 4,f 5]++(List.range t).map (wordL f)
theorem numL_succ (f:Nat→Int) (t:Nat):Ks (numL f t)++[.int .i64 (wordL f t)]=Ks (numL f (t+1)):=by
 unfold numL
 rw [List.range_succ,List.map_append]
 simp [encs]
theorem numL_len (f:Nat→Int) (t:Nat):(numL f t).length=t+6:=by simp [numL]
section
variable (f:Nat→Int) (hf0:0≤f 5) (hf8:f 5≤8)
def S88 (t:Nat):St:=⟨[(1,.elp (.agg (CF f 30)) 0),(4,.lst (some 29) false 1 (Ks (numL f t))),(5,.int .i64 t)],[(29,t+6,2)],[],[],[]⟩
include hf0 hf8 in
theorem loop88 {st:St} (h0:maskSt [1,4,5] [] [29] [] st=some (S88 f 0)) :
  ∃ e st',loopW (maskSt [1,4,5] [] [29] []) (Cd.run (app E) cx88.body.inner.body) st=some (e,st')∧e≠.normal∧st'.m=[]∧st'.dead=[]∧st'.own=[] ∧
   ((e=.exit 0∧wordsOk f=true∧get st'.f 4=some (.lst (some 29) false 1 (Ks (numL f 8)))) ∨
    (e=.ret∧wordsOk f=false∧get st'.f 2=some (.lst none true 1 [])∧get st'.f 3=some (.bool false))):=by
 have h5:=CF_get f 30 (k:=5) (by omega)
 refine loop_inv (fun t S=>(∀ j:Nat,j < t→(j:Int) < f 5→(wordF f j).2=0)∧S=S88 f t) 8 _ h0 ⟨fun j hj=>by omega,rfl⟩ ?_ ?_
 ·rintro t S ht ⟨hall,rfl⟩
  have ht8:t < 8:=ht
  have htI:(t:Int) < 8:=by omega
  have hw:=wrap_succ t (by omega)
  have hsl:=CF_slot f t ht8
  have h19:app E false (.fn 26 []) [.agg [.int .i64 (slF f t).i,.int .i64 (slF f t).s,.int .i64 (slF f t).n]] []=some (.tup [.int .i64 (wordF f t).1,.int .i64 (wordF f t).2],emptyBag,[]):=app19 _ _ _
  have hb1:6+t * 3+3≤30:=by omega
  have hsn:=numL_succ f t
  have hnl:=numL_len f t
  have hnl':(Ks (numL f t)).length=t+6:=by rw [encs_len]; exact hnl
  have hmb:(t+6+1) * 8≤maxBytes:=by unfold maxBytes; omega
  have hok:=fun a b c=>ks_okns (numL f t) a b c
  by_cases hti:(t:Int) < f 5
  ·rcases word_err f t with hz | hz
   ·rw [hz] at h19
    have hwl:wordL f t=(wordF f t).1:=by rw [wordL,if_pos hti]
    rw [hwl] at hsn
    have hG:Goes (maskSt [1,4,5] [] [29] []) (S88 f (t+1)) (Cd.run (app E) cx88.body.inner.body (S88 f t)):=by
     simp only [S88,← hsn]
     generalize Ks (numL f t)=LL at *
     simp [cx88,Cd.inner,Cd.body,hti,ht8,htI,hb1,hsl,h19,h5,hw,hnl',hmb,hok]
    obtain ⟨st2,q1,q2⟩:=hG.get
    refine .inl ⟨st2,_,q1,q2,?_,rfl⟩
    intro j hj hj5
    by_cases hj2:j=t
    ·rw [hj2]; exact hz
    ·exact hall j (by omega) hj5
   ·rw [hz] at h19
    refine .inr ?_
    have hno:wordsOk f=false:=by
     cases hq:wordsOk f with
     | false=>rfl
     | true =>
      have:=((wordsOk_iff f).1 hq).2.2 t hti
      omega
    rw [hno]
    simp only [S88]
    generalize Ks (numL f t)=LL at *
    simp [cx88,Cd.inner,Cd.body,hti,ht8,htI,hb1,hsl,h19,h5,hw,EndsL]
  ·have hwl:wordL f t=0:=by rw [wordL,if_neg hti]
   rw [hwl] at hsn
   have hG:Goes (maskSt [1,4,5] [] [29] []) (S88 f (t+1)) (Cd.run (app E) cx88.body.inner.body (S88 f t)):=by
    simp only [S88,← hsn]
    generalize Ks (numL f t)=LL at *
    simp [cx88,Cd.inner,Cd.body,hti,ht8,htI,h5,hw,hnl',hmb,hok]
   obtain ⟨st2,q1,q2⟩:=hG.get
   refine .inl ⟨st2,_,q1,q2,?_,rfl⟩
   intro j hj hj5
   exact hall j (by omega) hj5
 ·rintro S ⟨hall,rfl⟩
  have hyes:wordsOk f=true:=(wordsOk_iff f).2 ⟨hf0,hf8,fun j hj=>hall j (by omega) hj⟩
  rw [hyes]
  simp only [S88]
  generalize Ks (numL f 8)=LL at *
  simp [cx88,Cd.inner,Cd.body,EndsL]
end
theorem appx88 (f:Nat→Int):app E false (.fn 67 []) [.agg (CF f 30)] []=some (.tup [if wordsOk f=true then .lst none false 1 (Ks (numL f 8)) else .lst none true 1 [],.bool (wordsOk f)],emptyBag,[]):=by
 have h0':=CF_get f 30 (k:=0) (by omega)
 have h1':=CF_get f 30 (k:=1) (by omega)
 have h2':=CF_get f 30 (k:=2) (by omega)
 have h3':=CF_get f 30 (k:=3) (by omega)
 have h4':=CF_get f 30 (k:=4) (by omega)
 have h5:=CF_get f 30 (k:=5) (by omega)
 by_cases h0:f 5 < 0
 ·have hno:wordsOk f=false:=by
   cases hq:wordsOk f with
   | false=>rfl
   | true=>have:=((wordsOk_iff f).1 hq).1; omega
  rw [app_fn E rfl hx88 rfl,hno]
  simp [cx88,h5,h0]
 by_cases h8:8 < f 5
 ·have hno:wordsOk f=false:=by
   cases hq:wordsOk f with
   | false=>rfl
   | true=>have:=((wordsOk_iff f).1 hq).2.1; omega
  rw [app_fn E rfl hx88 rfl,hno]
  simp [cx88,h5,h0,h8]
 obtain ⟨e,⟨f',tops',own',dead',m'⟩,q1,q2,gm,gd,go,q3⟩:=loop88 f (by omega) (by omega) (st:=⟨[(5,.int .i64 0),(4,.lst (some 29) false 1 [.int .i64 (f 0),.int .i64 (f 1),.int .i64 (f 2),.int .i64 (f 3),.int .i64 (f 4),.int .i64 (f 5)]),(29,.lst (some 29) false 1 [.int .i64 (f 0),.int .i64 (f 1),.int .i64 (f 2),.int .i64 (f 3),.int .i64 (f 4),.int .i64 (f 5)]),(28,.int .i64 (f 5)),(27,.elp (.agg (CF f 30)) 5),(26,.int .i64 (f 4)),(25,.elp (.agg (CF f 30)) 4),(24,.int .i64 (f 3)),(23,.elp (.agg (CF f 30)) 3),(22,.int .i64 (f 2)),(21,.elp (.agg (CF f 30)) 2),(20,.int .i64 (f 1)),(19,.elp (.agg (CF f 30)) 1),(18,.int .i64 (f 0)),(17,.elp (.agg (CF f 30)) 0),(16,.bool false),(15,.bool false),(14,.int .i64 (f 5)),(13,.elp (.agg (CF f 30)) 5),(12,.bool false),(11,.bool false),(10,.int .i64 (f 5)),(9,.elp (.agg (CF f 30)) 5),(3,.bool false),(2,.lst none true 1 []),(1,.elp (.agg (CF f 30)) 0),(0,.agg (CF f 30))],[(29,6,2)],[],[],[]⟩) (by simp [S88,numL])
 simp only at gm gd go
 subst gm gd go
 simp only [cx88,Cd.inner,Cd.body] at q1
 rcases q3 with ⟨rfl,hz,g4⟩ | ⟨rfl,hz,g2,g3⟩
 ·simp only at g4
  rw [app_fn E rfl hx88 rfl,hz]
  have hok:=fun a b c=>ks_okns (numL f 8) a b c
  have hdp:=fun a=>ks_deps (numL f 8) a
  generalize Ks (numL f 8)=LL at *
  simp [cx88,h0',h1',h2',h3',h4',h5,h0,h8,q1,g4,hok,hdp]
 ·simp only at g2 g3
  rw [app_fn E rfl hx88 rfl,hz]
  simp [cx88,h0',h1',h2',h3',h4',h5,h0,h8,q1,g2,g3]
def nameL (c:Int):List (Int × Int):=[(4865+c,1),(4865+c,2),(4865+c,3),(4865+c,5),(4865+c,6),(4993+c,0),(4993+c,1),(4993+c,2),(4993+c,3),(4993+c,4),(4993+c,5),(4993+c,6),(4993+c,7),(4993+c,8)]
abbrev Ns (l:List (Int × Int)):List PV:=encs (fun x=>ky x.1 x.2) l
theorem ns_okns (l:List (Int × Int)) (a b c):PV.okns a b c (Ns l)=true:=PV.datas_okns _ _ _ _ (encs_data fun x _=>rfl)
theorem ns_deps (l:List (Int × Int)) (a):PV.deps a (Ns l)=true:=PV.datas_deps _ _ (encs_data fun x _=>rfl)
attribute [simp] ns_okns ns_deps
theorem appx87_ap0:apply E 60 false (.fn 66 []) [.int .i64 0] []=some (.lst none false 2 (Ns (nameL 0)),emptyBag,[]):=by kernel_rfl
theorem appx87_ap1:apply E 60 false (.fn 66 []) [.int .i64 1] []=some (.lst none false 2 (Ns (nameL 1)),emptyBag,[]):=by kernel_rfl
theorem appx87_ap2:apply E 60 false (.fn 66 []) [.int .i64 2] []=some (.lst none false 2 (Ns (nameL 2)),emptyBag,[]):=by kernel_rfl
theorem appx87_ap3:apply E 60 false (.fn 66 []) [.int .i64 3] []=some (.lst none false 2 (Ns (nameL 3)),emptyBag,[]):=by kernel_rfl
theorem appx87 {c:Int} (h:c=0∨c=1∨c=2∨c=3):app E false (.fn 66 []) [.int .i64 c] []=some (.lst none false 2 (Ns (nameL c)),emptyBag,[]):=by
 rcases h with rfl | rfl | rfl | rfl
 ·exact app_some.2 ⟨_,appx87_ap0⟩
 ·exact app_some.2 ⟨_,appx87_ap1⟩
 ·exact app_some.2 ⟨_,appx87_ap2⟩
 ·exact app_some.2 ⟨_,appx87_ap3⟩
def stepS (w:RD × Int) (x:Int × Int × Int):RD × Int:=if w.2=0 then (setR w.1 x.1 x.2.1 x.2.2,setC w.1 x.1 x.2.1 x.2.2) else w
theorem stepS_bad {w:RD × Int} (h:w.2≠0) (q:List (Int × Int × Int)):q.foldl stepS w=w:=by
 induction q with
 | nil=>rfl
 | cons x q ih=>rw [List.foldl_cons,stepS,if_neg h,ih]
theorem setR_no {r:RD} {i s n:Int} (h:setC r i s n≠0):setR r i s n=r:=by rw [setR,if_neg h]
def setQ (c:Int) (f:Nat→Int):List (Int × Int × Int):=[(4865+c,1,f 0),(4865+c,2,f 1),(4865+c,3,f 2),(4865+c,5,f 3),(4865+c,6,f 4),(4993+c,0,f 5)]++(List.range 8).map fun (j:Nat)=>(4993+c,(j:Int)+1,wordL f j)
def storeA (r:RD) (c:Int) (f:Nat→Int):RD × Int:=if 0≤c∧c < 4 then (if wordsOk f=true then (setQ c f).foldl stepS (r,0) else (r,2)) else (r,3)
section
variable {m:Mem} {lv a a' ver:Nat} {l:List Row} {c:Int} (hd:DA m lv a a' ver l c) {w:RD × Int} (hs:Sim l c w.1)
include hd hs
theorem appx86 {own own2:Lvl} {q:Nat} (i s n:Int) (hq:get own q=some [.ptr lv a [] 0,.int .i64 w.2]) (hown:upd own q [.ptr lv a [] 0,.int .i64 (stepS w (i,s,n)).2]=some own2) (hsame:w.2≠0→own2=own) :
  ∃ m',app E false (.fn 65 []) [.ptr m.length q [] 0,.int .i64 i,.int .i64 s,.int .i64 n] (own::m)=some (.tup [],emptyBag,own2::m')∧Does m lv a a' ver l c (stepS w (i,s,n)).1 m':=by
 have hlt:=hd.lv_lt
 have hlv:lv≠m.length:=by omega
 have hlv1:lv≠m.length+1:=by omega
 by_cases hz:w.2=0
 ·obtain ⟨m1,e1,e2⟩:=do_set ((hd.cons own).cons []) hs i s n
  obtain ⟨m2,rfl,e3⟩:=e2.cons (hd.cons own)
  obtain ⟨m3,rfl,e4⟩:=e3.cons hd
  have hlen:m3.length=m.length:=by obtain ⟨_,_,_,_,_,q,_⟩:=e4.da hd; exact q
  rw [stepS,if_pos hz] at hown ⊢
  simp only at hown ⊢
  rw [hz] at hq
  refine ⟨m3,?_,e4⟩
  rw [app_fn E rfl hx86 rfl]
  generalize setC w.1 i s n=cc at *
  simp [cx86,hq,e1,hown,hlen,hlv,hlv1]
 ·have hz':(w.2 == 0)=false:=by simpa using hz
  rw [hsame hz,stepS,if_neg hz]
  refine ⟨m,?_,does_none hd hs⟩
  rw [app_fn E rfl hx86 rfl]
  simp [cx86,hq,hz']
def S25 (m:Mem) (lv a:Nat) (c:Int) (f:Nat→Int) (t:Nat) (e:Int) (m':Mem):St:=⟨[(1,.int .i64 c),(9,.ptr m.length 1000000000 [] 0),(66,.agg (CF (wordL f) 8)),(67,.int .i64 t)],[],[(1000000000,[.ptr lv a [] 0,.int .i64 e])],[],m'⟩
def wT (w:RD × Int) (cc:Int) (f:Nat→Int) (t:Nat):RD × Int:=((List.range t).map fun (j:Nat)=>(4993+cc,(j:Int)+1,wordL f j)).foldl stepS w
omit hd hs in
theorem wT_succ (w:RD × Int) (cc:Int) (f:Nat→Int) (t:Nat):wT w cc f (t+1)=stepS (wT w cc f t) (4993+cc,(t:Int)+1,wordL f t):=by
 unfold wT
 rw [List.range_succ,List.map_append,List.foldl_append]; rfl
theorem loop25 (cc:Int) (h0:0≤cc) (h4:cc < 4) (f:Nat→Int) {st:St} (hst:maskSt [1,9,66,67] [] [] [9] st=some (S25 m lv a cc f 0 w.2 m)) :
  ∃ e st',loopW (maskSt [1,9,66,67] [] [] [9]) (Cd.run (app E) cx25.body.inner.body) st=some (e,st')∧e≠.normal∧e=.exit 1∧get st'.f 9=some (.ptr m.length 1000000000 [] 0)∧st'.dead=[]∧st'.tops=[] ∧
   st'.own=[(1000000000,[.ptr lv a [] 0,.int .i64 (wT w cc f 8).2])]∧Does m lv a a' ver l c (wT w cc f 8).1 st'.m:=by
 refine loop_inv (fun t S=>∃ m',Does m lv a a' ver l c (wT w cc f t).1 m'∧S=S25 m lv a cc f t (wT w cc f t).2 m') 8 _ hst ⟨m,does_none hd hs,rfl⟩ ?_ ?_
 ·rintro t S ht ⟨m',hD,rfl⟩
  obtain ⟨v',l',c',hd',hs',hlen,hm'⟩:=hD.da hd
  have ht8:t < 8:=ht
  have htI:(t:Int) < 8:=by omega
  have hw:=wrap_succ t (by omega)
  have hw1:IntKind.i64.wrap ((t:Int)+1)=(t:Int)+1:=wrap_id _ (by omega) (by omega)
  have hw2:IntKind.i64.wrap (4993+cc)=4993+cc:=wrap_id _ (by omega) (by omega)
  have hget:=CF_get (wordL f) 8 ht8
  have hlt:=hd'.lv_lt
  have hlv:lv≠m'.length:=by omega
  have hlv0:lv≠m.length:=by omega
  obtain ⟨m2,e1,e2⟩:=appx86 hd' hs' (own:=[(1000000000,[.ptr lv a [] 0,.int .i64 (wT w cc f t).2])]) (own2:=[(1000000000,[.ptr lv a [] 0,.int .i64 (stepS (wT w cc f t) (4993+cc,(t:Int)+1,wordL f t)).2])]) (q:=1000000000) (4993+cc) ((t:Int)+1) (wordL f t) (by simp) (by simp) (fun h=>by rw [stepS,if_neg h])
  rw [← wT_succ] at e1 e2
  have hlen2:m2.length=m'.length:=by obtain ⟨_,_,_,_,_,q,_⟩:=e2.da hd'; exact q
  have hG:Goes (maskSt [1,9,66,67] [] [] [9]) (S25 m lv a cc f (t+1) (wT w cc f (t+1)).2 m2) (Cd.run (app E) cx25.body.inner.body (S25 m lv a cc f t (wT w cc f t).2 m')):=by
   rw [hlen] at e1
   generalize (wT w cc f (t+1)).2=w1 at *
   generalize (wT w cc f t).2=w0 at *
   simp [-isPlace,-moves,cx25,Cd.inner,Cd.body,S25,htI,ht8,hget,hw,hw1,hw2,e1,hlen,hlen2,hlv0]
  obtain ⟨st2,q1,q2⟩:=hG.get
  exact .inl ⟨st2,_,q1,q2,m2,Does.trans hd (r1:=(wT w cc f t).1) hm' e2,rfl⟩
 ·rintro S ⟨m',hD,rfl⟩
  generalize (wT w cc f 8).2=w1 at *
  simp [-isPlace,-moves,cx25,Cd.inner,Cd.body,S25,EndsL]
  exact hD
end
section
variable {m:Mem} {lv a a' ver:Nat} {l:List Row} {c:Int} (hd:DA m lv a a' ver l c) {r:RD} (hs:Sim l c r)
include hd hs
theorem appx25 (cc:Int) (f:Nat→Int):∃ m',app E false (.fn 31 []) [.ptr lv a [] 0,.int .i64 cc,.agg (CF f 30)] m=some (.int .i64 (storeA r cc f).2,emptyBag,m')∧Does m lv a a' ver l c (storeA r cc f).1 m':=by
 have hlt:=hd.lv_lt
 have hlv:lv≠m.length:=by omega
 have h84:=appx84 cc
 by_cases hc:0≤cc∧cc < 4
 case neg =>
  rw [storeA,if_neg hc]
  refine ⟨m,?_,does_none hd hs⟩
  have hb:(decide (0≤cc) && decide (cc < 4))=false:=by
   rw [Bool.and_eq_false_iff]
   simp only [decide_eq_false_iff_not]
   omega
  rw [hb] at h84
  rw [app_fn E rfl hx25 rfl]
  simp [-isPlace,-moves,cx25,h84,hlv]
 have hb:(decide (0≤cc) && decide (cc < 4))=true:=by simp [hc.1,hc.2]
 rw [hb] at h84
 obtain ⟨g,h85,hg⟩:=appx85 f
 rw [storeA,if_pos hc]
 by_cases hok:wordsOk f=true
 case neg =>
  rw [if_neg hok]
  refine ⟨m,?_,does_none hd hs⟩
  rw [wordsC,if_neg hok] at h85
  rw [app_fn E rfl hx25 rfl]
  simp [-isPlace,-moves,cx25,h84,h85,hlv]
 rw [if_pos hok]
 rw [wordsC,if_pos hok,hg hok] at h85
 have k0:=CF_get f 30 (k:=0) (by omega)
 have k1:=CF_get f 30 (k:=1) (by omega)
 have k2:=CF_get f 30 (k:=2) (by omega)
 have k3:=CF_get f 30 (k:=3) (by omega)
 have k4:=CF_get f 30 (k:=4) (by omega)
 have k5:=CF_get f 30 (k:=5) (by omega)
 have w1:IntKind.i64.wrap (4865+cc)=4865+cc:=wrap_id _ (by omega) (by omega)
 have w2:IntKind.i64.wrap (4993+cc)=4993+cc:=wrap_id _ (by omega) (by omega)
 have step:∀ {M:Mem} {v:Nat} {L:List Row} {C:Int} (hD:DA M lv a a' v L C) {w:RD × Int} (hS:Sim L C w.1) (hM:M=dset m lv a a' v L C) (i s n:Int),∃ M' v' L' C',DA M' lv a a' v' L' C'∧Sim L' C' (stepS w (i,s,n)).1∧M'=dset m lv a a' v' L' C'∧M'.length=m.length ∧
   app E false (.fn 65 []) [.ptr m.length 29 [] 0,.int .i64 i,.int .i64 s,.int .i64 n] ([(29,[.ptr lv a [] 0,.int .i64 w.2]),(7,CF (wordL f) 8)]::M)=some (.tup [],emptyBag,[(29,[.ptr lv a [] 0,.int .i64 (stepS w (i,s,n)).2]),(7,CF (wordL f) 8)]::M'):=by
  intro M v L C hD w hS hM i s n
  have hlM:M.length=m.length:=by rw [hM,dset_len hd]
  obtain ⟨M',e1,e2⟩:=appx86 hD hS (own:=[(29,[.ptr lv a [] 0,.int .i64 w.2]),(7,CF (wordL f) 8)]) (own2:=[(29,[.ptr lv a [] 0,.int .i64 (stepS w (i,s,n)).2]),(7,CF (wordL f) 8)]) (q:=29) i s n (by simp) (by simp) (fun h=>by rw [stepS,if_neg h])
  obtain ⟨v',L',C',q1,q2,q3,q4⟩:=e2.da hD
  rw [hlM] at e1
  refine ⟨M',v',L',C',q1,q2,?_,by rw [q3,hlM],e1⟩
  rw [q4,hM,dset_dset hd]
 obtain ⟨M1,v1,L1,C1,d1,s1,m1,n1,e1⟩:=step hd (w:=(r,0)) hs (dset_same hd).symm (4865+cc) 1 (f 0)
 obtain ⟨M2,v2,L2,C2,d2,s2,m2,n2,e2⟩:=step d1 s1 m1 (4865+cc) 2 (f 1)
 obtain ⟨M3,v3,L3,C3,d3,s3,m3,n3,e3⟩:=step d2 s2 m2 (4865+cc) 3 (f 2)
 obtain ⟨M4,v4,L4,C4,d4,s4,m4,n4,e4⟩:=step d3 s3 m3 (4865+cc) 5 (f 3)
 obtain ⟨M5,v5,L5,C5,d5,s5,m5,n5,e5⟩:=step d4 s4 m4 (4865+cc) 6 (f 4)
 obtain ⟨M6,v6,L6,C6,d6,s6,m6,n6,e6⟩:=step d5 s5 m5 (4993+cc) 0 (f 5)
 have hfold:(setQ cc f).foldl stepS (r,0)=wT (stepS (stepS (stepS (stepS (stepS (stepS (r,0) (4865+cc,1,f 0)) (4865+cc,2,f 1)) (4865+cc,3,f 2)) (4865+cc,5,f 3)) (4865+cc,6,f 4)) (4993+cc,0,f 5)) cc f 8:=by
  unfold setQ wT
  rw [List.foldl_append]; rfl
 rw [hfold]
 generalize hw6:stepS (stepS (stepS (stepS (stepS (stepS (r,0) (4865+cc,1,f 0)) (4865+cc,2,f 1)) (4865+cc,3,f 2)) (4865+cc,5,f 3)) (4865+cc,6,f 4)) (4993+cc,0,f 5)=x6 at *
 generalize stepS (stepS (stepS (stepS (stepS (r,0) (4865+cc,1,f 0)) (4865+cc,2,f 1)) (4865+cc,3,f 2)) (4865+cc,5,f 3)) (4865+cc,6,f 4)=x5 at *
 generalize stepS (stepS (stepS (stepS (r,0) (4865+cc,1,f 0)) (4865+cc,2,f 1)) (4865+cc,3,f 2)) (4865+cc,5,f 3)=x4 at *
 generalize stepS (stepS (stepS (r,0) (4865+cc,1,f 0)) (4865+cc,2,f 1)) (4865+cc,3,f 2)=x3 at *
 generalize stepS (stepS (r,0) (4865+cc,1,f 0)) (4865+cc,2,f 1)=x2 at *
 generalize stepS (r,0) (4865+cc,1,f 0)=x1 at *
 have hlv6:lv≠M6.length:=by omega
 have hS0:maskSt [1,9,66,67] [] [] [9] (S25 M6 lv a cc f 0 x6.2 M6)=some (S25 M6 lv a cc f 0 x6.2 M6):=by
  simp [S25,hlv6]
 obtain ⟨e,⟨f',tops',own',dead',m'⟩,q1,q2,rfl,g9,gd,gt,go,hD⟩:=loop25 d6 s6 cc hc.1 hc.2 f hS0
 simp only at g9 gd gt go hD
 subst gd gt go
 have hD2:Does m lv a a' ver l c (wT x6 cc f 8).1 m':=Does.trans hd (r1:=x6.1) m6 hD
 have hlm:m'.length=m.length:=by obtain ⟨_,_,_,_,_,q,_⟩:=hD2.da hd; exact q
 refine ⟨m',?_,hD2⟩
 have hl:=loop_at hS0 q1
 rw [n6] at g9
 simp only [S25,n6] at hl
 simp only [cx25,Cd.inner,Cd.body] at hl
 rw [app_fn E rfl hx25 rfl]
 generalize (wT x6 cc f 8).2=y8 at *
 generalize x6.2=y6 at *
 generalize x5.2=y5 at *
 generalize x4.2=y4 at *
 generalize x3.2=y3 at *
 generalize x2.2=y2 at *
 generalize x1.2=y1 at *
 simp [-isPlace,-moves,cx25,h84,h85,k0,k1,k2,k3,k4,k5,w1,w2,e1,e2,e3,e4,e5,e6,hl,g9,hlv,n1,n2,n3,n4,n5,n6,hlm]
end
theorem setQ_get (c:Int) (f:Nat→Int) (t:Nat) (ht:t < 14):∃ i s n,(nameL c)[t]?=some (i,s)∧(numL f 8)[t]?=some n∧(setQ c f)[t]?=some (i,s,n):=by
 rcases (by omega:t=0∨t=1∨t=2∨t=3∨t=4∨t=5∨t=6∨t=7∨t=8∨t=9∨t=10∨t=11∨t=12∨t=13) with rfl | rfl | rfl | rfl | rfl | rfl | rfl | rfl | rfl | rfl | rfl | rfl | rfl | rfl <;> exact ⟨_,_,_,rfl,rfl,rfl⟩
theorem setQ_len (c:Int) (f:Nat→Int):(setQ c f).length=14:=rfl
theorem ns_get (l:List (Int × Int)) (t:Nat) {i s:Int} (h:l[t]?=some (i,s)):(Ns l)[t]?=some (.agg [.int .i64 i,.int .i64 s]):=by
 simp [encs,h]
theorem ks_get (l:List Int) (t:Nat) {n:Int} (h:l[t]?=some n):(Ks l)[t]?=some (.int .i64 n):=by
 simp [encs,h]
theorem sim_set1 {l:List Row} {c:Int} {r:RD} (hs:Sim l c r) (i s n:Int):∃ l' c',Sim l' c' (setR r i s n):=by
 by_cases hz:setC r i s n=0
 ·exact ⟨_,_,hs.set i s n (by rw [hs.setC]; exact hz)⟩
 ·exact ⟨l,c,by rw [setR,if_neg hz]; exact hs⟩
theorem sim_step {l:List Row} {c:Int} {w:RD × Int} (hs:Sim l c w.1) (x:Int × Int × Int):∃ l' c',Sim l' c' (stepS w x).1:=by
 unfold stepS
 split
 ·exact sim_set1 hs _ _ _
 ·exact ⟨l,c,hs⟩
theorem sim_fold {l:List Row} {c:Int} {w:RD × Int} (hs:Sim l c w.1) (q:List (Int × Int × Int)):∃ l' c',Sim l' c' (q.foldl stepS w).1:=by
 induction q generalizing w l c with
 | nil=>exact ⟨l,c,hs⟩
 | cons x q ih =>
  obtain ⟨l',c',h⟩:=sim_step hs x
  exact ih h
section
variable (cc:Int) (f:Nat→Int) (r:RD) {rows:List Row} {ct:Int} (hs:Sim rows ct r)
def wS (t:Nat):RD × Int:=((setQ cc f).take t).foldl stepS (r,0)
def own26 (q:RD):Lvl:=[(3,[El q.nl q.l,.int .i64 q.c]),(6,[.lst none true 7 [],.int .i64 0])]
def S26 (t:Nat) (q:RD):St:=⟨[(3,.ptr 0 3 [] 0),(6,.ptr 0 6 [] 0),(8,.lst none false 2 (Ns (nameL cc))),(9,.lst none false 1 (Ks (numL f 8))),(11,.int .i64 t)],[],own26 q,[],[]⟩
include hs in
set_option maxHeartbeats 1000000 in
theorem loop26 {st:St} (h0:maskSt [3,6,8,9,11] [3,6] [] [] st=some (S26 cc f 0 r)) :
  ∃ e st',loopW (maskSt [3,6,8,9,11] [3,6] [] []) (Cd.run (app E) cx26.body.inner.body) st=some (e,st')∧e≠.normal∧st'.m=[]∧st'.dead=[]∧st'.tops=[] ∧
   ((e=.exit 0∧((setQ cc f).foldl stepS (r,0)).2=0∧get st'.f 3=some (.ptr 0 3 [] 0)∧get st'.f 6=some (.ptr 0 6 [] 0)∧st'.own=own26 ((setQ cc f).foldl stepS (r,0)).1) ∨
    (e=.ret∧get st'.f 6=some (.ptr 0 6 [] 0)∧get st'.f 7=some (.int .i64 ((setQ cc f).foldl stepS (r,0)).2)∧get st'.own 6=some [El ((setQ cc f).foldl stepS (r,0)).1.nl ((setQ cc f).foldl stepS (r,0)).1.l,.int .i64 ((setQ cc f).foldl stepS (r,0)).1.c])):=by
 have hNl:(nameL cc).length=14:=rfl
 refine loop_inv (fun t S=>(wS cc f r t).2=0∧S=S26 cc f t (wS cc f r t).1) 14 _ h0 ⟨rfl,rfl⟩ ?_ ?_
 ·rintro t S ht ⟨hz,rfl⟩
  have htI:(t:Int) < 14:=by omega
  have hw:=wrap_succ t (by omega)
  obtain ⟨i,s,n,g1,g2,g3⟩:=setQ_get cc f t ht
  have gN:=ns_get _ _ g1
  have gK:=ks_get _ _ g2
  have gN2:∀ h,(Ns (nameL cc))[t]'h=.agg [.int .i64 i,.int .i64 s]:=fun h=>(List.getElem?_eq_some_iff.1 gN).2
  have gK2:∀ h,(Ks (numL f 8))[t]'h=.int .i64 n:=fun h=>(List.getElem?_eq_some_iff.1 gK).2
  have hstep:wS cc f r (t+1)=stepS (wS cc f r t) (i,s,n):=by
   unfold wS
   rw [take_succ' (setQ cc f) t (by rw [setQ_len]; exact ht),List.foldl_append]
   have:(setQ cc f)[t]'(by rw [setQ_len]; exact ht)=(i,s,n):=(List.getElem?_eq_some_iff.1 g3).2
   rw [this]; rfl
  obtain ⟨l1,c1,hs1⟩:=sim_fold (w:=(r,0)) hs ((setQ cc f).take t)
  have h94:=app94 (wS cc f r t).1 hs1.rok i s n
  have hst:stepS (wS cc f r t) (i,s,n)=(setR (wS cc f r t).1 i s n,setC (wS cc f r t).1 i s n):=by rw [stepS,if_pos hz]
  by_cases hq:setC (wS cc f r t).1 i s n=0
  ·refine .inl ?_
   rw [hst] at hstep
   have hG:Goes (maskSt [3,6,8,9,11] [3,6] [] []) (S26 cc f (t+1) (wS cc f r (t+1)).1) (Cd.run (app E) cx26.body.inner.body (S26 cc f t (wS cc f r t).1)):=by
    rw [hstep]
    rw [hq] at h94
    generalize (wS cc f r t).1=r0 at *
    generalize setR r0 i s n=r2 at *
    have hrn:=fun a b ρ=>es_rens r2.l a b ρ
    have hrn0:=fun a b ρ=>es_rens r0.l a b ρ
    have f4:=fun a=>es_deps r2.l a
    have f5:=fun a b c=>es_okns r2.l a b c
    have g4:=fun a=>es_deps r0.l a
    have g5:=fun a b c=>es_okns r0.l a b c
    simp only [RD.pv] at h94
    simp only [S26,own26]
    have hNl':(Ns (nameL cc)).length=14:=rfl
    have hKl':(Ks (numL f 8)).length=14:=rfl
    have a1:=fun a b c=>ns_okns (nameL cc) a b c
    have a2:=fun a b c=>ks_okns (numL f 8) a b c
    generalize Ns (nameL cc)=NN at *
    generalize Ks (numL f 8)=KK at *
    simp only [El,rd] at *
    generalize Es r2.l=L2 at *
    generalize Es r0.l=L0 at *
    simp [-isPlace,-moves,cx26,Cd.inner,Cd.body,htI,ht,gN,gK,gN2,gK2,hNl',hKl',h94,hw,hrn,hrn0,f4,f5,g4,g5,a1,a2]
   obtain ⟨st2,q1,q2⟩:=hG.get
   exact ⟨st2,_,q1,q2,by rw [hstep]; exact hq,rfl⟩
  ·refine .inr ?_
   have hq':(setC (wS cc f r t).1 i s n != 0)=true:=by simpa using hq
   have hfull:(setQ cc f).foldl stepS (r,0)=((wS cc f r t).1,setC (wS cc f r t).1 i s n):=by
    conv=>lhs; rw [← List.take_append_drop (t+1) (setQ cc f),List.foldl_append]
    have:((setQ cc f).take (t+1)).foldl stepS (r,0)=((wS cc f r t).1,setC (wS cc f r t).1 i s n):=by
     have:=hstep
     rw [hst,setR_no hq] at this
     exact this
    rw [this,stepS_bad hq]
   rw [hfull]
   rw [setR_no hq] at h94
   generalize setC (wS cc f r t).1 i s n=ec at *
   generalize (wS cc f r t).1=r0 at *
   have hrn0:=fun a b ρ=>es_rens r0.l a b ρ
   have g4:=fun a=>es_deps r0.l a
   have g5:=fun a b c=>es_okns r0.l a b c
   simp only [RD.pv] at h94
   simp only [S26,own26]
   have hNl':(Ns (nameL cc)).length=14:=rfl
   have hKl':(Ks (numL f 8)).length=14:=rfl
   generalize Ns (nameL cc)=NN at *
   generalize Ks (numL f 8)=KK at *
   simp only [El,rd] at *
   generalize Es r0.l=L0 at *
   simp [-isPlace,-moves,cx26,Cd.inner,Cd.body,htI,ht,gN,gK,gN2,gK2,hNl',hKl',h94,hw,hq',hrn0,g4,g5,EndsL]
 ·rintro S ⟨hz,rfl⟩
  have h14:wS cc f r 14=(setQ cc f).foldl stepS (r,0):=rfl
  rw [h14] at hz ⊢
  generalize (setQ cc f).foldl stepS (r,0)=w at *
  have hNl':(Ns (nameL cc)).length=14:=rfl
  simp only [S26]
  generalize Ns (nameL cc)=NN at *
  simp [-isPlace,-moves,cx26,Cd.inner,Cd.body,EndsL,hNl',hz]
include hs in
theorem appx26:app E false (.fn 32 []) [r.pv,.int .i64 cc,.agg (CF f 30)] []=some (.tup [(storeA r cc f).1.pv,.int .i64 (storeA r cc f).2],emptyBag,[]):=by
 have h88:=appx88 f
 have g4:=fun a=>es_deps r.l a
 have g5:=fun a b c=>es_okns r.l a b c
 have hrn0:=fun a b ρ=>es_rens r.l a b ρ
 by_cases hc:0≤cc∧cc < 4
 case neg =>
  rw [storeA,if_neg hc,app_fn E rfl hx26 rfl]
  simp only [RD.pv,El,rd] at *
  generalize Es r.l=L0 at *
  by_cases h0:cc < 0
  ·simp [-isPlace,-moves,cx26,h0,g4,g5,hrn0]
  ·have h3:3 < cc:=by omega
   simp [-isPlace,-moves,cx26,h0,h3,g4,g5,hrn0]
 have hc0:¬ cc < 0:=by omega
 have hc3:¬ 3 < cc:=by omega
 have h87:=appx87 (c:=cc) (by omega)
 rw [storeA,if_pos hc]
 by_cases hok:wordsOk f=true
 case neg =>
  have hok':wordsOk f=false:=by simpa using hok
  rw [hok'] at h88
  rw [if_neg hok,app_fn E rfl hx26 rfl]
  simp only [RD.pv,El,rd] at *
  generalize Es r.l=L0 at *
  generalize Ns (nameL cc)=NN at *
  simp [-isPlace,-moves,cx26,hc0,hc3,h87,h88,g4,g5,hrn0]
 rw [if_pos hok]
 rw [if_pos hok,hok] at h88
 have hS0:maskSt [3,6,8,9,11] [3,6] [] [] (S26 cc f 0 r)=some (S26 cc f 0 r):=by
  simp only [S26,own26,El]
  have a1:=fun a b c=>ns_okns (nameL cc) a b c
  have a2:=fun a b c=>ks_okns (numL f 8) a b c
  generalize Es r.l=L0 at *
  generalize Ns (nameL cc)=NN at *
  generalize Ks (numL f 8)=KK at *
  simp [g4,g5,hrn0,a1,a2]
 obtain ⟨e,⟨f',tops',own',dead',m'⟩,q1,q2,gm,gd,gt,q3⟩:=loop26 cc f r hs hS0
 simp only at gm gd gt
 subst gm gd gt
 have hl:=loop_at hS0 q1
 simp only [cx26,Cd.inner,Cd.body,S26,own26] at hl
 obtain ⟨l1,c1,hs1⟩:=sim_fold (w:=(r,0)) hs (setQ cc f)
 have a1:=fun a b c=>ns_okns (nameL cc) a b c
 have a2:=fun a b c=>ks_okns (numL f 8) a b c
 have a3:=fun a=>ns_deps (nameL cc) a
 have a4:=fun a=>ks_deps (numL f 8) a
 rw [app_fn E rfl hx26 rfl]
 rcases q3 with ⟨rfl,hz,g3,g6,go⟩ | ⟨rfl,g6,g7,go⟩
 ·simp only at g3 g6 go
  subst go
  rw [hz]
  generalize ((setQ cc f).foldl stepS (r,0)).1=r2 at *
  have f4:=fun a=>es_deps r2.l a
  have f5:=fun a b c=>es_okns r2.l a b c
  simp only [RD.pv,El,rd,own26] at *
  generalize Es r2.l=L2 at *
  generalize Es r.l=L0 at *
  generalize Ns (nameL cc)=NN at *
  generalize Ks (numL f 8)=KK at *
  simp [-isPlace,-moves,cx26,hc0,hc3,h87,h88,hl,g3,g6,g4,g5,f4,f5,hrn0,a1,a2,a3,a4]
 ·simp only at g6 g7 go
  generalize ((setQ cc f).foldl stepS (r,0)).2=ec at *
  generalize ((setQ cc f).foldl stepS (r,0)).1=r2 at *
  have f4:=fun a=>es_deps r2.l a
  have f5:=fun a b c=>es_okns r2.l a b c
  simp only [RD.pv,El,rd,own26] at *
  generalize Es r2.l=L2 at *
  generalize Es r.l=L0 at *
  generalize Ns (nameL cc)=NN at *
  generalize Ks (numL f 8)=KK at *
  simp [-isPlace,-moves,cx26,hc0,hc3,h87,h88,hl,g6,g7,go,g4,g5,f4,f5,hrn0,a1,a2,a3,a4]
end
end Go.Proofs.YtmffcpiffkclgaaGreat.ZJM.DC
