/- '==' of two structs or arrays, part by part. -/
import Derived.Test.YtmffcpiffkclgaaZJ3
import Derived.Laws.StructEq
import Derived.Test.YtmffcpiffkclgaaZJ11A
set_option linter.unusedSimpArgs false
set_option linter.unusedVariables false
namespace Go.Proofs.Ytmffcpiffkclgaa.ZJM
open Go.RowKit
def shiftL (o : Nat) (l : List (Nat × Nat)) : List (Nat × Nat) := l.map fun p => (o + p.1,p.2)
def belowL (sz : Nat) (l : List (Nat × Nat)) : Bool := l.all fun p => decide (p.1 < sz)
def eqFs (P : Program) (E : TypeId → Option (List (Nat × Nat))) : List Field → Option (List (Nat × Nat))
 | [] => some []
 | f :: fs => if f.name = "_" then eqFs P E fs else match tySz P f.type,tyAg P f.type,E f.type,eqFs P E fs with
  | some sz,some _,some l,some r => if belowL sz l = true then some (shiftL f.offset l ++ r) else none
  | _,_,_,_ => none
def eqAr (sz : Nat) (l : List (Nat × Nat)) : Nat → List Nat → List (Nat × Nat)
 | _,[] => []
 | s,i :: r => shiftL (i * sz) l ++ eqAr sz l s r
def eqLv (P : Program) : Nat → TypeId → Option (List (Nat × Nat))
 | 0,_ => none
 | d + 1,t => match P.underlying t with
  | some (.int _) => some [(0,0)]
  | some .bool => some [(0,1)]
  | some .string => some [(0,2)]
  | some (.struct fs) => if P.stoodInHeld t = true then none else eqFs P (eqLv P d) fs.toList
  | some (.array n e) => match tySz P e,eqLv P d e,tyAg P e with
   | some sz,some l,some _ => if belowL sz l = true then some (eqAr sz l 0 (List.range' 0 n)) else none
   | _,_,_ => none
  | _ => none
theorem eqCs_append {xs ys : List PV} : ∀ {l r : List (Nat × Nat)} {b : Bool},eqCs (l ++ r) xs ys = some b → ∃ c d,eqCs l xs ys = some c ∧ eqCs r xs ys = some d ∧ b = (c && d)
 | [],r,b,h => ⟨true,b,rfl,h,by simp⟩
 | p :: l,r,b,h => by
  simp only [List.cons_append,eqCs] at h ⊢
  split at h
  ·rename_i x y hx hy
   split at h
   ·rename_i b1 hb1
    split at h
    ·rename_i c hc
     obtain ⟨c1,d1,h1,h2,rfl⟩ := eqCs_append hc
     cases h
     refine ⟨b1 && c1,d1,?_,h2,by simp [Bool.and_assoc]⟩
     simp [hx,hy,hb1,h1]
    ·cases h
   ·cases h
  ·cases h
theorem eqCs_shift {xs ys xs' ys' : List PV} {o : Nat} : ∀ {l : List (Nat × Nat)},(∀ p ∈ l,xs'[p.1]? = xs[o + p.1]? ∧ ys'[p.1]? = ys[o + p.1]?) → eqCs (shiftL o l) xs ys = eqCs l xs' ys'
 | [],_ => rfl
 | p :: l,h => by
  have ih := eqCs_shift (o := o) (l := l) fun q hq => h q (List.mem_cons_of_mem _ hq)
  obtain ⟨h1,h2⟩ := h p List.mem_cons_self
  simp only [shiftL,List.map_cons,eqCs] at ih ⊢
  rw [h1,h2,ih]
theorem eqCs_some {xs ys : List PV} : ∀ {l : List (Nat × Nat)} {b : Bool},eqCs l xs ys = some b → ∀ p ∈ l,∃ x y,xs[p.1]? = some x ∧ ys[p.1]? = some y
 | [],_,_,p,hp => by cases hp
 | q :: l,b,h,p,hp => by
  simp only [eqCs] at h
  split at h
  ·rename_i x y hx hy
   split at h
   ·split at h
    ·rename_i c hc
     rcases List.mem_cons.1 hp with rfl | hp
     ·exact ⟨x,y,hx,hy⟩
     ·exact eqCs_some hc p hp
    ·cases h
   ·cases h
  ·cases h
section
variable {P : Program} {g : Gh}
def Shp (P : Program) (t : TypeId) (x : PV) : Prop := (tyAg P t = some true ∧ ∃ cs,x = .agg cs) ∨ (tyAg P t = some false ∧ x.isCell = true)
theorem eqB_int {x y : PV} {b : Bool} (h : eqB 0 x y = some b) : ∃ k m n,x = .int k m ∧ y = .int k n ∧ b = (m == n) := by
 cases x <;> cases y <;> simp only [eqB] at h <;> try (cases h; done)
 split at h
 ·rename_i he
  have := beq_iff_eq.1 he
  subst this
  cases h
  exact ⟨_,_,_,rfl,rfl,rfl⟩
 ·cases h
theorem eqB_bool {x y : PV} {b : Bool} (h : eqB 1 x y = some b) : ∃ m n,x = .bool m ∧ y = .bool n ∧ b = (m == n) := by
 cases x <;> cases y <;> simp only [eqB] at h <;> try (cases h; done)
 cases h
 exact ⟨_,_,rfl,rfl,rfl⟩
theorem eqB_str {x y : PV} {b : Bool} (h : eqB 2 x y = some b) : ∃ m n,x = .str m ∧ y = .str n ∧ b = (m == n) := by
 cases x <;> cases y <;> simp only [eqB] at h <;> try (cases h; done)
 cases h
 exact ⟨_,_,rfl,rfl,rfl⟩
theorem eqLv_flat {d : Nat} {t : TypeId} {l : List (Nat × Nat)} (h : eqLv P d t = some l) (ht : tyAg P t = some false) : ∃ k,l = [(0,k)] := by
 cases d with
 | zero => simp [eqLv] at h
 | succ d =>
  simp only [eqLv] at h
  simp only [tyAg] at ht
  split at h
  ·cases h; exact ⟨_,rfl⟩
  ·cases h; exact ⟨_,rfl⟩
  ·cases h; exact ⟨_,rfl⟩
  ·rename_i fs hu; rw [hu] at ht; cases ht
  ·rename_i n e hu; rw [hu] at ht; cases ht
  ·cases h
theorem part_run {cs : List PV} {vs : Array Value} (h : V g (.agg cs) (.agg vs)) {t : TypeId} {ag : Bool} (ht : tyAg P t = some ag) {sz off d : Nat} (hs : tySz P t = some sz) {l : List (Nat × Nat)} (hl : eqLv P d t = some l) (hb : belowL sz l = true)
  (hc : ∀ p ∈ shiftL off l,∃ x,cs[p.1]? = some x) (w : World) :
  ∃ v r,(part t vs off).run P w = .ok r w ∧ V g v r ∧ Shp P t v ∧ ∀ p ∈ l,v.cells[p.1]? = cs[off + p.1]? := by
 cases h with
 | agg _ _ hn hcc hV =>
  cases ag with
  | true =>
   refine ⟨.agg ((cs.drop off).take sz),.agg (vs.extract off (off + sz)),by simp [part,run_isAgg ht,run_sizeOf hs],.agg _ _ (by simp; omega) (fun c hc' => hcc c (List.mem_of_mem_drop (List.mem_of_mem_take hc'))) (fun j c hj => ?_),.inl ⟨ht,_,rfl⟩,fun p hp => ?_⟩
   ·rw [List.getElem?_take] at hj
    split at hj
    ·rename_i hlt
     rw [List.getElem?_drop] at hj
     have := hV _ _ hj
     have hlt2 : off + j < vs.size := by have := (List.getElem?_eq_some_iff.1 hj).1; omega
     have hlt3 : j < (vs.extract off (off + sz)).size := by simp; omega
     rw [Array.getD_eq_getD_getElem?,Array.getElem?_eq_getElem hlt2] at this
     rw [Array.getD_eq_getD_getElem?,Array.getElem?_eq_getElem hlt3,Array.getElem_extract]
     exact this
    ·cases hj
   ·simp only [belowL,List.all_eq_true,decide_eq_true_eq] at hb
    simp [PV.cells,List.getElem?_take,hb p hp,List.getElem?_drop]
  | false =>
   obtain ⟨k,rfl⟩ := eqLv_flat hl ht
   obtain ⟨x,hx⟩ := hc (off + 0,k) (by simp [shiftL])
   simp only [Nat.add_zero] at hx
   have hcell := hcc x (List.mem_of_getElem? hx)
   obtain ⟨r,h1,h2⟩ := part_agg (.agg cs vs hn hcc hV) ht hs (v := x) (by simpa [partP] using hx) w
   refine ⟨x,r,h1,h2,.inr ⟨ht,hcell⟩,fun p hp => ?_⟩
   simp only [List.mem_singleton] at hp
   subst hp
   have : x.cells = [x] := by cases x <;> first | rfl | simp [PV.isCell] at hcell
   rw [this]; simp [hx]
def EqOk (P : Program) (g : Gh) (d : Nat) (t : TypeId) : Prop :=
 ∀ l x y rx ry b,eqLv P d t = some l → Shp P t x → Shp P t y → V g x rx → V g y ry → eqCs l x.cells y.cells = some b → ∀ D,d ≤ D → ∀ w,(Op.equalIn D t rx ry).run P w = .ok b w
theorem two_parts {d : Nat} {t : TypeId} (ih : EqOk P g d t) {cs ds : List PV} {vs us : Array Value} (hv : V g (.agg cs) (.agg vs)) (hu : V g (.agg ds) (.agg us)) {ag : Bool} (ht : tyAg P t = some ag) {sz off : Nat} (hs : tySz P t = some sz) {l : List (Nat × Nat)} (hl : eqLv P d t = some l) (hb : belowL sz l = true)
  {b : Bool} (hc : eqCs (shiftL off l) cs ds = some b) {D : Nat} (hD : d ≤ D) (w : World) : ∃ r r',(part t vs off).run P w = .ok r w ∧ (part t us off).run P w = .ok r' w ∧ (Op.equalIn D t r r').run P w = .ok b w := by
 obtain ⟨x,r,h1,h2,h3,h4⟩ := part_run hv ht hs hl hb (fun p hp => by obtain ⟨x,y,h,_⟩ := eqCs_some hc p hp; exact ⟨x,h⟩) w
 obtain ⟨y,r',h5,h6,h7,h8⟩ := part_run hu ht hs hl hb (fun p hp => by obtain ⟨x,y,_,h⟩ := eqCs_some hc p hp; exact ⟨y,h⟩) w
 refine ⟨r,r',h1,h5,ih l x y r r' b hl h3 h7 h2 h6 ?_ D hD w⟩
 rw [← eqCs_shift fun p hp => ⟨h4 p hp,h8 p hp⟩]
 exact hc
theorem eqFs_ok {d : Nat} (ih : ∀ t,EqOk P g d t) {cs ds : List PV} {vs us : Array Value} (hv : V g (.agg cs) (.agg vs)) (hu : V g (.agg ds) (.agg us)) {D : Nat} (hD : d ≤ D) (w : World) : ∀ {fs : List Field} {l : List (Nat × Nat)} {b : Bool},eqFs P (eqLv P d) fs = some l → eqCs l cs ds = some b →
  (Op.eqFields D vs us fs).run P w = .ok b w
 | [],l,b,hl,hc => by
  simp only [eqFs,Option.some.injEq] at hl; subst hl
  simp only [eqCs,Option.some.injEq] at hc; subst hc
  simp [Op.eqFields]
 | f :: fs,l,b,hl,hc => by
  simp only [eqFs] at hl
  split at hl
  ·rename_i hn
   simp only [Op.eqFields,hn,ne_eq,not_true_eq_false,if_false]
   exact eqFs_ok ih hv hu hD w hl hc
  ·rename_i hn
   split at hl
   ·rename_i sz ag l1 r hs ht h1 h2
    split at hl
    ·rename_i hb
     cases hl
     obtain ⟨c,e,hc1,hc2,rfl⟩ := eqCs_append hc
     obtain ⟨q,q',h3,h4,h5⟩ := two_parts (ih f.type) hv hu ht hs h1 hb hc1 hD w
     have h6 := eqFs_ok ih hv hu hD w h2 hc2
     simp only [Op.eqFields,ne_eq,hn,not_false_eq_true,if_true,Sem.run_bind,h3,h4,h5,Result.andThen_ok]
     cases c
     ·simp
     ·simp [h6]
    ·cases hl
   ·cases hl
theorem eqAr_ok {d : Nat} {t : TypeId} (ih : EqOk P g d t) {cs ds : List PV} {vs us : Array Value} (hv : V g (.agg cs) (.agg vs)) (hu : V g (.agg ds) (.agg us)) {ag : Bool} (ht : tyAg P t = some ag) {sz : Nat} (hs : tySz P t = some sz) {l : List (Nat × Nat)} (hl : eqLv P d t = some l) (hb : belowL sz l = true)
  {D : Nat} (hD : d ≤ D) (w : World) : ∀ {is : List Nat} {b : Bool},eqCs (eqAr sz l 0 is) cs ds = some b →
  (forIn is (none,()) fun i (_ : Option Bool × Unit) => (do
    if (!(← Op.equalIn D t (← part t vs (i * sz)) (← part t us (i * sz)))) = true then pure (ForInStep.done (some false,())) else pure (ForInStep.yield (none,())) : Sem (ForInStep (Option Bool × Unit)))).run P w = .ok (if b = true then none else some false,()) w
 | [],b,hc => by simp only [eqAr,eqCs,Option.some.injEq] at hc; subst hc; simp
 | i :: is,b,hc => by
  simp only [eqAr] at hc
  obtain ⟨c,e,hc1,hc2,rfl⟩ := eqCs_append hc
  obtain ⟨q,q',h3,h4,h5⟩ := two_parts ih hv hu ht hs hl hb hc1 hD w
  have h6 := eqAr_ok ih hv hu ht hs hl hb hD w hc2
  simp only [List.forIn_cons,Sem.run_bind,h3,h4,h5,Result.andThen_ok]
  cases c
  ·simp
  ·simpa using h6
theorem eq_ok : ∀ d t,EqOk P g d t
 | 0,t => fun l x y rx ry b hl => by simp [eqLv] at hl
 | d + 1,t => by
  intro l x y rx ry b hl hsx hsy hx hy hc D hD w
  obtain ⟨D,rfl⟩ : ∃ D',D = D' + 1 := ⟨D - 1,by omega⟩
  have flat : ∀ {k : Nat} {dd : TypeDesc},P.underlying t = some dd → tyAg P t = some false → l = [(0,k)] → eqB k x y = some b := by
   intro k dd hu ht hl
   subst hl
   have cellx : x.cells = [x] := by rcases hsx with ⟨h,_⟩ | ⟨_,h⟩; rw [ht] at h; cases h; cases x <;> first | rfl | simp [PV.isCell] at h
   have celly : y.cells = [y] := by rcases hsy with ⟨h,_⟩ | ⟨_,h⟩; rw [ht] at h; cases h; cases y <;> first | rfl | simp [PV.isCell] at h
   rw [cellx,celly] at hc
   simp only [eqCs,List.getElem?_cons_zero] at hc
   split at hc
   ·rename_i b1 hb1; cases hc; simpa using hb1
   ·cases hc
  simp only [eqLv] at hl
  split at hl
  ·rename_i k hu
   cases hl
   obtain ⟨k,m,n,rfl,rfl,rfl⟩ := eqB_int (flat hu (by simp [tyAg,hu]) rfl)
   cases hx; cases hy
   simp [Op.equalIn,run_und hu]
  ·rename_i hu
   cases hl
   obtain ⟨m,n,rfl,rfl,rfl⟩ := eqB_bool (flat hu (by simp [tyAg,hu]) rfl)
   cases hx; cases hy
   simp [Op.equalIn,run_und hu]
  ·rename_i hu
   cases hl
   obtain ⟨m,n,rfl,rfl,rfl⟩ := eqB_str (flat hu (by simp [tyAg,hu]) rfl)
   cases hx; cases hy
   simp [Op.equalIn,run_und hu]
  ·rename_i fs hu
   split at hl
   ·cases hl
   ·rename_i hp
    have ht : tyAg P t = some true := by simp [tyAg,hu]
    obtain ⟨cs,rfl⟩ : ∃ cs,x = .agg cs := by rcases hsx with ⟨_,h⟩ | ⟨h,_⟩; exact h; rw [ht] at h; cases h
    obtain ⟨ds,rfl⟩ : ∃ cs,y = .agg cs := by rcases hsy with ⟨_,h⟩ | ⟨h,_⟩; exact h; rw [ht] at h; cases h
    obtain ⟨vs,rfl⟩ : ∃ vs,rx = .agg vs := by cases hx; exact ⟨_,rfl⟩
    obtain ⟨us,rfl⟩ : ∃ vs,ry = .agg vs := by cases hy; exact ⟨_,rfl⟩
    have hf : P.fieldsOf t = fs := by simp [Program.fieldsOf,hu]
    rw [run_equalIn_struct w D t vs us (by rw [hf]; exact hu) (by simpa using hp),hf]
    exact eqFs_ok (fun t => eq_ok d t) hx hy (by omega) w hl hc
  ·rename_i n e hu
   split at hl
   ·rename_i sz l1 ag hs h1 hta
    split at hl
    ·rename_i hb
     cases hl
     have ht : tyAg P t = some true := by simp [tyAg,hu]
     obtain ⟨cs,rfl⟩ : ∃ cs,x = .agg cs := by rcases hsx with ⟨_,h⟩ | ⟨h,_⟩; exact h; rw [ht] at h; cases h
     obtain ⟨ds,rfl⟩ : ∃ cs,y = .agg cs := by rcases hsy with ⟨_,h⟩ | ⟨h,_⟩; exact h; rw [ht] at h; cases h
     obtain ⟨vs,rfl⟩ : ∃ vs,rx = .agg vs := by cases hx; exact ⟨_,rfl⟩
     obtain ⟨us,rfl⟩ : ∃ vs,ry = .agg vs := by cases hy; exact ⟨_,rfl⟩
     have key := eqAr_ok (eq_ok d e) hx hy hta hs h1 hb (D := D) (by omega) w hc
     simp only [Op.equalIn,Sem.run_bind,run_und hu,Result.andThen_ok,run_sizeOf hs,Std.Legacy.Range.forIn_eq_forIn_range',Std.Legacy.Range.size,Nat.sub_zero,Nat.add_sub_cancel,Nat.div_one] at key ⊢
     rw [key]
     cases b <;> simp
    ·cases hl
   ·cases hl
  ·cases hl
end
end Go.Proofs.Ytmffcpiffkclgaa.ZJM
set_option linter.unusedSimpArgs false
set_option linter.unusedVariables false
namespace Go.Proofs.Ytmffcpiffkclgaa.ZJM
open Go.RowKit
def constOk : Value → PV → Bool
 | .bool a,.bool b => a == b
 | .int k a,.int k' b => k == k' && a == b
 | .string a,.str b => decide (a.data = b.data)
 | .pointer none,.nilp => true
 | .nilFunc,.nilfn => true
 | .nilIface,.nilif => true
 | .slice none 0 0,.lst none true _ [] => true
 | _,_ => false
def constsOk : List Value → List PV → Bool
 | [],[] => true
 | v :: vs,p :: ps => constOk v p && p.isCell && constsOk vs ps
 | _,_ => false
def opdOk : Operand → Opd → Bool
 | .tmp t,.t t' => t == t'
 | .const v,.c p => constOk v p
 | .func f,.c (.fn f' []) => f == f'
 | _,_ => false
def opdsOk : List Operand → List Opd → Bool
 | [],[] => true
 | x :: xs,y :: ys => opdOk x y && opdsOk xs ys
 | _,_ => false
def isStruct : Option TypeDesc → Option (Array Field)
 | some (.struct fs) => some fs
 | _ => none
def isSlice : Option TypeDesc → Option TypeId
 | some (.slice e) => some e
 | _ => none
def isArr : Option TypeDesc → Option (Nat × TypeId)
 | some (.array n e) => some (n,e)
 | _ => none
def isInt : Option TypeDesc → Option IntKind
 | some (.int k) => some k
 | _ => none
def isStr : Option TypeDesc → Bool
 | some .string => true
 | _ => false
def isBool : Option TypeDesc → Bool
 | some .bool => true
 | _ => false
def isPtr : Option TypeDesc → Bool
 | some (.pointer _) => true
 | _ => false
def isNilP : Operand → Bool
 | .const (.pointer none) => true
 | _ => false
def isNilS : Operand → Bool
 | .const (.slice none 0 0) => true
 | _ => false
def isNilF : Operand → Bool
 | .const .nilFunc => true
 | _ => false
def nilCmp (isN : Operand → Bool) (opds : List Operand → List Opd → Bool) (x y : Operand) (args : List Opd) : Bool := (isN y && opds [x] args) || (isN x && opds [y] args)
def isFunc : Option TypeDesc → Bool
 | some (.func ..) => true
 | _ => false
def fieldOk (P : Program) (s : TypeId) (i off sz : Nat) : Option Bool :=
 match isStruct (P.underlying s) with
 | some fs => match fs[i]? with
  | some f => if (f.offset == off && tySz P f.type == some sz && sz != 0) = true then tyAg P f.type else none
  | none => none
 | none => none
def elemOk (P : Program) (e : TypeId) (sz bytes : Nat) : Bool :=
 match P.info? e with
 | some i => (match i.zero with | some z => z.cells.size == sz | none => false) && i.size == sz && i.bytes == bytes && decide (0 < sz) && decide (0 < bytes)
 | none => false
def zeroOk (P : Program) (t : TypeId) (z : List PV) : Bool :=
 match (P.info? t).bind (·.zero) with
 | some v => constsOk v.cells.toList z
 | none => false
def places (P : Program) (t : TypeId) : Nat → Option (Nat × Nat) := fun i =>
 match isStruct (P.underlying t) with
 | some fs => match fs[i]? with
  | some f => match tySz P f.type with
   | some n => some (f.offset,n)
   | none => none
  | none => none
 | none => match isArr (P.underlying t) with
  | some (n,e) => match tySz P e with
   | some sz => some (i * sz,sz)
   | none => none
  | none => none
def placesOk (P : Program) (t : TypeId) (ixs : List Nat) (ps : List (Nat × Nat)) : Bool :=
 (match isStruct (P.underlying t) with
  | some fs => fs.all fun f => (tySz P f.type).isSome
  | none => match isArr (P.underlying t) with
   | some (_,e) => (tySz P e).isSome
   | none => false) && decide (ixs.map (places P t) = ps.map some)
def chkC (P : Program) (op : Op) (c : OpC) (args : List Opd) : Bool :=
 match c with
 | .mv => match op with
  | .move x => opdsOk [x] args
  | .assign x => opdsOk [x] args
  | _ => false
 | .nil _ _ _ => match op with
  | .move (.const (.slice none 0 0)) => args.isEmpty
  | .assign (.const (.slice none 0 0)) => args.isEmpty
  | _ => false
 | .pick => match op with
  | .pick x y z => opdsOk [x,y,z] args
  | _ => false
 | .bin b => match op with
  | .binOp b' _ x y _ => b == b' && opdsOk [x,y] args
  | _ => false
 | .beq neg => match op with
  | .binOp b' t x y _ => (b' == if neg then .neq else .eql) && isBool (P.underlying t) && opdsOk [x,y] args
  | _ => false
 | .eq offs neg => match op with
  | .binOp b' t x y _ => (b' == if neg then .neq else .eql) && tyAg P t == some true && eqLv P 40 t == some offs && !P.eqGuardType P.depth t && opdsOk [x,y] args
  | _ => false
 | .lnil neg => match op with
  | .binOp b' t x y _ => (b' == if neg then .neq else .eql) && (isSlice (P.underlying t)).isSome && nilCmp isNilS opdsOk x y args
  | _ => false
 | .pnil neg => match op with
  | .binOp b' t x y _ => (b' == if neg then .neq else .eql) && isPtr (P.underlying t) && nilCmp isNilP opdsOk x y args
  | _ => false
 | .fnil neg => match op with
  | .binOp b' t x y _ => (b' == if neg then .neq else .eql) && isFunc (P.underlying t) && nilCmp isNilF opdsOk x y args
  | _ => false
 | .un u => match op with
  | .unOp u' _ x => u == u' && opdsOk [x] args
  | _ => false
 | .i2i k => match op with
  | .convert s d x => (isInt (P.underlying s)).isSome && isInt (P.underlying d) == some k && opdsOk [x] args
  | _ => false
 | .s2s => match op with
  | .convert s d x => isStr (P.underlying s) && isStr (P.underlying d) && opdsOk [x] args
  | _ => false
 | .b2s => match op with
  | .convert s d x => (match isSlice (P.underlying s) with | some e => isInt (P.underlying e) == some .u8 | none => false) && isStr (P.underlying d) && opdsOk [x] args
  | _ => false
 | .fld off sz ag => match op with
  | .field t x i => fieldOk P t i off sz == some ag && opdsOk [x] args
  | _ => false
 | .fadr off => match op with
  | .fieldAddr t x i => (match isStruct (P.underlying t) with
   | some fs => (match fs[i]? with | some f => f.offset == off && (match tySz P f.type with | some n => n != 0 | none => false) | none => false)
   | none => false) && opdsOk [x] args
  | _ => false
 | .ladr sz => match op with
  | .indexAddr t x i => (match isSlice (P.underlying t) with | some e => tySz P e == some sz | none => false) && opdsOk [x,i] args
  | _ => false
 | .aadr sz n => match op with
  | .indexAddr t x i => (match isArr (P.underlying t) with | some (n',e) => n == n' && tySz P e == some sz | none => false) && opdsOk [x,i] args
  | _ => false
 | .ixs => match op with
  | .index t x i => isStr (P.underlying t) && opdsOk [x,i] args
  | _ => false
 | .ixa sz n ag => match op with
  | .index t x i => (match isArr (P.underlying t) with | some (n',e) => n == n' && tySz P e == some sz && tyAg P e == some ag | none => false) && opdsOk [x,i] args
  | _ => false
 | .load ag sz => match op with
  | .load t x => tyAg P t == some ag && tySz P t == some sz && opdsOk [x] args
  | _ => false
 | .store sz => match op with
  | .store t x y => tySz P t == some sz && opdsOk [x,y] args
  | _ => false
 | .alloc z => match op with
  | .alloc t => zeroOk P t z && args.isEmpty
  | _ => false
 | .box | .boxc => match op with
  | .box _ x => opdsOk [x] args
  | _ => false
 | .build z ps => match op with
  | .build t parts => zeroOk P t z && placesOk P t (parts.toList.map (·.1)) ps && opdsOk (parts.toList.map (·.2)) args
  | _ => false
 | .bsl _ sz e => match op with
  | .buildSlice t n parts => isSlice (P.underlying t) == some e && tySz P e == some (realSz sz) && decide (0 < realSz sz) && ((P.info? e).bind (·.zero)).isSome && n == parts.size && decide (n * realSz sz ≤ 2 ^ 24) &&
    decide (parts.toList.map (·.1) = List.range parts.size) && opdsOk (parts.toList.map (·.2)) args
  | _ => false
 | .app _ sz bytes e => match op with
  | .call { callee := .builtin .append,args := as,argTypes := ts } => (match ts.toList with | [t,t'] => t == t' && isSlice (P.underlying t) == some e | _ => false) && elemOk P e sz bytes &&
    (match as.toList with | [x,y] => opdsOk [x,y] args | _ => false)
  | _ => false
 | .appr sz bytes e => match op with
  | .call { callee := .builtin .append,args := as,argTypes := ts } => (match ts.toList with | [t,t'] => t == t' && isSlice (P.underlying t) == some e | _ => false) && elemOk P e sz bytes &&
    (match as.toList with | [x,y] => opdsOk [x,y] args | _ => false)
  | _ => false
 | .s2b tag e => match op with
  | .convert s d x => isStr (P.underlying s) && isSlice (P.underlying d) == some e && isInt (P.underlying e) == some .u8 && !tag && opdsOk [x] args
  | _ => false
 | .cpy sz => match op with
  | .call { callee := .builtin .copy,args := as,argTypes := ts } => (match ts.toList with | [t,_] => (match isSlice (P.underlying t) with | some e => tySz P e == some sz | none => false) | _ => false) &&
    (match as.toList with | [x,y] => opdsOk [x,y] args | _ => false)
  | _ => false
 | .cpys => match op with
  | .call { callee := .builtin .copy,args := as,argTypes := ts } => (match ts.toList with | [t,_] => (match isSlice (P.underlying t) with | some e => tySz P e == some 1 | none => false) | _ => false) &&
    (match as.toList with | [x,y] => opdsOk [x,y] args | _ => false)
  | _ => false
 | .fload ag sz => match op with
  | .load t x => tyAg P t == some ag && tySz P t == some sz && opdsOk [x] args
  | _ => false
 | .ext i => match op with
  | .extract x i' => i == i' && opdsOk [x] args
  | _ => false
 | .mkf f => match op with
  | .makeFunc (.func f') first cap => f == f' && first.isEmpty && opdsOk cap.toList args
  | _ => false
 | .mkb f => match op with
  | .makeFunc (.func f') first cap => f == f' && cap.isEmpty && opdsOk first.toList args
  | _ => false
 | .call f _ => match op with
  | .call { callee := .value (.func f'),args := as,.. } => f == f' && opdsOk as.toList args
  | _ => false
 | .callh f => match op with
  | .call { callee := .value (.func f'),args := as,.. } => f == f' && opdsOk as.toList args
  | _ => false
 | .callvh => match op with
  | .call { callee := .value x,args := as,.. } => opdsOk (x :: as.toList) args
  | _ => false
 | .callv => match op with
  | .call { callee := .value x,args := as,.. } => opdsOk (x :: as.toList) args
  | _ => false
 | .len => match op with
  | .call { callee := .builtin .len,args := as,argTypes := ts } => (match ts.toList,as.toList with | [t],[x] => (isSlice (P.underlying t)).isSome && opdsOk [x] args | _,_ => false)
  | _ => false
 | .slen => match op with
  | .call { callee := .builtin .len,args := as,argTypes := ts } => (match ts.toList,as.toList with | [t],[x] => isStr (P.underlying t) && opdsOk [x] args | _,_ => false)
  | _ => false
 | .lenc n => match op with
  | .call { callee := .builtin .len,args := as,argTypes := ts } => (match ts.toList,as.toList with | [t],[x] => (match isArr (P.underlying t) with | some (n',_) => n == n' | none => false) && opdsOk [x] args | _,_ => false)
  | _ => false
 | .mn => match op with
  | .call { callee := .builtin .min,args := as,.. } => (match as.toList with | [x,y] => opdsOk [x,y] args | _ => false)
  | _ => false
 | .mx => match op with
  | .call { callee := .builtin .max,args := as,.. } => (match as.toList with | [x,y] => opdsOk [x,y] args | _ => false)
  | _ => false
 | .nilc => match op with
  | .nilCheck x => opdsOk [x] args
  | _ => false
 | .clr sz z => match op with
  | .call { callee := .builtin .clear,args := as,argTypes := ts } => (match ts.toList with | [t] => (match isSlice (P.underlying t) with | some e => tySz P e == some sz && zeroOk P e z && z.length == sz && decide (0 < sz) | none => false) | _ => false) &&
    (match as.toList with | [x] => opdsOk [x] args | _ => false)
  | _ => false
 | .mks sz bytes z => match op with
  | .makeSlice t x y => (match isSlice (P.underlying t) with | some e => elemOk P e sz bytes && zeroOk P e z && z.length == sz | none => false) && opdsOk [x,y] args
  | _ => false
 | .rsl sz n0 lo hi => match op with
  | .slice t x l h none => (match isArr (P.underlying t) with | some (n',e) => n0 == n' && tySz P e == some sz | none => false) && l.isSome == lo && h.isSome == hi && opdsOk (x :: (l.toList ++ h.toList)) args
  | _ => false
 | .slcl sz lo hi => match op with
  | .slice t x l h none => (match isSlice (P.underlying t) with | some e => tySz P e == some sz | none => false) && l.isSome == lo && h.isSome == hi && opdsOk (x :: (l.toList ++ h.toList)) args
  | _ => false
 | .slcs lo hi => match op with
  | .slice t x l h none => isStr (P.underlying t) && l.isSome == lo && h.isSome == hi && opdsOk (x :: (l.toList ++ h.toList)) args
  | _ => false
 | .mkif t => match op with
  | .makeInterface t' x => t == t' && (match P.underlying t with | some (.interface _) => false | some _ => true | none => false) && opdsOk [x] args
  | _ => false
section
variable {P : Program} {d nt : Nat} {m0 : Mem} {g0 : Gh} {w0 : World} {g : Gh} {om : Nat → Value} {szm : Nat → Nat} {st : St} {a : Act} {w : World}
theorem constOk_V {v : Value} {p : PV} (h : constOk v p = true) : V g p v ∧ noTag p := by
 unfold constOk at h
 split at h <;> first
  | cases h; done
  | skip
 ·simp only [beq_iff_eq] at h; subst h; exact ⟨.bool _,rfl⟩
 ·simp only [Bool.and_eq_true,beq_iff_eq] at h; obtain ⟨rfl,rfl⟩ := h; exact ⟨.int _ _,rfl⟩
 ·rename_i a b
  simp only [decide_eq_true_eq] at h
  have : a = b := by cases a; cases b; simp at h; subst h; rfl
  subst this; exact ⟨.str _,rfl⟩
 ·exact ⟨.nilp,rfl⟩
 ·exact ⟨.nilfn,rfl⟩
 ·exact ⟨.nilif,rfl⟩
 ·exact ⟨.nil _ _,rfl⟩
theorem opd_V (h : Inv d nt m0 g0 w0 g om szm st a w) {x : Operand} {y : Opd} (hk : opdOk x y = true) {v : PV} (hv : y.ev st.f = some v) :
  V g v (a.eval x) ∧ Tg st.tops om szm v (a.eval x) := by
 cases x with
 | tmp t =>
  cases y with
  | t t' =>
   simp only [opdOk,beq_iff_eq] at hk; subst hk
   exact (h.f t v hv).2
  | c p => simp [opdOk] at hk
 | const c =>
  cases y with
  | t t' => simp [opdOk] at hk
  | c p =>
   simp only [opdOk] at hk
   simp only [Opd.ev,Option.some.injEq] at hv; subst hv
   obtain ⟨h1,h2⟩ := constOk_V (g := g) hk
   exact ⟨h1,Tg_no h2⟩
 | global _ => cases y <;> simp [opdOk] at hk
 | func f =>
  cases y with
  | t t' => simp [opdOk] at hk
  | c p =>
   cases p <;> simp [opdOk] at hk
   rename_i f' cap
   cases cap <;> simp [opdOk] at hk
   subst hk
   simp only [Opd.ev,Option.some.injEq] at hv; subst hv
   exact ⟨.fn f [] #[] rfl (fun j c hj => by simp at hj),by simp only [Tg]; trivial⟩
theorem opds_V (h : Inv d nt m0 g0 w0 g om szm st a w) : ∀ {xs : List Operand} {ys : List Opd} {vs : List PV},opdsOk xs ys = true → evs st.f ys = some vs →
  xs.length = vs.length ∧ ∀ (i : Nat) (v : PV) (x : Operand),vs[i]? = some v → xs[i]? = some x → V g v (a.eval x) ∧ Tg st.tops om szm v (a.eval x)
 | [],[],vs,_,hv => by simp only [evs,Option.some.injEq] at hv; subst hv; exact ⟨rfl,fun i v x hv => by simp at hv⟩
 | [],_ :: _,_,hk,_ => by simp [opdsOk] at hk
 | _ :: _,[],_,hk,_ => by simp [opdsOk] at hk
 | x :: xs,y :: ys,vs,hk,hv => by
  simp only [opdsOk,Bool.and_eq_true] at hk
  simp only [evs] at hv
  split at hv
  ·rename_i v vs' h1 h2
   cases hv
   obtain ⟨h3,h4⟩ := opds_V h hk.2 h2
   refine ⟨by simp [h3],fun i v' x' hv' hx' => ?_⟩
   cases i with
   | zero => simp only [List.getElem?_cons_zero,Option.some.injEq] at hv' hx'; subst hv'; subst hx'; exact opd_V h hk.1 h1
   | succ i => exact h4 i v' x' (by simpa using hv') (by simpa using hx')
  ·cases hv
theorem opds1 (h : Inv d nt m0 g0 w0 g om szm st a w) {x : Operand} {ys : List Opd} {vs : List PV} (hk : opdsOk [x] ys = true) (hv : evs st.f ys = some vs) :
  ∃ v,vs = [v] ∧ V g v (a.eval x) ∧ Tg st.tops om szm v (a.eval x) := by
 obtain ⟨h1,h2⟩ := opds_V h hk hv
 match vs,h1 with
 | [v],_ => exact ⟨v,rfl,h2 0 v x rfl rfl⟩
theorem opds2 (h : Inv d nt m0 g0 w0 g om szm st a w) {x y : Operand} {ys : List Opd} {vs : List PV} (hk : opdsOk [x,y] ys = true) (hv : evs st.f ys = some vs) :
  ∃ u v,vs = [u,v] ∧ (V g u (a.eval x) ∧ Tg st.tops om szm u (a.eval x)) ∧ (V g v (a.eval y) ∧ Tg st.tops om szm v (a.eval y)) := by
 obtain ⟨h1,h2⟩ := opds_V h hk hv
 match vs,h1 with
 | [u,v],_ => exact ⟨u,v,rfl,h2 0 u x rfl rfl,h2 1 v y rfl rfl⟩
theorem opds3 (h : Inv d nt m0 g0 w0 g om szm st a w) {x y z : Operand} {ys : List Opd} {vs : List PV} (hk : opdsOk [x,y,z] ys = true) (hv : evs st.f ys = some vs) :
  ∃ u v r,vs = [u,v,r] ∧ (V g u (a.eval x) ∧ Tg st.tops om szm u (a.eval x)) ∧ (V g v (a.eval y) ∧ Tg st.tops om szm v (a.eval y)) ∧ (V g r (a.eval z) ∧ Tg st.tops om szm r (a.eval z)) := by
 obtain ⟨h1,h2⟩ := opds_V h hk hv
 match vs,h1 with
 | [u,v,r],_ => exact ⟨u,v,r,rfl,h2 0 u x rfl rfl,h2 1 v y rfl rfl,h2 2 r z rfl rfl⟩
def Pur (P : Program) (g : Gh) (st : St) (om : Nat → Value) (szm : Nat → Nat) (a : Act) (w : World) (o : Oper) (v : PV) : Prop :=
 ∃ r,(execOp a.eval o).run P w = .ok (.value r) w ∧ V g v r ∧ Tg st.tops om szm v r
theorem pur_of {o : Oper} {v : PV} {s : Sem Value} (he : execOp a.eval o = (do pure (Next.value (← s)))) (hr : ∃ r,s.run P w = .ok r w ∧ V g v r) (ht : noTag v) : Pur P g st om szm a w o v := by
 obtain ⟨r,h1,h2⟩ := hr
 exact ⟨r,by rw [he]; simp [h1],h2,Tg_no ht⟩
theorem bin_untag {b : BinOp} {x y v : PV} (h : binP b x y = some v) : noTag v := by
 cases x <;> cases y <;> simp only [binP] at h <;> try (cases h; done)
 ·split at h
  ·cases b <;> simp only [binI] at h <;> (try split at h) <;> cases h <;> rfl
  ·cases h
 ·cases b <;> simp only [binS] at h <;> (try split at h) <;> cases h <;> rfl
end
end Go.Proofs.Ytmffcpiffkclgaa.ZJM
