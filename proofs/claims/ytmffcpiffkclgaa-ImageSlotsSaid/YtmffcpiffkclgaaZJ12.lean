/- The compact code against the model's own: the check, and each operation. -/
import Derived.Test.YtmffcpiffkclgaaZJ11A
import Derived.Test.YtmffcpiffkclgaaZJ3E
set_option linter.unusedSimpArgs false
set_option linter.unusedVariables false
namespace Go.Proofs.Ytmffcpiffkclgaa.ZJM
open Go.RowKit

/-! ### the check -/
def constOk : Value → PV → Bool
  | .bool a, .bool b => a == b
  | .int k a, .int k' b => k == k' && a == b
  | .string a, .str b => decide (a.data = b.data)
  | .pointer none, .nilp => true
  | .nilFunc, .nilfn => true
  | .nilIface, .nilif => true
  | .slice none 0 0, .lst none true _ [] => true
  | _, _ => false
def constsOk : List Value → List PV → Bool
  | [], [] => true
  | v :: vs, p :: ps => constOk v p && p.isCell && constsOk vs ps
  | _, _ => false
def opdOk : Operand → Opd → Bool
  | .tmp t, .t t' => t == t'
  | .const v, .c p => constOk v p
  | .func f, .c (.fn f' []) => f == f'
  | _, _ => false
def opdsOk : List Operand → List Opd → Bool
  | [], [] => true
  | x :: xs, y :: ys => opdOk x y && opdsOk xs ys
  | _, _ => false
def isStruct : Option TypeDesc → Option (Array Field)
  | some (.struct fs) => some fs
  | _ => none
def isSlice : Option TypeDesc → Option TypeId
  | some (.slice e) => some e
  | _ => none
def isArr : Option TypeDesc → Option (Nat × TypeId)
  | some (.array n e) => some (n, e)
  | _ => none
def isInt : Option TypeDesc → Option IntKind
  | some (.int k) => some k
  | _ => none
def isStr : Option TypeDesc → Bool
  | some .string => true
  | _ => false
def isBool : Option TypeDesc → Bool
  | some .bool => true
  | _ => false
def isPtr : Option TypeDesc → Bool
  | some (.pointer _) => true
  | _ => false
def isNilP : Operand → Bool
  | .const (.pointer none) => true
  | _ => false
def isNilS : Operand → Bool
  | .const (.slice none 0 0) => true
  | _ => false
def isNilF : Operand → Bool
  | .const .nilFunc => true
  | _ => false
/-- One of two is nil, the other one is the operand. -/
def nilCmp (isN : Operand → Bool) (opds : List Operand → List Opd → Bool) (x y : Operand) (args : List Opd) : Bool := (isN y && opds [x] args) || (isN x && opds [y] args)
def isFunc : Option TypeDesc → Bool
  | some (.func ..) => true
  | _ => false
def fieldOk (P : Program) (s : TypeId) (i off sz : Nat) : Option Bool :=
  match isStruct (P.underlying s) with
  | some fs => match fs[i]? with
    | some f => if (f.offset == off && tySz P f.type == some sz && sz != 0) = true then tyAg P f.type else none
    | none => none
  | none => none
def elemOk (P : Program) (e : TypeId) (sz bytes : Nat) : Bool :=
  match P.info? e with
  | some i => (match i.zero with | some z => z.cells.size == sz | none => false) && i.size == sz && i.bytes == bytes && decide (0 < sz) && decide (0 < bytes)
  | none => false
def zeroOk (P : Program) (t : TypeId) (z : List PV) : Bool :=
  match (P.info? t).bind (·.zero) with
  | some v => constsOk v.cells.toList z
  | none => false
def places (P : Program) (t : TypeId) : Nat → Option (Nat × Nat) := fun i =>
  match isStruct (P.underlying t) with
  | some fs => match fs[i]? with
    | some f => match tySz P f.type with
      | some n => some (f.offset, n)
      | none => none
    | none => none
  | none => match isArr (P.underlying t) with
    | some (n, e) => match tySz P e with
      | some sz => some (i * sz, sz)
      | none => none
    | none => none
def placesOk (P : Program) (t : TypeId) (ixs : List Nat) (ps : List (Nat × Nat)) : Bool :=
  (match isStruct (P.underlying t) with
    | some fs => fs.all fun f => (tySz P f.type).isSome
    | none => match isArr (P.underlying t) with
      | some (_, e) => (tySz P e).isSome
      | none => false) && decide (ixs.map (places P t) = ps.map some)

def chkC (P : Program) (op : Op) (c : OpC) (args : List Opd) : Bool :=
  match c with
  | .mv => match op with
    | .move x => opdsOk [x] args
    | .assign x => opdsOk [x] args
    | _ => false
  | .nil _ _ _ => match op with
    | .move (.const (.slice none 0 0)) => args.isEmpty
    | .assign (.const (.slice none 0 0)) => args.isEmpty
    | _ => false
  | .pick => match op with
    | .pick x y z => opdsOk [x, y, z] args
    | _ => false
  | .bin b => match op with
    | .binOp b' _ x y _ => b == b' && opdsOk [x, y] args
    | _ => false
  | .beq neg => match op with
    | .binOp b' t x y _ => (b' == if neg then .neq else .eql) && isBool (P.underlying t) && opdsOk [x, y] args
    | _ => false
  | .eq offs neg => match op with
    | .binOp b' t x y _ => (b' == if neg then .neq else .eql) && tyAg P t == some true && eqLv P 40 t == some offs && !P.eqGuardType P.depth t && opdsOk [x, y] args
    | _ => false
  | .lnil neg => match op with
    | .binOp b' t x y _ => (b' == if neg then .neq else .eql) && (isSlice (P.underlying t)).isSome && nilCmp isNilS opdsOk x y args
    | _ => false
  | .pnil neg => match op with
    | .binOp b' t x y _ => (b' == if neg then .neq else .eql) && isPtr (P.underlying t) && nilCmp isNilP opdsOk x y args
    | _ => false
  | .fnil neg => match op with
    | .binOp b' t x y _ => (b' == if neg then .neq else .eql) && isFunc (P.underlying t) && nilCmp isNilF opdsOk x y args
    | _ => false
  | .un u => match op with
    | .unOp u' _ x => u == u' && opdsOk [x] args
    | _ => false
  | .i2i k => match op with
    | .convert s d x => (isInt (P.underlying s)).isSome && isInt (P.underlying d) == some k && opdsOk [x] args
    | _ => false
  | .s2s => match op with
    | .convert s d x => isStr (P.underlying s) && isStr (P.underlying d) && opdsOk [x] args
    | _ => false
  | .b2s => match op with
    | .convert s d x => (match isSlice (P.underlying s) with | some e => isInt (P.underlying e) == some .u8 | none => false) && isStr (P.underlying d) && opdsOk [x] args
    | _ => false
  | .fld off sz ag => match op with
    | .field t x i => fieldOk P t i off sz == some ag && opdsOk [x] args
    | _ => false
  | .fadr off => match op with
    | .fieldAddr t x i => (match isStruct (P.underlying t) with
      | some fs => (match fs[i]? with | some f => f.offset == off && (match tySz P f.type with | some n => n != 0 | none => false) | none => false)
      | none => false) && opdsOk [x] args
    | _ => false
  | .ladr sz => match op with
    | .indexAddr t x i => (match isSlice (P.underlying t) with | some e => tySz P e == some sz | none => false) && opdsOk [x, i] args
    | _ => false
  | .aadr sz n => match op with
    | .indexAddr t x i => (match isArr (P.underlying t) with | some (n', e) => n == n' && tySz P e == some sz | none => false) && opdsOk [x, i] args
    | _ => false
  | .ixs => match op with
    | .index t x i => isStr (P.underlying t) && opdsOk [x, i] args
    | _ => false
  | .ixa sz n ag => match op with
    | .index t x i => (match isArr (P.underlying t) with | some (n', e) => n == n' && tySz P e == some sz && tyAg P e == some ag | none => false) && opdsOk [x, i] args
    | _ => false
  | .load ag sz => match op with
    | .load t x => tyAg P t == some ag && tySz P t == some sz && opdsOk [x] args
    | _ => false
  | .store sz => match op with
    | .store t x y => tySz P t == some sz && opdsOk [x, y] args
    | _ => false
  | .alloc z => match op with
    | .alloc t => zeroOk P t z && args.isEmpty
    | _ => false
  | .box | .boxc => match op with
    | .box _ x => opdsOk [x] args
    | _ => false
  | .build z ps => match op with
    | .build t parts => zeroOk P t z && placesOk P t (parts.toList.map (·.1)) ps && opdsOk (parts.toList.map (·.2)) args
    | _ => false
  | .bsl _ sz e => match op with
    | .buildSlice t n parts => isSlice (P.underlying t) == some e && tySz P e == some (realSz sz) && decide (0 < realSz sz) && ((P.info? e).bind (·.zero)).isSome && n == parts.size && decide (n * realSz sz ≤ 2 ^ 24) &&
        decide (parts.toList.map (·.1) = List.range parts.size) && opdsOk (parts.toList.map (·.2)) args
    | _ => false
  | .app _ sz bytes e => match op with
    | .call { callee := .builtin .append, args := as, argTypes := ts } => (match ts.toList with | [t, t'] => t == t' && isSlice (P.underlying t) == some e | _ => false) && elemOk P e sz bytes &&
        (match as.toList with | [x, y] => opdsOk [x, y] args | _ => false)
    | _ => false
  | .appr sz bytes e => match op with
    | .call { callee := .builtin .append, args := as, argTypes := ts } => (match ts.toList with | [t, t'] => t == t' && isSlice (P.underlying t) == some e | _ => false) && elemOk P e sz bytes &&
        (match as.toList with | [x, y] => opdsOk [x, y] args | _ => false)
    | _ => false
  | .s2b tag e => match op with
    | .convert s d x => isStr (P.underlying s) && isSlice (P.underlying d) == some e && isInt (P.underlying e) == some .u8 && !tag && opdsOk [x] args
    | _ => false
  | .cpy sz => match op with
    | .call { callee := .builtin .copy, args := as, argTypes := ts } => (match ts.toList with | [t, _] => (match isSlice (P.underlying t) with | some e => tySz P e == some sz | none => false) | _ => false) &&
        (match as.toList with | [x, y] => opdsOk [x, y] args | _ => false)
    | _ => false
  | .cpys => match op with
    | .call { callee := .builtin .copy, args := as, argTypes := ts } => (match ts.toList with | [t, _] => (match isSlice (P.underlying t) with | some e => tySz P e == some 1 | none => false) | _ => false) &&
        (match as.toList with | [x, y] => opdsOk [x, y] args | _ => false)
    | _ => false
  | .fload ag sz => match op with
    | .load t x => tyAg P t == some ag && tySz P t == some sz && opdsOk [x] args
    | _ => false
  | .ext i => match op with
    | .extract x i' => i == i' && opdsOk [x] args
    | _ => false
  | .mkf f => match op with
    | .makeFunc (.func f') first cap => f == f' && first.isEmpty && opdsOk cap.toList args
    | _ => false
  | .call f _ => match op with
    | .call { callee := .value (.func f'), args := as, .. } => f == f' && opdsOk as.toList args
    | _ => false
  | .callh f => match op with
    | .call { callee := .value (.func f'), args := as, .. } => f == f' && opdsOk as.toList args
    | _ => false
  | .callvh => match op with
    | .call { callee := .value x, args := as, .. } => opdsOk (x :: as.toList) args
    | _ => false
  | .callv => match op with
    | .call { callee := .value x, args := as, .. } => opdsOk (x :: as.toList) args
    | _ => false
  | .len => match op with
    | .call { callee := .builtin .len, args := as, argTypes := ts } => (match ts.toList, as.toList with | [t], [x] => (isSlice (P.underlying t)).isSome && opdsOk [x] args | _, _ => false)
    | _ => false
  | .slen => match op with
    | .call { callee := .builtin .len, args := as, argTypes := ts } => (match ts.toList, as.toList with | [t], [x] => isStr (P.underlying t) && opdsOk [x] args | _, _ => false)
    | _ => false
  | .lenc n => match op with
    | .call { callee := .builtin .len, args := as, argTypes := ts } => (match ts.toList, as.toList with | [t], [x] => (match isArr (P.underlying t) with | some (n', _) => n == n' | none => false) && opdsOk [x] args | _, _ => false)
    | _ => false
  | .mn => match op with
    | .call { callee := .builtin .min, args := as, .. } => (match as.toList with | [x, y] => opdsOk [x, y] args | _ => false)
    | _ => false
  | .mx => match op with
    | .call { callee := .builtin .max, args := as, .. } => (match as.toList with | [x, y] => opdsOk [x, y] args | _ => false)
    | _ => false
  | .nilc => match op with
    | .nilCheck x => opdsOk [x] args
    | _ => false
  | .clr sz z => match op with
    | .call { callee := .builtin .clear, args := as, argTypes := ts } => (match ts.toList with | [t] => (match isSlice (P.underlying t) with | some e => tySz P e == some sz && zeroOk P e z && z.length == sz && decide (0 < sz) | none => false) | _ => false) &&
        (match as.toList with | [x] => opdsOk [x] args | _ => false)
    | _ => false
  | .mks sz bytes z => match op with
    | .makeSlice t x y => (match isSlice (P.underlying t) with | some e => elemOk P e sz bytes && zeroOk P e z && z.length == sz | none => false) && opdsOk [x, y] args
    | _ => false
  | .rsl sz n0 lo hi => match op with
    | .slice t x l h none => (match isArr (P.underlying t) with | some (n', e) => n0 == n' && tySz P e == some sz | none => false) && l.isSome == lo && h.isSome == hi && opdsOk (x :: (l.toList ++ h.toList)) args
    | _ => false
  | .slcl sz lo hi => match op with
    | .slice t x l h none => (match isSlice (P.underlying t) with | some e => tySz P e == some sz | none => false) && l.isSome == lo && h.isSome == hi && opdsOk (x :: (l.toList ++ h.toList)) args
    | _ => false
  | .slcs lo hi => match op with
    | .slice t x l h none => isStr (P.underlying t) && l.isSome == lo && h.isSome == hi && opdsOk (x :: (l.toList ++ h.toList)) args
    | _ => false
  | .mkif t => match op with
    | .makeInterface t' x => t == t' && (match P.underlying t with | some (.interface _) => false | some _ => true | none => false) && opdsOk [x] args
    | _ => false

section
variable {P : Program} {d nt : Nat} {m0 : Mem} {g0 : Gh} {w0 : World} {g : Gh} {om : Nat → Value} {szm : Nat → Nat} {st : St} {a : Act} {w : World}

theorem constOk_V {v : Value} {p : PV} (h : constOk v p = true) : V g p v ∧ noTag p := by
  unfold constOk at h
  split at h <;> first
    | cases h; done
    | skip
  · simp only [beq_iff_eq] at h; subst h; exact ⟨.bool _, rfl⟩
  · simp only [Bool.and_eq_true, beq_iff_eq] at h; obtain ⟨rfl, rfl⟩ := h; exact ⟨.int _ _, rfl⟩
  · rename_i a b
    simp only [decide_eq_true_eq] at h
    have : a = b := by cases a; cases b; simp at h; subst h; rfl
    subst this; exact ⟨.str _, rfl⟩
  · exact ⟨.nilp, rfl⟩
  · exact ⟨.nilfn, rfl⟩
  · exact ⟨.nilif, rfl⟩
  · exact ⟨.nil _ _, rfl⟩

theorem opd_V (h : Inv d nt m0 g0 w0 g om szm st a w) {x : Operand} {y : Opd} (hk : opdOk x y = true) {v : PV} (hv : y.ev st.f = some v) :
    V g v (a.eval x) ∧ Tg st.tops om szm v (a.eval x) := by
  cases x with
  | tmp t =>
    cases y with
    | t t' =>
      simp only [opdOk, beq_iff_eq] at hk; subst hk
      exact (h.f t v hv).2
    | c p => simp [opdOk] at hk
  | const c =>
    cases y with
    | t t' => simp [opdOk] at hk
    | c p =>
      simp only [opdOk] at hk
      simp only [Opd.ev, Option.some.injEq] at hv; subst hv
      obtain ⟨h1, h2⟩ := constOk_V (g := g) hk
      exact ⟨h1, Tg_no h2⟩
  | global _ => cases y <;> simp [opdOk] at hk
  | func f =>
    cases y with
    | t t' => simp [opdOk] at hk
    | c p =>
      cases p <;> simp [opdOk] at hk
      rename_i f' cap
      cases cap <;> simp [opdOk] at hk
      subst hk
      simp only [Opd.ev, Option.some.injEq] at hv; subst hv
      exact ⟨.fn f [] #[] rfl (fun j c hj => by simp at hj), by simp only [Tg]; trivial⟩
theorem opds_V (h : Inv d nt m0 g0 w0 g om szm st a w) : ∀ {xs : List Operand} {ys : List Opd} {vs : List PV}, opdsOk xs ys = true → evs st.f ys = some vs →
    xs.length = vs.length ∧ ∀ (i : Nat) (v : PV) (x : Operand), vs[i]? = some v → xs[i]? = some x → V g v (a.eval x) ∧ Tg st.tops om szm v (a.eval x)
  | [], [], vs, _, hv => by simp only [evs, Option.some.injEq] at hv; subst hv; exact ⟨rfl, fun i v x hv => by simp at hv⟩
  | [], _ :: _, _, hk, _ => by simp [opdsOk] at hk
  | _ :: _, [], _, hk, _ => by simp [opdsOk] at hk
  | x :: xs, y :: ys, vs, hk, hv => by
    simp only [opdsOk, Bool.and_eq_true] at hk
    simp only [evs] at hv
    split at hv
    · rename_i v vs' h1 h2
      cases hv
      obtain ⟨h3, h4⟩ := opds_V h hk.2 h2
      refine ⟨by simp [h3], fun i v' x' hv' hx' => ?_⟩
      cases i with
      | zero => simp only [List.getElem?_cons_zero, Option.some.injEq] at hv' hx'; subst hv'; subst hx'; exact opd_V h hk.1 h1
      | succ i => exact h4 i v' x' (by simpa using hv') (by simpa using hx')
    · cases hv
theorem opds1 (h : Inv d nt m0 g0 w0 g om szm st a w) {x : Operand} {ys : List Opd} {vs : List PV} (hk : opdsOk [x] ys = true) (hv : evs st.f ys = some vs) :
    ∃ v, vs = [v] ∧ V g v (a.eval x) ∧ Tg st.tops om szm v (a.eval x) := by
  obtain ⟨h1, h2⟩ := opds_V h hk hv
  match vs, h1 with
  | [v], _ => exact ⟨v, rfl, h2 0 v x rfl rfl⟩
theorem opds2 (h : Inv d nt m0 g0 w0 g om szm st a w) {x y : Operand} {ys : List Opd} {vs : List PV} (hk : opdsOk [x, y] ys = true) (hv : evs st.f ys = some vs) :
    ∃ u v, vs = [u, v] ∧ (V g u (a.eval x) ∧ Tg st.tops om szm u (a.eval x)) ∧ (V g v (a.eval y) ∧ Tg st.tops om szm v (a.eval y)) := by
  obtain ⟨h1, h2⟩ := opds_V h hk hv
  match vs, h1 with
  | [u, v], _ => exact ⟨u, v, rfl, h2 0 u x rfl rfl, h2 1 v y rfl rfl⟩
theorem opds3 (h : Inv d nt m0 g0 w0 g om szm st a w) {x y z : Operand} {ys : List Opd} {vs : List PV} (hk : opdsOk [x, y, z] ys = true) (hv : evs st.f ys = some vs) :
    ∃ u v r, vs = [u, v, r] ∧ (V g u (a.eval x) ∧ Tg st.tops om szm u (a.eval x)) ∧ (V g v (a.eval y) ∧ Tg st.tops om szm v (a.eval y)) ∧ (V g r (a.eval z) ∧ Tg st.tops om szm r (a.eval z)) := by
  obtain ⟨h1, h2⟩ := opds_V h hk hv
  match vs, h1 with
  | [u, v, r], _ => exact ⟨u, v, r, rfl, h2 0 u x rfl rfl, h2 1 v y rfl rfl, h2 2 r z rfl rfl⟩

/-- What a pure operation's answer wants: the machine's answer, and its tags. -/
def Pur (P : Program) (g : Gh) (st : St) (om : Nat → Value) (szm : Nat → Nat) (a : Act) (w : World) (o : Oper) (v : PV) : Prop :=
  ∃ r, (execOp a.eval o).run P w = .ok (.value r) w ∧ V g v r ∧ Tg st.tops om szm v r

theorem pur_of {o : Oper} {v : PV} {s : Sem Value} (he : execOp a.eval o = (do pure (Next.value (← s)))) (hr : ∃ r, s.run P w = .ok r w ∧ V g v r) (ht : noTag v) : Pur P g st om szm a w o v := by
  obtain ⟨r, h1, h2⟩ := hr
  exact ⟨r, by rw [he]; simp [h1], h2, Tg_no ht⟩

theorem bin_untag {b : BinOp} {x y v : PV} (h : binP b x y = some v) : noTag v := by
  cases x <;> cases y <;> simp only [binP] at h <;> try (cases h; done)
  · split at h
    · cases b <;> simp only [binI] at h <;> (try split at h) <;> cases h <;> rfl
    · cases h
  · cases b <;> simp only [binS] at h <;> (try split at h) <;> cases h <;> rfl
end
end Go.Proofs.Ytmffcpiffkclgaa.ZJM
