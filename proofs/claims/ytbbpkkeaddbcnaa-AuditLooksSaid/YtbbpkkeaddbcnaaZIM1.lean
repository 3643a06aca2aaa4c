/- The ideal machine: pure values, a compact code, and its evaluator (definitions only). -/
import GoSem.Dispatch
namespace Go.Proofs.Ytbbpkkeaddbcnaa.ZIM

/-- Pure values: a slice is a list by value (with a tag where it may grow). -/
inductive PV where
  | bool (b : Bool)
  | int (k : IntKind) (n : Int)
  | str (s : ByteArray)
  | lst (o : Option Nat) (nl : Bool) (sz : Nat) (xs : List PV)
  | agg (cs : List PV)
  | tup (vs : List PV)
  | nilp
  | ptr (lv sl : Nat) (off : Nat)
  | elp (x : PV) (off : Nat)
  | slr (lv sl off n sz : Nat)      -- a slice of a variable that lies in memory
  | fn (f : FuncId) (cap : List PV)
  | yld (lv j : Nat)
  | nilfn
  | nilif
  | ifc (t : TypeId) (v : PV)
  | und
  deriving Inhabited

def PV.cells : PV → List PV
  | .agg cs => cs
  | v => [v]
def PV.isCell : PV → Bool
  | .agg _ => false
  | .tup _ => false
  | .und => false
  | _ => true
/-- A value that a variable may hold. -/
def PV.isVal : PV → Bool
  | .agg cs => cs.all PV.isCell
  | v => v.isCell
/-- A slice's tag is taken off. -/
def PV.untag1 : PV → PV
  | .lst _ nl sz xs => .lst none nl sz xs
  | v => v
def PV.untag : PV → PV
  | .agg cs => .agg (cs.map PV.untag1)
  | v => v.untag1

mutual
/-- All names in it lie below level n. -/
def PV.dep (n : Nat) : PV → Bool
  | .lst _ _ _ xs => PV.deps n xs
  | .agg cs => PV.deps n cs
  | .tup vs => PV.deps n vs
  | .ptr lv _ _ => decide (lv < n)
  | .slr lv _ _ _ _ => decide (lv < n)
  | .elp x _ => PV.dep n x
  | .fn _ cap => PV.deps n cap
  | .yld lv _ => decide (lv < n)
  | .ifc _ v => PV.dep n v
  | _ => true
def PV.deps (n : Nat) : List PV → Bool
  | [] => true
  | x :: r => PV.dep n x && PV.deps n r
end
mutual
/-- Its names of level lv are among ks, its tags among ts. -/
def PV.okn (lv : Nat) (ks ts : List Nat) : PV → Bool
  | .lst o _ _ xs => (match o with | none => true | some t => ts.contains t) && PV.okns lv ks ts xs
  | .agg cs => PV.okns lv ks ts cs
  | .tup vs => PV.okns lv ks ts vs
  | .ptr l s _ => l != lv || ks.contains s
  | .slr l s _ _ _ => l != lv || ks.contains s
  | .elp x _ => PV.okn lv ks ts x
  | .fn _ cap => PV.okns lv ks ts cap
  | .ifc _ v => PV.okn lv ks ts v
  | _ => true
def PV.okns (lv : Nat) (ks ts : List Nat) : List PV → Bool
  | [] => true
  | x :: r => PV.okn lv ks ts x && PV.okns lv ks ts r
end

def get {α : Type} : List (Nat × α) → Nat → Option α
  | [], _ => none
  | p :: r, t => if (p.1 == t) = true then some p.2 else get r t
def upd {α : Type} : List (Nat × α) → Nat → α → Option (List (Nat × α))
  | [], _, _ => none
  | p :: r, t, x => if (p.1 == t) = true then some ((p.1, x) :: r) else (upd r t x).map (p :: ·)
def gets {α : Type} (l : List (Nat × α)) : List Nat → Option (List (Nat × α))
  | [] => some []
  | t :: r => match get l t, gets l r with
    | some v, some vs => some ((t, v) :: vs)
    | _, _ => none
def numbered {α : Type} : Nat → List α → List (Nat × α)
  | _, [] => []
  | n, x :: r => (n, x) :: numbered (n + 1) r

/-- An operand. -/
inductive Opd where
  | t (n : Nat)
  | c (v : PV)
  deriving Inhabited
inductive OpC where
  | mv | pick
  | bin (b : BinOp) | beq (neg : Bool) | eq (offs : List (Nat × Nat)) (neg : Bool) | un (u : UnOp) | i2i (k : IntKind)
  | s2s | b2s | fld (off sz : Nat) (ag : Bool) | fadr (off : Nat) | ladr (sz : Nat) | aadr (sz len : Nat)
  | ixs | ixa (sz len : Nat) (ag : Bool) | load (ag : Bool) (sz : Nat) | store (sz : Nat)
  | nil (tag : Bool) (sz e : Nat) | alloc (z : List PV) | box | build (z : List PV) (ps : List (Nat × Nat))
  | bsl (tag : Bool) (sz e : Nat) | app (tag : Bool) (sz bytes e : Nat)
  | ext (i : Nat) | mkf (f : FuncId) | call (f : FuncId) | callv | len | slen | lenc (n : Nat) | mn | mx | nilc
  | frz (fs ks ts : List Nat) | mks (sz bytes : Nat) (z : List PV) | clr (sz : Nat) (z : List PV) | rsl (sz len : Nat) (lo hi : Bool) | slcl (sz : Nat) (lo hi : Bool) | slcs (lo hi : Bool) | lnil (neg : Bool) | fnil (neg : Bool) | pnil (neg : Bool) | mkif (t : TypeId)
  deriving Inhabited
structure COp where
  dst : Option Nat
  guard : Option (Nat × Bool)
  op : OpC
  args : List Opd
  deriving Inhabited
inductive Cd where
  | skip
  | reg (ops : List COp)
  | draw (k : Nat) (rows : List Nat) (ops : List COp)     -- its order is open: the first k only read; what comes ahead of what, as bits
  | seq (a b : Cd)
  | cond (c : Opd) (a b : Cd)
  | block (id : Nat) (a : Cd)
  | loop (fs ks ts : List Nat) (a : Cd)      -- what is live at its head: slots, blocks, tags
  | exit (id : Nat)
  | ret
  deriving Inhabited
inductive ResC where
  | t (n : Nat)
  | cell (n : Nat) (ag : Bool) (sz : Nat)
  deriving Inhabited
structure CFn where
  np : Nat
  res : List ResC
  body : Cd
  deriving Inhabited

abbrev Lvl := List (Nat × List PV)
/-- Memory: a level for each call under way, the newest first; a level's variables that lie in memory, by slot. -/
abbrev Mem := List Lvl
structure St where
  f : List (Nat × PV)
  tops : List (Nat × Nat × Nat)   -- of each tag: how long its newest list is, and its elements' type
  own : Lvl
  m : Mem          -- the callers' levels
inductive Ex where
  | normal | exit (id : Nat) | ret
  deriving Inhabited

def Opd.ev (f : List (Nat × PV)) : Opd → Option PV
  | .t n => get f n
  | .c v => some v
def evs (f : List (Nat × PV)) : List Opd → Option (List PV)
  | [] => some []
  | a :: r => match a.ev f, evs f r with
    | some v, some vs => some (v :: vs)
    | _, _ => none

def mget : Mem → Nat → Nat → Option (List PV)
  | [], _, _ => none
  | l :: r, lv, sl => if (lv == r.length) = true then get l sl else mget r lv sl
def mset : Mem → Nat → Nat → List PV → Option Mem
  | [], _, _, _ => none
  | l :: r, lv, sl, x => if (lv == r.length) = true then (upd l sl x).map (· :: r) else (mset r lv sl x).map (l :: ·)

def splice {α : Type} (cs new : List α) (off : Nat) : List α := cs.take off ++ new ++ cs.drop (off + new.length)
def fillP (cs : List PV) : List (Nat × Nat) → List PV → Option (List PV)
  | [], [] => some cs
  | p :: ps, v :: vs => if (v.isVal && v.cells.length == p.2 && decide (p.1 + p.2 ≤ cs.length)) = true then fillP (splice cs v.cells p.1) ps vs else none
  | _, _ => none
/-- A part of a row of cells. -/
def partP (ag : Bool) (sz off : Nat) (cs : List PV) : Option PV :=
  match ag with
  | true => if off + sz ≤ cs.length then some (.agg ((cs.drop off).take sz)) else none
  | false => cs[off]?

def intBits (op : BinOp) (k : IntKind) (x y : Int) : Int :=
  let a := BitVec.ofInt k.bits x
  let b := BitVec.ofInt k.bits y
  match op with
  | .and => k.wrap (a &&& b).toNat
  | .or => k.wrap (a ||| b).toNat
  | .xor => k.wrap (a ^^^ b).toNat
  | _ => k.wrap (a &&& ~~~b).toNat
def maxBytes : Nat := 140737488355328

def binI (b : BinOp) (k : IntKind) (x y : Int) : Option PV :=
  match b with
  | .add => some (.int k (k.wrap (x + y)))
  | .sub => some (.int k (k.wrap (x - y)))
  | .mul => some (.int k (k.wrap (x * y)))
  | .quo => if y = 0 then none else some (.int k (k.wrap (x.tdiv y)))
  | .rem => if y = 0 then none else some (.int k (x.tmod y))
  | .eql => some (.bool (x == y))
  | .neq => some (.bool (x != y))
  | .lss => some (.bool (decide (x < y)))
  | .leq => some (.bool (decide (x ≤ y)))
  | .gtr => some (.bool (decide (x > y)))
  | .geq => some (.bool (decide (x ≥ y)))
  | .and => some (.int k (intBits .and k x y))
  | .or => some (.int k (intBits .or k x y))
  | .xor => some (.int k (intBits .xor k x y))
  | .andNot => some (.int k (intBits .andNot k x y))
  | .shl => if y < 0 then none else some (.int k (k.wrap (x * 2 ^ (min y.toNat k.bits))))
  | .shr => if y < 0 then none else some (.int k (x.fdiv (2 ^ (min y.toNat k.bits))))
def shiftOp : BinOp → Bool
  | .shl | .shr => true
  | _ => false
def binS (b : BinOp) (x y : ByteArray) : Option PV :=
  match b with
  | .add => if x.size + y.size ≤ maxBytes then some (.str (x ++ y)) else none
  | .eql => some (.bool (x.toList == y.toList))
  | .neq => some (.bool (!(x.toList == y.toList)))
  | _ => none
def binP (b : BinOp) : PV → PV → Option PV
  | .int k x, .int k' y => if (k == k' || shiftOp b) = true then binI b k x y else none
  | .str x, .str y => binS b x y
  | _, _ => none
def beqP (neg : Bool) : PV → PV → Option PV
  | .bool x, .bool y => some (.bool (if neg then !(x == y) else x == y))
  | _, _ => none
def unP (u : UnOp) : PV → Option PV
  | .int k n => match u with
    | .neg => some (.int k (k.wrap (0 - n)))
    | .xor => some (.int k (intBits .xor k (if k.signed then -1 else k.max) n))
    | _ => none
  | .bool b => match u with
    | .not => some (.bool (!b))
    | _ => none
  | _ => none
def eqB : Nat → PV → PV → Option Bool
  | 0, .int k a, .int k' b => if (k == k') = true then some (a == b) else none
  | 1, .bool a, .bool b => some (a == b)
  | 2, .str a, .str b => some (a == b)
  | _, _, _ => none
def eqCs : List (Nat × Nat) → List PV → List PV → Option Bool
  | [], _, _ => some true
  | p :: r, xs, ys => match xs[p.1]?, ys[p.1]? with
    | some x, some y => match eqB p.2 x y with
      | some b => match eqCs r xs ys with
        | some c => some (b && c)
        | none => none
      | none => none
    | _, _ => none
def eqP (offs : List (Nat × Nat)) (neg : Bool) : PV → PV → Option PV
  | .agg xs, .agg ys => match eqCs offs xs ys with
    | some b => some (.bool (if neg then !b else b))
    | none => none
  | _, _ => none
def bytesP : List PV → Option (List Int)
  | [] => some []
  | x :: r => match x, bytesP r with
    | .int .u8 n, some l => some (n :: l)
    | _, _ => none
def strOf (ns : List Int) : ByteArray := ⟨(ns.map fun n => UInt8.ofNat n.toNat).toArray⟩

def on1 {α : Type} (vs : List PV) (k : PV → Option α) : Option α :=
  match vs with
  | [x] => k x
  | _ => none
def on2 {α : Type} (vs : List PV) (k : PV → PV → Option α) : Option α :=
  match vs with
  | [x, y] => k x y
  | _ => none
def on3 {α : Type} (vs : List PV) (k : PV → PV → PV → Option α) : Option α :=
  match vs with
  | [x, y, z] => k x y z
  | _ => none
def asI : PV → (Int → Option PV) → Option PV
  | .int _ i, k => k i
  | _, _ => none
def addP (n : Nat) : PV → Option PV
  | .ptr l s o => some (.ptr l s (o + n))
  | .elp y o => some (.elp y (o + n))
  | _ => none
def pickP : PV → PV → PV → Option PV
  | .bool true, a, _ => some a
  | .bool false, _, b => some b
  | _, _, _ => none
def i2iP (k : IntKind) : PV → Option PV
  | .int _ n => some (.int k (k.wrap n))
  | _ => none
def s2sP : PV → Option PV
  | .str s => some (.str s)
  | _ => none
def b2sP : PV → Option PV
  | .lst _ _ _ xs => match bytesP xs with
    | some l => some (.str (strOf l))
    | none => none
  | _ => none
def fldP (off sz : Nat) (ag : Bool) : PV → Option PV
  | .agg cs => partP ag sz off cs
  | _ => none
def ladrP (sz : Nat) : PV → PV → Option PV
  | .lst _ _ sz' xs, .int _ i => if 0 ≤ i then (match xs[i.toNat]? with
    | some x => if (sz == sz') = true then some (.elp x 0) else none
    | none => none) else none
  | .slr lv sl off n sz', .int _ i => if 0 ≤ i then (if i < n then (if (sz == sz') = true then some (.ptr lv sl (off + i.toNat * sz)) else none) else none) else none
  | _, _ => none
def aadrP (sz len : Nat) (x i : PV) : Option PV := asI i fun i => if 0 ≤ i then (if i < len then addP (i.toNat * sz) x else none) else none
def ixsP : PV → PV → Option PV
  | .str s, .int _ i => if 0 ≤ i then (match s[i.toNat]? with
    | some b => some (.int .u8 b.toNat)
    | none => none) else none
  | _, _ => none
def ixaP (sz len : Nat) (ag : Bool) : PV → PV → Option PV
  | .agg cs, .int _ i => if 0 ≤ i then (if i < len then partP ag sz (i.toNat * sz) cs else none) else none
  | _, _ => none
def loadP (own : Lvl) (m : Mem) (ag : Bool) (sz : Nat) : PV → Option PV
  | .ptr l s o => if (l == m.length) = true then (match get own s with
      | some cs => partP ag sz o cs
      | none => none)
    else (match mget m l s with
      | some cs => partP ag sz o (cs.map PV.untag1)
      | none => none)
  | .elp y o => partP ag sz o y.cells
  | _ => none
def extP (i : Nat) : PV → Option PV
  | .tup vs => (vs[i]?).map PV.untag
  | _ => none
def lenP : PV → Option PV
  | .lst _ _ _ xs => some (.int .i64 xs.length)
  | .slr _ _ _ n _ => some (.int .i64 n)
  | _ => none
def slenP : PV → Option PV
  | .str s => some (.int .i64 s.size)
  | _ => none
def mnP : PV → PV → Option PV
  | .int k x, .int _ y => some (.int k (if y < x then y else x))
  | _, _ => none
def mxP : PV → PV → Option PV
  | .int k x, .int _ y => some (.int k (if y > x then y else x))
  | _, _ => none
def nilcP : PV → Option PV
  | .ptr l s o => some (.ptr l s o)
  | .elp y o => some (.elp y o)
  | _ => none
/-- The bounds of a part of n things. -/
def boundsP (n : Nat) (lo hi : Option PV) : Option (Nat × Nat) :=
  match (match hi with | none => some (n : Int) | some (.int _ h) => some h | _ => none),
      (match lo with | none => some 0 | some (.int _ l) => some l | _ => none) with
  | some h, some l => if 0 ≤ l ∧ l ≤ h ∧ h ≤ n then some (l.toNat, h.toNat) else none
  | _, _ => none
def slclP (sz : Nat) (x : PV) (lo hi : Option PV) : Option PV :=
  match x with
  | .lst _ nl sz' xs => if (sz == sz') = true then
      (match boundsP xs.length lo hi with
      | some p => some (.lst none nl sz ((xs.take p.2).drop p.1))
      | none => none)
    else none
  | .slr lv sl off n sz' => if (sz == sz') = true then
      (match boundsP n lo hi with
      | some p => some (.slr lv sl (off + p.1 * sz) (p.2 - p.1) sz)
      | none => none)
    else none
  | _ => none
/-- A part of an array that lies in memory. -/
def rslP (sz len : Nat) (x : PV) (lo hi : Option PV) : Option PV :=
  match x with
  | .ptr lv sl off => match boundsP len lo hi with
    | some p => some (.slr lv sl (off + p.1 * sz) (p.2 - p.1) sz)
    | none => none
  | _ => none
def slcsP (x : PV) (lo hi : Option PV) : Option PV :=
  match x with
  | .str s =>
      (match (match hi with | none => some (s.size : Int) | some (.int _ h) => some h | _ => none),
          (match lo with | none => some 0 | some (.int _ l) => some l | _ => none) with
      | some h, some l => if 0 ≤ l ∧ l ≤ h ∧ h ≤ s.size then some (.str (s.extract l.toNat h.toNat)) else none
      | _, _ => none)
  | _ => none
def lohi (lo hi : Bool) (vs : List PV) (k : PV → Option PV → Option PV → Option PV) : Option PV :=
  match lo, hi with
  | false, false => on1 vs fun x => k x none none
  | true, false => on2 vs fun x l => k x (some l) none
  | false, true => on2 vs fun x h => k x none (some h)
  | true, true => on3 vs fun x l h => k x (some l) (some h)
def lnilP (neg : Bool) : PV → Option PV
  | .lst _ nl _ _ => some (.bool (if neg then !nl else nl))
  | _ => none
def fnilP (neg : Bool) : PV → Option PV
  | .nilfn => some (.bool (!neg))
  | .fn _ _ => some (.bool neg)
  | _ => none
def pnilP (neg : Bool) : PV → Option PV
  | .nilp => some (.bool (!neg))
  | .ptr _ _ _ => some (.bool neg)
  | .elp _ _ => some (.bool neg)
  | _ => none

def mkc (sz : Nat) (cs : List PV) : PV :=
  if sz = 1 then (match cs with
    | [c] => c
    | _ => .agg cs) else .agg cs
def chunks (sz : Nat) : Nat → List PV → List PV
  | 0, _ => []
  | n + 1, cs => mkc sz (cs.take sz) :: chunks sz n (cs.drop sz)
/-- What a slice reads as. -/
def derefP (own : Lvl) (m : Mem) : PV → Option PV
  | .slr lv sl off n sz => match mget (own :: m) lv sl with
    | some cs => if off + n * sz ≤ cs.length then some (.lst none false sz (chunks sz n ((cs.map PV.untag1).drop off))) else none
    | none => none
  | v => some v
/-- What an operation without an effect answers. -/
def OpC.ev (own : Lvl) (m : Mem) (op : OpC) (vs : List PV) : Option PV :=
  match op with
  | .mv => on1 vs some
  | .pick => on3 vs pickP
  | .bin b => on2 vs (binP b)
  | .beq neg => on2 vs (beqP neg)
  | .eq offs neg => on2 vs (eqP offs neg)
  | .un u => on1 vs (unP u)
  | .i2i k => on1 vs (i2iP k)
  | .s2s => on1 vs s2sP
  | .b2s => on1 vs fun x => match derefP own m x with
    | some x' => b2sP x'
    | none => none
  | .fld off sz ag => on1 vs (fldP off sz ag)
  | .fadr off => on1 vs (addP off)
  | .ladr sz => on2 vs (ladrP sz)
  | .aadr sz n0 => on2 vs (aadrP sz n0)
  | .ixs => on2 vs ixsP
  | .ixa sz n0 ag => on2 vs (ixaP sz n0 ag)
  | .load ag sz => on1 vs (loadP own m ag sz)
  | .build z ps => match fillP z ps (vs.map PV.untag) with
    | some cs => some (.agg cs)
    | none => none
  | .ext i => on1 vs (extP i)
  | .mkf f => some (.fn f (vs.map PV.untag))
  | .len => on1 vs lenP
  | .slen => on1 vs slenP
  | .lenc n => some (.int .i64 n)
  | .mn => on2 vs mnP
  | .mx => on2 vs mxP
  | .nilc => on1 vs nilcP
  | .slcl sz lo hi => lohi lo hi vs (slclP sz)
  | .rsl sz n0 lo hi => lohi lo hi vs (rslP sz n0)
  | .slcs lo hi => lohi lo hi vs slcsP
  | .lnil neg => on1 vs (lnilP neg)
  | .fnil neg => on1 vs (fnilP neg)
  | .pnil neg => on1 vs (pnilP neg)
  | .mkif t => on1 vs fun x => some (.ifc t x.untag)
  | _ => none

abbrev Callee := PV → List PV → Mem → Option (PV × Mem)

def St.put (st : St) (d : Option Nat) (v : PV) : St :=
  match d with
  | some d => { st with f := (d, v) :: st.f }
  | none => st

def storeEv (st : St) (sz : Nat) : PV → PV → Option St
  | .ptr l s off, v => if (l == st.m.length) = true then
      (match get st.own s with
      | some cs => if (v.isVal && v.cells.length == sz && decide (off + sz ≤ cs.length)) = true then
          (match upd st.own s (splice cs v.cells off) with
          | some own' => some { st with own := own' }
          | none => none) else none
      | none => none)
    else (match mget st.m l s with
      | some cs => if (v.isVal && v.cells.length == sz && decide (off + sz ≤ cs.length) && v.dep (l + 1)) = true then
          (match mset st.m l s (splice cs (v.cells.map PV.untag1) off) with
          | some m' => some { st with m := m' }
          | none => none) else none
      | none => none)
  | _, _ => none
def newVar (st : St) (d : Option Nat) (cs : List PV) : Option St :=
  match d with
  | some d => match get st.own d with
    | none => if cs.all PV.isCell = true then some { st with own := (d, cs) :: st.own, f := (d, .ptr st.m.length d 0) :: st.f } else none
    | some _ => none
  | none => none
/-- A new list in slot d, tagged or not. -/
def newList (st : St) (tag : Bool) (d : Option Nat) (nl : Bool) (sz e : Nat) (xs : List PV) : Option St :=
  match d with
  | some d => match tag with
    | true => match get st.tops d with
      | none => some { st with f := (d, .lst (some d) nl sz xs) :: st.f, tops := (d, xs.length, e) :: st.tops }
      | some _ => none
    | false => some { st with f := (d, .lst none nl sz xs) :: st.f }
  | none => none
def rep {α : Type} (l : List α) : Nat → List α
  | 0 => []
  | n + 1 => l ++ rep l n
/-- A variable's cells are others. -/
def writeSt (st : St) (lv sl : Nat) (cs' : List PV) : Option St :=
  if (lv == st.m.length) = true then (match upd st.own sl cs' with
    | some own' => some { st with own := own' }
    | none => none)
  else (match mset st.m lv sl cs' with
    | some m' => some { st with m := m' }
    | none => none)
/-- A row's things are zero again. -/
def clrEv (st : St) (d : Option Nat) (sz : Nat) (z : List PV) : PV → Option St
  | .slr lv sl off n sz' => if (sz == sz' && z.length == sz && PV.deps 0 z) = true then
      (match mget (st.own :: st.m) lv sl with
      | some cs => if off + n * sz ≤ cs.length then (match writeSt st lv sl (splice cs (rep z n) off) with
          | some st' => some (st'.put d (.tup []))
          | none => none) else none
      | none => none) else none
  | _ => none
/-- What is kept at a loop's head. -/
def maskSt (fs ks ts : List Nat) (st : St) : Option St :=
  match gets st.f fs, gets st.own ks with
  | some f', some own' =>
    if (f'.all (fun p => p.2.okn st.m.length ks ts) && own'.all (fun p => PV.okns st.m.length ks ts p.2)) = true then some { st with f := f', own := own', tops := ts.map fun t => (t, (get st.tops t).getD (0, 0)) } else none
  | _, _ => none
/-- A row that is handed away: from here on it is a list by value. -/
def frzEv (st : St) (d : Option Nat) (fs ks ts : List Nat) : PV → Option St
  | .slr lv sl off n sz => if (lv == st.m.length && !ks.contains sl) = true then
      (match get st.own sl with
      | some cs => if (decide (off + n * sz ≤ cs.length) && (PV.okns lv ks ts cs && PV.okns lv ks [] cs)) = true then
          (match maskSt fs ks ts st with
          | some st1 => some (st1.put d (.lst none false sz (chunks sz n (cs.drop off))))
          | none => none) else none
      | none => none) else none
  | .lst o nl sz xs => some (st.put d (.lst o nl sz xs))
  | _ => none
/-- A new row of n things: a variable of its own. -/
def makeEv (st : St) (d : Option Nat) (sz bytes : Nat) (z : List PV) : PV → PV → Option St
  | .int _ n, .int _ c => if (n == c && decide (0 ≤ n) && decide (n.toNat * bytes ≤ maxBytes)) = true then
      (match d with
      | some d => match get st.own d with
        | none => some { st with own := (d, rep z n.toNat) :: st.own, f := (d, .slr st.m.length d 0 n.toNat sz) :: st.f }
        | some _ => none
      | none => none) else none
  | _, _ => none
def sized (sz : Nat) (vs : List PV) : Bool := vs.all fun v => v.isVal && v.cells.length == sz
/-- A list that was nil grows for the first time. -/
def firstList (st : St) (tag : Bool) (d : Option Nat) (sz e : Nat) (xs : List PV) : Option St :=
  match d with
  | some d => match xs with
    | [] => some { st with f := (d, .lst none true sz []) :: st.f }
    | _ :: _ => match tag with
      | true => match get st.tops d with
        | none => some { st with f := (d, .lst (some d) false sz xs) :: st.f, tops := (d, xs.length, e) :: st.tops }
        | some p => if (p.1 == 0) = true then some { st with f := (d, .lst (some d) false sz xs) :: st.f, tops := (d, xs.length, e) :: st.tops } else none
      | false => some { st with f := (d, .lst none false sz xs) :: st.f }
  | none => none
def appEv (st : St) (tag : Bool) (sz bytes e : Nat) (d : Option Nat) : PV → PV → Option St
  | .lst o nl sz1 xs, .lst _ _ sz2 ys => if (sz == sz1 && sz == sz2) = true then (if (xs.length + ys.length) * bytes ≤ maxBytes then
      (match o with
      | some t => match get st.tops t with
        | some p => if (p.1 == xs.length && p.2 == e) = true then
            (match d, upd st.tops t (xs.length + ys.length, e) with
            | some d, some tops' => some { st with f := (d, .lst (some t) (nl && ys.isEmpty) sz (xs ++ ys)) :: st.f, tops := tops' }
            | _, _ => none) else none
        | none => none
      | none => if nl = true then firstList st tag d sz e ys else none) else none) else none
  | _, _ => none
def callEv (K : Callee) (st : St) (d : Option Nat) (fv : PV) (vs : List PV) : Option St :=
  match K fv (vs.map PV.untag) (st.own :: st.m) with
  | some (v, own' :: m') => some ({ st with own := own', m := m' }.put d v)
  | _ => none

/-- One operation that is wanted. -/
def opEv (K : Callee) (dst : Option Nat) (op : OpC) (vs : List PV) (st : St) : Option St :=
  match op with
  | .store sz => on2 vs (storeEv st sz)
  | .alloc z => newVar st dst z
  | .box => on1 vs fun v => newVar st dst v.cells
  | .nil tag sz e => newList st tag dst true sz e []
  | .mks sz bytes z => on2 vs (makeEv st dst sz bytes z)
  | .clr sz z => on1 vs (clrEv st dst sz z)
  | .frz fs ks ts => on1 vs (frzEv st dst fs ks ts)
  | .bsl tag sz e => if sized sz vs = true then newList st tag dst false sz e (vs.map PV.untag) else none
  | .app tag sz bytes e => on2 vs fun x y => match derefP st.own st.m y with
    | some y' => appEv st tag sz bytes e dst x y'
    | none => none
  | .call f => callEv K st dst (.fn f []) vs
  | .callv => match vs with
    | fv :: r => callEv K st dst fv r
    | [] => none
  | op => match op.ev st.own st.m vs with
    | some v => some (st.put dst v)
    | none => none
def COp.ev (K : Callee) (o : COp) (st : St) : Option St :=
  match o.guard with
  | none => match evs st.f o.args with
    | some vs => opEv K o.dst o.op vs st
    | none => none
  | some (g, want) => match get st.f g with
    | some (.bool b) => if (b == want) = true then (match evs st.f o.args with
        | some vs => opEv K o.dst o.op vs st
        | none => none) else some (st.put o.dst .und)
    | some .und => some (st.put o.dst .und)
    | _ => none
def regEv (K : Callee) : List COp → St → Option St
  | [], st => some st
  | o :: r, st => match o.ev K st with
    | some st' => regEv K r st'
    | none => none
/-- A call that looks at nobody's memory. -/
def callH (K : Callee) (fv : PV) (vs : List PV) : Option PV :=
  if (fv.dep 0 && PV.deps 0 (vs.map PV.untag)) = true then
    (match K fv (vs.map PV.untag) [] with
    | some (v, []) => some v
    | _ => none)
  else none
/-- An operation that may stand anywhere among others. -/
def opH (K : Callee) (op : OpC) (vs : List PV) (st : St) : Option PV :=
  match op with
  | .nil tag sz _ => if tag = true then none else some (.lst none true sz [])
  | .bsl tag sz _ => if tag = true then none else if sized sz vs = true then some (.lst none false sz (vs.map PV.untag)) else none
  | .call f => callH K (.fn f []) vs
  | .callv => match vs with
    | fv :: r => callH K fv r
    | [] => none
  | op => op.ev st.own st.m vs
def COp.evH (K : Callee) (o : COp) (st : St) : Option PV :=
  match o.guard with
  | none => match evs st.f o.args with
    | some vs => opH K o.op vs st
    | none => none
  | some (g, want) => match get st.f g with
    | some (.bool b) => if (b == want) = true then (match evs st.f o.args with
        | some vs => opH K o.op vs st
        | none => none) else some .und
    | some .und => some .und
    | _ => none
def headEv (K : Callee) : List COp → St → Option St
  | [], st => some st
  | o :: r, st => match o.evH K st with
    | some v => headEv K r (st.put o.dst v)
    | none => none
def drawEv (K : Callee) (k : Nat) (ops : List COp) (st : St) : Option St :=
  match headEv K (ops.take k) st with
  | some st' => regEv K (ops.drop k) st'
  | none => none
def loopN (mask : St → Option St) (body : St → Option (Ex × St)) : Nat → St → Option (Ex × St)
  | 0, _ => none
  | n + 1, st => match mask st with
    | none => none
    | some st1 => match body st1 with
      | some (.normal, st2) => loopN mask body n st2
      | r => r
def Cd.ev (K : Callee) (n : Nat) : Cd → St → Option (Ex × St)
  | .skip, st => some (.normal, st)
  | .reg ops, st => match regEv K ops st with
    | some st' => some (.normal, st')
    | none => none
  | .draw k _ ops, st => match drawEv K k ops st with
    | some st' => some (.normal, st')
    | none => none
  | .seq a b, st => match a.ev K n st with
    | some (.normal, st') => b.ev K n st'
    | r => r
  | .cond c a b, st => match c.ev st.f with
    | some (.bool true) => a.ev K n st
    | some (.bool false) => b.ev K n st
    | _ => none
  | .block id a, st => match a.ev K n st with
    | some (.exit id', st') => if (id' == id) = true then some (.normal, st') else some (.exit id', st')
    | r => r
  | .loop fs ks ts a, st => loopN (maskSt fs ks ts) (a.ev K n) n st
  | .exit id, st => some (.exit id, st)
  | .ret, st => some (.ret, st)
def ResC.ev (st : St) : ResC → Option PV
  | .t n => get st.f n
  | .cell n ag sz => match get st.f n with
    | some v => loadP st.own st.m ag sz v
    | none => none
def resEvs (st : St) : List ResC → Option (List PV)
  | [] => some []
  | r :: rs => match r.ev st, resEvs st rs with
    | some v, some vs => some (v :: vs)
    | _, _ => none
def resEv (st : St) (rs : List ResC) : Option PV :=
  match resEvs st rs with
  | some [v] => some v.untag
  | some vs => some (.tup (vs.map PV.untag))
  | none => none
def retEv (st : St) (rs : List ResC) : Option (PV × Mem) :=
  match resEv st rs with
  | some v => if v.dep st.m.length = true then some (v, st.m) else none
  | none => none
/-- A call, k deep at most, k rounds of a loop at most. -/
def apply (fns : FuncId → Option CFn) : Nat → Callee
  | 0, _, _, _ => none
  | k + 1, fv, args, m => match fv with
    | .fn f cap => match fns f with
      | some c => if ((args ++ cap).length == c.np) = true then
          (match c.body.ev (apply fns k) k { f := numbered 0 (args ++ cap.map PV.untag), tops := [], own := [], m := m } with
          | some (.normal, st) => retEv st c.res
          | some (.ret, st) => retEv st c.res
          | _ => none)
        else none
      | none => none
    | _ => none
end Go.Proofs.Ytbbpkkeaddbcnaa.ZIM
