/- The ideal machine: pure values, a compact code, and its evaluator (definitions only). -/
import GoSem.Dispatch
namespace Go.Proofs.Ytmffcpiffkclgaa.ZJM
abbrev Path := List (Nat × Nat)
inductive PV where
 | bool (b : Bool)
 | int (k : IntKind) (n : Int)
 | str (s : ByteArray)
 | lst (o : Option Nat) (nl : Bool) (sz : Nat) (xs : List PV)
 | agg (cs : List PV)
 | tup (vs : List PV)
 | nilp
 | ptr (lv sl : Nat) (p : Path) (off : Nat)
 | elp (x : PV) (off : Nat)
 | slr (lv sl : Nat) (p : Path) (off n sz : Nat)
 | fn (f : FuncId) (cap : List PV)
 | rnd (f : FuncId) (i : Nat) (fs : List Nat) (cap : List PV) (lv sl : Nat)
 | nilfn
 | nilif
 | ifc (t : TypeId) (v : PV)
 | und
 | vec (ver n sz : Nat) (cs : List PV)
 | vnil (ver sz : Nat)
 | vfrz (ver sz : Nat) (xs : List PV)
 | gone (ver sz : Nat)
 | lrec (s : Nat)
 deriving Inhabited
def PV.cells : PV → List PV
 | .agg cs => cs
 | v => [v]
def PV.isCell : PV → Bool
 | .agg _ | .tup _ | .und | .vec _ _ _ _ | .vnil _ _ | .vfrz _ _ _ | .gone _ _ | .lrec _ => false
 | _ => true
def PV.isVal : PV → Bool
 | .agg cs => cs.all PV.isCell
 | v => v.isCell
def PV.untag1 : PV → PV
 | .lst _ nl sz xs => .lst none nl sz xs
 | v => v
def PV.untag : PV → PV
 | .agg cs => .agg (cs.map PV.untag1)
 | v => v.untag1
def PV.retag1 (ρ : Nat → Nat) : PV → PV
 | .lst (some t) nl sz xs => .lst (some (ρ t)) nl sz xs
 | v => v
def PV.retag (ρ : Nat → Nat) : PV → PV
 | .tup cs => .tup (cs.map (PV.retag1 ρ))
 | v => v.retag1 ρ
mutual
def PV.dep (n : Nat) : PV → Bool
 | .lst _ _ _ xs => PV.deps n xs
 | .agg cs => PV.deps n cs
 | .tup vs => PV.deps n vs
 | .ptr lv _ _ _ => decide (lv < n)
 | .slr lv _ _ _ _ _ => decide (lv < n)
 | .elp x _ => PV.dep n x
 | .fn _ cap => PV.deps n cap
 | .rnd _ _ _ cap lv _ => decide (lv < n) && PV.deps n cap
 | .ifc _ v => PV.dep n v
 | .vec _ _ _ cs => PV.deps n cs
 | .vfrz _ _ xs => PV.deps n xs
 | _ => true
def PV.deps (n : Nat) : List PV → Bool
 | [] => true
 | x :: r => PV.dep n x && PV.deps n r
end
mutual
def PV.okn (lv : Nat) (ks ts : List Nat) : PV → Bool
 | .lst o _ _ xs => (match o with | none => true | some t => ts.contains t) && PV.okns lv ks ts xs
 | .agg cs => PV.okns lv ks ts cs
 | .tup vs => PV.okns lv ks ts vs
 | .ptr l s _ _ => l != lv || ks.contains s
 | .slr l s _ _ _ _ => l != lv || ks.contains s
 | .elp x _ => PV.okn lv ks ts x
 | .fn _ cap => PV.okns lv ks ts cap
 | .rnd _ _ _ cap l s => (l != lv || ks.contains s) && PV.okns lv ks ts cap
 | .ifc _ v => PV.okn lv ks ts v
 | .vec _ _ _ cs => PV.okns lv ks ts cs
 | .vfrz _ _ xs => PV.okns lv ks ts xs
 | _ => true
def PV.okns (lv : Nat) (ks ts : List Nat) : List PV → Bool
 | [] => true
 | x :: r => PV.okn lv ks ts x && PV.okns lv ks ts r
end
mutual
def PV.names (lv : Nat) : PV → List Nat
 | .lst _ _ _ xs => PV.namess lv xs
 | .agg cs => PV.namess lv cs
 | .tup vs => PV.namess lv vs
 | .ptr l s _ _ => if l == lv then [s] else []
 | .slr l s _ _ _ _ => if l == lv then [s] else []
 | .elp x _ => PV.names lv x
 | .fn _ cap => PV.namess lv cap
 | .rnd _ _ _ cap l s => (if l == lv then [s] else []) ++ PV.namess lv cap
 | .ifc _ v => PV.names lv v
 | .vec _ _ _ cs => PV.namess lv cs
 | .vfrz _ _ xs => PV.namess lv xs
 | _ => []
def PV.namess (lv : Nat) : List PV → List Nat
 | [] => []
 | x :: r => PV.names lv x ++ PV.namess lv r
end
mutual
def PV.ren (lv lv' : Nat) (ρ : Nat → Nat) : PV → PV
 | .lst o nl sz xs => .lst o nl sz (PV.rens lv lv' ρ xs)
 | .agg cs => .agg (PV.rens lv lv' ρ cs)
 | .tup vs => .tup (PV.rens lv lv' ρ vs)
 | .ptr l s p off => if l == lv then .ptr lv' (ρ s) p off else .ptr l s p off
 | .slr l s p off n sz => if l == lv then .slr lv' (ρ s) p off n sz else .slr l s p off n sz
 | .elp x off => .elp (PV.ren lv lv' ρ x) off
 | .fn f cap => .fn f (PV.rens lv lv' ρ cap)
 | .rnd f i fs cap l s => .rnd f i fs (PV.rens lv lv' ρ cap) (if l == lv then lv' else l) (if l == lv then ρ s else s)
 | .ifc t v => .ifc t (PV.ren lv lv' ρ v)
 | .vec ver n sz cs => .vec ver n sz (PV.rens lv lv' ρ cs)
 | .vfrz ver sz xs => .vfrz ver sz (PV.rens lv lv' ρ xs)
 | v => v
def PV.rens (lv lv' : Nat) (ρ : Nat → Nat) : List PV → List PV
 | [] => []
 | x :: r => PV.ren lv lv' ρ x :: PV.rens lv lv' ρ r
end
def get {α : Type} : List (Nat × α) → Nat → Option α
 | [],_ => none
 | p :: r,t => if (p.1 == t) = true then some p.2 else get r t
def upd {α : Type} : List (Nat × α) → Nat → α → Option (List (Nat × α))
 | [],_,_ => none
 | p :: r,t,x => if (p.1 == t) = true then some ((p.1,x) :: r) else (upd r t x).map (p :: ·)
def gets {α : Type} (l : List (Nat × α)) : List Nat → Option (List (Nat × α))
 | [] => some []
 | t :: r => match get l t,gets l r with
  | some v,some vs => some ((t,v) :: vs)
  | _,_ => none
def numbered {α : Type} : Nat → List α → List (Nat × α)
 | _,[] => []
 | n,x :: r => (n,x) :: numbered (n + 1) r
inductive Opd where
 | t (n : Nat)
 | c (v : PV)
 deriving Inhabited
inductive OpC where
 | mv | pick
 | bin (b : BinOp) | beq (neg : Bool) | eq (offs : List (Nat × Nat)) (neg : Bool) | un (u : UnOp) | i2i (k : IntKind)
 | s2s | b2s | fld (off sz : Nat) (ag : Bool) | fadr (off : Nat) | ladr (sz : Nat) | aadr (sz len : Nat)
 | ixs | ixa (sz len : Nat) (ag : Bool) | load (ag : Bool) (sz : Nat) | store (sz : Nat)
 | nil (tag : Bool) (sz e : Nat) | alloc (z : List PV) | box | boxc | build (z : List PV) (ps : List (Nat × Nat))
 | bsl (tag : Bool) (sz e : Nat) | app (tag : Bool) (sz bytes e : Nat)
 | ext (i : Nat) | mkf (f : FuncId) | mkb (f : FuncId) | call (f : FuncId) (pro : Bool) | callv | callh (f : FuncId) | callvh | len | slen | lenc (n : Nat) | mn | mx | nilc
 | appr (sz bytes e : Nat) | s2b (tag : Bool) (e : Nat) | cpy (sz : Nat) | cpys | fload (ag : Bool) (sz : Nat) | mks (sz bytes : Nat) (z : List PV) | clr (sz : Nat) (z : List PV) | rsl (sz len : Nat) (lo hi : Bool) | slcl (sz : Nat) (lo hi : Bool) | slcs (lo hi : Bool) | lnil (neg : Bool) | fnil (neg : Bool) | pnil (neg : Bool) | mkif (t : TypeId)
 deriving Inhabited
structure COp where
 dst : Option Nat
 guard : Option (Nat × Bool)
 op : OpC
 args : List Opd
 deriving Inhabited
inductive Cd where
 | skip
 | reg (ops : List COp)
 | draw (k : Nat) (rows : List Nat) (ops : List COp)
 | seq (a b : Cd)
 | cond (c : Opd) (a b : Cd)
 | block (id : Nat) (a : Cd)
 | loop (fs ks ts ds : List Nat) (a : Cd)
 | range (g : Opd) (j : Nat) (fs : List Nat) (f : FuncId) (i : Nat)
 | exit (id : Nat)
 | ret
 deriving Inhabited
structure Rd where
 ps : List Nat
 fs : List Nat
 assign : Cd
 body : Cd
 deriving Inhabited
inductive ResC where
 | t (n : Nat) (keep : Bool)
 | cell (n : Nat) (ag : Bool) (sz : Nat)
 deriving Inhabited
structure CFn where
 np : Nat
 res : List ResC
 body : Cd
 rds : List Rd
 deriving Inhabited
abbrev Lvl := List (Nat × List PV)
abbrev Mem := List Lvl
structure St where
 f : List (Nat × PV)
 tops : List (Nat × Nat × Nat)
 own : Lvl
 dead : List Nat
 m : Mem
structure Bag where
 obs : Lvl
 tops : List (Nat × Nat × Nat)
inductive Ex where
 | normal | exit (id : Nat) | ret
 deriving Inhabited
def Opd.ev (f : List (Nat × PV)) : Opd → Option PV
 | .t n => get f n
 | .c v => some v
def evs (f : List (Nat × PV)) : List Opd → Option (List PV)
 | [] => some []
 | a :: r => match a.ev f,evs f r with
  | some v,some vs => some (v :: vs)
  | _,_ => none
def tget : List PV → Path → Option (List PV)
 | cs,[] => some cs
 | cs,p :: r => match cs[p.1]? with
  | some (.vec v' _ _ cs') => if (p.2 == v') = true then tget cs' r else none
  | _ => none
def tset : List PV → Path → List PV → Option (List PV)
 | _,[],x => some x
 | cs,p :: r,x => match cs[p.1]? with
  | some (.vec v' n sz cs') => if (p.2 == v') = true then (match tset cs' r x with
    | some y => some (cs.set p.1 (.vec v' n sz y))
    | none => none) else none
  | _ => none
def lget (l : Lvl) (sl : Nat) (p : Path) : Option (List PV) :=
 match get l sl with
 | some cs => tget cs p
 | none => none
def lset (l : Lvl) (sl : Nat) (p : Path) (x : List PV) : Option Lvl :=
 match get l sl with
 | some cs => match tset cs p x with
  | some y => upd l sl y
  | none => none
 | none => none
def mget : Mem → Nat → Nat → Path → Option (List PV)
 | [],_,_,_ => none
 | l :: r,lv,sl,p => if (lv == r.length) = true then lget l sl p else mget r lv sl p
def mset : Mem → Nat → Nat → Path → List PV → Option Mem
 | [],_,_,_,_ => none
 | l :: r,lv,sl,p,x => if (lv == r.length) = true then (match lset l sl p x with
   | some l' => some (l' :: r)
   | none => none)
  else (match mset r lv sl p x with
   | some r' => some (l :: r')
   | none => none)
def del {α : Type} : List (Nat × α) → Nat → List (Nat × α)
 | [],_ => []
 | p :: r,t => if (p.1 == t) = true then del r t else p :: del r t
def outC (lv sl : Nat) (p : Path) (j : Nat) : PV → Option PV
 | .vec ver n sz _ => some (.slr lv sl (p ++ [(j,ver)]) 0 n sz)
 | .vnil _ sz => some (.lst none true sz [])
 | .vfrz _ sz xs => some (.lst none false sz xs)
 | .gone _ _ => none
 | .lrec _ => none
 | c => some c
def outCs (lv sl : Nat) (p : Path) : Nat → List PV → Option (List PV)
 | _,[] => some []
 | j,c :: r => match outC lv sl p j c,outCs lv sl p (j + 1) r with
  | some c',some r' => some (c' :: r')
  | _,_ => none
def splice {α : Type} (cs new : List α) (off : Nat) : List α := cs.take off ++ new ++ cs.drop (off + new.length)
def fillP (cs : List PV) : List (Nat × Nat) → List PV → Option (List PV)
 | [],[] => some cs
 | p :: ps,v :: vs => if (v.isVal && v.cells.length == p.2 && decide (p.1 + p.2 ≤ cs.length)) = true then fillP (splice cs v.cells p.1) ps vs else none
 | _,_ => none
def partP (ag : Bool) (sz off : Nat) (cs : List PV) : Option PV :=
 match ag with
 | true => if off + sz ≤ cs.length then some (.agg ((cs.drop off).take sz)) else none
 | false => cs[off]?
def intBits (op : BinOp) (k : IntKind) (x y : Int) : Int :=
 let a := BitVec.ofInt k.bits x
 let b := BitVec.ofInt k.bits y
 match op with
 | .and => k.wrap (a &&& b).toNat
 | .or => k.wrap (a ||| b).toNat
 | .xor => k.wrap (a ^^^ b).toNat
 | _ => k.wrap (a &&& ~~~b).toNat
def maxBytes : Nat := 140737488355328
def binI (b : BinOp) (k : IntKind) (x y : Int) : Option PV :=
 match b with
 | .add => some (.int k (k.wrap (x + y)))
 | .sub => some (.int k (k.wrap (x - y)))
 | .mul => some (.int k (k.wrap (x * y)))
 | .quo => if y = 0 then none else some (.int k (k.wrap (x.tdiv y)))
 | .rem => if y = 0 then none else some (.int k (x.tmod y))
 | .eql => some (.bool (x == y))
 | .neq => some (.bool (x != y))
 | .lss => some (.bool (decide (x < y)))
 | .leq => some (.bool (decide (x ≤ y)))
 | .gtr => some (.bool (decide (x > y)))
 | .geq => some (.bool (decide (x ≥ y)))
 | .and => some (.int k (intBits .and k x y))
 | .or => some (.int k (intBits .or k x y))
 | .xor => some (.int k (intBits .xor k x y))
 | .andNot => some (.int k (intBits .andNot k x y))
 | .shl => if y < 0 then none else some (.int k (k.wrap (x * 2 ^ (min y.toNat k.bits))))
 | .shr => if y < 0 then none else some (.int k (x.fdiv (2 ^ (min y.toNat k.bits))))
def shiftOp : BinOp → Bool
 | .shl | .shr => true
 | _ => false
def binS (b : BinOp) (x y : ByteArray) : Option PV :=
 match b with
 | .add => if x.size + y.size ≤ maxBytes then some (.str (x ++ y)) else none
 | .eql => some (.bool (x.toList == y.toList))
 | .neq => some (.bool (!(x.toList == y.toList)))
 | _ => none
def binP (b : BinOp) : PV → PV → Option PV
 | .int k x,.int k' y => if (k == k' || shiftOp b) = true then binI b k x y else none
 | .str x,.str y => binS b x y
 | _,_ => none
def beqP (neg : Bool) : PV → PV → Option PV
 | .bool x,.bool y => some (.bool (if neg then !(x == y) else x == y))
 | _,_ => none
def unP (u : UnOp) : PV → Option PV
 | .int k n => match u with
  | .neg => some (.int k (k.wrap (0 - n)))
  | .xor => some (.int k (intBits .xor k (if k.signed then -1 else k.max) n))
  | _ => none
 | .bool b => match u with
  | .not => some (.bool (!b))
  | _ => none
 | _ => none
def eqB : Nat → PV → PV → Option Bool
 | 0,.int k a,.int k' b => if (k == k') = true then some (a == b) else none
 | 1,.bool a,.bool b => some (a == b)
 | 2,.str a,.str b => some (a == b)
 | _,_,_ => none
def eqCs : List (Nat × Nat) → List PV → List PV → Option Bool
 | [],_,_ => some true
 | p :: r,xs,ys => match xs[p.1]?,ys[p.1]? with
  | some x,some y => match eqB p.2 x y with
   | some b => match eqCs r xs ys with
    | some c => some (b && c)
    | none => none
   | none => none
  | _,_ => none
def eqP (offs : List (Nat × Nat)) (neg : Bool) : PV → PV → Option PV
 | .agg xs,.agg ys => match eqCs offs xs ys with
  | some b => some (.bool (if neg then !b else b))
  | none => none
 | _,_ => none
def bytesP : List PV → Option (List Int)
 | [] => some []
 | x :: r => match x,bytesP r with
  | .int .u8 n,some l => some (n :: l)
  | _,_ => none
def strOf (ns : List Int) : ByteArray := ⟨(ns.map fun n => UInt8.ofNat n.toNat).toArray⟩
def on1 {α : Type} (vs : List PV) (k : PV → Option α) : Option α :=
 match vs with
 | [x] => k x
 | _ => none
def on2 {α : Type} (vs : List PV) (k : PV → PV → Option α) : Option α :=
 match vs with
 | [x,y] => k x y
 | _ => none
def on3 {α : Type} (vs : List PV) (k : PV → PV → PV → Option α) : Option α :=
 match vs with
 | [x,y,z] => k x y z
 | _ => none
def asI : PV → (Int → Option PV) → Option PV
 | .int _ i,k => k i
 | _,_ => none
def addP (n : Nat) : PV → Option PV
 | .ptr l s p o => some (.ptr l s p (o + n))
 | .elp y o => some (.elp y (o + n))
 | _ => none
def pickP : PV → PV → PV → Option PV
 | .bool true,a,_ => some a
 | .bool false,_,b => some b
 | _,_,_ => none
def i2iP (k : IntKind) : PV → Option PV
 | .int _ n => some (.int k (k.wrap n))
 | _ => none
def s2sP : PV → Option PV
 | .str s => some (.str s)
 | _ => none
def b2sP : PV → Option PV
 | .lst _ _ _ xs => match bytesP xs with
  | some l => some (.str (strOf l))
  | none => none
 | _ => none
def fldP (off sz : Nat) (ag : Bool) : PV → Option PV
 | .agg cs => partP ag sz off cs
 | _ => none
def ladrP (sz : Nat) : PV → PV → Option PV
 | .lst _ _ sz' xs,.int _ i => if 0 ≤ i then (match xs[i.toNat]? with
  | some x => if (sz == sz') = true then some (.elp x 0) else none
  | none => none) else none
 | .slr lv sl p off n sz',.int _ i => if 0 ≤ i then (if i < n then (if (sz == sz') = true then some (.ptr lv sl p (off + i.toNat * sz)) else none) else none) else none
 | _,_ => none
def aadrP (sz len : Nat) (x i : PV) : Option PV := asI i fun i => if 0 ≤ i then (if i < len then addP (i.toNat * sz) x else none) else none
def ixsP : PV → PV → Option PV
 | .str s,.int _ i => if 0 ≤ i then (match s[i.toNat]? with
  | some b => some (.int .u8 b.toNat)
  | none => none) else none
 | _,_ => none
def ixaP (sz len : Nat) (ag : Bool) : PV → PV → Option PV
 | .agg cs,.int _ i => if 0 ≤ i then (if i < len then partP ag sz (i.toNat * sz) cs else none) else none
 | _,_ => none
def rowP (lv sl : Nat) (p : Path) (ag : Bool) (sz off : Nat) (cs : List PV) : Option PV :=
 match ag with
 | true => if off + sz ≤ cs.length then (match outCs lv sl p off ((cs.drop off).take sz) with
   | some xs => some (.agg xs)
   | none => none) else none
 | false => match cs[off]? with
  | some c => outC lv sl p off c
  | none => none
def loadP (own : Lvl) (m : Mem) (ag : Bool) (sz : Nat) : PV → Option PV
 | .ptr l s p o => match mget (own :: m) l s p with
   | some cs => rowP l s p ag sz o cs
   | none => none
 | .elp y o => partP ag sz o y.cells
 | _ => none
def extP (i : Nat) : PV → Option PV
 | .tup vs => match vs[i]? with
  | some (.lst o nl sz xs) => some (.lst o nl sz xs)
  | some (.tup _) => none
  | some v => some v.untag
  | none => none
 | _ => none
def lenP : PV → Option PV
 | .lst _ _ _ xs => some (.int .i64 xs.length)
 | .slr _ _ _ _ n _ => some (.int .i64 n)
 | _ => none
def slenP : PV → Option PV
 | .str s => some (.int .i64 s.size)
 | _ => none
def mnP : PV → PV → Option PV
 | .int k x,.int _ y => some (.int k (if y < x then y else x))
 | _,_ => none
def mxP : PV → PV → Option PV
 | .int k x,.int _ y => some (.int k (if y > x then y else x))
 | _,_ => none
def nilcP : PV → Option PV
 | .ptr l s p o => some (.ptr l s p o)
 | .elp y o => some (.elp y o)
 | _ => none
def boundsP (n : Nat) (lo hi : Option PV) : Option (Nat × Nat) :=
 match (match hi with | none => some (n : Int) | some (.int _ h) => some h | _ => none),
   (match lo with | none => some 0 | some (.int _ l) => some l | _ => none) with
 | some h,some l => if 0 ≤ l ∧ l ≤ h ∧ h ≤ n then some (l.toNat,h.toNat) else none
 | _,_ => none
def slclP (sz : Nat) (x : PV) (lo hi : Option PV) : Option PV :=
 match x with
 | .lst _ nl sz' xs => if (sz == sz') = true then
   (match boundsP xs.length lo hi with
   | some p => some (.lst none nl sz ((xs.take p.2).drop p.1))
   | none => none)
  else none
 | .slr lv sl q off n sz' => if (sz == sz') = true then
   (match boundsP n lo hi with
   | some p => some (.slr lv sl q (off + p.1 * sz) (p.2 - p.1) sz)
   | none => none)
  else none
 | _ => none
def mkc (sz : Nat) (cs : List PV) : PV :=
 if sz = 1 then (match cs with
  | [c] => c
  | _ => .agg cs) else .agg cs
def chunks (sz : Nat) : Nat → List PV → List PV
 | 0,_ => []
 | n + 1,cs => mkc sz (cs.take sz) :: chunks sz n (cs.drop sz)
def rslP (own : Lvl) (m : Mem) (sz len : Nat) (x : PV) (lo hi : Option PV) : Option PV :=
 match x with
 | .ptr lv sl q off => match mget (own :: m) lv sl q with
  | some cs => if (decide (off + len * sz ≤ cs.length) && decide (len ≤ 9223372036854775807)) = true then (match boundsP len lo hi with
    | some p => some (.slr lv sl q (off + p.1 * sz) (p.2 - p.1) sz)
    | none => none) else none
  | none => none
 | .elp y o => if (decide (o + len * sz ≤ y.cells.length) && decide (len ≤ 9223372036854775807)) = true then (match boundsP len lo hi with
   | some p => some (.lst none false sz (chunks sz (p.2 - p.1) (y.cells.drop (o + p.1 * sz))))
   | none => none) else none
 | _ => none
def slcsP (x : PV) (lo hi : Option PV) : Option PV :=
 match x with
 | .str s =>
   (match (match hi with | none => some (s.size : Int) | some (.int _ h) => some h | _ => none),
     (match lo with | none => some 0 | some (.int _ l) => some l | _ => none) with
   | some h,some l => if 0 ≤ l ∧ l ≤ h ∧ h ≤ s.size then some (.str (s.extract l.toNat h.toNat)) else none
   | _,_ => none)
 | _ => none
def lohi (lo hi : Bool) (vs : List PV) (k : PV → Option PV → Option PV → Option PV) : Option PV :=
 match lo,hi with
 | false,false => on1 vs fun x => k x none none
 | true,false => on2 vs fun x l => k x (some l) none
 | false,true => on2 vs fun x h => k x none (some h)
 | true,true => on3 vs fun x l h => k x (some l) (some h)
def lnilP (neg : Bool) : PV → Option PV
 | .lst _ nl _ _ => some (.bool (if neg then !nl else nl))
 | .slr _ _ _ _ _ _ => some (.bool neg)
 | _ => none
def fnilP (neg : Bool) : PV → Option PV
 | .nilfn => some (.bool (!neg))
 | .fn _ _ => some (.bool neg)
 | .rnd _ _ _ _ _ _ => some (.bool neg)
 | _ => none
def pnilP (neg : Bool) : PV → Option PV
 | .nilp => some (.bool (!neg))
 | .ptr _ _ _ _ => some (.bool neg)
 | .elp _ _ => some (.bool neg)
 | _ => none
def derefP (own : Lvl) (m : Mem) : PV → Option PV
 | .slr lv sl p off n sz => match mget (own :: m) lv sl p with
  | some cs => if off + n * sz ≤ cs.length then (match outCs lv sl p off ((cs.drop off).take (n * sz)) with
    | some xs => some (.lst none false sz (chunks sz n xs))
    | none => none) else none
  | none => none
 | v => some v
def OpC.ev (own : Lvl) (m : Mem) (op : OpC) (vs : List PV) : Option PV :=
 match op with
 | .mv => on1 vs some
 | .pick => on3 vs pickP
 | .bin b => on2 vs (binP b)
 | .beq neg => on2 vs (beqP neg)
 | .eq offs neg => on2 vs (eqP offs neg)
 | .un u => on1 vs (unP u)
 | .i2i k => on1 vs (i2iP k)
 | .s2s => on1 vs s2sP
 | .b2s => on1 vs fun x => match derefP own m x with
  | some x' => b2sP x'
  | none => none
 | .fld off sz ag => on1 vs (fldP off sz ag)
 | .fadr off => on1 vs (addP off)
 | .ladr sz => on2 vs (ladrP sz)
 | .aadr sz n0 => on2 vs (aadrP sz n0)
 | .ixs => on2 vs ixsP
 | .ixa sz n0 ag => on2 vs (ixaP sz n0 ag)
 | .load ag sz => on1 vs (loadP own m ag sz)
 | .build z ps => match fillP z ps (vs.map PV.untag) with
  | some cs => some (.agg cs)
  | none => none
 | .ext i => on1 vs (extP i)
 | .mkf f => some (.fn f (vs.map PV.untag))
 | .mkb f => some (.fn f (.gone 0 0 :: vs.map PV.untag))
 | .len => on1 vs lenP
 | .slen => on1 vs slenP
 | .lenc n => some (.int .i64 n)
 | .mn => on2 vs mnP
 | .mx => on2 vs mxP
 | .nilc => on1 vs nilcP
 | .slcl sz lo hi => lohi lo hi vs (slclP sz)
 | .rsl sz n0 lo hi => lohi lo hi vs (rslP own m sz n0)
 | .slcs lo hi => lohi lo hi vs slcsP
 | .lnil neg => on1 vs (lnilP neg)
 | .fnil neg => on1 vs (fnilP neg)
 | .pnil neg => on1 vs (pnilP neg)
 | .mkif t => on1 vs fun x => some (.ifc t x.untag)
 | _ => none
abbrev Callee := Bool → PV → List PV → Mem → Option (PV × Bag × Mem)
def St.put (st : St) (d : Option Nat) (v : PV) : St :=
 match d with
 | some d => { st with f := (d,v) :: st.f }
 | none => st
def nextVer : PV → Nat
 | .vec v _ _ _ | .vnil v _ | .vfrz v _ _ | .gone v _ => v + 1
 | _ => 0
def isPlace : PV → Bool
 | .vec _ _ _ _ | .vnil _ _ | .vfrz _ _ _ | .gone _ _ | .lrec _ => true
 | _ => false
def moves (lvo : Nat) : PV → Bool
 | .slr lv _ p _ _ _ => lv == lvo && p.isEmpty
 | _ => false
def inC (lvo : Nat) (own : Lvl) (lv sl : Nat) (p : Path) (j : Nat) (old new : PV) : Option (PV × Option Nat) :=
 match new with
 | .slr lv' sl' p' off' n' sz' =>
  if (lv' == lvo && p'.isEmpty) = true then
   (match get own sl' with
   | some cs' => if (off' == 0 && cs'.length == n' * sz' && cs'.all PV.isCell && !(lv == lvo && sl == sl')) = true then (match old with
     | .lrec _ => none
     | _ => some (.vec (nextVer old) n' sz' cs',some sl')) else none
   | none => none)
  else (match old with
   | .vec ver _ sz cs => if (lv' == lv && sl' == sl && p' == p ++ [(j,ver)] && sz' == sz && decide (off' + n' * sz ≤ cs.length)) = true then
     (if cs.all PV.isCell = true then some (.vec (ver + 1) n' sz ((cs.drop off').take (n' * sz)),none) else none) else none
   | _ => if isPlace old = true then none else some (new,none))
 | .lst _ nl sz' _ => if isPlace old = true then (match old with
   | .lrec _ => none
   | _ => if nl = true then some (.vnil (nextVer old) sz',none) else none) else some (new,none)
 | _ => if isPlace old = true then none else some (new,none)
def St.mem (st : St) : Option Mem → Option St
 | some (own' :: m') => some { st with own := own',m := m' }
 | _ => none
def St.kill (st : St) : Option Nat → St
 | some sl => { st with own := del st.own sl,dead := sl :: st.dead }
 | none => st
def put1 (st : St) (lv sl : Nat) (p : Path) (j : Nat) (c : PV) : Option St :=
 match mget (st.own :: st.m) lv sl p with
 | some cs => match cs[j]? with
  | some old => match inC st.m.length st.own lv sl p j old c with
   | some (c',k) => if c'.dep (lv + 1) = true then (st.kill k).mem (mset ((st.kill k).own :: st.m) lv sl p (cs.set j c')) else none
   | none => none
  | none => none
 | none => none
def putCs (lv sl : Nat) (p : Path) : Nat → List PV → St → Option St
 | _,[],st => some st
 | j,c :: r,st => match put1 st lv sl p j c with
  | some st' => putCs lv sl p (j + 1) r st'
  | none => none
def storeEv (st : St) (sz : Nat) : PV → PV → Option St
 | .ptr l s p off,v => match mget (st.own :: st.m) l s p with
   | some cs => if (v.isVal && v.cells.length == sz && decide (off + sz ≤ cs.length)) = true then
     (if (v.cells.all (fun c => !moves st.m.length c) && ((cs.drop off).take sz).all fun c => !isPlace c) = true then
      (if PV.deps (l + 1) v.cells = true then st.mem (mset (st.own :: st.m) l s p (splice cs (v.cells.map PV.untag1) off)) else none)
     else putCs l s p off (v.cells.map PV.untag1) st) else none
   | none => none
 | _,_ => none
def isFree (st : St) (d : Nat) : Bool := (get st.own d).isNone && !st.dead.contains d
def newVar (st : St) (d : Option Nat) (cs : List PV) : Option St :=
 match d with
 | some d => if (isFree st d && cs.all PV.isCell) = true then
   (if (cs.all fun c => !moves st.m.length c) = true then some { st with own := (d,cs.map PV.untag1) :: st.own,f := (d,.ptr st.m.length d [] 0) :: st.f }
   else putCs st.m.length d [] 0 (cs.map PV.untag1) { st with own := (d,cs.map PV.untag1) :: st.own,f := (d,.ptr st.m.length d [] 0) :: st.f }) else none
 | none => none
def newList (st : St) (tag : Bool) (d : Option Nat) (nl : Bool) (sz e : Nat) (xs : List PV) : Option St :=
 match d with
 | some d => match tag with
  | true => match get st.tops d with
   | none => some { st with f := (d,.lst (some d) nl sz xs) :: st.f,tops := (d,xs.length,e) :: st.tops }
   | some _ => none
  | false => some { st with f := (d,.lst none nl sz xs) :: st.f }
 | none => none
def rep {α : Type} (l : List α) : Nat → List α
 | 0 => []
 | n + 1 => l ++ rep l n
def writeSt (st : St) (lv sl : Nat) (p : Path) (cs' : List PV) : Option St := st.mem (mset (st.own :: st.m) lv sl p cs')
def clrEv (st : St) (d : Option Nat) (sz : Nat) (z : List PV) : PV → Option St
 | .slr lv sl p off n sz' => if (sz == sz' && z.length == sz && PV.deps 0 z) = true then
   (match mget (st.own :: st.m) lv sl p with
   | some cs => if (decide (off + n * sz ≤ cs.length) && ((cs.drop off).take (n * sz)).all fun c => !isPlace c) = true then (match writeSt st lv sl p (splice cs (rep z n) off) with
     | some st' => some (st'.put d (.tup []))
     | none => none) else none
   | none => none) else none
 | .lst _ true sz' [] => if (sz == sz') = true then some (st.put d (.tup [])) else none
 | _ => none
def rowMark : Nat := 1000000
def realSz (sz : Nat) : Nat := if rowMark ≤ sz then sz - rowMark else sz
def rowLit (st : St) (d : Option Nat) (sz : Nat) : Option St :=
 match d with
 | some d => if isFree st d = true then some { st with own := (d,[]) :: st.own,f := (d,.slr st.m.length d [] 0 0 sz) :: st.f } else none
 | none => none
def sized (sz : Nat) (vs : List PV) : Bool := vs.all fun v => v.isVal && v.cells.length == sz
def cpyTo (st : St) (d : Option Nat) (sz : Nat) (xs : List PV) : PV → Option St
 | .slr lv sl p off n sz' => if (sz == sz') = true then
   (match mget (st.own :: st.m) lv sl p with
   | some cs => let k := min n xs.length
    let new := (xs.take k).flatMap PV.cells
    if (decide (off + n * sz ≤ cs.length) && ((cs.drop off).take (k * sz)).all (fun c => !isPlace c) && sized sz xs && PV.deps (lv + 1) new && new.all fun c => !isPlace c) = true then (match writeSt st lv sl p (splice cs new off) with
     | some st' => some (st'.put d (.int .i64 k))
     | none => none) else none
   | none => none) else none
 | .lst _ true _ [] => some (st.put d (.int .i64 0))
 | _ => none
def cpyEv (st : St) (d : Option Nat) (sz : Nat) (x y : PV) : Option St :=
 match derefP st.own st.m y with
 | some (.lst _ _ sz' ys) => if (sz == sz' || ys.isEmpty) = true then cpyTo st d sz ys x else none
 | _ => none
def cpysEv (st : St) (d : Option Nat) (x y : PV) : Option St :=
 match y with
 | .str s => cpyTo st d 1 (s.toList.map fun b => .int .u8 b.toNat) x
 | _ => none
def frz1 (st : St) (s j : Nat) : Option St :=
 match get st.own s with
 | some cs => match cs[j]? with
  | some (.vec ver n sz ys) => if (ys.length == n * sz && ys.all PV.isCell) = true then (match upd st.own s (cs.set j (.vfrz ver sz (chunks sz n ys))) with
    | some own' => some { st with own := own' }
    | none => none) else none
  | some _ => some st
  | none => none
 | none => none
def frzs (s : Nat) : Nat → Nat → St → Option St
 | 0,_,st => some st
 | k + 1,j,st => match frz1 st s j with
  | some st' => frzs s k (j + 1) st'
  | none => none
def floadEv (st : St) (d : Option Nat) (ag : Bool) (sz : Nat) (x : PV) : Option St :=
 match x with
 | .ptr l s p off => if (l == st.m.length && p.isEmpty) = true then
   (match frzs s sz off st with
   | some st1 => match loadP st1.own st1.m ag sz x with
    | some v => some (st1.put d v)
    | none => none
   | none => none) else none
 | _ => none
def keepSt0 (fs ks ts : List Nat) (st : St) : Option St :=
 match gets st.f fs,gets st.own ks with
 | some f',some own' => some { st with f := f',own := own',dead := [],tops := ts.map fun t => (t,(get st.tops t).getD (0,0)) }
 | _,_ => none
def dropMark : Nat := 1000000
def dropTag (ts : List Nat) : PV → PV
 | .lst (some t) nl sz xs => if ts.contains t = true then .lst (some t) nl sz xs else .lst none nl sz xs
 | v => v
def keepSt (fs ks ts : List Nat) (st : St) : Option St :=
 if ts.contains dropMark = true then
  (match keepSt0 fs ks ts st with
  | some st' => some { st' with f := st'.f.map fun p => (p.1,dropTag ts p.2) }
  | none => none)
 else keepSt0 fs ks ts st
def okSt (ks ts : List Nat) (st : St) : Bool := st.f.all (fun p => p.2.okn st.m.length ks ts) && st.own.all (fun p => PV.okns st.m.length ks [] p.2)
def dedup : List Nat → List Nat → List Nat
 | [],acc => acc
 | x :: r,acc => if acc.contains x = true then dedup r acc else dedup r (acc ++ [x])
def reach (lv : Nat) (own : Lvl) : Nat → List Nat → List Nat
 | 0,ns => ns
 | k + 1,ns => reach lv own k (dedup (ns.flatMap fun n => match get own n with | some cs => PV.namess lv cs | none => []) ns)
def idxOf : List Nat → Nat → Nat → Option Nat
 | [],_,_ => none
 | x :: r,n,i => if (x == n) = true then some i else idxOf r n (i + 1)
def turnName (ns : List Nat) (n : Nat) : Nat := match idxOf ns n 0 with | some i => 1000000000 + i | none => n
def turnSt (fs ks ts ds : List Nat) (st : St) : Option St :=
 match gets st.f fs,gets st.f ds with
 | some f',some dv =>
  let ns := (reach st.m.length st.own st.own.length (dedup (PV.namess st.m.length (dv.map (·.2))) [])).filter fun n => !ks.contains n
  let ρ := turnName ns
  match gets st.own (ks ++ ns) with
  | some own' => if (okSt (ks ++ ns) ts { st with f := f',own := own' } && ks.all (fun k => decide (k < 1000000000))) = true then
    some { st with f := f'.map fun p => (p.1,p.2.ren st.m.length st.m.length ρ),own := own'.map fun p => (ρ p.1,PV.rens st.m.length st.m.length ρ p.2),tops := ts.map fun t => (t,(get st.tops t).getD (0,0)),dead := [] } else none
  | none => none
 | _,_ => none
def maskSt (fs ks ts ds : List Nat) (st : St) : Option St :=
 match ds with
 | [] => match keepSt fs ks ts st with
  | some st' => if okSt ks ts st' = true then some st' else none
  | none => none
 | _ :: _ => turnSt fs ks ts ds st
def makeEv (st : St) (d : Option Nat) (sz bytes : Nat) (z : List PV) : PV → PV → Option St
 | .int _ n,.int _ c => if (n == c && decide (0 ≤ n) && decide (n.toNat * bytes ≤ maxBytes)) = true then
   (match d with
   | some d => if isFree st d = true then some { st with own := (d,rep z n.toNat) :: st.own,f := (d,.slr st.m.length d [] 0 n.toNat sz) :: st.f } else none
   | none => none) else none
 | _,_ => none
def firstList (st : St) (tag : Bool) (d : Option Nat) (sz e : Nat) (xs : List PV) : Option St :=
 match d with
 | some d => match xs with
  | [] => some { st with f := (d,.lst none true sz []) :: st.f }
  | _ :: _ => match tag with
   | true => match get st.tops d with
    | none => some { st with f := (d,.lst (some d) false sz xs) :: st.f,tops := (d,xs.length,e) :: st.tops }
    | some p => if (p.1 == 0) = true then some { st with f := (d,.lst (some d) false sz xs) :: st.f,tops := (d,xs.length,e) :: st.tops } else none
   | false => some { st with f := (d,.lst none false sz xs) :: st.f }
 | none => none
def appEv (st : St) (tag : Bool) (sz bytes e : Nat) (d : Option Nat) : PV → PV → Option St
 | .lst o nl sz1 xs,.lst _ _ sz2 ys => if (sz == sz1 && sz == sz2) = true then (if (xs.length + ys.length) * bytes ≤ maxBytes then
   (match o with
   | some t => match get st.tops t with
    | some p => if (p.1 == xs.length && p.2 == e) = true then
      (match d,upd st.tops t (xs.length + ys.length,e) with
      | some d,some tops' => some { st with f := (d,.lst (some t) (nl && ys.isEmpty) sz (xs ++ ys)) :: st.f,tops := tops' }
      | _,_ => none) else none
    | none => none
   | none => if nl = true then firstList st tag d sz e ys else none) else none) else none
 | _,_ => none
def takeRow (st : St) (lv sl : Nat) (p : Path) (n sz : Nat) : Option (List PV × St) :=
 match p.getLast? with
 | none => if (lv == st.m.length) = true then (match get st.own sl with
   | some cs => if (cs.length == n * sz) = true then some (cs,st.kill (some sl)) else none
   | none => none) else none
 | some q => match mget (st.own :: st.m) lv sl p.dropLast with
  | some ps => match ps[q.1]? with
   | some (.vec ver n' sz' cs) => if (ver == q.2 && n' == n && sz' == sz && cs.length == n * sz) = true then
     (match st.mem (mset (st.own :: st.m) lv sl p.dropLast (ps.set q.1 (.gone ver sz))) with
     | some st' => some (cs,st')
     | none => none) else none
   | _ => none
  | none => none
def apprEv (st : St) (sz bytes : Nat) (d : Option Nat) (x : PV) : PV → Option St
 | .lst _ _ sz2 ys => if (sz == sz2) = true then
   (match d with
   | some d => match x with
    | .lst none true sz1 [] => if (sz == sz1 && decide (ys.length * bytes ≤ maxBytes) && (ys.flatMap PV.cells).all PV.isCell) = true then (match ys with
      | [] => some { st with f := (d,.lst none true sz []) :: st.f }
      | _ :: _ => if isFree st d = true then some { st with own := (d,ys.flatMap PV.cells) :: st.own,f := (d,.slr st.m.length d [] 0 ys.length sz) :: st.f } else none) else none
    | .slr lv sl p off n sz1 => if (sz == sz1 && off == 0 && decide ((n + ys.length) * bytes ≤ maxBytes) && (ys.flatMap PV.cells).all PV.isCell) = true then (match ys with
      | [] => some { st with f := (d,x) :: st.f }
      | _ :: _ => match takeRow st lv sl p n sz with
       | some (cs,st1) => if cs.all PV.isCell = true then (if isFree st1 d = true then some { st1 with own := (d,cs ++ ys.flatMap PV.cells) :: st1.own,f := (d,.slr st1.m.length d [] 0 (n + ys.length) sz) :: st1.f } else none) else none
       | none => none) else none
    | _ => none
   | none => none) else none
 | _ => none
def strBytes (s : ByteArray) : List PV := s.toList.map fun b => .int .u8 b.toNat
def s2bEv (st : St) (tag : Bool) (d : Option Nat) (e : Nat) : PV → Option St
 | .str s => if s.size ≤ maxBytes then newList st tag d false 1 e (strBytes s) else none
 | _ => none
def bagName (d i : Nat) : Nat := 1000 * (d + 1) + i
def unpack (st : St) (d : Option Nat) (v : PV) (b : Bag) : Option St :=
 match b.obs,b.tops with
 | [],[] => some (st.put d v)
 | _,_ => match d with
  | some d => if (b.obs.all (fun p => isFree st (bagName d p.1)) && b.tops.all (fun p => (get st.tops (bagName d p.1)).isNone)) = true then
    some { st with
     own := b.obs.map (fun p => (bagName d p.1,PV.rens (st.m.length + 1) st.m.length (bagName d) p.2)) ++ st.own
     tops := b.tops.map (fun p => (bagName d p.1,p.2)) ++ st.tops
     f := (d,(v.ren (st.m.length + 1) st.m.length (bagName d)).retag (bagName d)) :: st.f } else none
  | none => none
def callEv (K : Callee) (pr : Bool) (st : St) (d : Option Nat) (fv : PV) (vs : List PV) : Option St :=
 match K pr fv (vs.map PV.untag) (st.own :: st.m) with
 | some (v,b,own' :: m') => unpack { st with own := own',m := m' } d v b
 | _ => none
def callH (K : Callee) (fv : PV) (vs : List PV) : Option PV :=
 if (fv.dep 0 && PV.deps 0 (vs.map PV.untag)) = true then
  (match K false fv (vs.map PV.untag) [] with
  | some (v,b,[]) => match b.obs,b.tops with
   | [],[] => some v
   | _,_ => none
  | _ => none)
 else none
def callHv (K : Callee) : List PV → Option PV
 | fv :: r => callH K fv r
 | [] => none
def putO (st : St) (d : Option Nat) : Option PV → Option St
 | some v => some (st.put d v)
 | none => none
def opEv (K : Callee) (dst : Option Nat) (op : OpC) (vs : List PV) (st : St) : Option St :=
 match op with
 | .store sz => on2 vs (storeEv st sz)
 | .alloc z => newVar st dst z
 | .box => on1 vs fun v => newVar st dst v.cells
 | .boxc => on1 vs fun v => if v.isVal = true then some (st.put dst (.elp v.untag 0)) else none
 | .nil tag sz e => newList st tag dst true sz e []
 | .mks sz bytes z => on2 vs (makeEv st dst sz bytes z)
 | .clr sz z => on1 vs (clrEv st dst sz z)
 | .cpy sz => on2 vs (cpyEv st dst sz)
 | .cpys => on2 vs (cpysEv st dst)
 | .s2b tag e => on1 vs (s2bEv st tag dst e)
 | .fload ag sz => on1 vs (floadEv st dst ag sz)
 | .bsl tag sz e => if rowMark ≤ sz then (match vs with | [] => rowLit st dst (sz - rowMark) | _ => none) else if sized sz vs = true then newList st tag dst false sz e (vs.map PV.untag) else none
 | .app tag sz bytes e => on2 vs fun x y => match derefP st.own st.m y with
  | some y' => appEv st tag sz bytes e dst x y'
  | none => none
 | .appr sz bytes _ => on2 vs fun x y => match derefP st.own st.m y with
  | some y' => apprEv st sz bytes dst x y'
  | none => none
 | .call f pr => callEv K pr st dst (.fn f []) vs
 | .callv => match vs with
  | fv :: r => callEv K false st dst fv r
  | [] => none
 | .callh f => putO st dst (callH K (.fn f []) vs)
 | .callvh => putO st dst (callHv K vs)
 | op => match op.ev st.own st.m vs with
  | some v => some (st.put dst v)
  | none => none
def COp.ev (K : Callee) (o : COp) (st : St) : Option St :=
 match o.guard with
 | none => match evs st.f o.args with
  | some vs => opEv K o.dst o.op vs st
  | none => none
 | some (g,want) => match get st.f g with
  | some (.bool b) => if (b == want) = true then (match evs st.f o.args with
    | some vs => opEv K o.dst o.op vs st
    | none => none) else some (st.put o.dst .und)
  | some .und => some (st.put o.dst .und)
  | _ => none
def regEv (K : Callee) : List COp → St → Option St
 | [],st => some st
 | o :: r,st => match o.ev K st with
  | some st' => regEv K r st'
  | none => none
def s2bH : List PV → Option PV
 | [.str s] => if s.size ≤ maxBytes then some (.lst none false 1 (strBytes s)) else none
 | _ => none
def opH (K : Callee) (op : OpC) (vs : List PV) (st : St) : Option PV :=
 match op with
 | .nil tag sz _ => if tag = true then none else some (.lst none true sz [])
 | .bsl tag sz _ => if tag = true then none else if rowMark ≤ sz then none else if sized sz vs = true then some (.lst none false sz (vs.map PV.untag)) else none
 | .s2b tag _ => if tag = true then none else s2bH vs
 | .call f pr => if pr = true then none else callH K (.fn f []) vs
 | .callv => callHv K vs
 | .callh f => callH K (.fn f []) vs
 | .callvh => callHv K vs
 | op => op.ev st.own st.m vs
def COp.evH (K : Callee) (o : COp) (st : St) : Option PV :=
 match o.guard with
 | none => match evs st.f o.args with
  | some vs => opH K o.op vs st
  | none => none
 | some (g,want) => match get st.f g with
  | some (.bool b) => if (b == want) = true then (match evs st.f o.args with
    | some vs => opH K o.op vs st
    | none => none) else some .und
  | some .und => some .und
  | _ => none
def headEv (K : Callee) : List COp → St → Option St
 | [],st => some st
 | o :: r,st => match o.evH K st with
  | some v => headEv K r (st.put o.dst v)
  | none => none
mutual
def PV.beq : PV → PV → Bool
 | .bool a,y => (match y with | .bool b => a == b | _ => false)
 | .int k n,y => (match y with | .int k' n' => decide (k = k') && decide (n = n') | _ => false)
 | .str s,y => (match y with | .str s' => decide (s = s') | _ => false)
 | .lst o nl sz xs,y => (match y with | .lst o' nl' sz' xs' => decide (o = o') && (nl == nl') && decide (sz = sz') && PV.beqs xs xs' | _ => false)
 | .agg cs,y => (match y with | .agg cs' => PV.beqs cs cs' | _ => false)
 | .tup cs,y => (match y with | .tup cs' => PV.beqs cs cs' | _ => false)
 | .nilp,y => (match y with | .nilp => true | _ => false)
 | .ptr lv sl p off,y => (match y with | .ptr lv' sl' p' off' => decide (lv = lv') && decide (sl = sl') && decide (p = p') && decide (off = off') | _ => false)
 | .elp x off,y => (match y with | .elp x' off' => PV.beq x x' && decide (off = off') | _ => false)
 | .slr lv sl p off n sz,y => (match y with | .slr lv' sl' p' off' n' sz' => decide (lv = lv') && decide (sl = sl') && decide (p = p') && decide (off = off') && decide (n = n') && decide (sz = sz') | _ => false)
 | .fn f cap,y => (match y with | .fn f' cap' => decide (f = f') && PV.beqs cap cap' | _ => false)
 | .rnd f i fs cap lv sl,y => (match y with | .rnd f' i' fs' cap' lv' sl' => decide (f = f') && decide (i = i') && decide (fs = fs') && PV.beqs cap cap' && decide (lv = lv') && decide (sl = sl') | _ => false)
 | .nilfn,y => (match y with | .nilfn => true | _ => false)
 | .nilif,y => (match y with | .nilif => true | _ => false)
 | .ifc t v,y => (match y with | .ifc t' v' => decide (t = t') && PV.beq v v' | _ => false)
 | .und,y => (match y with | .und => true | _ => false)
 | .vec ver n sz cs,y => (match y with | .vec ver' n' sz' cs' => decide (ver = ver') && decide (n = n') && decide (sz = sz') && PV.beqs cs cs' | _ => false)
 | .vnil ver sz,y => (match y with | .vnil ver' sz' => decide (ver = ver') && decide (sz = sz') | _ => false)
 | .vfrz ver sz xs,y => (match y with | .vfrz ver' sz' xs' => decide (ver = ver') && decide (sz = sz') && PV.beqs xs xs' | _ => false)
 | .gone ver sz,y => (match y with | .gone ver' sz' => decide (ver = ver') && decide (sz = sz') | _ => false)
 | .lrec s,y => (match y with | .lrec s' => decide (s = s') | _ => false)
def PV.beqs : List PV → List PV → Bool
 | [],y => y.isEmpty
 | x :: r,y => (match y with | x' :: r' => PV.beq x x' && PV.beqs r r' | [] => false)
end
def calmOp : OpC → Bool
 | .mv | .pick | .bin _ | .beq _ | .eq _ _ | .un _ | .i2i _ | .s2s | .fld _ _ _ | .fadr _ | .ladr _ | .aadr _ _ | .ixs | .ixa _ _ _ | .build _ _ | .ext _ | .mkf _ | .mkb _ | .len | .slen | .lenc _ | .mn | .mx | .nilc | .slcl _ _ _ | .slcs _ _ | .lnil _ | .fnil _ | .pnil _ => true
 | _ => false
def readOp : OpC → Bool
 | .load _ _ | .rsl _ _ _ _ | .b2s | .callh _ | .callvh => true
 | .nil tag _ _ => !tag
 | .bsl tag _ _ => !tag
 | .s2b tag _ => !tag
 | op => calmOp op
inductive XR where
 | rd (i : Nat) (c : COp) (F : List (Nat × PV)) (v : PV)
 | eff (i : Nat) (own : Lvl) (m : Mem)
def xPast (K : Callee) (row : Nat) (c : COp) (st : St) (v : PV) : List XR → Bool
 | [] => true
 | .eff e own m :: r => (row.testBit e || (match c.evH K { st with own := own,m := m } with | some v' => v'.beq v | none => false)) && xPast K row c st v r
 | .rd _ _ _ _ :: r => xPast K row c st v r
def xLate (K : Callee) (row : Nat) (st' : St) : List XR → Bool
 | [] => true
 | .rd j cj F v :: r => (row.testBit j || calmOp cj.op || (match cj.evH K { st' with f := F } with | some v' => v'.beq v | none => false)) && xLate K row st' r
 | .eff _ _ _ :: r => xLate K row st' r
def xEv (K : Callee) (rows : List Nat) : Nat → List XR → List COp → St → Option St
 | _,_,[],st => some st
 | i,done,c :: r,st => match readOp c.op with
  | true => match c.evH K st with
   | some v => if (calmOp c.op || xPast K (rows.getD i 0) c st v done) = true then xEv K rows (i + 1) (.rd i c st.f v :: done) r (st.put c.dst v) else none
   | none => none
  | false => match c.ev K st with
   | some st' => if xLate K (rows.getD i 0) st' done = true then xEv K rows (i + 1) (.eff i st.own st.m :: done) r st' else none
   | none => none
def xMode : Nat := 1000000
def drawEv (K : Callee) (k : Nat) (rows : List Nat) (ops : List COp) (st : St) : Option St :=
 if k = xMode then xEv K rows 0 [] ops st
 else match headEv K (ops.take k) st with
 | some st' => regEv K (ops.drop k) st'
 | none => none
def loopN (mask : St → Option St) (body : St → Option (Ex × St)) : Nat → St → Option (Ex × St)
 | 0,_ => none
 | n + 1,st => match mask st with
  | none => none
  | some st1 => match body st1 with
   | some (.normal,st2) => loopN mask body n st2
   | r => r
def leftBy (st : St) (j : Nat) : Option (Ex × St) :=
 match get st.own j with
 | some [.lrec 0] => some (.normal,{ st with own := del st.own j,dead := j :: st.dead })
 | some [.lrec 2] => some (.ret,{ st with own := del st.own j,dead := j :: st.dead })
 | some [.lrec (k + 3)] => some (.exit k,{ st with own := del st.own j,dead := j :: st.dead })
 | _ => none
def rangeEv (K : Callee) (g : Opd) (j : Nat) (fs : List Nat) (f : FuncId) (i : Nat) (st : St) : Option (Ex × St) :=
 match g.ev st.f,gets st.f fs,isFree st j with
 | some (.fn f0 cap0),some caps,true => match K false (.fn f0 cap0) [.rnd f i fs (caps.map fun p => p.2.untag) st.m.length j] (((j,[.lrec 0]) :: st.own) :: st.m) with
  | some (_,b,own' :: m') => match b.obs,b.tops with
   | [],[] => leftBy { st with own := own',m := m' } j
   | _,_ => none
  | _ => none
 | _,_,_ => none
def Cd.ev (K : Callee) (n : Nat) : Cd → St → Option (Ex × St)
 | .skip,st => some (.normal,st)
 | .reg ops,st => match regEv K ops st with
  | some st' => some (.normal,st')
  | none => none
 | .draw k rows ops,st => match drawEv K k rows ops st with
  | some st' => some (.normal,st')
  | none => none
 | .seq a b,st => match a.ev K n st with
  | some (.normal,st') => b.ev K n st'
  | r => r
 | .cond c a b,st => match c.ev st.f with
  | some (.bool true) => a.ev K n st
  | some (.bool false) => b.ev K n st
  | _ => none
 | .block id a,st => match a.ev K n st with
  | some (.exit id',st') => if (id' == id) = true then some (.normal,st') else some (.exit id',st')
  | r => r
 | .loop fs ks ts ds a,st => loopN (maskSt fs ks ts ds) (a.ev K n) n st
 | .range g j fs f i,st => rangeEv K g j fs f i st
 | .exit id,st => some (.exit id,st)
 | .ret,st => some (.ret,st)
def frzR (own : Lvl) (m : Mem) : PV → Option PV
 | .slr lv sl p off n sz => if (lv == m.length) = true then derefP own m (.slr lv sl p off n sz) else some (.slr lv sl p off n sz)
 | c => some c
def frzRs (own : Lvl) (m : Mem) : List PV → Option (List PV)
 | [] => some []
 | c :: r => match frzR own m c,frzRs own m r with
  | some c',some r' => some (c' :: r')
  | _,_ => none
def frzV (own : Lvl) (m : Mem) : PV → Option PV
 | .agg cs => (frzRs own m cs).map .agg
 | v => frzR own m v
def ResC.ev (st : St) (pro : Bool) : ResC → Option PV
 | .t n keep => match get st.f n with
  | some v => match keep with
   | true => some v
   | false => match pro with
    | true => some v.untag
    | false => frzV st.own st.m v.untag
  | none => none
 | .cell n ag sz => match get st.f n with
  | some v => match loadP st.own st.m ag sz v with
   | some v => match pro with
    | true => some v
    | false => frzV st.own st.m v
   | none => none
  | none => none
def resEvs (st : St) (pro : Bool) : List ResC → Option (List PV)
 | [] => some []
 | r :: rs => match r.ev st pro,resEvs st pro rs with
  | some v,some vs => some (v :: vs)
  | _,_ => none
def resEv (st : St) (pro : Bool) (rs : List ResC) : Option PV :=
 match resEvs st pro rs with
 | some [v] => some v
 | some vs => some (.tup vs)
 | none => none
def tagOf : PV → List Nat
 | .lst (some t) _ _ _ => [t]
 | _ => []
def tagsOf : PV → List Nat
 | .tup vs => vs.flatMap tagOf
 | v => tagOf v
def emptyBag : Bag := ⟨[],[]⟩
def isRec : PV → Bool
 | .lrec _ => true
 | _ => false
def noTagB : PV → Bool
 | .agg cs => cs.all fun c => (tagOf c).isEmpty
 | _ => true
def nodupB : List Nat → Bool
 | [] => true
 | x :: r => !r.contains x && nodupB r
def nameIn (ns : List Nat) (n : Nat) : Nat := (idxOf ns n 0).getD 0
def renB (st : St) (v : PV) (ns ts : List Nat) : PV := (v.ren st.m.length st.m.length (nameIn ns)).retag (nameIn ts)
def obsB (st : St) (ns : List Nat) (obs : Lvl) : Lvl := obs.map fun p => (nameIn ns p.1,PV.rens st.m.length st.m.length (nameIn ns) p.2)
def topsB (ts : List Nat) (tops : List (Nat × Nat × Nat)) : List (Nat × Nat × Nat) := tops.map fun p => (nameIn ts p.1,p.2)
def bagChk (st : St) (v : PV) (ns ts : List Nat) (obs : Lvl) (tops : List (Nat × Nat × Nat)) : Bool :=
 v.okn st.m.length ns ts && obs.all (fun p => PV.okns st.m.length ns [] p.2 && p.2.all fun c => !isRec c) && (renB st v ns ts).okn st.m.length ((obsB st ns obs).map (·.1)) ((topsB ts tops).map (·.1)) &&
  (obsB st ns obs).all (fun p => PV.okns st.m.length ((obsB st ns obs).map (·.1)) [] p.2) && nodupB ((topsB ts tops).map (·.1)) && noTagB (renB st v ns ts)
def bagOf (st : St) (v : PV) (ns ts : List Nat) : Option (PV × Bag × Mem) :=
 match gets st.own ns,gets st.tops ts with
 | some obs,some tops => if bagChk st v ns ts obs tops = true then some (renB st v ns ts,⟨obsB st ns obs,topsB ts tops⟩,st.m) else none
 | _,_ => none
def isTup : PV → Bool
 | .tup _ => true
 | .gone _ _ => true
 | _ => false
def bagEv (st : St) (rs : List ResC) : Option (PV × Bag × Mem) :=
 match resEv st true rs with
 | some v => if (isTup v && rs.length == 1) = true then none else bagOf st v (reach st.m.length st.own st.own.length (dedup (v.names st.m.length) [])) (dedup (tagsOf v) [])
 | none => none
def retEv (st : St) (pro : Bool) (rs : List ResC) : Option (PV × Bag × Mem) :=
 match resEv st pro rs with
 | some v => if v.okn st.m.length [] [] = true then some (v,emptyBag,st.m) else bagEv st rs
 | none => none
structure Env where
 fns : FuncId → Option CFn
 prim : FuncId → Option (List PV → Mem → Option (PV × Bag × Mem))
def zipf : List Nat → List PV → List (Nat × PV)
 | n :: ns,v :: vs => (n,v) :: zipf ns vs
 | _,_ => []
def recOf : Ex → Nat
 | .normal => 0
 | .ret => 2
 | .exit k => k + 3
def bndOf : List PV → Option (List PV)
 | .gone _ _ :: as => some as
 | _ => none
def apply (E : Env) : Nat → Callee
 | 0,_,_,_,_ => none
 | k + 1,pr,fv,args,m => match fv with
  | .fn f cap => match bndOf cap with
   | some as => apply E k pr (.fn f []) (as.map PV.untag ++ args) m
   | none => match E.prim f with
    | some F => if cap.isEmpty = true then F args m else none
    | none => match E.fns f with
     | some c => if ((args ++ cap).length == c.np && (args ++ cap).all fun v => !isTup v) = true then
       (match c.body.ev (apply E k) k { f := numbered 0 (args ++ cap.map PV.untag),tops := [],own := [],dead := [],m := m } with
       | some (.normal,st) => retEv st pr c.res
       | some (.ret,st) => retEv st pr c.res
       | _ => none)
      else none
     | none => none
  | .rnd f i fs cap lv j => match E.fns f with
   | some c => match c.rds[i]? with
    | some rd => if (decide (rd.fs = fs) && args.length == rd.ps.length && cap.length == fs.length && (mget m lv j []).isSome && (args ++ cap).all fun v => !isTup v) = true then
      (match rd.assign.ev (apply E k) k { f := zipf rd.ps args ++ zipf fs (cap.map PV.untag),tops := [],own := [],dead := [],m := m } with
      | some (.normal,st1) => match mget st1.m lv j [] with
       | some [.lrec 0] => match mset st1.m lv j [] [.lrec 1] with
        | some m1 => match rd.body.ev (apply E k) k { st1 with m := m1 } with
         | some (ex,st) => match mset st.m lv j [] [.lrec (recOf ex)] with
          | some m2 => some (.bool (recOf ex == 0),emptyBag,m2)
          | none => none
         | none => none
        | none => none
       | _ => none
      | _ => none)
     else none
    | none => none
   | none => none
  | _ => none
end Go.Proofs.Ytmffcpiffkclgaa.ZJM
