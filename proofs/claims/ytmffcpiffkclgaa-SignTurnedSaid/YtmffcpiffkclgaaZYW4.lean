/- Whether a channel fits: the program's and the document's. -/
import Derived.Test.YtmffcpiffkclgaaZYW1
import Derived.Test.YtmffcpiffkclgaaZYA5
set_option linter.unusedSimpArgs false
set_option linter.unusedVariables false
set_option maxRecDepth 10000
namespace Go.Proofs.Ytmffcpiffkclgaa.ZJM.DC
open Go.Proofs.Ytmffcpiffkclgaa.ZJM Go.RowKit
def fitE (k a : Int) (x : Slot) : Bool := !(8 * ksz k == 0) && (!(a == 4) && ((x.n == 8 * ksz k) && (!safeA x.i && !(x.i == 5118))))
def oneF (r : RD) (x : Slot) : Bool := match findIx r.l x.i x.s with
 | none => false
 | some j => match r.l[j]? with
  | none => false
  | some y => fitE y.k y.a x
def fitW (o : Option Row) (x : Slot) : Bool := match o with
 | none => false
 | some y => fitE y.k y.a x
theorem Sim.fit {l : List Row} {c : Int} {r : RD} (h : Sim l c r) (x : Slot) : oneF r x = fitW (getW l (knum x.i x.s)) x := by
 unfold oneF fitW
 rcases h.at x.i x.s with ⟨h1,h2⟩ | ⟨y,j,hj,h1,h2,hre,e1,e2,hok⟩
 ·rw [h1,h2]
 ·rw [h1,h2]
  obtain ⟨r0,r1,r2,r3,r4,r5⟩ := hre
  simp only [List.getElem?_eq_getElem hj,← r1,← r2]
theorem fitE_n {k a : Int} {x : Slot} (h : fitE k a x = true) : x.n = 8 * ksz k ∧ 0 < x.n ∧ x.n ≤ 32 := by
 unfold fitE at h
 simp only [Bool.and_eq_true,Bool.not_eq_true',beq_iff_eq,beq_eq_false_iff_ne] at h
 have := ksz_le k
 obtain ⟨h1,_,h3,_⟩ := h
 omega
def fitsL (r : RD) : Int → List Slot → Bool
 | _,[] => true
 | acc,x :: L => if oneF r x = true then (if 64 < acc + x.n then false else fitsL r (acc + x.n) L) else false
section
variable {m : Mem} {lv a a' ver : Nat} {l : List Row} {c : Int} (hd : DA m lv a a' ver l c) {r : RD} (hs : Sim l c r) (L : List Slot)
def S29 (m : Mem) (lv a : Nat) (L : List Slot) (t : Nat) (acc : Int) : St := ⟨[(0,.ptr lv a [] 0),(5,.int .i64 (64 - acc)),(60,Sl false L),(61,.int .i64 L.length),(62,.int .i64 t)],[],[],[],m⟩
include hd hs in
set_option maxHeartbeats 2000000 in
theorem loop29 (hL : L.length ≤ 8) {st : St} (h0 : maskSt [0,5,60,61,62] [] [] [] st = some (S29 m lv a L 0 0)) :
  ∃ e st',loopW (maskSt [0,5,60,61,62] [] [] []) (Cd.run (app E) cx29.body.inner.body) st = some (e,st') ∧ e ≠ .normal ∧
   ((e = .exit 1 ∧ fitsL r 0 L = true ∧ st'.m = m) ∨ (e = .ret ∧ fitsL r 0 L = false ∧ get st'.f 4 = some (.bool false) ∧ st'.m = m)) := by
 have hlt := hd.lv_lt
 have hlv : lv ≠ m.length := by omega
 refine loop_inv (fun t S => ∃ acc,0 ≤ acc ∧ acc ≤ 64 ∧ fitsL r 0 L = fitsL r acc (L.drop t) ∧ S = S29 m lv a L t acc) L.length _ h0 ⟨0,by omega,by omega,rfl,rfl⟩ ?_ ?_
 ·rintro t S ht ⟨acc,ha0,ha1,hc,rfl⟩
  have hti : (t : Int) < L.length := by omega
  have hw := wrap_succ t (by omega)
  have hdd : L.drop t = L[t] :: L.drop (t + 1) := List.drop_eq_getElem_cons ht
  rw [hdd,fitsL] at hc
  have h92 := app95 (m := [(7,[.int .i64 L[t].i,.int .i64 L[t].s,.int .i64 L[t].n])] :: m) (.inr ⟨_,_,rfl⟩) (finds (hd.cons [(7,[.int .i64 L[t].i,.int .i64 L[t].s,.int .i64 L[t].n])]) hs.dok L[t].i L[t].s)
  have hone := hs.fit L[t]
  obtain ⟨g1,g2⟩ := ss_get L t ht
  simp only [Slot.enc] at g1 g2
  have h21 := app117 L[t].i L[t].s
  generalize getW l (knum L[t].i L[t].s) = o at *
  by_cases ho : oneF r L[t] = true
  ·rw [if_pos ho] at hc
   rw [ho] at hone
   cases o with
   | none => cases hone
   | some y =>
    simp only [specP,Option.isSome_some] at h92
    have hf : fitE y.k y.a L[t] = true := hone.symm
    have hn := fitE_n hf
    unfold fitE at hf
    simp only [Bool.and_eq_true,Bool.not_eq_true',beq_iff_eq] at hf
    obtain ⟨f1,f2,f3,f4,f5⟩ := hf
    have h93 := app100 y.k
    have k8 := ksz8 y.k
    have hne : (L[t].n != 8 * ksz y.k) = false := by simpa using f3
    rw [f4] at h21
    have hwa : IntKind.i64.wrap (64 - acc - 8 * ksz y.k) = 64 - (acc + L[t].n) := by rw [wrap_id _ (by omega) (by omega)]; omega
    by_cases hb : 64 < acc + L[t].n
    ·rw [if_pos hb] at hc
     have hb' : 64 - acc < 8 * ksz y.k := by omega
     rw [hc]
     refine .inr ?_
     simp [cx29,Cd.inner,Cd.body,S29,hti,ht,g1,g2,h92,h93,k8,f1,f2,hne,hb',EndsL]
    ·rw [if_neg hb] at hc
     have hb' : ¬ 64 - acc < 8 * ksz y.k := by omega
     refine .inl ?_
     have hG : Goes (maskSt [0,5,60,61,62] [] [] []) (S29 m lv a L (t + 1) (acc + L[t].n)) (Cd.run (app E) cx29.body.inner.body (S29 m lv a L t acc)) := by
      simp [cx29,Cd.inner,Cd.body,S29,hti,ht,g1,g2,h92,h93,h21,k8,f1,f2,f5,hne,hb',hwa,hw,hlv]
     obtain ⟨st2,q1,q2⟩ := hG.get
     exact ⟨st2,_,q1,q2,acc + L[t].n,by omega,by omega,hc,rfl⟩
  ·rw [if_neg ho] at hc
   have ho' : oneF r L[t] = false := by simpa using ho
   rw [ho'] at hone
   rw [hc]
   refine .inr ?_
   have h93n := app100 0
   cases o with
   | none =>
    simp only [specP,Option.isSome_none] at h92
    have k0 : ksz 0 = 0 := rfl
    simp [cx29,Cd.inner,Cd.body,S29,hti,ht,g1,g2,h92,h93n,k0,EndsL]
   | some y =>
    simp only [specP,Option.isSome_some] at h92
    have h93 := app100 y.k
    have k8 := ksz8 y.k
    have hf : fitE y.k y.a L[t] = false := hone.symm
    unfold fitE at hf
    cases f1 : (8 * ksz y.k == 0) with
    | true => simp [cx29,Cd.inner,Cd.body,S29,hti,ht,g1,g2,h92,h93,k8,f1,EndsL]
    | false =>
     cases f2 : (y.a == 4) with
     | true => simp [cx29,Cd.inner,Cd.body,S29,hti,ht,g1,g2,h92,h93,k8,f1,f2,EndsL]
     | false =>
      cases f3 : (L[t].n != 8 * ksz y.k) with
      | true => simp [cx29,Cd.inner,Cd.body,S29,hti,ht,g1,g2,h92,h93,k8,f1,f2,f3,EndsL]
      | false =>
       have f3' : L[t].n = 8 * ksz y.k := by simpa using f3
       by_cases hb' : 64 - acc < 8 * ksz y.k
       ·simp [cx29,Cd.inner,Cd.body,S29,hti,ht,g1,g2,h92,h93,k8,f1,f2,f3,hb',EndsL]
       ·cases f4 : safeA L[t].i with
        | true =>
         rw [f4] at h21
         simp [cx29,Cd.inner,Cd.body,S29,hti,ht,g1,g2,h92,h93,h21,k8,f1,f2,f3,hb',EndsL]
        | false =>
         rw [f4] at h21
         have f5 : (L[t].i == 5118) = true := by
          rw [f1,f2,f4,f3'] at hf
          simpa using hf
         simp [cx29,Cd.inner,Cd.body,S29,hti,ht,g1,g2,h92,h93,h21,k8,f1,f2,f3,f5,hb',EndsL]
 ·rintro S ⟨acc,ha0,ha1,hc,rfl⟩
  rw [List.drop_length,fitsL] at hc
  rw [hc]
  simp [cx29,Cd.inner,Cd.body,S29,EndsL]
end
def headF (f : Nat → Int) : Bool := !(!(f 0 == 1) && !(f 0 == 2)) && (!decide (f 5 < 1) && (!decide (8 < f 5) && (!decide (f 3 < 257) && (!decide (383 < f 3) && (!(!((f 3).tmod 2 == 1)) && !(!(IntKind.i64.wrap (f 4 - 1) == f 3)))))))
def fitsC (r : RD) (f : Nat → Int) : Bool := if f 0 = 0 then true else if headF f = true then fitsL r 0 (slsF f (f 5).toNat) else false
theorem slsF_len (f : Nat → Int) (n : Nat) : (slsF f n).length = n := by simp [slsF]
section
variable {m : Mem} {lv a a' ver : Nat} {l : List Row} {c : Int} (hd : DA m lv a a' ver l c) {r : RD} (hs : Sim l c r) (f : Nat → Int)
include hd hs in
set_option maxHeartbeats 2000000 in
theorem appx29 : app E false (.fn 29 []) [.ptr lv a [] 0,.agg (CF f 30)] m = some (.bool (fitsC r f),emptyBag,m) := by
 have hlt := hd.lv_lt
 have hlv : lv ≠ m.length := by omega
 have k0 := CF_get f 30 (k := 0) (by omega)
 have k3 := CF_get f 30 (k := 3) (by omega)
 have k4 := CF_get f 30 (k := 4) (by omega)
 have k5 := CF_get f 30 (k := 5) (by omega)
 by_cases hd0 : f 0 = 0
 ·rw [fitsC,if_pos hd0,app_fn E rfl hx29 rfl]
  simp [cx29,k0,hd0]
 have hd0' : (f 0 == 0) = false := by simpa using hd0
 rw [fitsC,if_neg hd0]
 by_cases hh : headF f = true
 case neg =>
  rw [if_neg hh,app_fn E rfl hx29 rfl]
  unfold headF at hh
  cases a1 : (!(f 0 == 1) && !(f 0 == 2)) with
  | true =>
   simp only [Bool.and_eq_true,Bool.not_eq_true',beq_eq_false_iff_ne] at a1
   have a1' : (f 0 != 1) = true := by simpa using a1.1
   have a2' : (f 0 != 2) = true := by simpa using a1.2
   simp [cx29,k0,hd0',a1',a2']
  | false =>
   have a1' : (f 0 != 1) = false ∨ ((f 0 != 1) = true ∧ (f 0 != 2) = false) := by
    rw [Bool.and_eq_false_iff] at a1
    simp only [Bool.not_eq_false',beq_iff_eq] at a1
    rcases a1 with h | h
    ·exact .inl (by simpa using h)
    ·by_cases h1 : f 0 = 1
     ·exact .inl (by simpa using h1)
     ·exact .inr ⟨by simpa using h1,by simpa using h⟩
   rw [a1] at hh
   by_cases b1 : f 5 < 1
   ·rcases a1' with a1' | ⟨a1',a2'⟩
    ·simp [cx29,k0,k5,hd0',a1',b1]
    ·simp [cx29,k0,k5,hd0',a1',a2',b1]
   ·by_cases b2 : 8 < f 5
    ·rcases a1' with a1' | ⟨a1',a2'⟩
     ·simp [cx29,k0,k5,hd0',a1',b1,b2]
     ·simp [cx29,k0,k5,hd0',a1',a2',b1,b2]
    ·by_cases b3 : f 3 < 257
     ·rcases a1' with a1' | ⟨a1',a2'⟩
      ·simp [cx29,k0,k3,k5,hd0',a1',b1,b2,b3]
      ·simp [cx29,k0,k3,k5,hd0',a1',a2',b1,b2,b3]
     ·by_cases b4 : 383 < f 3
      ·rcases a1' with a1' | ⟨a1',a2'⟩
       ·simp [cx29,k0,k3,k5,hd0',a1',b1,b2,b3,b4]
       ·simp [cx29,k0,k3,k5,hd0',a1',a2',b1,b2,b3,b4]
      ·cases b5 : ((f 3).tmod 2 == 1) with
       | false =>
        have b5' : ((f 3).tmod 2 != 1) = true := by simpa using b5
        rcases a1' with a1' | ⟨a1',a2'⟩
        ·simp [cx29,k0,k3,k5,hd0',a1',b1,b2,b3,b4,b5']
        ·simp [cx29,k0,k3,k5,hd0',a1',a2',b1,b2,b3,b4,b5']
       | true =>
        have b5' : ((f 3).tmod 2 != 1) = false := by simpa using b5
        cases b6 : (IntKind.i64.wrap (f 4 - 1) == f 3) with
        | true => exact absurd (by simp [b1,b2,b3,b4,b5,b6]) hh
        | false =>
         have b6' : (IntKind.i64.wrap (f 4 - 1) != f 3) = true := by simpa using b6
         rcases a1' with a1' | ⟨a1',a2'⟩
         ·simp [cx29,k0,k3,k4,k5,hd0',a1',b1,b2,b3,b4,b5',b6']
         ·simp [cx29,k0,k3,k4,k5,hd0',a1',a2',b1,b2,b3,b4,b5',b6']
 rw [if_pos hh]
 unfold headF at hh
 simp only [Bool.and_eq_true,Bool.not_eq_true',Bool.not_not,decide_eq_false_iff_not] at hh
 obtain ⟨a1,b1,b2,b3,b4,b5,b6⟩ := hh
 have a1' : (f 0 != 1) = false ∨ ((f 0 != 1) = true ∧ (f 0 != 2) = false) := by
  rw [Bool.and_eq_false_iff] at a1
  simp only [Bool.not_eq_false',beq_iff_eq] at a1
  rcases a1 with h | h
  ·exact .inl (by simpa using h)
  ·by_cases h1 : f 0 = 1
   ·exact .inl (by simpa using h1)
   ·exact .inr ⟨by simpa using h1,by simpa using h⟩
 have b5' : ((f 3).tmod 2 != 1) = false := by simpa using b5
 have b6' : (IntKind.i64.wrap (f 4 - 1) != f 3) = false := by simpa using b6
 have hch := CF_chunks f (f 5).toNat (by omega)
 have hsl := slsF_len f (f 5).toNat
 have hS0 : maskSt [0,5,60,61,62] [] [] [] (S29 m lv a (slsF f (f 5).toNat) 0 0) = some (S29 m lv a (slsF f (f 5).toNat) 0 0) := by
  simp [S29,hlv]
 obtain ⟨e,⟨f',tops',own',dead',m'⟩,q1,q2,q3⟩ := loop29 hd hs (slsF f (f 5).toNat) (by omega) hS0
 have hl := loop_at hS0 q1
 have hlen2 : (Ss (slsF f (f 5).toNat)).length = (f 5).toNat := by rw [encs_len,hsl]
 have hb1 : (1 : Int) ≤ f 5 := by omega
 have hb8 : f 5 ≤ 8 := by omega
 have hb0 : (0 : Int) ≤ f 5 := by omega
 have hn : ((f 5).toNat : Int) = f 5 := by omega
 have hmx : max (f 5) 0 = f 5 := by omega
 simp only [cx29,Cd.inner,Cd.body,S29,hsl,hn,Int.sub_zero,Sl] at hl
 have hok := fun a b c => ss_okns (slsF f (f 5).toNat) a b c
 rcases q3 with ⟨rfl,hz,hm⟩ | ⟨rfl,hz,hg,hm⟩
 ·simp only at hm
  subst hm
  rw [hz,app_fn E rfl hx29 rfl]
  generalize Ss (slsF f (f 5).toNat) = SL at *
  rcases a1' with a1' | ⟨a1',a2'⟩
  ·simp [cx29,k0,k3,k4,k5,hd0',a1',b1,b2,b3,b4,b5',b6',hch,hlen2,hb0,hb8,hn,hmx,hok,hl,hlv]
  ·simp [cx29,k0,k3,k4,k5,hd0',a1',a2',b1,b2,b3,b4,b5',b6',hch,hlen2,hb0,hb8,hn,hmx,hok,hl,hlv]
 ·simp only at hm hg
  subst hm
  rw [hz,app_fn E rfl hx29 rfl]
  generalize Ss (slsF f (f 5).toNat) = SL at *
  rcases a1' with a1' | ⟨a1',a2'⟩
  ·simp [cx29,k0,k3,k4,k5,hd0',a1',b1,b2,b3,b4,b5',b6',hch,hlen2,hb0,hb8,hn,hmx,hok,hl,hg,hlv]
  ·simp [cx29,k0,k3,k4,k5,hd0',a1',a2',b1,b2,b3,b4,b5',b6',hch,hlen2,hb0,hb8,hn,hmx,hok,hl,hg,hlv]
end
end Go.Proofs.Ytmffcpiffkclgaa.ZJM.DC
set_option linter.unusedSimpArgs false
set_option linter.unusedVariables false
set_option maxRecDepth 10000
namespace Go.Proofs.Ytmffcpiffkclgaa.ZJM.DC
open Go.Proofs.Ytmffcpiffkclgaa.ZJM Go.RowKit
theorem slsF_succ (f : Nat → Int) (t : Nat) : slsF f (t + 1) = slsF f t ++ [slF f t] := by
 unfold slsF
 rw [List.range_succ,List.map_append]; rfl
theorem slsF_mem {f : Nat → Int} {n : Nat} {x : Slot} (h : x ∈ slsF f n) : ∃ j,j < n ∧ x = slF f j := by
 unfold slsF at h
 simp only [List.mem_map,List.mem_range] at h
 obtain ⟨j,hj,rfl⟩ := h
 exact ⟨j,hj,rfl⟩
theorem slsF_in {f : Nat → Int} {n j : Nat} (h : j < n) : slF f j ∈ slsF f n := by
 unfold slsF
 exact List.mem_map.2 ⟨j,List.mem_range.2 h,rfl⟩
section
variable {r : RD} (hr : r.ok) (f : Nat → Int)
end
end Go.Proofs.Ytmffcpiffkclgaa.ZJM.DC
set_option linter.unusedSimpArgs false
set_option linter.unusedVariables false
set_option maxRecDepth 10000
namespace Go.Proofs.Ytmffcpiffkclgaa.ZJM.DC
open Go.Proofs.Ytmffcpiffkclgaa.ZJM Go.RowKit
def eOf (b : Bool) : Int := if b = true then 0 else 7
theorem eOf_t : eOf true = 0 := rfl
theorem eOf_f : eOf false = 7 := rfl
section
variable {m : Mem} {lv a a' ver : Nat} {l : List Row} {c : Int} (hd : DA m lv a a' ver l c) {r : RD} (hs : Sim l c r)
include hd hs
theorem do_num (i s : Int) : app E false (.fn 76 []) [.ptr lv a [] 0,ky i s] m = some (.tup [.int .i64 (numR r i s).1,.bool (numR r i s).2],emptyBag,m) := by
 have h := app31 (.inr ⟨_,_,rfl⟩) (finds hd hs.dok i s) (okO_get hs.dok _)
 rw [hs.num] at h
 exact h
theorem appx96 {own own2 : Lvl} {q : Nat} {b : Bool} (i s : Int) (hq : get own q = some [.ptr lv a [] 0,.int .i64 (eOf b)]) (hown : upd own q [.ptr lv a [] 0,.int .i64 (eOf (b && (numR r i s).2))] = some own2) (hsame : eOf (b && (numR r i s).2) = eOf b → own2 = own) :
  app E false (.fn 96 []) [.ptr m.length q [] 0,.int .i64 i,.int .i64 s] (own :: m) = some (.int .i64 (numR r i s).1,emptyBag,own2 :: m) := by
 have hlt := hd.lv_lt
 have hlv : lv ≠ m.length := by omega
 have hlv1 : lv ≠ m.length + 1 := by omega
 have e1 := do_num ((hd.cons own).cons []) hs i s
 rw [app_fn E rfl hx96 rfl]
 generalize numR r i s = w at *
 obtain ⟨w1,w2⟩ := w
 simp only at *
 cases w2 with
 | true =>
  rw [Bool.and_true] at hown hsame
  rw [hsame rfl]
  simp [cx96,hq,e1,hlv,hlv1]
 | false =>
  cases b with
  | false =>
   rw [hsame rfl]
   simp [cx96,hq,e1,hlv,hlv1,eOf]
  | true =>
   simp only [Bool.true_and,eOf,if_true,Bool.false_eq_true,if_false] at hq hown
   simp [cx96,hq,e1,hlv,hlv1,hown]
end
def hasT (r : RD) (c : Int) (t : Nat) : Bool := (List.range t).all fun (j : Nat) => (numR r (4865 + c) (j : Int)).2
def hasM (r : RD) (c : Int) (b : Bool) (t : Nat) : Bool := b && (List.range t).all fun (j : Nat) => (numR r (4993 + c) ((j : Int) + 1)).2
theorem hasT_succ (r : RD) (c : Int) (t : Nat) : hasT r c (t + 1) = (hasT r c t && (numR r (4865 + c) (t : Int)).2) := by
 unfold hasT; rw [List.range_succ,List.all_append]; simp
theorem hasM_succ (r : RD) (c : Int) (b : Bool) (t : Nat) : hasM r c b (t + 1) = (hasM r c b t && (numR r (4993 + c) ((t : Int) + 1)).2) := by
 unfold hasM; rw [List.range_succ,List.all_append,← Bool.and_assoc]; simp
def slotP (n : Int) : Slot := if wfits 4 n = true then ⟨n / 65536,n / 256 % 256,n % 256⟩ else ⟨0,0,0⟩
theorem app97s (n : Int) : app E false (.fn 97 []) [.int .i64 n] [] = some (.tup [.agg [.int .i64 (slotP n).i,.int .i64 (slotP n).s,.int .i64 (slotP n).n],.int .i64 (if wfits 4 n = true then 0 else 2)],emptyBag,[]) := by
 by_cases h : wfits 4 n = true
 ·have h2 := h
  rw [wfits4] at h2
  simp only [Bool.and_eq_true,decide_eq_true_eq] at h2
  have := app20 n h2.1 h2.2
  rw [slotP,if_pos h,if_pos h]
  exact this
 ·have := app20_bad n (by simpa using h)
  rw [slotP,if_neg h,if_neg h]
  exact this
def headL (r : RD) (c : Int) : Nat → Int := fun j => if j = 0 then (numR r (4865 + c) 1).1 else if j = 1 then (numR r (4865 + c) 2).1 else if j = 2 then (numR r (4865 + c) 3).1 else if j = 3 then (numR r (4865 + c) 5).1 else if j = 4 then (numR r (4865 + c) 6).1 else if j = 5 then (numR r (4993 + c) 0).1 else 0
def numM (r : RD) (c : Int) : Int := (numR r (4993 + c) 0).1
def loadT (r : RD) (c : Int) : Nat → Nat → Int
 | 0 => headL r c
 | t + 1 => if (t : Int) < numM r c then up3 (loadT r c t) (t * 3 + 6) (slotP (numR r (4993 + c) ((t : Int) + 1)).1).i (slotP (numR r (4993 + c) ((t : Int) + 1)).1).s (slotP (numR r (4993 + c) ((t : Int) + 1)).1).n else loadT r c t
theorem loadT_5 (r : RD) (c : Int) (t : Nat) : loadT r c t 5 = numM r c := by
 induction t with
 | zero => rfl
 | succ t ih =>
  rw [loadT]
  split
  ·rw [up3,if_neg (by omega),if_neg (by omega),if_neg (by omega)]; exact ih
  ·exact ih
def loadOk (r : RD) (c : Int) : Bool := hasM r c (hasT r c 7 && (numR r (4865 + c) 1).2 && (numR r (4865 + c) 2).2 && (numR r (4865 + c) 3).2 && (numR r (4865 + c) 5).2 && (numR r (4865 + c) 6).2 && (numR r (4993 + c) 0).2) 8 && (numR r 5119 (c + 1)).2
section
variable {m : Mem} {lv a a' ver : Nat} {l : List Row} {c : Int} (hd : DA m lv a a' ver l c) {r : RD} (hs : Sim l c r) (cc : Int) (h0 : 0 ≤ cc) (h4 : cc < 4)
def S31a (m : Mem) (lv a : Nat) (cc : Int) (t : Nat) (b : Bool) : St := ⟨[(1,.int .i64 cc),(4,.ptr m.length 4 [] 0),(6,.ptr m.length 1000000000 [] 0),(25,.lst none false 5 (Ls rowsT)),(26,.int .i64 7),(27,.int .i64 t)],[],[(4,CF (fun _ => 0) 30),(1000000000,[.ptr lv a [] 0,.int .i64 (eOf b)])],[],m⟩
def S31b (m : Mem) (lv a : Nat) (cc : Int) (g : Nat → Int) (t : Nat) (b : Bool) : St := ⟨[(1,.int .i64 cc),(4,.ptr m.length 4 [] 0),(6,.ptr m.length 1000000000 [] 0),(9,.ptr m.length 9 [] 0),(63,.int .i64 t)],[],[(4,CF (fun _ => 0) 30),(9,CF g 30),(1000000000,[.ptr lv a [] 0,.int .i64 (eOf b)])],[],m⟩
theorem rowsT_get (t : Nat) (ht : t < 7) : ∃ y : Row5,rowsT[t]? = some y ∧ y.s = (t : Int) := by
 rcases (by omega : t = 0 ∨ t = 1 ∨ t = 2 ∨ t = 3 ∨ t = 4 ∨ t = 5 ∨ t = 6) with rfl | rfl | rfl | rfl | rfl | rfl | rfl <;> exact ⟨_,rfl,rfl⟩
include hd hs h0 h4 in
theorem loop31a {st : St} (hst : maskSt [1,4,6,25,26,27] [4] [] [6] st = some (S31a m lv a cc 0 true)) :
  ∃ e st',loopW (maskSt [1,4,6,25,26,27] [4] [] [6]) (Cd.run (app E) cx31.body.inner.body) st = some (e,st') ∧ e ≠ .normal ∧ e = .exit 1 ∧ get st'.f 1 = some (.int .i64 cc) ∧ get st'.f 4 = some (.ptr m.length 4 [] 0) ∧ get st'.f 6 = some (.ptr m.length 1000000000 [] 0) ∧ st'.dead = [] ∧ st'.tops = [] ∧ st'.m = m ∧
   st'.own = [(4,CF (fun _ => 0) 30),(1000000000,[.ptr lv a [] 0,.int .i64 (eOf (hasT r cc 7))])] := by
 have hlt := hd.lv_lt
 have hlv : lv ≠ m.length := by omega
 refine loop_inv (fun t S => S = S31a m lv a cc t (hasT r cc t)) 7 _ hst rfl ?_ ?_
 ·rintro t S ht rfl
  have ht7 : t < 7 := ht
  have htI : (t : Int) < 7 := by omega
  have hw := wrap_succ t (by omega)
  have hw1 : IntKind.i64.wrap (4865 + cc) = 4865 + cc := wrap_id _ (by omega) (by omega)
  obtain ⟨y,gy,ys⟩ := rowsT_get t ht7
  have gE : (Ls rowsT)[t]? = some y.enc := by simp [encs,gy]
  have gE2 : ∀ h,(Ls rowsT)[t]'h = y.enc := fun h => (List.getElem?_eq_some_iff.1 gE).2
  have hlen : (Ls rowsT).length = 7 := rfl
  have hok := fun a b c => ls_okns rowsT a b c
  have hrn := fun a b ρ => PV.datas_rens a b ρ _ (ls_data rowsT)
  obtain ⟨ys0,yk,yl,yh,yf⟩ := y
  simp only at ys
  subst ys
  have e1 := appx96 hd hs (b := hasT r cc t) (own := [(8,[.int .i64 t,.int .i64 yk,.int .i64 yl,.int .i64 yh,.bool yf]),(4,CF (fun _ => 0) 30),(1000000000,[.ptr lv a [] 0,.int .i64 (eOf (hasT r cc t))])]) (own2 := [(8,[.int .i64 t,.int .i64 yk,.int .i64 yl,.int .i64 yh,.bool yf]),(4,CF (fun _ => 0) 30),(1000000000,[.ptr lv a [] 0,.int .i64 (eOf (hasT r cc (t + 1)))])]) (q := 1000000000) (4865 + cc) (t : Int) (by simp) (by rw [hasT_succ]; simp) (fun h => by rw [hasT_succ,h])
  have hG : Goes (maskSt [1,4,6,25,26,27] [4] [] [6]) (S31a m lv a cc (t + 1) (hasT r cc (t + 1))) (Cd.run (app E) cx31.body.inner.body (S31a m lv a cc t (hasT r cc t))) := by
   generalize hasT r cc (t + 1) = b1 at *
   generalize hasT r cc t = b0 at *
   generalize (numR r (4865 + cc) (t : Int)).1 = nn at *
   simp only [S31a,Row5.enc] at *
   generalize Ls rowsT = LL at *
   simp [-isPlace,-moves,cx31,Cd.inner,Cd.body,htI,ht7,gE,gE2,hlen,hok,hrn,hw,hw1,e1,hlv]
  obtain ⟨st2,q1,q2⟩ := hG.get
  exact .inl ⟨st2,_,q1,q2,rfl⟩
 ·rintro S rfl
  generalize hasT r cc 7 = b1 at *
  simp [cx31,Cd.inner,Cd.body,S31a,EndsL]
include hd hs h0 h4 in
theorem loop31b (B : Bool) {st : St} (hst : maskSt [1,4,6,9,63] [4,9] [] [6] st = some (S31b m lv a cc (loadT r cc 0) 0 B)) :
  ∃ e st',loopW (maskSt [1,4,6,9,63] [4,9] [] [6]) (Cd.run (app E) (cx31.body.nth 1)) st = some (e,st') ∧ e ≠ .normal ∧ e = .exit 3 ∧ get st'.f 1 = some (.int .i64 cc) ∧ get st'.f 4 = some (.ptr m.length 4 [] 0) ∧ get st'.f 6 = some (.ptr m.length 1000000000 [] 0) ∧ get st'.f 9 = some (.ptr m.length 9 [] 0) ∧ st'.dead = [] ∧ st'.tops = [] ∧ st'.m = m ∧
   st'.own = [(4,CF (fun _ => 0) 30),(9,CF (loadT r cc 8) 30),(1000000000,[.ptr lv a [] 0,.int .i64 (eOf (hasM r cc B 8))])] := by
 have hlt := hd.lv_lt
 have hlv : lv ≠ m.length := by omega
 have hM0 : hasM r cc B 0 = B := by simp [hasM]
 refine loop_inv (fun t S => S = S31b m lv a cc (loadT r cc t) t (hasM r cc B t)) 8 _ hst (by rw [hM0]) ?_ ?_
 ·rintro t S ht rfl
  have ht8 : t < 8 := ht
  have ht7 : t ≤ 7 := by omega
  have htI : (t : Int) < 8 := by omega
  have hw := wrap_succ t (by omega)
  have hwz : IntKind.i64.wrap ((t : Int) + 1) = (t : Int) + 1 := wrap_id _ (by omega) (by omega)
  have hw1 : IntKind.i64.wrap (4993 + cc) = 4993 + cc := wrap_id _ (by omega) (by omega)
  have h5 := loadT_5 r cc t
  have e1 := appx96 hd hs (b := hasM r cc B t) (own := [(4,CF (fun _ => 0) 30),(9,CF (loadT r cc t) 30),(1000000000,[.ptr lv a [] 0,.int .i64 (eOf (hasM r cc B t))])]) (own2 := [(4,CF (fun _ => 0) 30),(9,CF (loadT r cc t) 30),(1000000000,[.ptr lv a [] 0,.int .i64 (eOf (hasM r cc B (t + 1)))])]) (q := 1000000000) (4993 + cc) ((t : Int) + 1) (by simp) (by rw [hasM_succ]; simp) (fun h => by rw [hasM_succ,h])
  have hg1 : loadT r cc (t + 1) = if (t : Int) < numM r cc then up3 (loadT r cc t) (t * 3 + 6) (slotP (numR r (4993 + cc) ((t : Int) + 1)).1).i (slotP (numR r (4993 + cc) ((t : Int) + 1)).1).s (slotP (numR r (4993 + cc) ((t : Int) + 1)).1).n else loadT r cc t := rfl
  have h97 := app97s (numR r (4993 + cc) ((t : Int) + 1)).1
  have hput := CF_put3 (loadT r cc t) (n := 30) (a := t * 3 + 6) (by omega) (slotP (numR r (4993 + cc) ((t : Int) + 1)).1).i (slotP (numR r (4993 + cc) ((t : Int) + 1)).1).s (slotP (numR r (4993 + cc) ((t : Int) + 1)).1).n
  rw [show t * 3 + 6 + 3 = 6 + t * 3 + 3 by omega] at hput
  have hcomm : t * 3 + 6 = 6 + t * 3 := by omega
  rw [hcomm] at hput hg1
  have hb1 : 6 + t * 3 + 3 ≤ 30 := by omega
  generalize hasM r cc B (t + 1) = b1 at *
  generalize hasM r cc B t = b0 at *
  generalize (numR r (4993 + cc) ((t : Int) + 1)).1 = nn at *
  generalize slotP nn = x at *
  generalize (if wfits 4 nn = true then (0 : Int) else 2) = ev at *
  have hG : Goes (maskSt [1,4,6,9,63] [4,9] [] [6]) (S31b m lv a cc (loadT r cc (t + 1)) (t + 1) b1) (Cd.run (app E) (cx31.body.nth 1) (S31b m lv a cc (loadT r cc t) t b0)) := by
   by_cases hn : (t : Int) < numM r cc
   ·rw [hg1,if_pos hn]
    generalize loadT r cc t = g0 at *
    generalize up3 g0 (6 + t * 3) x.i x.s x.n = g1 at *
    simp only [S31b]
    simp [-isPlace,-moves,cx31,Cd.nth,Cd.loops,Cd.body,htI,ht7,ht8,hb1,hw,hw1,hwz,e1,h5,hn,h97,hput,hlv]
   ·rw [hg1,if_neg hn]
    generalize loadT r cc t = g0 at *
    simp only [S31b]
    simp [-isPlace,-moves,cx31,Cd.nth,Cd.loops,Cd.body,htI,ht7,ht8,hb1,hw,hw1,hwz,e1,h5,hn,h97,hlv]
  obtain ⟨st2,q1,q2⟩ := hG.get
  exact .inl ⟨st2,_,q1,q2,rfl⟩
 ·rintro S rfl
  generalize hasM r cc B 8 = b1 at *
  simp [cx31,Cd.nth,Cd.loops,Cd.body,S31b,EndsL]
end
theorem CF_head (r : RD) (c : Int) : CF (loadT r c 0) 30 = PV.int .i64 (numR r (4865 + c) 1).1 :: PV.int .i64 (numR r (4865 + c) 2).1 :: PV.int .i64 (numR r (4865 + c) 3).1 :: PV.int .i64 (numR r (4865 + c) 5).1 :: PV.int .i64 (numR r (4865 + c) 6).1 :: PV.int .i64 (numR r (4993 + c) 0).1 :: List.drop 6 (CF (fun _ => 0) 30) := rfl
section
variable {m : Mem} {lv a a' ver : Nat} {l : List Row} {c : Int} (hd : DA m lv a a' ver l c) {r : RD} (hs : Sim l c r) (cc : Int)
include hd hs in
theorem appx31 (h0 : 0 ≤ cc) (h4 : cc < 4) : app E false (.fn 31 []) [.ptr lv a [] 0,.int .i64 cc] m = some (.tup [.agg (CF (if loadOk r cc = true then loadT r cc 8 else fun _ => 0) 30),.int .i64 (eOf (loadOk r cc))],emptyBag,m) := by
 have hlt := hd.lv_lt
 have hlv : lv ≠ m.length := by omega
 have z := CF_zero30
 have h84 := appx84 cc
 have hb : (decide (0 ≤ cc) && decide (cc < 4)) = true := by simp [h0,h4]
 rw [hb] at h84
 have hw1 : IntKind.i64.wrap (4865 + cc) = 4865 + cc := wrap_id _ (by omega) (by omega)
 have hw2 : IntKind.i64.wrap (4993 + cc) = 4993 + cc := wrap_id _ (by omega) (by omega)
 have hw3 : IntKind.i64.wrap (cc + 1) = cc + 1 := wrap_id _ (by omega) (by omega)
 have hlen : (Ls rowsT).length = 7 := rfl
 have hok := fun a b c => ls_okns rowsT a b c
 have hrn := fun a b ρ => PV.datas_rens a b ρ _ (ls_data rowsT)
 have h67 := app67
 have step : ∀ (b : Bool) (i s : Int),app E false (.fn 96 []) [.ptr m.length 1000000000 [] 0,.int .i64 i,.int .i64 s] ([(4,CF (fun _ => 0) 30),(1000000000,[.ptr lv a [] 0,.int .i64 (eOf b)])] :: m) = some (.int .i64 (numR r i s).1,emptyBag,[(4,CF (fun _ => 0) 30),(1000000000,[.ptr lv a [] 0,.int .i64 (eOf (b && (numR r i s).2))])] :: m) := by
  intro b i s
  exact appx96 hd hs (b := b) (own := [(4,CF (fun _ => 0) 30),(1000000000,[.ptr lv a [] 0,.int .i64 (eOf b)])]) (own2 := [(4,CF (fun _ => 0) 30),(1000000000,[.ptr lv a [] 0,.int .i64 (eOf (b && (numR r i s).2))])]) (q := 1000000000) i s (by simp) (by simp) (fun h => by rw [h])
 have e1 := step (hasT r cc 7) (4865 + cc) 1
 have e2 := step (hasT r cc 7 && (numR r (4865 + cc) 1).2) (4865 + cc) 2
 have e3 := step (hasT r cc 7 && (numR r (4865 + cc) 1).2 && (numR r (4865 + cc) 2).2) (4865 + cc) 3
 have e4 := step (hasT r cc 7 && (numR r (4865 + cc) 1).2 && (numR r (4865 + cc) 2).2 && (numR r (4865 + cc) 3).2) (4865 + cc) 5
 have e5 := step (hasT r cc 7 && (numR r (4865 + cc) 1).2 && (numR r (4865 + cc) 2).2 && (numR r (4865 + cc) 3).2 && (numR r (4865 + cc) 5).2) (4865 + cc) 6
 have e6 := step (hasT r cc 7 && (numR r (4865 + cc) 1).2 && (numR r (4865 + cc) 2).2 && (numR r (4865 + cc) 3).2 && (numR r (4865 + cc) 5).2 && (numR r (4865 + cc) 6).2) (4993 + cc) 0
 have e7 := appx96 hd hs (b := hasM r cc (hasT r cc 7 && (numR r (4865 + cc) 1).2 && (numR r (4865 + cc) 2).2 && (numR r (4865 + cc) 3).2 && (numR r (4865 + cc) 5).2 && (numR r (4865 + cc) 6).2 && (numR r (4993 + cc) 0).2) 8) (own := [(4,CF (fun _ => 0) 30),(9,CF (loadT r cc 8) 30),(1000000000,[.ptr lv a [] 0,.int .i64 (eOf (hasM r cc (hasT r cc 7 && (numR r (4865 + cc) 1).2 && (numR r (4865 + cc) 2).2 && (numR r (4865 + cc) 3).2 && (numR r (4865 + cc) 5).2 && (numR r (4865 + cc) 6).2 && (numR r (4993 + cc) 0).2) 8))])]) (own2 := [(4,CF (fun _ => 0) 30),(9,CF (loadT r cc 8) 30),(1000000000,[.ptr lv a [] 0,.int .i64 (eOf (loadOk r cc))])]) (q := 1000000000) 5119 (cc + 1) (by simp) (by simp [loadOk]) (fun h => by rw [loadOk,h])
 have hS0 : maskSt [1,4,6,25,26,27] [4] [] [6] (S31a m lv a cc 0 true) = some (S31a m lv a cc 0 true) := by
  simp only [S31a]
  generalize Ls rowsT = LL at *
  simp [-isPlace,-moves,hlv,hok,hrn]
 have hT0 : CF (loadT r cc 0) 30 = _ := CF_head r cc
 obtain ⟨x1,⟨f1,tops1,own1,dead1,m1⟩,q1,q2,rfl,g1,g4,g6,gd,gt,gm,go⟩ := loop31a hd hs cc h0 h4 hS0
 simp only at g1 g4 g6 gd gt gm go
 subst gd gt gm go
 have hl1 := loop_at hS0 q1
 have hS1 : maskSt [1,4,6,9,63] [4,9] [] [6] (S31b m1 lv a cc (loadT r cc 0) 0 (hasT r cc 7 && (numR r (4865 + cc) 1).2 && (numR r (4865 + cc) 2).2 && (numR r (4865 + cc) 3).2 && (numR r (4865 + cc) 5).2 && (numR r (4865 + cc) 6).2 && (numR r (4993 + cc) 0).2)) = some (S31b m1 lv a cc (loadT r cc 0) 0 (hasT r cc 7 && (numR r (4865 + cc) 1).2 && (numR r (4865 + cc) 2).2 && (numR r (4865 + cc) 3).2 && (numR r (4865 + cc) 5).2 && (numR r (4865 + cc) 6).2 && (numR r (4993 + cc) 0).2)) := by
  generalize (hasT r cc 7 && (numR r (4865 + cc) 1).2 && (numR r (4865 + cc) 2).2 && (numR r (4865 + cc) 3).2 && (numR r (4865 + cc) 5).2 && (numR r (4865 + cc) 6).2 && (numR r (4993 + cc) 0).2) = b6
  simp only [S31b]
  simp [-isPlace,-moves,hlv]
 obtain ⟨x2,⟨f2,tops2,own2,dead2,m2⟩,p1,p2,rfl,k1,k4,k6,k9,kd,kt,km,ko⟩ := loop31b hd hs cc h0 h4 _ hS1
 simp only at k1 k4 k6 k9 kd kt km ko
 subst kd kt km ko
 have hl2 := loop_at hS1 p1
 simp only [cx31,Cd.inner,Cd.body,S31a] at hl1
 simp only [cx31,Cd.body,Cd.nth,Cd.loops,S31b,List.nil_append,List.append_nil,List.cons_append,List.getElem?_cons_succ,List.getElem?_cons_zero,Option.getD_some] at hl2
 generalize (hasT r cc 7 && (numR r (4865 + cc) 1).2 && (numR r (4865 + cc) 2).2 && (numR r (4865 + cc) 3).2 && (numR r (4865 + cc) 5).2 && (numR r (4865 + cc) 6).2 && (numR r (4993 + cc) 0).2) = b6 at *
 generalize (hasT r cc 7 && (numR r (4865 + cc) 1).2 && (numR r (4865 + cc) 2).2 && (numR r (4865 + cc) 3).2 && (numR r (4865 + cc) 5).2 && (numR r (4865 + cc) 6).2) = b5 at *
 generalize (hasT r cc 7 && (numR r (4865 + cc) 1).2 && (numR r (4865 + cc) 2).2 && (numR r (4865 + cc) 3).2 && (numR r (4865 + cc) 5).2) = b4 at *
 generalize (hasT r cc 7 && (numR r (4865 + cc) 1).2 && (numR r (4865 + cc) 2).2 && (numR r (4865 + cc) 3).2) = b3 at *
 generalize (hasT r cc 7 && (numR r (4865 + cc) 1).2 && (numR r (4865 + cc) 2).2) = b2 at *
 generalize (hasT r cc 7 && (numR r (4865 + cc) 1).2) = b1 at *
 generalize hasT r cc 7 = b0 at *
 generalize hasM r cc b6 8 = b8 at *
 generalize (numR r (4865 + cc) 1).1 = n1 at *
 generalize (numR r (4865 + cc) 2).1 = n2 at *
 generalize (numR r (4865 + cc) 3).1 = n3 at *
 generalize (numR r (4865 + cc) 5).1 = n5 at *
 generalize (numR r (4865 + cc) 6).1 = n6 at *
 generalize (numR r (4993 + cc) 0).1 = n0 at *
 generalize (numR r 5119 (cc + 1)).1 = ns at *
 simp only [eOf_t] at hl1
 rw [app_fn E rfl hx31 rfl]
 generalize loadT r cc 0 = gA at *
 generalize loadT r cc 8 = gB at *
 generalize Ls rowsT = LL at *
 generalize loadOk r cc = bq at *
 cases bq with
 | true =>
  simp only [eOf_t,if_true] at *
  simp [-isPlace,-moves,cx31,← z,← hT0,h84,h67,hlv,hlen,hok,hrn,hw1,hw2,hw3,hl1,g1,g4,g6,e1,e2,e3,e4,e5,e6,hl2,k1,k4,k6,k9,e7]
 | false =>
  simp only [eOf_f,Bool.false_eq_true,if_false] at *
  simp [-isPlace,-moves,cx31,← z,← hT0,h84,h67,hlv,hlen,hok,hrn,hw1,hw2,hw3,hl1,g1,g4,g6,e1,e2,e3,e4,e5,e6,hl2,k1,k4,k6,k9,e7]
end
end Go.Proofs.Ytmffcpiffkclgaa.ZJM.DC
set_option linter.unusedSimpArgs false
set_option linter.unusedVariables false
set_option maxRecDepth 10000
namespace Go.Proofs.Ytmffcpiffkclgaa.ZJM.DC
open Go.Proofs.Ytmffcpiffkclgaa.ZJM Go.RowKit
section
variable {r : RD} (hr : r.ok) (cc : Int) (h0 : 0 ≤ cc) (h4 : cc < 4)
end
section
variable {r : RD} (hr : r.ok) (cc : Int) (h0 : 0 ≤ cc) (h4 : cc < 4)
include hr h0 h4
end
end Go.Proofs.Ytmffcpiffkclgaa.ZJM.DC
