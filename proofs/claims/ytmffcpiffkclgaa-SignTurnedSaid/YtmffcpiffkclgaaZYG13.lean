/- The document's bytes of a table. -/
import Derived.Test.YtmffcpiffkclgaaZYG1
import Derived.Test.YtmffcpiffkclgaaZYG4
set_option linter.unusedSimpArgs false
set_option linter.unusedVariables false
set_option maxRecDepth 10000
namespace Go.Proofs.Ytmffcpiffkclgaa.ZJM.DC
open Go.Proofs.Ytmffcpiffkclgaa.ZJM Go.RowKit
def S123 (n : Int) (sz : Nat) (i : Nat) : St :=
 ⟨[(0,.int .i64 (n / pw i)),(1,.int .i64 sz),(6,.lst (some 8) false 1 (Bs (kb i n))),(7,.int .i64 i)],[(8,i,5)],[],[],[]⟩
theorem appx123 (n : Int) (hn : n < 9223372036854775808) (sz : Nat) (hz : sz ≤ 4) : app E false (.fn 123 []) [.int .i64 n,.int .i64 sz] [] = some (.tup [Bl false (if n < 0 then [] else kb sz n),.bool (decide (0 ≤ n) && decide (n < pw sz))],emptyBag,[]) := by
 by_cases hneg : n < 0
 ·have h1 : ¬ 0 ≤ n := by omega
  rw [if_pos hneg,app_fn E rfl hx123 rfl]
  simp [cx123,hneg,h1]
 ·rw [if_neg hneg]
  have hn0 : 0 ≤ n := by omega
  have hS0 : maskSt [0,1,6,7] [] [8] [] (S123 n sz 0) = some (S123 n sz 0) := by simp [S123,kb]
  have hl := loop_eq (mask := maskSt [0,1,6,7] [] [8] []) (body := Cd.run (app E) cx123.body.inner.body) (S123 n sz) sz (fun i hi => by
   have hi' : (i : Int) < sz := by omega
   have hw := wrap_succ i (by omega)
   have h0 : 0 ≤ n / pw i ∧ n / pw i ≤ n := ⟨Int.ediv_nonneg hn0 (Int.le_of_lt (pw_pos i)),Int.ediv_le_self _ hn0⟩
   have h1 : (n / pw i).tmod 256 = n / pw i % 256 := Int.tmod_eq_emod_of_nonneg h0.1
   have h2 : (n / pw i).tdiv 256 = n / pw (i + 1) := by
    rw [Int.tdiv_eq_ediv_of_nonneg h0.1,pw_succ,Int.ediv_ediv_of_nonneg (Int.le_of_lt (pw_pos i))]
   have h3 : 0 ≤ n / pw (i + 1) ∧ n / pw (i + 1) ≤ n := ⟨Int.ediv_nonneg hn0 (Int.le_of_lt (pw_pos _)),Int.ediv_le_self _ hn0⟩
   have h4 : IntKind.i64.wrap (n / pw (i + 1)) = n / pw (i + 1) := wrap_id _ (by omega) (by omega)
   have h5 : n / pw i % 256 % 256 = n / pw i % 256 := by omega
   have hb : i + 1 ≤ maxBytes := by unfold maxBytes; omega
   unfold S123
   simp [cx123,Cd.inner,Cd.body,hi',hi,hw,h1,h2,h4,h5,wrap8,kb_succ,kb_len,hb,bs_okns,okns_append]) (by simp [cx123,Cd.inner,Cd.body,S123]) hS0
  have key : maskSt [0,1,6,7] [] [8] [] ⟨[(7,.int .i64 0),(10,.bool false),(9,.int .i64 n),(6,.lst (some 8) false 1 []),(8,.lst (some 8) false 1 []),(5,.bool false),(4,.lst none true 1 []),(0,.int .i64 n),(1,.int .i64 sz)],[(8,0,5)],[],[],[]⟩ = some (S123 n sz 0) := by simp [S123,kb,pw]
  have hl2 := loop_at hS0 hl _ key
  have hq : (n / pw sz == 0) = decide (n < pw sz) := by
   have hp := pw_pos sz
   by_cases h : n < pw sz
   ·rw [Int.ediv_eq_zero_of_lt hn0 h]; simp [h]
   ·have : 1 ≤ n / pw sz := Int.le_ediv_of_mul_le hp (by omega)
    have h3 : ¬ n / pw sz = 0 := by omega
    simp [h,h3]
  have hkl := kb_len sz n
  have hok := fun a b c => bs_okns (kb sz n) a b c
  simp only [cx123,Cd.inner,Cd.body,S123] at hl2
  rw [app_fn E rfl hx123 rfl]
  generalize kb sz n = B at *
  simp [cx123,hl2,hneg,hn0,hq,hok,hkl]
def pairs (f : Nat → Int) (n : Nat) : List (Int × Int) := [(2,f 0),(3,f 1),(3,f 2),(4,f 3),(4,f 4),(2,f 5)] ++ (slsF f n).map fun x => (4,(wordA x.i x.s x.n).1)
def kbP (p : Int × Int) : List Int := kb (ksz p.1).toNat p.2
def fitP (p : Int × Int) : Bool := wfits p.1 p.2
theorem pairs_len (f : Nat → Int) (n : Nat) : (pairs f n).length = n + 6 := by
 simp [pairs,slsF_len]
theorem pairs_succ (f : Nat → Int) (t : Nat) : pairs f (t + 1) = pairs f t ++ [(4,(wordF f t).1)] := by
 unfold pairs
 rw [slsF_succ,List.map_append,List.append_assoc]; rfl
theorem pairs_kind {f : Nat → Int} {n : Nat} {p : Int × Int} (h : p ∈ pairs f n) : p.1 = 2 ∨ p.1 = 3 ∨ p.1 = 4 := by
 unfold pairs at h
 rcases List.mem_append.1 h with h | h
 ·simp only [List.mem_cons,List.not_mem_nil,or_false] at h
  rcases h with rfl | rfl | rfl | rfl | rfl | rfl <;> simp
 ·simp only [List.mem_map] at h
  obtain ⟨x,_,rfl⟩ := h
  simp
theorem wfits_pw {k n : Int} (hk : k = 2 ∨ k = 3 ∨ k = 4) : (decide (0 ≤ n) && decide (n < pw (ksz k).toNat)) = wfits k n := by
 have e1 : pw 1 = 256 := rfl
 have e2 : pw 2 = 65536 := rfl
 have e4 : pw 4 = 4294967296 := rfl
 rcases hk with rfl | rfl | rfl
 ·have h : (decide (n < pw (ksz 2).toNat)) = decide (n ≤ 255) := by show decide (n < pw 1) = _; rw [e1]; exact decide_eq_decide.2 (by omega)
  rw [h]; simp [wfits,ksz,klo,khi]
 ·have h : (decide (n < pw (ksz 3).toNat)) = decide (n ≤ 65535) := by show decide (n < pw 2) = _; rw [e2]; exact decide_eq_decide.2 (by omega)
  rw [h]; simp [wfits,ksz,klo,khi]
 ·have h : (decide (n < pw (ksz 4).toNat)) = decide (n ≤ 4294967295) := by show decide (n < pw 4) = _; rw [e4]; exact decide_eq_decide.2 (by omega)
  rw [h]; simp [wfits,ksz,klo,khi]
theorem fold_fit (L : List (Int × Int)) (b : List Int) : (L.foldl (fun w p => putS w p.1 p.2) (0,b)) = (0,b ++ L.flatMap kbP) ∧ L.all fitP = true ∨ (L.foldl (fun w p => putS w p.1 p.2) (0,b)).1 ≠ 0 ∧ L.all fitP = false := by
 have stay : ∀ (L : List (Int × Int)) (w : Int × List Int),w.1 ≠ 0 → (L.foldl (fun w p => putS w p.1 p.2) w).1 ≠ 0 := by
  intro L
  induction L with
  | nil => intro w h; exact h
  | cons x L ih =>
   intro w h
   refine ih _ ?_
   simp only [putS,wE]
   rw [if_neg h]; exact h
 induction L generalizing b with
 | nil => left; simp
 | cons x L ih =>
  simp only [List.foldl_cons,List.all_cons]
  cases hf : wfits x.1 x.2 with
  | true =>
   have e : putS (0,b) x.1 x.2 = (0,b ++ kbP x) := by simp [putS,wE,wB,hf,kbP]
   rw [e]
   have hx : fitP x = true := hf
   rcases ih (b ++ kbP x) with ⟨h1,h2⟩ | ⟨h1,h2⟩
   ·left; rw [h1,hx,h2]; simp [List.flatMap_cons]
   ·right; exact ⟨h1,by rw [hx,h2]; rfl⟩
  | false =>
   right
   have hx : fitP x = false := hf
   refine ⟨stay _ _ ?_,by rw [hx]; rfl⟩
   simp [putS,wE,hf]
theorem tabW_pairs (f : Nat → Int) : tabW f = (pairs f (f 5).toNat).foldl (fun w p => putS w p.1 p.2) (0,[]) := by
 unfold tabW pairs slW hdW
 rw [List.foldl_append,List.foldl_map]; rfl
theorem tabB_pairs (f : Nat → Int) : tabB f = if 0 ≤ f 5 ∧ f 5 ≤ 8 ∧ wOk (slsF f (f 5).toNat) = true ∧ (pairs f (f 5).toNat).all fitP = true then some ((pairs f (f 5).toNat).flatMap kbP) else none := by
 unfold tabB
 rw [tabW_pairs]
 by_cases h1 : 0 ≤ f 5 ∧ f 5 ≤ 8
 ·rw [if_pos h1]
  by_cases h2 : wOk (slsF f (f 5).toNat) = true
  ·rw [if_pos h2]
   rcases fold_fit (pairs f (f 5).toNat) [] with ⟨h3,h4⟩ | ⟨h3,h4⟩
   ·rw [h3,if_pos rfl,if_pos ⟨h1.1,h1.2,h2,h4⟩]; simp
   ·rw [if_neg h3,if_neg (fun h => by rw [h.2.2.2] at h4; cases h4)]
  ·rw [if_neg h2,if_neg (fun h => h2 h.2.2.1)]
 ·rw [if_neg h1,if_neg (fun h => h1 ⟨h.1,h.2.1⟩)]
abbrev Nu (L : List (Int × Int)) : List PV := Ks (L.map Prod.snd)
abbrev Sz (L : List (Int × Int)) : List PV := Ks (L.map fun p => ksz p.1)
section
variable (f : Nat → Int)
def S57a (f : Nat → Int) (t : Nat) : St := ⟨[(1,.ptr 0 1 [] 0),(4,.lst (some 25) false 1 (Nu (pairs f t))),(5,.lst (some 26) false 1 (Sz (pairs f t))),(6,.int .i64 t)],[(25,t + 6,3),(26,t + 6,3)],[(1,CF f 30)],[],[]⟩
theorem loop57a (h8 : f 5 ≤ 8) {st : St} (h0 : maskSt [1,4,5,6] [1] [25,26] [] st = some (S57a f 0)) :
  ∃ e st',loopW (maskSt [1,4,5,6] [1] [25,26] []) (Cd.run (app E) cx57.body.inner.body) st = some (e,st') ∧ e ≠ .normal ∧ st'.m = [] ∧
   ((e = .exit 0 ∧ wOk (slsF f (f 5).toNat) = true ∧ st'.own = [(1,CF f 30)] ∧ st'.dead = [] ∧ st'.tops = [(25,(f 5).toNat + 6,3),(26,(f 5).toNat + 6,3)] ∧ get st'.f 4 = some (.lst (some 25) false 1 (Nu (pairs f (f 5).toNat))) ∧ get st'.f 5 = some (.lst (some 26) false 1 (Sz (pairs f (f 5).toNat)))) ∨
    (e = .ret ∧ wOk (slsF f (f 5).toNat) = false ∧ get st'.f 2 = some (.lst none true 1 []) ∧ get st'.f 3 = some (.int .i64 2))) := by
 refine loop_inv (fun t S => wOk (slsF f t) = true ∧ S = S57a f t) (f 5).toNat _ h0 ⟨rfl,rfl⟩ ?_ ?_
 ·rintro t S ht ⟨hall,rfl⟩
  have k5 := CF_get f 30 (k := 5) (by omega)
  have hti : (t : Int) < f 5 := by omega
  have ht8 : t < 8 := by omega
  have htI : (t : Int) < 8 := by omega
  have ht7 : t ≤ 7 := by omega
  have hw := wrap_succ t (by omega)
  have hsl := CF_slot f t ht8
  have hb1 : 6 + t * 3 + 3 ≤ 30 := by omega
  have h19 : app E false (.fn 122 []) [.agg [.int .i64 (slF f t).i,.int .i64 (slF f t).s,.int .i64 (slF f t).n]] [] = some (.tup [.int .i64 (wordF f t).1,.int .i64 (wordF f t).2],emptyBag,[]) := app19 _ _ _
  have hp := pairs_succ f t
  have hpl := pairs_len f t
  have hn1 : Nu (pairs f (t + 1)) = Nu (pairs f t) ++ [.int .i64 (wordF f t).1] := by rw [hp]; simp [encs]
  have hs1 : Sz (pairs f (t + 1)) = Sz (pairs f t) ++ [.int .i64 4] := by rw [hp]; simp [encs,ksz]
  have o1 := fun a b c => ks_okns ((pairs f t).map Prod.snd) a b c
  have o2 := fun a b c => ks_okns ((pairs f t).map fun p => ksz p.1) a b c
  have o3 : ∀ a b c,PV.okns a b c (Nu (pairs f (t + 1))) = true := fun a b c => ks_okns ((pairs f (t + 1)).map Prod.snd) a b c
  have o4 : ∀ a b c,PV.okns a b c (Sz (pairs f (t + 1))) = true := fun a b c => ks_okns ((pairs f (t + 1)).map fun p => ksz p.1) a b c
  have l1 : (Nu (pairs f t)).length = t + 6 := by rw [encs_len,List.length_map,hpl]
  have l2 : (Sz (pairs f t)).length = t + 6 := by rw [encs_len,List.length_map,hpl]
  have hx : (t + 6 + 1) * 8 ≤ maxBytes := by unfold maxBytes; omega
  have e7 : t + 1 + 6 = t + 6 + 1 := by omega
  have hbad : (wordF f t).2 ≠ 0 → wOk (slsF f (f 5).toNat) = false := by
   intro h
   unfold wOk
   rw [List.all_eq_false]
   unfold wordF at h
   exact ⟨slF f t,slsF_in ht,by simpa using h⟩
  have hgo : (wordF f t).2 = 0 → wOk (slsF f (t + 1)) = true := by
   intro h
   unfold wOk at hall ⊢
   rw [slsF_succ,List.all_append,hall]
   unfold wordF at h
   simpa using h
  rcases word_err f t with hz | hz
  ·rw [hz] at h19
   rw [hn1] at o3
   rw [hs1] at o4
   have hG : Goes (maskSt [1,4,5,6] [1] [25,26] []) (S57a f (t + 1)) (Cd.run (app E) cx57.body.inner.body (S57a f t)) := by
    simp only [S57a,hn1,hs1,e7]
    generalize Nu (pairs f t) = NN at *
    generalize Sz (pairs f t) = SS at *
    simp [-isPlace,-moves,cx57,Cd.inner,Cd.body,hti,ht8,ht7,htI,hb1,hsl,k5,h19,hw,o1,o2,o3,o4,l1,l2,hx]
   obtain ⟨st2,q1,q2⟩ := hG.get
   exact .inl ⟨st2,_,q1,q2,hgo hz,rfl⟩
  ·rw [hz] at h19
   refine .inr ?_
   have hno := hbad (by omega)
   simp only [S57a]
   generalize Nu (pairs f t) = NN at *
   generalize Sz (pairs f t) = SS at *
   simp [-isPlace,-moves,cx57,Cd.inner,Cd.body,hti,ht8,ht7,htI,hb1,hsl,k5,h19,hw,o1,o2,l1,l2,hx,EndsL]
   exact hno
 ·rintro S ⟨hall,rfl⟩
  have k5 := CF_get f 30 (k := 5) (by omega)
  have hn : ¬ (max (f 5) 0 < f 5) := by omega
  simp only [S57a]
  simp [-isPlace,-moves,cx57,Cd.inner,Cd.body,EndsL,k5,hn]
  exact hall
def S57b (P : List (Int × Int)) (t : Nat) (W : List Int) : St := ⟨[(4,.lst (some 25) false 1 (Nu P)),(5,.lst (some 26) false 1 (Sz P)),(9,.lst (some 53) false 1 (Bs W)),(10,.int .i64 t)],[(25,P.length,3),(26,P.length,3),(53,W.length,5)],[],[],[]⟩
theorem loop57b (P : List (Int × Int)) (hP : ∀ p ∈ P,p.1 = 2 ∨ p.1 = 3 ∨ p.1 = 4) (hPn : ∀ p ∈ P,p.2 < 9223372036854775808) (hPl : P.length ≤ 100) {st : St} (h0 : maskSt [4,5,9,10] [] [25,26,53] [] st = some (S57b P 0 [])) :
  ∃ e st',loopW (maskSt [4,5,9,10] [] [25,26,53] []) (Cd.run (app E) (cx57.body.nth 1)) st = some (e,st') ∧ e ≠ .normal ∧ st'.m = [] ∧
   ((e = .exit 2 ∧ P.all fitP = true ∧ get st'.f 9 = some (.lst (some 53) false 1 (Bs (P.flatMap kbP))) ∧ st'.own = [] ∧ st'.dead = []) ∨
    (e = .ret ∧ P.all fitP = false ∧ get st'.f 2 = some (.lst none true 1 []) ∧ get st'.f 3 = some (.int .i64 2))) := by
 refine loop_inv (fun t S => (P.take t).all fitP = true ∧ ((P.take t).flatMap kbP).length ≤ 4 * t ∧ S = S57b P t ((P.take t).flatMap kbP)) P.length _ h0 ⟨rfl,by simp,rfl⟩ ?_ ?_
 ·rintro t S ht ⟨hall,hlen,rfl⟩
  have hti : (t : Int) < P.length := by omega
  have hw := wrap_succ t (by omega)
  have hmem := List.getElem_mem ht
  have hk := hP _ hmem
  have hks := ksz_le P[t].1
  have hko : (((ksz P[t].1).toNat : Nat) : Int) = ksz P[t].1 := by omega
  have h27 := appx123 P[t].2 (hPn _ hmem) (ksz P[t].1).toNat (by omega)
  rw [hko,wfits_pw hk] at h27
  have gN : (Nu P)[t]? = some (.int .i64 P[t].2) := by simp [encs,ht]
  have gS : (Sz P)[t]? = some (.int .i64 (ksz P[t].1)) := by simp [encs,ht]
  have gN2 : ∀ h,(Nu P)[t]'h = .int .i64 P[t].2 := fun h => (List.getElem?_eq_some_iff.1 gN).2
  have gS2 : ∀ h,(Sz P)[t]'h = .int .i64 (ksz P[t].1) := fun h => (List.getElem?_eq_some_iff.1 gS).2
  have l1 : (Nu P).length = P.length := by rw [encs_len,List.length_map]
  have l2 : (Sz P).length = P.length := by rw [encs_len,List.length_map]
  have o1 : ∀ a b c,PV.okns a b c (Nu P) = true := fun a b c => ks_okns (P.map Prod.snd) a b c
  have o2 : ∀ a b c,PV.okns a b c (Sz P) = true := fun a b c => ks_okns (P.map fun p => ksz p.1) a b c
  have htk : (P.take (t + 1)).flatMap kbP = (P.take t).flatMap kbP ++ kbP P[t] := by
   rw [List.take_add_one,List.flatMap_append,List.getElem?_eq_getElem ht]; simp
  have hta : (P.take (t + 1)).all fitP = fitP P[t] := by
   rw [List.take_add_one,List.all_append,hall,List.getElem?_eq_getElem ht]; simp
  have hkl : (kbP P[t]).length = (ksz P[t].1).toNat := kb_len _ _
  have hbad : fitP P[t] = false → P.all fitP = false := by
   intro h
   rw [List.all_eq_false]
   exact ⟨P[t],hmem,by simp [h]⟩
  have hx : ((P.take t).flatMap kbP).length + (kbP P[t]).length ≤ maxBytes := by unfold maxBytes; omega
  have o3 := fun a b c => bs_okns ((P.take t).flatMap kbP) a b c
  have o4 := fun a b c => bs_okns (kbP P[t]) a b c
  have l3 := bs_len ((P.take t).flatMap kbP)
  have l4 := bs_len (kbP P[t])
  cases hf : fitP P[t] with
  | true =>
   have hf2 : wfits P[t].1 P[t].2 = true := hf
   have hn0 : ¬ P[t].2 < 0 := by
    rw [← wfits_pw hk] at hf2
    simp only [Bool.and_eq_true,decide_eq_true_eq] at hf2
    omega
   rw [hf2,if_neg hn0] at h27
   change app E false (.fn 123 []) _ _ = some (.tup [Bl false (kbP P[t]),_],_,_) at h27
   have hl5 : ((P.take t).flatMap kbP ++ kbP P[t]).length = ((P.take t).flatMap kbP).length + (kbP P[t]).length := List.length_append
   have hb5 : Bs ((P.take t).flatMap kbP ++ kbP P[t]) = Bs ((P.take t).flatMap kbP) ++ Bs (kbP P[t]) := bs_app _ _
   have hG : Goes (maskSt [4,5,9,10] [] [25,26,53] []) (S57b P (t + 1) ((P.take (t + 1)).flatMap kbP)) (Cd.run (app E) (cx57.body.nth 1) (S57b P t ((P.take t).flatMap kbP))) := by
    simp only [S57b,htk,hl5,hb5]
    simp only [Bl] at h27
    generalize kbP P[t] = K at *
    generalize (P.take t).flatMap kbP = W at *
    generalize P[t] = p at *
    generalize Nu P = NN at *
    generalize Sz P = SS at *
    generalize Bs W = BW at *
    generalize Bs K = BK at *
    simp [-isPlace,-moves,cx57,Cd.nth,Cd.loops,Cd.body,hti,ht,hw,gN,gS,gN2,gS2,l1,l2,l3,l4,o1,o2,o3,o4,okns_append,h27,hx]
   obtain ⟨st2,q1,q2⟩ := hG.get
   exact .inl ⟨st2,_,q1,q2,by rw [hta,hf],by rw [htk,List.length_append,hkl]; omega,rfl⟩
  | false =>
   have hf2 : wfits P[t].1 P[t].2 = false := hf
   rw [hf2] at h27
   refine .inr ?_
   have hno := hbad hf
   simp only [S57b]
   simp only [Bl] at h27
   generalize (if P[t].2 < 0 then [] else kb (ksz P[t].1).toNat P[t].2) = K2 at *
   generalize (P.take t).flatMap kbP = W at *
   generalize P[t] = p at *
   generalize Nu P = NN at *
   generalize Sz P = SS at *
   simp [-isPlace,-moves,cx57,Cd.nth,Cd.loops,Cd.body,hti,ht,hw,gN,gS,gN2,gS2,l1,l2,l3,o1,o2,o3,h27,EndsL]
   simpa using hno
 ·rintro S ⟨hall,hlen,rfl⟩
  rw [List.take_length] at hall hlen ⊢
  have l1 : (Nu P).length = P.length := by rw [encs_len,List.length_map]
  simp only [S57b]
  generalize Nu P = NN at *
  generalize Sz P = SS at *
  simp [-isPlace,-moves,cx57,Cd.nth,Cd.loops,Cd.body,EndsL,l1]
  simpa using hall
theorem word_lt (i s n : Int) : (wordA i s n).1 < 9223372036854775808 := by
 unfold wordA
 split
 ·next h =>
  simp only [okS,Bool.and_eq_true,decide_eq_true_eq] at h
  simp only; omega
 ·decide
theorem pairs_lt (hfb : ∀ j,j < 6 → f j < 9223372036854775808) (n : Nat) : ∀ p ∈ pairs f n,p.2 < 9223372036854775808 := by
 intro p h
 unfold pairs at h
 rcases List.mem_append.1 h with h | h
 ·simp only [List.mem_cons,List.not_mem_nil,or_false] at h
  rcases h with rfl | rfl | rfl | rfl | rfl | rfl
  ·exact hfb 0 (by omega)
  ·exact hfb 1 (by omega)
  ·exact hfb 2 (by omega)
  ·exact hfb 3 (by omega)
  ·exact hfb 4 (by omega)
  ·exact hfb 5 (by omega)
 ·simp only [List.mem_map] at h
  obtain ⟨x,_,rfl⟩ := h
  exact word_lt _ _ _
set_option maxHeartbeats 1000000 in
theorem appx57 (hfb : ∀ j,j < 6 → f j < 9223372036854775808) : app E false (.fn 57 []) [.agg (CF f 30)] [] = some (.tup [(blO (tabB f)).1,.int .i64 (blO (tabB f)).2],emptyBag,[]) := by
 have k0 := CF_get f 30 (k := 0) (by omega)
 have k1 := CF_get f 30 (k := 1) (by omega)
 have k2 := CF_get f 30 (k := 2) (by omega)
 have k3 := CF_get f 30 (k := 3) (by omega)
 have k4 := CF_get f 30 (k := 4) (by omega)
 have k5 := CF_get f 30 (k := 5) (by omega)
 rw [tabB_pairs]
 by_cases h8 : f 5 ≤ 8
 case neg =>
  have h8' : 8 < f 5 := by omega
  rw [if_neg (fun h => h8 h.2.1),app_fn E rfl hx57 rfl]
  simp [-isPlace,-moves,cx57,k0,k1,k2,k3,k4,k5,h8',blO]
 have h8' : ¬ 8 < f 5 := by omega
 have hp0 : pairs f 0 = [(2,f 0),(3,f 1),(3,f 2),(4,f 3),(4,f 4),(2,f 5)] := rfl
 have hN0 : Nu (pairs f 0) = [.int .i64 (f 0),.int .i64 (f 1),.int .i64 (f 2),.int .i64 (f 3),.int .i64 (f 4),.int .i64 (f 5)] := rfl
 have hS0' : Sz (pairs f 0) = [.int .i64 1,.int .i64 2,.int .i64 2,.int .i64 4,.int .i64 4,.int .i64 1] := rfl
 have hS0 : maskSt [1,4,5,6] [1] [25,26] [] (S57a f 0) = some (S57a f 0) := by
  simp [-isPlace,-moves,S57a,hN0,hS0']
 obtain ⟨e,⟨f',tops',own',dead',m'⟩,q1,q2,gm,q3⟩ := loop57a f h8 hS0
 have hl := loop_at hS0 q1
 simp only at gm
 subst gm
 simp only [cx57,Cd.inner,Cd.body,S57a,hN0,hS0'] at hl
 rcases q3 with ⟨rfl,hz,g1,g2,g3,g4,g5⟩ | ⟨rfl,hz,g1,g2⟩
 case inr =>
  simp only at g1 g2
  rw [if_neg (fun h => by rw [hz] at h; cases h.2.2.1),app_fn E rfl hx57 rfl]
  simp [-isPlace,-moves,cx57,k0,k1,k2,k3,k4,k5,h8',hl,g1,g2,blO]
 simp only at g1 g2 g3 g4 g5
 subst g1 g2 g3
 have hpl := pairs_len f (f 5).toNat
 have hpk : ∀ p ∈ pairs f (f 5).toNat,p.1 = 2 ∨ p.1 = 3 ∨ p.1 = 4 := fun p h => pairs_kind h
 have hplt := pairs_lt f hfb (f 5).toNat
 have o1 : ∀ a b c,PV.okns a b c (Nu (pairs f (f 5).toNat)) = true := fun a b c => ks_okns ((pairs f (f 5).toNat).map Prod.snd) a b c
 have o2 : ∀ a b c,PV.okns a b c (Sz (pairs f (f 5).toNat)) = true := fun a b c => ks_okns ((pairs f (f 5).toNat).map fun p => ksz p.1) a b c
 rw [← hpl] at hl
 have hneg : f 5 < 0 → (pairs f (f 5).toNat).all fitP = false := by
  intro h
  rw [List.all_eq_false]
  refine ⟨(2,f 5),by simp [pairs],?_⟩
  have e2 : klo 2 = 0 := rfl
  simp only [fitP,wfits,e2,Bool.and_eq_true,decide_eq_true_eq]
  omega
 generalize pairs f (f 5).toNat = P at *
 have hS1 : maskSt [4,5,9,10] [] [25,26,53] [] (S57b P 0 []) = some (S57b P 0 []) := by
  simp only [S57b]
  generalize Nu P = NN at *
  generalize Sz P = SS at *
  simp [-isPlace,-moves,o1,o2]
 obtain ⟨e2,⟨f2',tops2',own2',dead2',m2'⟩,p1,p2,gm2,p3⟩ := loop57b P hpk hplt (by omega) hS1
 have hm := loop_at hS1 p1
 simp only at gm2
 subst gm2
 have key2 : maskSt [4,5,9,10] [] [25,26,53] [] ⟨(10,.int .i64 0) :: (9,.lst (some 53) false 1 []) :: (53,.lst (some 53) false 1 []) :: f',[(53,0,5),(25,P.length,3),(26,P.length,3)],[(1,CF f 30)],[],[]⟩ = some (S57b P 0 []) := by
  simp only [S57b]
  generalize Nu P = NN at *
  generalize Sz P = SS at *
  simp [-isPlace,-moves,o1,o2,g4,g5]
 have hm := hm _ key2
 simp only [cx57,Cd.nth,Cd.loops,Cd.body,List.nil_append,List.cons_append,List.getElem?_cons_succ,List.getElem?_cons_zero,Option.getD_some] at hm
 rcases p3 with ⟨rfl,hy,j1,j2,j3⟩ | ⟨rfl,hy,j1,j2⟩
 ·simp only at j1 j2 j3
  subst j2 j3
  have h05 : 0 ≤ f 5 := by
   by_cases h : f 5 < 0
   ·rw [hneg h] at hy; cases hy
   ·omega
  rw [if_pos ⟨h05,h8,hz,hy⟩,app_fn E rfl hx57 rfl]
  have o3 := fun a b c => bs_okns (P.flatMap kbP) a b c
  generalize Nu P = NN at *
  generalize Sz P = SS at *
  generalize P.flatMap kbP = W at *
  simp [-isPlace,-moves,cx57,k0,k1,k2,k3,k4,k5,h8',hl,hm,g4,g5,j1,o1,o2,o3,blO]
 ·simp only at j1 j2
  rw [if_neg (fun h => by rw [hy] at h; cases h.2.2.2),app_fn E rfl hx57 rfl]
  generalize Nu P = NN at *
  generalize Sz P = SS at *
  simp [-isPlace,-moves,cx57,k0,k1,k2,k3,k4,k5,h8',hl,hm,g4,g5,j1,j2,o1,o2,blO]
end
end Go.Proofs.Ytmffcpiffkclgaa.ZJM.DC
set_option linter.unusedSimpArgs false
set_option linter.unusedVariables false
set_option maxRecDepth 10000
namespace Go.Proofs.Ytmffcpiffkclgaa.ZJM.DC
open Go.Proofs.Ytmffcpiffkclgaa.ZJM Go.RowKit
theorem bits8_len (n : Int) : (bits8 n).length = 8 := rfl
def bitsW (w : Nat) (n : Int) : List Int := (List.range w).map fun j => n / ((2 ^ (w - 1 - j) : Nat) : Int) % 2
section
variable (m : Mem) (w : Nat) (hw8 : 1 ≤ w ∧ w ≤ 32) (n : Int) (hn : 0 ≤ n ∧ n < 4294967296)
end
end Go.Proofs.Ytmffcpiffkclgaa.ZJM.DC
set_option linter.unusedSimpArgs false
set_option linter.unusedVariables false
set_option maxRecDepth 10000
namespace Go.Proofs.Ytmffcpiffkclgaa.ZJM.DC
open Go.Proofs.Ytmffcpiffkclgaa.ZJM Go.RowKit
theorem fb_len (b : List Int) : (b.flatMap bits8).length = 8 * b.length := by
 induction b with
 | nil => rfl
 | cons x b ih => rw [List.flatMap_cons,List.length_append,ih,bits8_len,List.length_cons]; omega
section
variable (b : List Int) (hb : OkB b) (hn : b.length ≤ 1000)
end
section
variable (n : Nat) (hn : n ≤ 100000)
end
def dv : List Int := 1 :: bitsW 16 4129
end Go.Proofs.Ytmffcpiffkclgaa.ZJM.DC
set_option linter.unusedSimpArgs false
set_option linter.unusedVariables false
set_option maxRecDepth 10000
namespace Go.Proofs.Ytmffcpiffkclgaa.ZJM.DC
open Go.Proofs.Ytmffcpiffkclgaa.ZJM Go.RowKit
def Bit (b : List Int) : Prop := ∀ x ∈ b,0 ≤ x ∧ x < 2
section
variable (m : Mem) (b : List Int) (hb : Bit b) (hn : b.length ≤ 100000)
end
end Go.Proofs.Ytmffcpiffkclgaa.ZJM.DC
set_option linter.unusedSimpArgs false
set_option linter.unusedVariables false
set_option maxRecDepth 10000
namespace Go.Proofs.Ytmffcpiffkclgaa.ZJM.DC
open Go.Proofs.Ytmffcpiffkclgaa.ZJM Go.RowKit
section
variable (m : Mem) (a : List Int) (ha : Bit a) (hn : a.length ≤ 100000)
end
end Go.Proofs.Ytmffcpiffkclgaa.ZJM.DC
set_option linter.unusedSimpArgs false
set_option linter.unusedVariables false
set_option maxRecDepth 10000
namespace Go.Proofs.Ytmffcpiffkclgaa.ZJM.DC
open Go.Proofs.Ytmffcpiffkclgaa.ZJM Go.RowKit
def up (g : Nat → Int) (i : Nat) (v : Int) : Nat → Int := fun j => if j = i then v else g j
section
variable (X : Nat → Int) (hX : ∀ j,0 ≤ X j ∧ X j < 2) (ρ : Int) (t : Nat)
end
end Go.Proofs.Ytmffcpiffkclgaa.ZJM.DC
set_option linter.unusedSimpArgs false
set_option linter.unusedVariables false
set_option maxRecDepth 10000
namespace Go.Proofs.Ytmffcpiffkclgaa.ZJM.DC
open Go.Proofs.Ytmffcpiffkclgaa.ZJM Go.RowKit
section
variable (X : Nat → Int) (hX : ∀ j,0 ≤ X j ∧ X j < 2) (n : Nat) (hn : n ≤ 100000) (ρ : Int) (t : Nat) (ht : t + 16 < n)
end
section
variable (X : Nat → Int) (hX : ∀ j,0 ≤ X j ∧ X j < 2) (n : Nat) (hn : n ≤ 100000)
end
end Go.Proofs.Ytmffcpiffkclgaa.ZJM.DC
set_option linter.unusedSimpArgs false
set_option linter.unusedVariables false
set_option maxRecDepth 10000
namespace Go.Proofs.Ytmffcpiffkclgaa.ZJM.DC
open Go.Proofs.Ytmffcpiffkclgaa.ZJM Go.RowKit
def p2 (k : Nat) : Int := ((2 ^ k : Nat) : Int)
section
variable (m : Mem) (lv sl off : Nat) (T : List PV) (hq : mget m lv sl [] = some T) (hT : off + 16 ≤ T.length) (ρ : Int) (hρ : 0 ≤ ρ ∧ ρ < 65536) (hg : ∀ t,t < 16 → T[off + t]? = some (.int .u8 (ρ / p2 (15 - t) % 2)))
end
end Go.Proofs.Ytmffcpiffkclgaa.ZJM.DC
set_option linter.unusedSimpArgs false
set_option linter.unusedVariables false
set_option maxRecDepth 10000
namespace Go.Proofs.Ytmffcpiffkclgaa.ZJM.DC
open Go.Proofs.Ytmffcpiffkclgaa.ZJM Go.RowKit
section
variable (a : List Int) (ha : Bit a) (hn : a.length ≤ 1000)
end
end Go.Proofs.Ytmffcpiffkclgaa.ZJM.DC
set_option linter.unusedSimpArgs false
set_option linter.unusedVariables false
set_option maxRecDepth 10000
namespace Go.Proofs.Ytmffcpiffkclgaa.ZJM.DC
open Go.Proofs.Ytmffcpiffkclgaa.ZJM Go.RowKit
theorem fold_bits (b : List Int) : ∀ r,(b.flatMap bits8).foldl feedI r = b.foldl byteI r := by
 induction b with
 | nil => intro r; rfl
 | cons x b ih => intro r; rw [List.flatMap_cons,List.foldl_append,ih,List.foldl_cons]; rfl
theorem fb_bit (b : List Int) : Bit (b.flatMap bits8) := by
 intro x hx
 obtain ⟨n,_,h⟩ := List.mem_flatMap.1 hx
 simp only [bits8,List.mem_cons,List.not_mem_nil,or_false] at h
 rcases h with rfl | rfl | rfl | rfl | rfl | rfl | rfl | rfl <;> omega
end Go.Proofs.Ytmffcpiffkclgaa.ZJM.DC
set_option linter.unusedSimpArgs false
set_option linter.unusedVariables false
set_option maxRecDepth 10000
namespace Go.Proofs.Ytmffcpiffkclgaa.ZJM.DC
open Go.Proofs.Ytmffcpiffkclgaa.ZJM Go.RowKit
section
variable (f : Nat → Int) (hfb : ∀ j,j < 6 → f j < 9223372036854775808)
theorem ints_b : ∀ (n : Nat) {ys : List PV},CT.hass (List.replicate n (.int .i64)) ys → ∃ f : Nat → Int,ys = CF f n ∧ ∀ j,j < n → f j < 9223372036854775808
 | 0,ys,h => by
  simp only [List.replicate_zero,CT.hass] at h
  exact ⟨fun _ => 0,by subst h; rfl,fun j hj => by omega⟩
 | n + 1,ys,h => by
  simp only [List.replicate_succ,CT.hass,CT.has] at h
  obtain ⟨_,r,rfl,⟨a,rfl,hw⟩,h⟩ := h
  obtain ⟨f,rfl,hf⟩ := ints_b n h
  refine ⟨_,(CF_cons a f n).symm,fun j hj => ?_⟩
  cases j with
  | zero =>
   simp only [Lit.wf,IntKind.signed,Bool.and_eq_true,decide_eq_true_eq] at hw
   simp at hw ⊢
   omega
  | succ j => simpa using hf j (by omega)
end
end Go.Proofs.Ytmffcpiffkclgaa.ZJM.DC
