/- Lists of things of a kind, as the machine has them. -/
import Derived.Test.YtmffcpiffkclgaaZJ27
set_option linter.unusedSimpArgs false
set_option linter.unusedVariables false
namespace Go.Proofs.Ytmffcpiffkclgaa.ZJM
def encs {α : Type} (f : α → PV) (l : List α) : List PV := l.map f
section
variable {α : Type} {f : α → PV}
theorem encs_getE (l : List α) (i : Nat) (h : i < (encs f l).length) : (encs f l)[i] = f (l[i]'(by simpa [encs] using h)) := by simp [encs]
@[simp] theorem encs_len (l : List α) : (encs f l).length = l.length := by simp [encs]
@[simp] theorem encs_nil : encs f [] = [] := rfl
@[simp] theorem encs_append (l r : List α) : encs f (l ++ r) = encs f l ++ encs f r := by simp [encs]
@[simp] theorem encs_cons (x : α) (r : List α) : encs f (x :: r) = f x :: encs f r := rfl
theorem encs_data {l : List α} (h : ∀ x ∈ l,(f x).data = true) : PV.datas (encs f l) = true := PV.datas_map' h
end
theorem okns_append (lv : Nat) (ks ts : List Nat) : ∀ (l r : List PV),PV.okns lv ks ts (l ++ r) = (PV.okns lv ks ts l && PV.okns lv ks ts r)
 | [],r => by simp [PV.okns]
 | x :: l,r => by simp only [List.cons_append,PV.okns,okns_append lv ks ts l r,Bool.and_assoc]
theorem deps_append (n : Nat) : ∀ (l r : List PV),PV.deps n (l ++ r) = (PV.deps n l && PV.deps n r)
 | [],r => by simp [PV.deps]
 | x :: l,r => by simp only [List.cons_append,PV.deps,deps_append n l r,Bool.and_assoc]
theorem take_succ' {α : Type} (l : List α) (i : Nat) (h : i < l.length) : l.take (i + 1) = l.take i ++ [l[i]] := by
 rw [List.take_add_one,List.getElem?_eq_getElem h]; rfl
def plain (v : PV) : Prop := v.data = true ∧ v.isCell = true ∧ v.untag1 = v
end Go.Proofs.Ytmffcpiffkclgaa.ZJM
set_option linter.unusedSimpArgs false
set_option linter.unusedVariables false
namespace Go.Proofs.Ytmffcpiffkclgaa.ZJM
mutual
theorem PV.data_names (lv : Nat) : ∀ v : PV,v.data = true → v.names lv = []
 | .lst none _ _ xs,h => by simp only [PV.names]; exact PV.datas_namess lv xs (by simpa [PV.data] using h)
 | .lst (some _) _ _ xs,h => by simp [PV.data] at h
 | .agg cs,h => by simp only [PV.names]; exact PV.datas_namess lv cs (by simpa [PV.data] using h)
 | .bool _,_ | .int _ _,_ | .str _,_ => rfl
 | .tup _,h | .nilp,h | .ptr _ _ _ _,h | .slr _ _ _ _ _ _,h | .elp _ _,h | .fn _ _,h | .rnd _ _ _ _ _ _,h | .nilfn,h | .nilif,h | .ifc _ _,h | .und,h | .vec _ _ _ _,h | .vnil _ _,h | .vfrz _ _ _,h | .gone _ _,h | .lrec _,h => by simp [PV.data] at h
theorem PV.datas_namess (lv : Nat) : ∀ vs : List PV,PV.datas vs = true → PV.namess lv vs = []
 | [],_ => rfl
 | v :: r,h => by
  simp only [PV.datas,Bool.and_eq_true] at h
  simp only [PV.namess,PV.data_names lv v h.1,PV.datas_namess lv r h.2,List.append_nil]
end
mutual
theorem PV.data_ren (a b : Nat) (ρ : Nat → Nat) : ∀ v : PV,v.data = true → v.ren a b ρ = v
 | .lst none _ _ xs,h => by simp only [PV.ren,PV.datas_rens a b ρ xs (by simpa [PV.data] using h)]
 | .lst (some _) _ _ xs,h => by simp [PV.data] at h
 | .agg cs,h => by simp only [PV.ren,PV.datas_rens a b ρ cs (by simpa [PV.data] using h)]
 | .bool _,_ | .int _ _,_ | .str _,_ => rfl
 | .tup _,h | .nilp,h | .ptr _ _ _ _,h | .slr _ _ _ _ _ _,h | .elp _ _,h | .fn _ _,h | .rnd _ _ _ _ _ _,h | .nilfn,h | .nilif,h | .ifc _ _,h | .und,h | .vec _ _ _ _,h | .vnil _ _,h | .vfrz _ _ _,h | .gone _ _,h | .lrec _,h => by simp [PV.data] at h
theorem PV.datas_rens (a b : Nat) (ρ : Nat → Nat) : ∀ vs : List PV,PV.datas vs = true → PV.rens a b ρ vs = vs
 | [],_ => rfl
 | v :: r,h => by
  simp only [PV.datas,Bool.and_eq_true] at h
  simp only [PV.rens,PV.data_ren a b ρ v h.1,PV.datas_rens a b ρ r h.2]
end
theorem PV.datas_append : ∀ (l r : List PV),PV.datas (l ++ r) = (PV.datas l && PV.datas r)
 | [],r => by simp [PV.datas]
 | x :: l,r => by simp only [List.cons_append,PV.datas,PV.datas_append l r,Bool.and_assoc]
theorem namess_append (lv : Nat) : ∀ (l r : List PV),PV.namess lv (l ++ r) = PV.namess lv l ++ PV.namess lv r
 | [],r => by simp [PV.namess]
 | x :: l,r => by simp only [List.cons_append,PV.namess,namess_append lv l r,List.append_assoc]
def flats {α : Type} (c : α → List PV) (l : List α) : List PV := l.flatMap c
section
variable {α : Type} {c : α → List PV}
theorem flats_append (l r : List α) : flats c (l ++ r) = flats c l ++ flats c r := by simp [flats]
theorem flats_one (x : α) : flats c [x] = c x := by simp [flats]
theorem flats_len {n : Nat} (h : ∀ x,(c x).length = n) (l : List α) : (flats c l).length = l.length * n := by
 induction l with
 | nil => simp [flats]
 | cons x l ih => simp only [flats,List.flatMap_cons,List.length_append,h,List.length_cons,Nat.succ_mul] at ih ⊢; omega
theorem flats_data (h : ∀ x,PV.datas (c x) = true) (l : List α) : PV.datas (flats c l) = true := by
 induction l with
 | nil => rfl
 | cons x l ih => simp only [flats,List.flatMap_cons,PV.datas_append,h,Bool.true_and] at ih ⊢; exact ih
theorem flats_isCell (h : ∀ x,(c x).all PV.isCell = true) (l : List α) : (flats c l).all PV.isCell = true := by
 induction l with
 | nil => rfl
 | cons x l ih => simp only [flats,List.flatMap_cons,List.all_append,h,Bool.true_and] at ih ⊢; exact ih
end
end Go.Proofs.Ytmffcpiffkclgaa.ZJM
set_option linter.unusedSimpArgs false
set_option linter.unusedVariables false
namespace Go.Proofs.Ytmffcpiffkclgaa.ZJM
theorem loop_inv {mask : St → Option St} {body : St → Option (Ex × St)} (P : Nat → St → Prop) (n : Nat) (Q : Ex → St → Prop) {st S0 : St} (h0 : mask st = some S0) (hP : P 0 S0)
  (hs : ∀ i S,i < n → P i S → (∃ st2 S',body S = some (.normal,st2) ∧ mask st2 = some S' ∧ P (i + 1) S') ∨ EndsL Q (body S)) (he : ∀ S,P n S → EndsL Q (body S)) :
  ∃ e st',loopW mask body st = some (e,st') ∧ e ≠ .normal ∧ Q e st' := by
 have key : ∀ (d i : Nat) (st S : St),i + d = n → mask st = some S → P i S → ∃ e st',loopN mask body (d + 1) st = some (e,st') ∧ e ≠ .normal ∧ Q e st' := by
  intro d
  induction d with
  | zero =>
   intro i st S hi hm hp
   have : i = n := by omega
   subst this
   obtain ⟨e,st2,h1,h2,h3⟩ := (he S hp).get
   refine ⟨e,st2,?_,h2,h3⟩
   simp only [loopN,hm,h1]
   cases e <;> first | rfl | exact absurd rfl h2
  | succ d ih =>
   intro i st S hi hm hp
   rcases hs i S (by omega) hp with ⟨st2,S',h1,h2,h3⟩ | h
   ·obtain ⟨e,st3,a1,a2,a3⟩ := ih (i + 1) st2 S' (by omega) h2 h3
    refine ⟨e,st3,?_,a2,a3⟩
    rw [loopN]
    simp only [hm,h1]
    exact a1
   ·obtain ⟨e,st2,h1,h2,h3⟩ := h.get
    refine ⟨e,st2,?_,h2,h3⟩
    rw [loopN]
    simp only [hm,h1]
    cases e <;> first | rfl | exact absurd rfl h2
 obtain ⟨e,st',h1,h2,h3⟩ := key n 0 st S0 (by omega) h0 hP
 exact ⟨e,st',loopW_some.2 ⟨_,h1⟩,h2,h3⟩
end Go.Proofs.Ytmffcpiffkclgaa.ZJM
