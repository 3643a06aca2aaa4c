/- Lists of things of a kind, as the machine has them. -/
import Derived.Test.YtbbpkkeaddbcnaaZIM23
set_option linter.unusedSimpArgs false
set_option linter.unusedVariables false
namespace Go.Proofs.Ytbbpkkeaddbcnaa.ZIM

def encs {α : Type} (f : α → PV) (l : List α) : List PV := l.map f
section
variable {α : Type} {f : α → PV}
theorem encs_getE (l : List α) (i : Nat) (h : i < (encs f l).length) : (encs f l)[i] = f (l[i]'(by simpa [encs] using h)) := by simp [encs]
@[simp] theorem encs_len (l : List α) : (encs f l).length = l.length := by simp [encs]
@[simp] theorem encs_nil : encs f [] = [] := rfl
@[simp] theorem encs_append (l r : List α) : encs f (l ++ r) = encs f l ++ encs f r := by simp [encs]
@[simp] theorem encs_cons (x : α) (r : List α) : encs f (x :: r) = f x :: encs f r := rfl
theorem encs_take (l : List α) (n : Nat) : (encs f l).take n = encs f (l.take n) := by simp [encs, List.map_take]
theorem encs_drop (l : List α) (n : Nat) : (encs f l).drop n = encs f (l.drop n) := by simp [encs, List.map_drop]
theorem encs_data {l : List α} (h : ∀ x ∈ l, (f x).data = true) : PV.datas (encs f l) = true := PV.datas_map' h
theorem encs_okns {l : List α} (h : ∀ x ∈ l, (f x).data = true) (a b c) : PV.okns a b c (encs f l) = true := PV.datas_okns _ _ _ _ (encs_data h)
theorem encs_deps {l : List α} (h : ∀ x ∈ l, (f x).data = true) (a) : PV.deps a (encs f l) = true := PV.datas_deps _ _ (encs_data h)
end
theorem okns_append (lv : Nat) (ks ts : List Nat) : ∀ (l r : List PV), PV.okns lv ks ts (l ++ r) = (PV.okns lv ks ts l && PV.okns lv ks ts r)
  | [], r => by simp [PV.okns]
  | x :: l, r => by simp only [List.cons_append, PV.okns, okns_append lv ks ts l r, Bool.and_assoc]
theorem deps_append (n : Nat) : ∀ (l r : List PV), PV.deps n (l ++ r) = (PV.deps n l && PV.deps n r)
  | [], r => by simp [PV.deps]
  | x :: l, r => by simp only [List.cons_append, PV.deps, deps_append n l r, Bool.and_assoc]
theorem take_succ' {α : Type} (l : List α) (i : Nat) (h : i < l.length) : l.take (i + 1) = l.take i ++ [l[i]] := by
  rw [List.take_add_one, List.getElem?_eq_getElem h]; rfl
theorem filter_take {α : Type} (p : α → Bool) (l : List α) (i : Nat) (h : i < l.length) : (l.take (i + 1)).filter p = (l.take i).filter p ++ (if p l[i] = true then [l[i]] else []) := by
  rw [take_succ' l i h, List.filter_append]
  by_cases hp : p l[i] = true <;> simp [hp]
theorem flatMap_take {α β : Type} (g : α → List β) (l : List α) (i : Nat) (h : i < l.length) : (l.take (i + 1)).flatMap g = (l.take i).flatMap g ++ g l[i] := by
  rw [take_succ' l i h, List.flatMap_append]; simp
theorem filterMap_take {α β : Type} (g : α → Option β) (l : List α) (i : Nat) (h : i < l.length) : (l.take (i + 1)).filterMap g = (l.take i).filterMap g ++ (g l[i]).toList := by
  rw [take_succ' l i h, List.filterMap_append]
  cases hg : g l[i] <;> simp [hg]
/-- Plain data. -/
def plain (v : PV) : Prop := v.data = true ∧ v.isCell = true ∧ v.untag1 = v
theorem CT.has_plain {c : CT} {v : PV} (h : c.has v) : plain v := CT.has_data h
end Go.Proofs.Ytbbpkkeaddbcnaa.ZIM
