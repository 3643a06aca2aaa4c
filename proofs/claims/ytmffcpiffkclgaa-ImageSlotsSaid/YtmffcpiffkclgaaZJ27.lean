/- Plain data; a law by the machine's limit. -/
import Derived.Test.YtmffcpiffkclgaaZJ24
import Derived.Test.YtmffcpiffkclgaaZJ26
set_option linter.unusedSimpArgs false
set_option linter.unusedVariables false
namespace Go.Proofs.Ytmffcpiffkclgaa.ZJM
open Go.RowKit

mutual
/-- Numbers, texts, and lists of them: no names, no tags. -/
def PV.data : PV → Bool
  | .lst o _ _ xs => o.isNone && PV.datas xs
  | .agg cs => PV.datas cs
  | .bool _ | .int _ _ | .str _ => true
  | _ => false
def PV.datas : List PV → Bool
  | [] => true
  | x :: r => PV.data x && PV.datas r
end
mutual
theorem PV.data_okn (lv : Nat) (ks ts : List Nat) : ∀ v : PV, v.data = true → v.okn lv ks ts = true
  | .lst none _ _ xs, h => by simp only [PV.okn, Bool.true_and]; exact PV.datas_okns lv ks ts xs (by simpa [PV.data] using h)
  | .lst (some _) _ _ xs, h => by simp [PV.data] at h
  | .agg cs, h => by simp only [PV.okn]; exact PV.datas_okns lv ks ts cs (by simpa [PV.data] using h)
  | .bool _, _ | .int _ _, _ | .str _, _ => rfl
  | .tup _, h | .nilp, h | .ptr _ _ _ _, h | .slr _ _ _ _ _ _, h | .elp _ _, h | .fn _ _, h | .rnd _ _ _ _ _ _, h | .nilfn, h | .nilif, h | .ifc _ _, h | .und, h | .vec _ _ _ _, h | .vnil _ _, h | .vfrz _ _ _, h | .gone _ _, h | .lrec _, h => by simp [PV.data] at h
theorem PV.datas_okns (lv : Nat) (ks ts : List Nat) : ∀ vs : List PV, PV.datas vs = true → PV.okns lv ks ts vs = true
  | [], _ => rfl
  | v :: r, h => by
    simp only [PV.datas, Bool.and_eq_true] at h
    simp only [PV.okns, Bool.and_eq_true]
    exact ⟨PV.data_okn lv ks ts v h.1, PV.datas_okns lv ks ts r h.2⟩
end
mutual
theorem PV.data_dep (n : Nat) : ∀ v : PV, v.data = true → v.dep n = true
  | .lst none _ _ xs, h => by simp only [PV.dep]; exact PV.datas_deps n xs (by simpa [PV.data] using h)
  | .lst (some _) _ _ xs, h => by simp [PV.data] at h
  | .agg cs, h => by simp only [PV.dep]; exact PV.datas_deps n cs (by simpa [PV.data] using h)
  | .bool _, _ | .int _ _, _ | .str _, _ => rfl
  | .tup _, h | .nilp, h | .ptr _ _ _ _, h | .slr _ _ _ _ _ _, h | .elp _ _, h | .fn _ _, h | .rnd _ _ _ _ _ _, h | .nilfn, h | .nilif, h | .ifc _ _, h | .und, h | .vec _ _ _ _, h | .vnil _ _, h | .vfrz _ _ _, h | .gone _ _, h | .lrec _, h => by simp [PV.data] at h
theorem PV.datas_deps (n : Nat) : ∀ vs : List PV, PV.datas vs = true → PV.deps n vs = true
  | [], _ => rfl
  | v :: r, h => by
    simp only [PV.datas, Bool.and_eq_true] at h
    simp only [PV.deps, Bool.and_eq_true]
    exact ⟨PV.data_dep n v h.1, PV.datas_deps n r h.2⟩
end
theorem PV.datas_mem {l : List PV} (h : ∀ x ∈ l, x.data = true) : PV.datas l = true := by
  induction l with
  | nil => rfl
  | cons x r ih => simp only [PV.datas, Bool.and_eq_true]; exact ⟨h x (by simp), ih fun y hy => h y (by simp [hy])⟩
theorem PV.datas_map' {α : Type} {f : α → PV} {l : List α} (h : ∀ x ∈ l, (f x).data = true) : PV.datas (l.map f) = true := PV.datas_mem fun y hy => by obtain ⟨x, hx, rfl⟩ := List.mem_map.1 hy; exact h x hx

mutual
theorem CT.has_data : ∀ {c : CT} {v : PV}, c.has v → v.data = true ∧ v.isCell = true ∧ v.untag1 = v
  | .bool, v, h => by simp only [CT.has] at h; obtain ⟨b, rfl⟩ := h; exact ⟨rfl, rfl, rfl⟩
  | .int k, v, h => by simp only [CT.has] at h; obtain ⟨n, rfl, _⟩ := h; exact ⟨rfl, rfl, rfl⟩
  | .str, v, h => by simp only [CT.has] at h; obtain ⟨n, rfl, _⟩ := h; exact ⟨rfl, rfl, rfl⟩
  | .lst ag bytes cs, v, h => by
    simp only [CT.has] at h
    obtain ⟨nl, xs, rfl, _, _, hx⟩ := h
    refine ⟨?_, rfl, rfl⟩
    simp only [PV.data, Option.isNone_none, Bool.true_and]
    refine PV.datas_mem fun x hxm => ?_
    have := hx x hxm
    cases ag with
    | true => obtain ⟨ys, rfl, h2⟩ := this; simp only [PV.data]; exact CT.hass_data h2
    | false => have h3 := CT.hass_data this; simpa [PV.datas] using h3
theorem CT.hass_data : ∀ {cs : List CT} {vs : List PV}, CT.hass cs vs → PV.datas vs = true
  | [], vs, h => by simp only [CT.hass] at h; subst h; rfl
  | c :: cs, vs, h => by
    simp only [CT.hass] at h
    obtain ⟨v, r, rfl, h1, h2⟩ := h
    simp only [PV.datas, Bool.and_eq_true]
    exact ⟨(CT.has_data h1).1, CT.hass_data h2⟩
end

/-- The law: what the machine's limit answers, the call answers. -/
theorem law_app {P : Program} {W : World} (hm : P.follows .mixedOrders = true) {E : Env} (hF : Knows P E.fns) (hP : Prims P (RoOk P E.fns, tabOf W) E.prim) {f : FuncId} {args : Array Value} {pvs : List PV} {bag : Bag} (hA : Args (RoOk P E.fns) W pvs args.toList)
    {pr : Bool} (hlaw : app E pr (.fn f []) pvs [] = some (.bool true, bag, [])) : Calls P f args W fun e W' => e = .returned (.bool true) ∧ Below W.heap.size W W' := by
  obtain ⟨k, hk⟩ := app_some.1 hlaw
  exact law_calls hm hF hP hA (fun g v h => is_true h) hk
end Go.Proofs.Ytmffcpiffkclgaa.ZJM
