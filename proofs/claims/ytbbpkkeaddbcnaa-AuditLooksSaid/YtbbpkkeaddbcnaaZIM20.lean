/- A law's call: what the ideal machine answers to whatever is handed in. -/
import Derived.Test.YtbbpkkeaddbcnaaZIM19
set_option linter.unusedSimpArgs false
set_option linter.unusedVariables false
namespace Go.Proofs.Ytbbpkkeaddbcnaa.ZIM
open Go.RowKit Go.ChangeShapes Go.WideShapes

section
variable {H : Type} {enc : TypeId × Value → H} {P : Program} {W : World}

theorem arg_ct {d : Nat} {t : TypeId} {ag : Bool} {cts : List CT} {base : Nat} {v : Value} {dd : DataW H} {p : List MemPlace} (hct : ctOf P d t = some (ag, cts)) (hval : Value.okWide P W .any base t v)
    (hT : DataW.Trod enc P W 0 (fun _ => true) true t v dd p) : ∃ x, CT.val ag cts x ∧ V (ghOf W) x v ∧ x.untag = x := by
  obtain ⟨fuel, hf⟩ := hT
  obtain ⟨pvs, hc⟩ := trod_ct hct hf
  obtain ⟨h1, h2, h3, h4⟩ := mkv_ok hc (ct_flat hct)
  refine ⟨mkv ag pvs, h1, ?_, h4⟩
  have hl := hc.len
  cases d with
  | zero => simp [ctOf] at hct
  | succ d =>
    have flat : ag = false → v.cells = #[v] → V (ghOf W) (mkv ag pvs) v := by
      intro hag hv
      subst hag
      have hl1 := ct_flat hct rfl
      rw [hv] at hc
      match pvs, hl with
      | [q], _ =>
        obtain ⟨u, hu, hV, _⟩ := hc.get 0 q rfl
        simp only [List.getElem?_cons_zero, Option.some.injEq] at hu
        subst hu
        exact hV
      | [], hl => exact absurd (hl.1.symm.trans hl1) (by simp)
      | _ :: _ :: _, hl => exact absurd (hl.1.symm.trans hl1) (by simp)
    have agg : ag = true → (∃ cs, v = .agg cs) → V (ghOf W) (mkv ag pvs) v := by
      rintro rfl ⟨cs, rfl⟩
      simp only [Value.cells] at hc hl
      refine .agg pvs cs (by simpa using hl.2) (fun c hc' => ?_) (fun j c hj => ?_)
      · obtain ⟨j, hj⟩ := List.getElem?_of_mem hc'
        exact (hc.get j c hj).choose_spec.2.2.2.1
      · obtain ⟨u, hu, hV, _⟩ := hc.get j c hj
        have : cs.getD j undef = u := by
          rw [Array.getD_eq_getD_getElem?]
          have : cs[j]? = some u := by simpa using hu
          rw [this]; rfl
        rw [this]; exact hV
    simp only [ctOf] at hct
    split at hct
    · rename_i hu
      cases hct
      obtain ⟨b, rfl⟩ := okWide_bool hu hval
      exact flat rfl rfl
    · rename_i k hu
      cases hct
      obtain ⟨n, rfl⟩ := okWide_int hu hval
      exact flat rfl rfl
    · rename_i hu
      cases hct
      obtain ⟨n, rfl⟩ := okWide_string hu hval
      exact flat rfl rfl
    · rename_i e hu
      split at hct
      · split at hct
        · cases hct
          obtain ⟨a, l, c, rfl⟩ := okWide_slice hu hval
          exact flat rfl rfl
        · cases hct
      · cases hct
    · rename_i fs hu
      split at hct
      · split at hct
        · cases hct
          simp only [Value.okWide, hu] at hval
          obtain ⟨cs, rfl, _⟩ := hval
          exact agg rfl ⟨_, rfl⟩
        · cases hct
      · cases hct
    · rename_i n e hu
      split at hct
      · split at hct
        · cases hct
          simp only [Value.okWide, hu] at hval
          obtain ⟨cs, rfl, _⟩ := hval
          exact agg rfl ⟨_, rfl⟩
        · cases hct
      · cases hct
    · cases hct

/-- One by one: the arguments as the ideal machine has them. -/
def Args (W : World) (pvs : List PV) (vs : List Value) : Prop := pvs.length = vs.length ∧ ∀ (j : Nat) (c : PV), pvs[j]? = some c → V (ghOf W) c (vs.getD j undef) ∧ c.untag = c
theorem Args.nil : Args W [] [] := ⟨rfl, fun j c h => by simp at h⟩
theorem Args.cons {x : PV} {v : Value} {pvs : List PV} {vs : List Value} (hv : V (ghOf W) x v) (hu : x.untag = x) (h : Args W pvs vs) : Args W (x :: pvs) (v :: vs) := by
  refine ⟨by simp [h.1], fun j c hj => ?_⟩
  cases j with
  | zero => simp only [List.getElem?_cons_zero, Option.some.injEq] at hj; subst hj; exact ⟨hv, hu⟩
  | succ j => exact h.2 j c (by simpa using hj)

theorem law_calls (hm : P.follows .mixedOrders = true) {fns : FuncId → Option CFn} (hF : Knows P fns) {f : FuncId} {k : Nat} {args : Array Value} {pvs : List PV} {r : PV} {rr : Value} (hA : Args W pvs args.toList) (hr : ∀ g v, V g r v → v = rr)
    (hlaw : apply fns k (.fn f []) pvs [] = some (r, [])) : Calls P f args W fun e W' => e = .returned rr ∧ Below W.heap.size W W' := by
  obtain ⟨f', caps, fn, h1, h2, h3, h4, h5⟩ := apply_snd hm hF k _ _ _ _ _ hlaw (ghOf W) W (.func (.func f) #[] #[]) args (ghOf_rel W) (.fn f [] #[] rfl (fun j c hj => by simp at hj)) (by simpa using hA.1)
    (fun j c hj => by have := (hA.2 j c hj).1; simpa [List.getD_eq_getElem?_getD] using this) (fun c hc => by obtain ⟨j, hj⟩ := List.getElem?_of_mem hc; exact (hA.2 j c hj).2)
  injection h1 with h1 _ h1'
  injection h1 with h1
  subst h1; subst h1'
  rw [Array.append_empty] at h5
  refine (callsIn_wide.1 h5).mono ?_
  rintro e W' ⟨rv, g', rfl, hp⟩
  have hk : Kp 0 (ghOf W) W g' W' := hp.kp
  exact ⟨by rw [hr _ _ hp.val], ⟨hk.os, hk.tape, hk.output, hk.size, fun b hb => hk.heap b hb (fun l s hh => by cases hh)⟩⟩
theorem is_true {g : Gh} {v : Value} (h : V g (.bool true) v) : v = .bool true := by cases h; rfl
end
end Go.Proofs.Ytbbpkkeaddbcnaa.ZIM
