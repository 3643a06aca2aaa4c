/- Load: the document's class, and its counts. -/
import Derived.Test.YtbbpkkeaddbcnaaDoorZL5
set_option linter.unusedSimpArgs false
set_option linter.unusedVariables false
namespace Go.Proofs.YtbbpkkeaddbcnaaDoor.ZJM.LD
open Go.Proofs.YtbbpkkeaddbcnaaDoor.ZJM Go.RowKit
def lows : List PV := [.int .i64 0, .int .i64 128, .int .i64 129, .int .i64 257, .int .i64 385, .int .i64 1408, .int .i64 1793]
def highs : List PV := [.int .i64 0, .int .i64 128, .int .i64 255, .int .i64 384, .int .i64 1407, .int .i64 1663, .int .i64 1919]
def lo (i : Nat) : Int := [0, 128, 129, 257, 385, 1408, 1793].getD i 0
def hi (i : Nat) : Int := [0, 128, 255, 384, 1407, 1663, 1919].getD i 0
def S12 (id : Int) (i : Nat) : St := ⟨[(0, .int .i64 id), (3, .lst none false 1 lows), (4, .lst none false 1 highs), (5, .int .i64 i)], [], [], [], []⟩
def Q12 (id : Int) (e : Ex) (st : St) : Prop := (e = .ret ∧ ∃ f', st = ⟨(2, .int .i64 (cls id)) :: f', [], [], [], []⟩) ∨ (e = .exit 0 ∧ cls id = 0 ∧ ∃ f', st = ⟨f', [], [], [], []⟩)
theorem cls_at (id : Int) (i : Nat) (hi7 : i < 7) (hp : ∀ j, j < i → ¬ (lo j ≤ id ∧ id ≤ hi j)) (h : lo i ≤ id ∧ id ≤ hi i) : (cls id : Int) = (i : Int) + 1 := by
  have key : ∀ j, j < 7 → (lo j = 0 ∧ hi j = 0 ∧ j = 0) ∨ (lo j = 128 ∧ hi j = 128 ∧ j = 1) ∨ (lo j = 129 ∧ hi j = 255 ∧ j = 2) ∨ (lo j = 257 ∧ hi j = 384 ∧ j = 3) ∨ (lo j = 385 ∧ hi j = 1407 ∧ j = 4) ∨ (lo j = 1408 ∧ hi j = 1663 ∧ j = 5) ∨ (lo j = 1793 ∧ hi j = 1919 ∧ j = 6) := by decide
  rcases key i hi7 with ⟨a, b, rfl⟩ | ⟨a, b, rfl⟩ | ⟨a, b, rfl⟩ | ⟨a, b, rfl⟩ | ⟨a, b, rfl⟩ | ⟨a, b, rfl⟩ | ⟨a, b, rfl⟩ <;> rw [a, b] at h <;> unfold cls inB <;> simp only [beq_iff_eq, Bool.and_eq_true, decide_eq_true_eq] <;> (repeat' split) <;> omega
theorem cls_no (id : Int) (hp : ∀ j, j < 7 → ¬ (lo j ≤ id ∧ id ≤ hi j)) : cls id = 0 := by
  have h0 := hp 0 (by omega)
  have h1 := hp 1 (by omega)
  have h2 := hp 2 (by omega)
  have h3 := hp 3 (by omega)
  have h4 := hp 4 (by omega)
  have h5 := hp 5 (by omega)
  have h6 := hp 6 (by omega)
  simp only [lo, hi, List.getD_cons_zero, List.getD_cons_succ] at h0 h1 h2 h3 h4 h5 h6
  unfold cls inB
  simp only [beq_iff_eq, Bool.and_eq_true, decide_eq_true_eq]
  repeat' split
  all_goals omega
theorem lows_okns (a b c) : PV.okns a b c lows = true := rfl
theorem highs_okns (a b c) : PV.okns a b c highs = true := rfl
theorem loop12 (id : Int) {st : St} (h0 : maskSt [0, 3, 4, 5] [] [] [] st = some (S12 id 0)) :
    ∃ e st', loopW (maskSt [0, 3, 4, 5] [] [] []) (Cd.run (app E) (c12.body.nth 0)) st = some (e, st') ∧ e ≠ .normal ∧ Q12 id e st' := by
  refine loop_inv (fun i S => S = S12 id i ∧ ∀ j, j < i → ¬ (lo j ≤ id ∧ id ≤ hi j)) 7 (Q12 id) h0 ⟨rfl, fun j hj => by omega⟩ ?_ ?_
  · rintro i S hi7 ⟨rfl, hp⟩
    have hlo : lows[i]? = some (.int .i64 (lo i)) := by
      rcases (by omega : i = 0 ∨ i = 1 ∨ i = 2 ∨ i = 3 ∨ i = 4 ∨ i = 5 ∨ i = 6) with rfl | rfl | rfl | rfl | rfl | rfl | rfl <;> rfl
    have hhi : highs[i]? = some (.int .i64 (hi i)) := by
      rcases (by omega : i = 0 ∨ i = 1 ∨ i = 2 ∨ i = 3 ∨ i = 4 ∨ i = 5 ∨ i = 6) with rfl | rfl | rfl | rfl | rfl | rfl | rfl <;> rfl
    have hl7 : lows.length = 7 := rfl
    have hi' : (i : Int) < 7 := by omega
    have hw := wrap_succ i (by omega)
    by_cases hm : lo i ≤ id ∧ id ≤ hi i
    · right
      have hc := cls_at id i hi7 hp hm
      simp [-isPlace, -moves, isPlace_int, isPlace_bool, isPlace_str, isPlace_lst, moves_int, moves_bool, moves_str, moves_lst, LC_placeI, LC_placeI', LC_movesI, LC_cellI, LC_getE, LC_add, LC_add0, LC_put31, LC_place0, LC_place1, frzV, frzR, ss_okns, es_okns, cs_okns, mk_okns, rs_okns, ss_deps, es_deps, cs_deps, mk_deps, rs_deps, Q12, hc, c12, Cd.nth, Cd.loops, Cd.body, S12, hlo, hhi, hl7, hi', hm.1, hm.2, hw, EndsL]
    · left
      have g : Goes (maskSt [0, 3, 4, 5] [] [] []) (S12 id (i + 1)) (Cd.run (app E) (c12.body.nth 0) (S12 id i)) := by
        by_cases ha : lo i ≤ id
        · have hb : ¬ id ≤ hi i := fun hb => hm ⟨ha, hb⟩
          simp [-isPlace, -moves, isPlace_int, isPlace_bool, isPlace_str, isPlace_lst, moves_int, moves_bool, moves_str, moves_lst, LC_placeI, LC_placeI', LC_movesI, LC_cellI, LC_getE, LC_add, LC_add0, LC_put31, LC_place0, LC_place1, frzV, frzR, ss_okns, es_okns, cs_okns, mk_okns, rs_okns, ss_deps, es_deps, cs_deps, mk_deps, rs_deps, c12, Cd.nth, Cd.loops, Cd.body, S12, hlo, hhi, hl7, hi', ha, hb, hw, lows_okns, highs_okns]
        · simp [-isPlace, -moves, isPlace_int, isPlace_bool, isPlace_str, isPlace_lst, moves_int, moves_bool, moves_str, moves_lst, LC_placeI, LC_placeI', LC_movesI, LC_cellI, LC_getE, LC_add, LC_add0, LC_put31, LC_place0, LC_place1, frzV, frzR, ss_okns, es_okns, cs_okns, mk_okns, rs_okns, ss_deps, es_deps, cs_deps, mk_deps, rs_deps, c12, Cd.nth, Cd.loops, Cd.body, S12, hlo, hhi, hl7, hi', ha, hw, lows_okns, highs_okns]
      obtain ⟨st2, a, b⟩ := g.get
      refine ⟨st2, _, a, b, rfl, fun j hj => ?_⟩
      by_cases hji : j = i
      · subst hji; exact hm
      · exact hp j (by omega)
  · rintro S ⟨rfl, hp⟩
    have hc := cls_no id hp
    have hl7 : lows.length = 7 := rfl
    simp [c12, Cd.nth, Cd.loops, Cd.body, S12, hl7, EndsL, Q12, hc]
theorem app12 (id : Int) : app E false (.fn 12 []) [.int .i64 id] [] = some (.int .i64 (cls id), emptyBag, []) := by
  rw [app_fn E rfl h12 rfl]
  obtain ⟨e, st', h1, h2, h3⟩ := @loop12 id _ (by simp [S12, lows_okns, highs_okns] : maskSt [0, 3, 4, 5] [] [] [] (⟨[(5, .int .i64 0), (4, .lst none false 1 highs), (7, .lst none false 1 highs), (3, .lst none false 1 lows), (6, .lst none false 1 lows), (2, .int .i64 0), (0, .int .i64 id)], [], [], [], []⟩ : St) = some (S12 id 0))
  simp only [S12, c12, Cd.nth, Cd.loops, Cd.body, List.nil_append, List.append_nil, List.cons_append, List.getElem?_cons_succ, List.getElem?_cons_zero, Option.getD_some, lows, highs] at h1
  simp [-isPlace, -moves, isPlace_int, isPlace_bool, isPlace_str, isPlace_lst, moves_int, moves_bool, moves_str, moves_lst, LC_placeI, LC_placeI', LC_movesI, LC_cellI, LC_getE, LC_add, LC_add0, LC_put31, LC_place0, LC_place1, frzV, frzR, ss_okns, es_okns, cs_okns, mk_okns, rs_okns, ss_deps, es_deps, cs_deps, mk_deps, rs_deps, c12]
  rw [h1]
  rcases h3 with ⟨rfl, f', rfl⟩ | ⟨rfl, hc, f', rfl⟩
  · simp [-isPlace, -moves, isPlace_int, isPlace_bool, isPlace_str, isPlace_lst, moves_int, moves_bool, moves_str, moves_lst, LC_placeI, LC_placeI', LC_movesI, LC_cellI, LC_getE, LC_add, LC_add0, LC_put31, LC_place0, LC_place1, frzV, frzR, ss_okns, es_okns, cs_okns, mk_okns, rs_okns, ss_deps, es_deps, cs_deps, mk_deps, rs_deps]
  · simp [-isPlace, -moves, isPlace_int, isPlace_bool, isPlace_str, isPlace_lst, moves_int, moves_bool, moves_str, moves_lst, LC_placeI, LC_placeI', LC_movesI, LC_cellI, LC_getE, LC_add, LC_add0, LC_put31, LC_place0, LC_place1, frzV, frzR, ss_okns, es_okns, cs_okns, mk_okns, rs_okns, ss_deps, es_deps, cs_deps, mk_deps, rs_deps, hc]
/-- How many there are. -/
theorem countP_take {α : Type} (p : α → Bool) (l : List α) (i : Nat) (h : i < l.length) : (l.take (i + 1)).countP p = (l.take i).countP p + (if p l[i] = true then 1 else 0) := by
  rw [take_succ' l i h, List.countP_append]
  simp [List.countP_cons]
end Go.Proofs.YtbbpkkeaddbcnaaDoor.ZJM.LD
