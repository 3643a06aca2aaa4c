/- Load: a few rounds. -/
import Derived.Test.YtbbpkkeaddbcnaaDoorZL8
set_option linter.unusedSimpArgs false
set_option linter.unusedVariables false
namespace Go.Proofs.YtbbpkkeaddbcnaaDoor.ZJM.LD
open Go.Proofs.YtbbpkkeaddbcnaaDoor.ZJM Go.RowKit
def fewR (r : Rnd) : Rnd := { r with sents := r.sents.take 5, cames := r.cames.take 5, marks := r.marks.take 5 }
def few (l : List Rnd) : List Rnd := (l.take 20).map fewR
/-- The first five. -/
theorem cut5 {α : Type} (f : α → PV) (nl : Bool) (sz : Nat) (l : List α) : ∃ k : Int, mnP (.int .i64 l.length) (.int .i64 5) = some (.int .i64 k) ∧ slclP sz (.lst none nl sz (encs f l)) none (some (.int .i64 k)) = some (.lst none nl sz (encs f (l.take 5))) := by
  by_cases h : (5 : Int) < l.length
  · refine ⟨5, by simp [h], ?_⟩
    have : (5 : Int) ≤ l.length := by omega
    simp [this, encs_take]
  · refine ⟨l.length, by simp [h], ?_⟩
    have e : l.take 5 = l := List.take_of_length_le (by omega)
    rw [e]
    simp [encs_take]
section
variable (nl : Bool) (l : List Rnd)
def S7 (i : Nat) : St := ⟨[(0, .lst none nl 6 (Rs l)), (3, .lst (some 6) false 6 (Rs ((l.take i).map fewR))), (4, .int .i64 i)], [(6, i, 56)], [], [], []⟩
theorem loop7 {st : St} (h0 : maskSt [0, 3, 4] [] [6] [] st = some (S7 nl l 0)) :
    loopW (maskSt [0, 3, 4] [] [6] []) (Cd.run (app E) (c7.body.nth 0)) st = (c7.body.nth 0).run (app E) (S7 nl l (min l.length 20)) := by
  refine loop_eq (S7 nl l) (min l.length 20) (fun i hi => ?_) ?_ h0
  · have hi1 : i < l.length := by omega
    have hi' : (i : Int) < l.length := by omega
    have hi20 : (i : Int) < 20 := by omega
    have hw := wrap_succ i (by omega)
    have hA : ((l.take i).map fewR).length = i := by simp; omega
    have hb : (i + 1) * 112 ≤ maxBytes := by unfold maxBytes; omega
    unfold S7
    rw [take_succ' l i hi1, List.map_append, List.map_cons, List.map_nil]
    obtain ⟨x, hx⟩ : ∃ x, x = l[i] := ⟨_, rfl⟩
    rw [← hx]
    generalize (l.take i).map fewR = A at hA
    obtain ⟨k1, a1, b1⟩ := cut5 Snt.enc x.ns 12 x.sents
    obtain ⟨k2, a2, b2⟩ := cut5 Cam.enc x.nc 14 x.cames
    obtain ⟨k3, a3, b3⟩ := cut5 Mrk.enc x.nm 5 x.marks
    simp [-slclP, -mnP, -isPlace, -moves, isPlace_int, isPlace_bool, isPlace_str, isPlace_lst, moves_int, moves_bool, moves_str, moves_lst, LC_placeI, LC_placeI', LC_movesI, LC_cellI, LC_getE, LC_add, LC_add0, LC_put31, LC_place0, LC_place1, frzV, frzR, ss_okns, es_okns, cs_okns, mk_okns, rs_okns, ss_deps, es_deps, cs_deps, mk_deps, rs_deps, c7, Cd.nth, Cd.loops, Cd.body, hi1, hi', hi20, encs_getE, ← hx, Rnd.enc, fewR, hA, hb, hw, okns_append, a1, b1, a2, b2, a3, b3]
  · have hm : ((min l.length 20 : Nat) : Int) = (if (20 : Int) < l.length then 20 else (l.length : Int)) := by split <;> omega
    by_cases h : l.length < 20
    · have e : min l.length 20 = l.length := by omega
      simp [c7, Cd.nth, Cd.loops, Cd.body, S7, e]
    · have e : min l.length 20 = 20 := by omega
      by_cases h' : (20 : Int) < l.length
      · simp [c7, Cd.nth, Cd.loops, Cd.body, S7, e, h']
      · simp [c7, Cd.nth, Cd.loops, Cd.body, S7, e, h']
theorem app7 : app E false (.fn 7 []) [.lst none nl 6 (Rs l)] [] = some (.lst none false 6 (Rs (few l)), emptyBag, []) := by
  rw [app_fn E rfl h7 rfl]
  have h := @loop7 nl l
  have e : l.take (min l.length 20) = l.take 20 := by
    by_cases h : l.length < 20
    · rw [List.take_of_length_le (by omega), List.take_of_length_le (by omega)]
    · rw [show min l.length 20 = 20 by omega]
  simp only [S7, c7, Cd.nth, Cd.loops, Cd.body, List.nil_append, List.append_nil, List.cons_append, List.getElem?_cons_succ, List.getElem?_cons_zero, Option.getD_some, e] at h
  simp [-encs_cons, c7]
  rw [h (by simp [-isPlace, -moves, isPlace_int, isPlace_bool, isPlace_str, isPlace_lst, moves_int, moves_bool, moves_str, moves_lst, LC_placeI, LC_placeI', LC_movesI, LC_cellI, LC_getE, LC_add, LC_add0, LC_put31, LC_place0, LC_place1, frzV, frzR, ss_okns, es_okns, cs_okns, mk_okns, rs_okns, ss_deps, es_deps, cs_deps, mk_deps, rs_deps])]
  by_cases h1 : l.length < 20
  · have e2 : min l.length 20 = l.length := by omega
    simp [-isPlace, -moves, isPlace_int, isPlace_bool, isPlace_str, isPlace_lst, moves_int, moves_bool, moves_str, moves_lst, LC_placeI, LC_placeI', LC_movesI, LC_cellI, LC_getE, LC_add, LC_add0, LC_put31, LC_place0, LC_place1, frzV, frzR, ss_okns, es_okns, cs_okns, mk_okns, rs_okns, ss_deps, es_deps, cs_deps, mk_deps, rs_deps, e2, few]
  · have e2 : min l.length 20 = 20 := by omega
    by_cases h2 : (20 : Int) < l.length
    · simp [-isPlace, -moves, isPlace_int, isPlace_bool, isPlace_str, isPlace_lst, moves_int, moves_bool, moves_str, moves_lst, LC_placeI, LC_placeI', LC_movesI, LC_cellI, LC_getE, LC_add, LC_add0, LC_put31, LC_place0, LC_place1, frzV, frzR, ss_okns, es_okns, cs_okns, mk_okns, rs_okns, ss_deps, es_deps, cs_deps, mk_deps, rs_deps, e2, few, h2]
    · simp [-isPlace, -moves, isPlace_int, isPlace_bool, isPlace_str, isPlace_lst, moves_int, moves_bool, moves_str, moves_lst, LC_placeI, LC_placeI', LC_movesI, LC_cellI, LC_getE, LC_add, LC_add0, LC_put31, LC_place0, LC_place1, frzV, frzR, ss_okns, es_okns, cs_okns, mk_okns, rs_okns, ss_deps, es_deps, cs_deps, mk_deps, rs_deps, e2, few, h2]
theorem few_len : (few l).length ≤ 20 := by simp [few]; omega
theorem few_fine (hf : ∀ r ∈ l, I64 r.waits) : ∀ r ∈ few l, r.sents.length ≤ 5 ∧ r.cames.length ≤ 5 ∧ r.marks.length ≤ 5 ∧ I64 r.waits := by
  intro r hr
  simp only [few, List.mem_map] at hr
  obtain ⟨x, hx, rfl⟩ := hr
  exact ⟨by simp [fewR]; omega, by simp [fewR]; omega, by simp [fewR]; omega, hf x (List.mem_of_mem_take hx)⟩
end
end Go.Proofs.YtbbpkkeaddbcnaaDoor.ZJM.LD
