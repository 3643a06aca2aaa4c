/- Load: LoadTells answers true. -/
import Derived.Test.YtbbpkkeaddbcnaaDoorZL20
import Derived.Test.YtbbpkkeaddbcnaaDoorZL14
set_option linter.unusedSimpArgs false
set_option linter.unusedVariables false
namespace Go.Proofs.YtbbpkkeaddbcnaaDoor.ZJM.LD
open Go.Proofs.YtbbpkkeaddbcnaaDoor.ZJM Go.RowKit
section
variable (A : List (List UInt8))
def S4 (k : Nat) : St := ⟨[(8, .lst none false 1 (Ws A)), (9, .lst none false 1 (Ws A)), (10, .int .i64 k)], [], [], [], []⟩
theorem loop4 (hA : A.length < 1000000) {st : St} (h0 : maskSt [8, 9, 10] [] [] [] st = some (S4 A 0)) :
    loopW (maskSt [8, 9, 10] [] [] []) (Cd.run (app E) (c4.body.nth 0)) st = (c4.body.nth 0).run (app E) (S4 A A.length) := by
  refine loop_eq (S4 A) A.length (fun k hk => ?_) ?_ h0
  · have hk' : (k : Int) < A.length := by omega
    have hw := wrap_succ k (by omega)
    simp [-isPlace, -moves, isPlace_int, isPlace_bool, isPlace_str, isPlace_lst, moves_int, moves_bool, moves_str, moves_lst, LC_placeI, LC_placeI', LC_movesI, LC_cellI, LC_getE, LC_add, LC_add0, LC_put31, LC_place0, LC_place1, frzV, frzR, ss_okns, es_okns, cs_okns, mk_okns, rs_okns, ss_deps, es_deps, cs_deps, mk_deps, rs_deps, ws_okns, ws_deps, c4, Cd.nth, Cd.loops, Cd.body, S4, hk, hk', encs_getE, hw]
  · simp [c4, Cd.nth, Cd.loops, Cd.body, S4]
end
theorem allL_len (f : Nat → Int) : (allL f).length < 1000000 := by
  have h1 := clsL_len f 8
  have h2 := nodL_len f 17
  unfold allL
  simp [base]; omega
set_option maxRecDepth 100000 in
set_option maxHeartbeats 2000000 in
theorem app4 (f : Nat → Int) : app E false (.fn 4 []) [.agg (LC f)] [] = some (.bool true, emptyBag, []) := by
  have a13 := app13 f
  have a14 := app14 f
  have a15 := app15 f
  have a16 := app16 f
  have a17 := app17 f
  have hl := @loop4 (allL f) (allL_len f)
  generalize hbn : (bestF (nv f) 17).1 = bn at a13 a14
  generalize hbm : decide ((bestF (nv f) 17).2 > 0) = bm at a13 a14
  generalize allL f = A at *
  simp only [S4, c4, Cd.nth, Cd.loops, Cd.body, List.nil_append, List.append_nil, List.cons_append, List.getElem?_cons_succ, List.getElem?_cons_zero, Option.getD_some] at hl
  rw [app_fn E rfl h4 rfl]
  unfold share at a17
  by_cases a : 1 ≤ W (f 0)
  case neg =>
    rw [if_neg (fun h => a h.1)] at a17
    · simp [-encs_cons, -isPlace, -moves, isPlace_int, isPlace_bool, isPlace_str, isPlace_lst, moves_int, moves_bool, moves_str, moves_lst, LC_placeI, LC_placeI', LC_movesI, LC_cellI, LC_getE, LC_add, LC_add0, LC_put31, LC_place0, LC_place1, frzV, frzR, ss_okns, es_okns, cs_okns, mk_okns, rs_okns, ss_deps, es_deps, cs_deps, mk_deps, rs_deps, ws_okns, ws_deps, c4, a13, a14, a15, a16, a17, app8, a]
      rw [hl (by simp [-encs_cons, -isPlace, -moves, isPlace_int, isPlace_bool, isPlace_str, isPlace_lst, moves_int, moves_bool, moves_str, moves_lst, LC_placeI, LC_placeI', LC_movesI, LC_cellI, LC_getE, LC_add, LC_add0, LC_put31, LC_place0, LC_place1, frzV, frzR, ss_okns, es_okns, cs_okns, mk_okns, rs_okns, ss_deps, es_deps, cs_deps, mk_deps, rs_deps, ws_okns, ws_deps])]
      simp [-encs_cons, -isPlace, -moves, isPlace_int, isPlace_bool, isPlace_str, isPlace_lst, moves_int, moves_bool, moves_str, moves_lst, LC_placeI, LC_placeI', LC_movesI, LC_cellI, LC_getE, LC_add, LC_add0, LC_put31, LC_place0, LC_place1, frzV, frzR, ss_okns, es_okns, cs_okns, mk_okns, rs_okns, ss_deps, es_deps, cs_deps, mk_deps, rs_deps, ws_okns, ws_deps, app8]
  by_cases b : W (f 0) ≤ 2147483647
  case neg =>
    rw [if_neg (fun h => b h.2.1)] at a17
    · simp [-encs_cons, -isPlace, -moves, isPlace_int, isPlace_bool, isPlace_str, isPlace_lst, moves_int, moves_bool, moves_str, moves_lst, LC_placeI, LC_placeI', LC_movesI, LC_cellI, LC_getE, LC_add, LC_add0, LC_put31, LC_place0, LC_place1, frzV, frzR, ss_okns, es_okns, cs_okns, mk_okns, rs_okns, ss_deps, es_deps, cs_deps, mk_deps, rs_deps, ws_okns, ws_deps, c4, a13, a14, a15, a16, a17, app8, a, b]
      rw [hl (by simp [-encs_cons, -isPlace, -moves, isPlace_int, isPlace_bool, isPlace_str, isPlace_lst, moves_int, moves_bool, moves_str, moves_lst, LC_placeI, LC_placeI', LC_movesI, LC_cellI, LC_getE, LC_add, LC_add0, LC_put31, LC_place0, LC_place1, frzV, frzR, ss_okns, es_okns, cs_okns, mk_okns, rs_okns, ss_deps, es_deps, cs_deps, mk_deps, rs_deps, ws_okns, ws_deps])]
      simp [-encs_cons, -isPlace, -moves, isPlace_int, isPlace_bool, isPlace_str, isPlace_lst, moves_int, moves_bool, moves_str, moves_lst, LC_placeI, LC_placeI', LC_movesI, LC_cellI, LC_getE, LC_add, LC_add0, LC_put31, LC_place0, LC_place1, frzV, frzR, ss_okns, es_okns, cs_okns, mk_okns, rs_okns, ss_deps, es_deps, cs_deps, mk_deps, rs_deps, ws_okns, ws_deps, app8]
  by_cases c : 0 ≤ W (f 1)
  case neg =>
    rw [if_neg (fun h => c h.2.2.1)] at a17
    · simp [-encs_cons, -isPlace, -moves, isPlace_int, isPlace_bool, isPlace_str, isPlace_lst, moves_int, moves_bool, moves_str, moves_lst, LC_placeI, LC_placeI', LC_movesI, LC_cellI, LC_getE, LC_add, LC_add0, LC_put31, LC_place0, LC_place1, frzV, frzR, ss_okns, es_okns, cs_okns, mk_okns, rs_okns, ss_deps, es_deps, cs_deps, mk_deps, rs_deps, ws_okns, ws_deps, c4, a13, a14, a15, a16, a17, app8, a, b, c]
      rw [hl (by simp [-encs_cons, -isPlace, -moves, isPlace_int, isPlace_bool, isPlace_str, isPlace_lst, moves_int, moves_bool, moves_str, moves_lst, LC_placeI, LC_placeI', LC_movesI, LC_cellI, LC_getE, LC_add, LC_add0, LC_put31, LC_place0, LC_place1, frzV, frzR, ss_okns, es_okns, cs_okns, mk_okns, rs_okns, ss_deps, es_deps, cs_deps, mk_deps, rs_deps, ws_okns, ws_deps])]
      simp [-encs_cons, -isPlace, -moves, isPlace_int, isPlace_bool, isPlace_str, isPlace_lst, moves_int, moves_bool, moves_str, moves_lst, LC_placeI, LC_placeI', LC_movesI, LC_cellI, LC_getE, LC_add, LC_add0, LC_put31, LC_place0, LC_place1, frzV, frzR, ss_okns, es_okns, cs_okns, mk_okns, rs_okns, ss_deps, es_deps, cs_deps, mk_deps, rs_deps, ws_okns, ws_deps, app8]
  by_cases d : W (f 1) ≤ W (f 0)
  case neg =>
    rw [if_neg (fun h => d h.2.2.2)] at a17
    · simp [-encs_cons, -isPlace, -moves, isPlace_int, isPlace_bool, isPlace_str, isPlace_lst, moves_int, moves_bool, moves_str, moves_lst, LC_placeI, LC_placeI', LC_movesI, LC_cellI, LC_getE, LC_add, LC_add0, LC_put31, LC_place0, LC_place1, frzV, frzR, ss_okns, es_okns, cs_okns, mk_okns, rs_okns, ss_deps, es_deps, cs_deps, mk_deps, rs_deps, ws_okns, ws_deps, c4, a13, a14, a15, a16, a17, app8, a, b, c, d]
      rw [hl (by simp [-encs_cons, -isPlace, -moves, isPlace_int, isPlace_bool, isPlace_str, isPlace_lst, moves_int, moves_bool, moves_str, moves_lst, LC_placeI, LC_placeI', LC_movesI, LC_cellI, LC_getE, LC_add, LC_add0, LC_put31, LC_place0, LC_place1, frzV, frzR, ss_okns, es_okns, cs_okns, mk_okns, rs_okns, ss_deps, es_deps, cs_deps, mk_deps, rs_deps, ws_okns, ws_deps])]
      simp [-encs_cons, -isPlace, -moves, isPlace_int, isPlace_bool, isPlace_str, isPlace_lst, moves_int, moves_bool, moves_str, moves_lst, LC_placeI, LC_placeI', LC_movesI, LC_cellI, LC_getE, LC_add, LC_add0, LC_put31, LC_place0, LC_place1, frzV, frzR, ss_okns, es_okns, cs_okns, mk_okns, rs_okns, ss_deps, es_deps, cs_deps, mk_deps, rs_deps, ws_okns, ws_deps, app8]
  have e : ¬ W (f 0) = 0 := by omega
  rw [if_pos ⟨a, b, c, d⟩] at a17
  by_cases zz : True
  case neg => exact absurd trivial zz
  case pos =>
    · simp [-encs_cons, -isPlace, -moves, isPlace_int, isPlace_bool, isPlace_str, isPlace_lst, moves_int, moves_bool, moves_str, moves_lst, LC_placeI, LC_placeI', LC_movesI, LC_cellI, LC_getE, LC_add, LC_add0, LC_put31, LC_place0, LC_place1, frzV, frzR, ss_okns, es_okns, cs_okns, mk_okns, rs_okns, ss_deps, es_deps, cs_deps, mk_deps, rs_deps, ws_okns, ws_deps, c4, a13, a14, a15, a16, a17, app8, a, b, c, d, e]
      rw [hl (by simp [-encs_cons, -isPlace, -moves, isPlace_int, isPlace_bool, isPlace_str, isPlace_lst, moves_int, moves_bool, moves_str, moves_lst, LC_placeI, LC_placeI', LC_movesI, LC_cellI, LC_getE, LC_add, LC_add0, LC_put31, LC_place0, LC_place1, frzV, frzR, ss_okns, es_okns, cs_okns, mk_okns, rs_okns, ss_deps, es_deps, cs_deps, mk_deps, rs_deps, ws_okns, ws_deps])]
      simp [-encs_cons, -isPlace, -moves, isPlace_int, isPlace_bool, isPlace_str, isPlace_lst, moves_int, moves_bool, moves_str, moves_lst, LC_placeI, LC_placeI', LC_movesI, LC_cellI, LC_getE, LC_add, LC_add0, LC_put31, LC_place0, LC_place1, frzV, frzR, ss_okns, es_okns, cs_okns, mk_okns, rs_okns, ss_deps, es_deps, cs_deps, mk_deps, rs_deps, ws_okns, ws_deps, app8]
theorem law4 {x0 : PV} (c0 : CT.val true loadT x0) : app E false (.fn 4 []) [x0] [] = some (.bool true, emptyBag, []) := by
  obtain ⟨f, _, rfl⟩ := load_of c0
  exact app4 f
end Go.Proofs.YtbbpkkeaddbcnaaDoor.ZJM.LD
