/- Load: the document's counts. -/
import Derived.Test.YtbbpkkeaddbcnaaDoorZL6
set_option linter.unusedSimpArgs false
set_option linter.unusedVariables false
namespace Go.Proofs.YtbbpkkeaddbcnaaDoor.ZJM.LD
open Go.Proofs.YtbbpkkeaddbcnaaDoor.ZJM Go.RowKit
/-- A frame of a class, of a node. -/
def okS (c n : Int) (s : Snt) : Bool := (decide (c < 0) || ((cls s.fr.id : Int) == c)) && (decide (n < 0) || ((nod s.frm : Int) == n))
def sentN (l : List Rnd) (c n : Int) : Nat := (l.flatMap Rnd.sents).countP (okS c n)
def okM (m : Int) (k : Mrk) : Bool := k.kind == m
def markN (l : List Rnd) (m : Int) : Nat := (l.flatMap Rnd.marks).countP (okM m)
theorem W_one (a b : Int) : IntKind.i64.wrap (W (a + b) + 1) = W (a + (b + 1)) := by have := W_add (a + b) 1; rw [Int.add_assoc] at this; exact this
theorem W_0 : W 0 = 0 := W_id (by omega) (by omega)
section
variable (nl : Bool) (l : List Rnd)
section
variable (c n : Int)
def S24b (i b : Nat) (ss : List Snt) (k : Nat) : St := ⟨[(0, .lst none nl 6 (Rs l)), (1, .int .i64 c), (2, .int .i64 n), (7, .int .i64 (W ((b + (ss.take k).countP (okS c n) : Nat) : Int))), (8, .int .i64 i), (9, .int .i64 k)], [], [], [], []⟩
set_option maxHeartbeats 4000000 in
theorem loop24b (i b : Nat) (hi : i < l.length) (hl : l[i].sents.length < 1000000) {st : St} (h0 : maskSt [0, 1, 2, 7, 8, 9] [] [] [] st = some (S24b nl l c n i b l[i].sents 0)) :
    loopW (maskSt [0, 1, 2, 7, 8, 9] [] [] []) (Cd.run (app E) (c24.body.nth 1)) st = (c24.body.nth 1).run (app E) (S24b nl l c n i b l[i].sents l[i].sents.length) := by
  refine loop_eq (S24b nl l c n i b l[i].sents) l[i].sents.length (fun k hk => ?_) ?_ h0
  · have hk' : (k : Int) < l[i].sents.length := by omega
    have hw := wrap_succ k (by omega)
    have hct := countP_take (okS c n) l[i].sents k hk
    obtain ⟨x, hx⟩ : ∃ x, x = l[i].sents[k] := ⟨_, rfl⟩
    rw [← hx] at hct
    have h12 := app12 x.fr.id
    have hN : ∀ fr : Int, fr = (if x.frm < 1 then 0 else if 16 < x.frm then 0 else x.frm) → (nod x.frm : Int) = fr := by
      intro fr h; subst h; unfold nod; split
      · rfl
      · rename_i h1
        by_cases h2 : 16 < x.frm
        · rw [if_pos h2, if_pos h2]; rfl
        · rw [if_neg h2, if_neg (by omega)]; omega
    have hcnd : okS c n x = ((decide (c < 0) || ((cls x.fr.id : Int) == c)) && (decide (n < 0) || ((nod x.frm : Int) == n))) := rfl
    cases hok : okS c n x
    all_goals
      rw [hok] at hcnd
      simp only [hok, if_true, Bool.false_eq_true, if_false, Nat.add_zero] at hct
      simp only [S24b, hct]
    all_goals
      by_cases b0 : x.frm < 1
      · rw [hN 0 (by rw [if_pos b0])] at hcnd
        by_cases c0 : c < 0
        · by_cases n0 : n < 0
          · first
            | (exfalso; simp [b0, c0, n0] at hcnd; done)
            | (have hc := hcnd.symm; simp only [b0, c0, n0, decide_true, decide_false, Bool.true_or, Bool.false_or, Bool.and_true, Bool.true_and, Bool.and_false, Bool.false_and, reduceCtorEq] at hc; simp [-isPlace, -moves, isPlace_int, isPlace_bool, isPlace_str, isPlace_lst, moves_int, moves_bool, moves_str, moves_lst, LC_placeI, LC_placeI', LC_movesI, LC_cellI, LC_getE, LC_add, LC_add0, LC_put31, LC_place0, LC_place1, frzV, frzR, ss_okns, es_okns, cs_okns, mk_okns, rs_okns, ss_deps, es_deps, cs_deps, mk_deps, rs_deps, c24, Cd.nth, Cd.loops, Cd.body, Rnd.enc, Snt.enc, Frm.cs, hk, hk', hi, encs_getE, ← hx, h12, hw, W_one, b0, c0, n0, hc]; done)
            | (simp [-isPlace, -moves, isPlace_int, isPlace_bool, isPlace_str, isPlace_lst, moves_int, moves_bool, moves_str, moves_lst, LC_placeI, LC_placeI', LC_movesI, LC_cellI, LC_getE, LC_add, LC_add0, LC_put31, LC_place0, LC_place1, frzV, frzR, ss_okns, es_okns, cs_okns, mk_okns, rs_okns, ss_deps, es_deps, cs_deps, mk_deps, rs_deps, c24, Cd.nth, Cd.loops, Cd.body, Rnd.enc, Snt.enc, Frm.cs, hk, hk', hi, encs_getE, ← hx, h12, hw, W_one, b0, c0, n0]; done)
          · first
            | (exfalso; simp [b0, c0, n0] at hcnd; done)
            | (have hc := hcnd.symm; simp only [b0, c0, n0, decide_true, decide_false, Bool.true_or, Bool.false_or, Bool.and_true, Bool.true_and, Bool.and_false, Bool.false_and, reduceCtorEq] at hc; simp [-isPlace, -moves, isPlace_int, isPlace_bool, isPlace_str, isPlace_lst, moves_int, moves_bool, moves_str, moves_lst, LC_placeI, LC_placeI', LC_movesI, LC_cellI, LC_getE, LC_add, LC_add0, LC_put31, LC_place0, LC_place1, frzV, frzR, ss_okns, es_okns, cs_okns, mk_okns, rs_okns, ss_deps, es_deps, cs_deps, mk_deps, rs_deps, c24, Cd.nth, Cd.loops, Cd.body, Rnd.enc, Snt.enc, Frm.cs, hk, hk', hi, encs_getE, ← hx, h12, hw, W_one, b0, c0, n0, hc]; done)
            | (simp [-isPlace, -moves, isPlace_int, isPlace_bool, isPlace_str, isPlace_lst, moves_int, moves_bool, moves_str, moves_lst, LC_placeI, LC_placeI', LC_movesI, LC_cellI, LC_getE, LC_add, LC_add0, LC_put31, LC_place0, LC_place1, frzV, frzR, ss_okns, es_okns, cs_okns, mk_okns, rs_okns, ss_deps, es_deps, cs_deps, mk_deps, rs_deps, c24, Cd.nth, Cd.loops, Cd.body, Rnd.enc, Snt.enc, Frm.cs, hk, hk', hi, encs_getE, ← hx, h12, hw, W_one, b0, c0, n0]; done)
        · cases c1 : ((cls x.fr.id : Int) == c)
          · first
            | (exfalso; simp [b0, c0, c1] at hcnd; done)
            | (have hc := hcnd.symm; simp only [b0, c0, c1, decide_true, decide_false, Bool.true_or, Bool.false_or, Bool.and_true, Bool.true_and, Bool.and_false, Bool.false_and, reduceCtorEq] at hc; simp [-isPlace, -moves, isPlace_int, isPlace_bool, isPlace_str, isPlace_lst, moves_int, moves_bool, moves_str, moves_lst, LC_placeI, LC_placeI', LC_movesI, LC_cellI, LC_getE, LC_add, LC_add0, LC_put31, LC_place0, LC_place1, frzV, frzR, ss_okns, es_okns, cs_okns, mk_okns, rs_okns, ss_deps, es_deps, cs_deps, mk_deps, rs_deps, c24, Cd.nth, Cd.loops, Cd.body, Rnd.enc, Snt.enc, Frm.cs, hk, hk', hi, encs_getE, ← hx, h12, hw, W_one, b0, c0, c1, hc]; done)
            | (simp [-isPlace, -moves, isPlace_int, isPlace_bool, isPlace_str, isPlace_lst, moves_int, moves_bool, moves_str, moves_lst, LC_placeI, LC_placeI', LC_movesI, LC_cellI, LC_getE, LC_add, LC_add0, LC_put31, LC_place0, LC_place1, frzV, frzR, ss_okns, es_okns, cs_okns, mk_okns, rs_okns, ss_deps, es_deps, cs_deps, mk_deps, rs_deps, c24, Cd.nth, Cd.loops, Cd.body, Rnd.enc, Snt.enc, Frm.cs, hk, hk', hi, encs_getE, ← hx, h12, hw, W_one, b0, c0, c1]; done)
          · by_cases n0 : n < 0
            · first
              | (exfalso; simp [b0, c0, c1, n0] at hcnd; done)
              | (have hc := hcnd.symm; simp only [b0, c0, c1, n0, decide_true, decide_false, Bool.true_or, Bool.false_or, Bool.and_true, Bool.true_and, Bool.and_false, Bool.false_and, reduceCtorEq] at hc; simp [-isPlace, -moves, isPlace_int, isPlace_bool, isPlace_str, isPlace_lst, moves_int, moves_bool, moves_str, moves_lst, LC_placeI, LC_placeI', LC_movesI, LC_cellI, LC_getE, LC_add, LC_add0, LC_put31, LC_place0, LC_place1, frzV, frzR, ss_okns, es_okns, cs_okns, mk_okns, rs_okns, ss_deps, es_deps, cs_deps, mk_deps, rs_deps, c24, Cd.nth, Cd.loops, Cd.body, Rnd.enc, Snt.enc, Frm.cs, hk, hk', hi, encs_getE, ← hx, h12, hw, W_one, b0, c0, c1, n0, hc]; done)
              | (simp [-isPlace, -moves, isPlace_int, isPlace_bool, isPlace_str, isPlace_lst, moves_int, moves_bool, moves_str, moves_lst, LC_placeI, LC_placeI', LC_movesI, LC_cellI, LC_getE, LC_add, LC_add0, LC_put31, LC_place0, LC_place1, frzV, frzR, ss_okns, es_okns, cs_okns, mk_okns, rs_okns, ss_deps, es_deps, cs_deps, mk_deps, rs_deps, c24, Cd.nth, Cd.loops, Cd.body, Rnd.enc, Snt.enc, Frm.cs, hk, hk', hi, encs_getE, ← hx, h12, hw, W_one, b0, c0, c1, n0]; done)
            · first
              | (exfalso; simp [b0, c0, c1, n0] at hcnd; done)
              | (have hc := hcnd.symm; simp only [b0, c0, c1, n0, decide_true, decide_false, Bool.true_or, Bool.false_or, Bool.and_true, Bool.true_and, Bool.and_false, Bool.false_and, reduceCtorEq] at hc; simp [-isPlace, -moves, isPlace_int, isPlace_bool, isPlace_str, isPlace_lst, moves_int, moves_bool, moves_str, moves_lst, LC_placeI, LC_placeI', LC_movesI, LC_cellI, LC_getE, LC_add, LC_add0, LC_put31, LC_place0, LC_place1, frzV, frzR, ss_okns, es_okns, cs_okns, mk_okns, rs_okns, ss_deps, es_deps, cs_deps, mk_deps, rs_deps, c24, Cd.nth, Cd.loops, Cd.body, Rnd.enc, Snt.enc, Frm.cs, hk, hk', hi, encs_getE, ← hx, h12, hw, W_one, b0, c0, c1, n0, hc]; done)
              | (simp [-isPlace, -moves, isPlace_int, isPlace_bool, isPlace_str, isPlace_lst, moves_int, moves_bool, moves_str, moves_lst, LC_placeI, LC_placeI', LC_movesI, LC_cellI, LC_getE, LC_add, LC_add0, LC_put31, LC_place0, LC_place1, frzV, frzR, ss_okns, es_okns, cs_okns, mk_okns, rs_okns, ss_deps, es_deps, cs_deps, mk_deps, rs_deps, c24, Cd.nth, Cd.loops, Cd.body, Rnd.enc, Snt.enc, Frm.cs, hk, hk', hi, encs_getE, ← hx, h12, hw, W_one, b0, c0, c1, n0]; done)
      · by_cases b1 : 16 < x.frm
        · rw [hN 0 (by rw [if_neg b0, if_pos b1])] at hcnd
          by_cases c0 : c < 0
          · by_cases n0 : n < 0
            · first
              | (exfalso; simp [b0, b1, c0, n0] at hcnd; done)
              | (have hc := hcnd.symm; simp only [b0, b1, c0, n0, decide_true, decide_false, Bool.true_or, Bool.false_or, Bool.and_true, Bool.true_and, Bool.and_false, Bool.false_and, reduceCtorEq] at hc; simp [-isPlace, -moves, isPlace_int, isPlace_bool, isPlace_str, isPlace_lst, moves_int, moves_bool, moves_str, moves_lst, LC_placeI, LC_placeI', LC_movesI, LC_cellI, LC_getE, LC_add, LC_add0, LC_put31, LC_place0, LC_place1, frzV, frzR, ss_okns, es_okns, cs_okns, mk_okns, rs_okns, ss_deps, es_deps, cs_deps, mk_deps, rs_deps, c24, Cd.nth, Cd.loops, Cd.body, Rnd.enc, Snt.enc, Frm.cs, hk, hk', hi, encs_getE, ← hx, h12, hw, W_one, b0, b1, c0, n0, hc]; done)
              | (simp [-isPlace, -moves, isPlace_int, isPlace_bool, isPlace_str, isPlace_lst, moves_int, moves_bool, moves_str, moves_lst, LC_placeI, LC_placeI', LC_movesI, LC_cellI, LC_getE, LC_add, LC_add0, LC_put31, LC_place0, LC_place1, frzV, frzR, ss_okns, es_okns, cs_okns, mk_okns, rs_okns, ss_deps, es_deps, cs_deps, mk_deps, rs_deps, c24, Cd.nth, Cd.loops, Cd.body, Rnd.enc, Snt.enc, Frm.cs, hk, hk', hi, encs_getE, ← hx, h12, hw, W_one, b0, b1, c0, n0]; done)
            · first
              | (exfalso; simp [b0, b1, c0, n0] at hcnd; done)
              | (have hc := hcnd.symm; simp only [b0, b1, c0, n0, decide_true, decide_false, Bool.true_or, Bool.false_or, Bool.and_true, Bool.true_and, Bool.and_false, Bool.false_and, reduceCtorEq] at hc; simp [-isPlace, -moves, isPlace_int, isPlace_bool, isPlace_str, isPlace_lst, moves_int, moves_bool, moves_str, moves_lst, LC_placeI, LC_placeI', LC_movesI, LC_cellI, LC_getE, LC_add, LC_add0, LC_put31, LC_place0, LC_place1, frzV, frzR, ss_okns, es_okns, cs_okns, mk_okns, rs_okns, ss_deps, es_deps, cs_deps, mk_deps, rs_deps, c24, Cd.nth, Cd.loops, Cd.body, Rnd.enc, Snt.enc, Frm.cs, hk, hk', hi, encs_getE, ← hx, h12, hw, W_one, b0, b1, c0, n0, hc]; done)
              | (simp [-isPlace, -moves, isPlace_int, isPlace_bool, isPlace_str, isPlace_lst, moves_int, moves_bool, moves_str, moves_lst, LC_placeI, LC_placeI', LC_movesI, LC_cellI, LC_getE, LC_add, LC_add0, LC_put31, LC_place0, LC_place1, frzV, frzR, ss_okns, es_okns, cs_okns, mk_okns, rs_okns, ss_deps, es_deps, cs_deps, mk_deps, rs_deps, c24, Cd.nth, Cd.loops, Cd.body, Rnd.enc, Snt.enc, Frm.cs, hk, hk', hi, encs_getE, ← hx, h12, hw, W_one, b0, b1, c0, n0]; done)
          · cases c1 : ((cls x.fr.id : Int) == c)
            · first
              | (exfalso; simp [b0, b1, c0, c1] at hcnd; done)
              | (have hc := hcnd.symm; simp only [b0, b1, c0, c1, decide_true, decide_false, Bool.true_or, Bool.false_or, Bool.and_true, Bool.true_and, Bool.and_false, Bool.false_and, reduceCtorEq] at hc; simp [-isPlace, -moves, isPlace_int, isPlace_bool, isPlace_str, isPlace_lst, moves_int, moves_bool, moves_str, moves_lst, LC_placeI, LC_placeI', LC_movesI, LC_cellI, LC_getE, LC_add, LC_add0, LC_put31, LC_place0, LC_place1, frzV, frzR, ss_okns, es_okns, cs_okns, mk_okns, rs_okns, ss_deps, es_deps, cs_deps, mk_deps, rs_deps, c24, Cd.nth, Cd.loops, Cd.body, Rnd.enc, Snt.enc, Frm.cs, hk, hk', hi, encs_getE, ← hx, h12, hw, W_one, b0, b1, c0, c1, hc]; done)
              | (simp [-isPlace, -moves, isPlace_int, isPlace_bool, isPlace_str, isPlace_lst, moves_int, moves_bool, moves_str, moves_lst, LC_placeI, LC_placeI', LC_movesI, LC_cellI, LC_getE, LC_add, LC_add0, LC_put31, LC_place0, LC_place1, frzV, frzR, ss_okns, es_okns, cs_okns, mk_okns, rs_okns, ss_deps, es_deps, cs_deps, mk_deps, rs_deps, c24, Cd.nth, Cd.loops, Cd.body, Rnd.enc, Snt.enc, Frm.cs, hk, hk', hi, encs_getE, ← hx, h12, hw, W_one, b0, b1, c0, c1]; done)
            · by_cases n0 : n < 0
              · first
                | (exfalso; simp [b0, b1, c0, c1, n0] at hcnd; done)
                | (have hc := hcnd.symm; simp only [b0, b1, c0, c1, n0, decide_true, decide_false, Bool.true_or, Bool.false_or, Bool.and_true, Bool.true_and, Bool.and_false, Bool.false_and, reduceCtorEq] at hc; simp [-isPlace, -moves, isPlace_int, isPlace_bool, isPlace_str, isPlace_lst, moves_int, moves_bool, moves_str, moves_lst, LC_placeI, LC_placeI', LC_movesI, LC_cellI, LC_getE, LC_add, LC_add0, LC_put31, LC_place0, LC_place1, frzV, frzR, ss_okns, es_okns, cs_okns, mk_okns, rs_okns, ss_deps, es_deps, cs_deps, mk_deps, rs_deps, c24, Cd.nth, Cd.loops, Cd.body, Rnd.enc, Snt.enc, Frm.cs, hk, hk', hi, encs_getE, ← hx, h12, hw, W_one, b0, b1, c0, c1, n0, hc]; done)
                | (simp [-isPlace, -moves, isPlace_int, isPlace_bool, isPlace_str, isPlace_lst, moves_int, moves_bool, moves_str, moves_lst, LC_placeI, LC_placeI', LC_movesI, LC_cellI, LC_getE, LC_add, LC_add0, LC_put31, LC_place0, LC_place1, frzV, frzR, ss_okns, es_okns, cs_okns, mk_okns, rs_okns, ss_deps, es_deps, cs_deps, mk_deps, rs_deps, c24, Cd.nth, Cd.loops, Cd.body, Rnd.enc, Snt.enc, Frm.cs, hk, hk', hi, encs_getE, ← hx, h12, hw, W_one, b0, b1, c0, c1, n0]; done)
              · first
                | (exfalso; simp [b0, b1, c0, c1, n0] at hcnd; done)
                | (have hc := hcnd.symm; simp only [b0, b1, c0, c1, n0, decide_true, decide_false, Bool.true_or, Bool.false_or, Bool.and_true, Bool.true_and, Bool.and_false, Bool.false_and, reduceCtorEq] at hc; simp [-isPlace, -moves, isPlace_int, isPlace_bool, isPlace_str, isPlace_lst, moves_int, moves_bool, moves_str, moves_lst, LC_placeI, LC_placeI', LC_movesI, LC_cellI, LC_getE, LC_add, LC_add0, LC_put31, LC_place0, LC_place1, frzV, frzR, ss_okns, es_okns, cs_okns, mk_okns, rs_okns, ss_deps, es_deps, cs_deps, mk_deps, rs_deps, c24, Cd.nth, Cd.loops, Cd.body, Rnd.enc, Snt.enc, Frm.cs, hk, hk', hi, encs_getE, ← hx, h12, hw, W_one, b0, b1, c0, c1, n0, hc]; done)
                | (simp [-isPlace, -moves, isPlace_int, isPlace_bool, isPlace_str, isPlace_lst, moves_int, moves_bool, moves_str, moves_lst, LC_placeI, LC_placeI', LC_movesI, LC_cellI, LC_getE, LC_add, LC_add0, LC_put31, LC_place0, LC_place1, frzV, frzR, ss_okns, es_okns, cs_okns, mk_okns, rs_okns, ss_deps, es_deps, cs_deps, mk_deps, rs_deps, c24, Cd.nth, Cd.loops, Cd.body, Rnd.enc, Snt.enc, Frm.cs, hk, hk', hi, encs_getE, ← hx, h12, hw, W_one, b0, b1, c0, c1, n0]; done)
        · rw [hN x.frm (by rw [if_neg b0, if_neg b1])] at hcnd
          have b0' : 1 ≤ x.frm := by omega
          have b1' : x.frm ≤ 16 := by omega
          by_cases c0 : c < 0
          · by_cases n0 : n < 0
            · first
              | (exfalso; simp [b0, b1, c0, n0] at hcnd; done)
              | (have hc := hcnd.symm; simp only [b0, b1, c0, n0, decide_true, decide_false, Bool.true_or, Bool.false_or, Bool.and_true, Bool.true_and, Bool.and_false, Bool.false_and, reduceCtorEq] at hc; simp [-isPlace, -moves, isPlace_int, isPlace_bool, isPlace_str, isPlace_lst, moves_int, moves_bool, moves_str, moves_lst, LC_placeI, LC_placeI', LC_movesI, LC_cellI, LC_getE, LC_add, LC_add0, LC_put31, LC_place0, LC_place1, frzV, frzR, ss_okns, es_okns, cs_okns, mk_okns, rs_okns, ss_deps, es_deps, cs_deps, mk_deps, rs_deps, c24, Cd.nth, Cd.loops, Cd.body, Rnd.enc, Snt.enc, Frm.cs, hk, hk', hi, encs_getE, ← hx, h12, hw, W_one, b0, b1, c0, n0, hc]; done)
              | (simp [-isPlace, -moves, isPlace_int, isPlace_bool, isPlace_str, isPlace_lst, moves_int, moves_bool, moves_str, moves_lst, LC_placeI, LC_placeI', LC_movesI, LC_cellI, LC_getE, LC_add, LC_add0, LC_put31, LC_place0, LC_place1, frzV, frzR, ss_okns, es_okns, cs_okns, mk_okns, rs_okns, ss_deps, es_deps, cs_deps, mk_deps, rs_deps, c24, Cd.nth, Cd.loops, Cd.body, Rnd.enc, Snt.enc, Frm.cs, hk, hk', hi, encs_getE, ← hx, h12, hw, W_one, b0, b1, c0, n0]; done)
            · first
              | (exfalso; simp [b0, b1, c0, n0] at hcnd; done)
              | (have hc := hcnd.symm; simp only [b0, b1, c0, n0, decide_true, decide_false, Bool.true_or, Bool.false_or, Bool.and_true, Bool.true_and, Bool.and_false, Bool.false_and, reduceCtorEq] at hc; simp [-isPlace, -moves, isPlace_int, isPlace_bool, isPlace_str, isPlace_lst, moves_int, moves_bool, moves_str, moves_lst, LC_placeI, LC_placeI', LC_movesI, LC_cellI, LC_getE, LC_add, LC_add0, LC_put31, LC_place0, LC_place1, frzV, frzR, ss_okns, es_okns, cs_okns, mk_okns, rs_okns, ss_deps, es_deps, cs_deps, mk_deps, rs_deps, c24, Cd.nth, Cd.loops, Cd.body, Rnd.enc, Snt.enc, Frm.cs, hk, hk', hi, encs_getE, ← hx, h12, hw, W_one, b0, b1, c0, n0, hc]; done)
              | (simp [-isPlace, -moves, isPlace_int, isPlace_bool, isPlace_str, isPlace_lst, moves_int, moves_bool, moves_str, moves_lst, LC_placeI, LC_placeI', LC_movesI, LC_cellI, LC_getE, LC_add, LC_add0, LC_put31, LC_place0, LC_place1, frzV, frzR, ss_okns, es_okns, cs_okns, mk_okns, rs_okns, ss_deps, es_deps, cs_deps, mk_deps, rs_deps, c24, Cd.nth, Cd.loops, Cd.body, Rnd.enc, Snt.enc, Frm.cs, hk, hk', hi, encs_getE, ← hx, h12, hw, W_one, b0, b1, c0, n0]; done)
          · cases c1 : ((cls x.fr.id : Int) == c)
            · first
              | (exfalso; simp [b0, b1, c0, c1] at hcnd; done)
              | (have hc := hcnd.symm; simp only [b0, b1, c0, c1, decide_true, decide_false, Bool.true_or, Bool.false_or, Bool.and_true, Bool.true_and, Bool.and_false, Bool.false_and, reduceCtorEq] at hc; simp [-isPlace, -moves, isPlace_int, isPlace_bool, isPlace_str, isPlace_lst, moves_int, moves_bool, moves_str, moves_lst, LC_placeI, LC_placeI', LC_movesI, LC_cellI, LC_getE, LC_add, LC_add0, LC_put31, LC_place0, LC_place1, frzV, frzR, ss_okns, es_okns, cs_okns, mk_okns, rs_okns, ss_deps, es_deps, cs_deps, mk_deps, rs_deps, c24, Cd.nth, Cd.loops, Cd.body, Rnd.enc, Snt.enc, Frm.cs, hk, hk', hi, encs_getE, ← hx, h12, hw, W_one, b0, b1, c0, c1, hc]; done)
              | (simp [-isPlace, -moves, isPlace_int, isPlace_bool, isPlace_str, isPlace_lst, moves_int, moves_bool, moves_str, moves_lst, LC_placeI, LC_placeI', LC_movesI, LC_cellI, LC_getE, LC_add, LC_add0, LC_put31, LC_place0, LC_place1, frzV, frzR, ss_okns, es_okns, cs_okns, mk_okns, rs_okns, ss_deps, es_deps, cs_deps, mk_deps, rs_deps, c24, Cd.nth, Cd.loops, Cd.body, Rnd.enc, Snt.enc, Frm.cs, hk, hk', hi, encs_getE, ← hx, h12, hw, W_one, b0, b1, c0, c1]; done)
            · by_cases n0 : n < 0
              · first
                | (exfalso; simp [b0, b1, c0, c1, n0] at hcnd; done)
                | (have hc := hcnd.symm; simp only [b0, b1, c0, c1, n0, decide_true, decide_false, Bool.true_or, Bool.false_or, Bool.and_true, Bool.true_and, Bool.and_false, Bool.false_and, reduceCtorEq] at hc; simp [-isPlace, -moves, isPlace_int, isPlace_bool, isPlace_str, isPlace_lst, moves_int, moves_bool, moves_str, moves_lst, LC_placeI, LC_placeI', LC_movesI, LC_cellI, LC_getE, LC_add, LC_add0, LC_put31, LC_place0, LC_place1, frzV, frzR, ss_okns, es_okns, cs_okns, mk_okns, rs_okns, ss_deps, es_deps, cs_deps, mk_deps, rs_deps, c24, Cd.nth, Cd.loops, Cd.body, Rnd.enc, Snt.enc, Frm.cs, hk, hk', hi, encs_getE, ← hx, h12, hw, W_one, b0, b1, c0, c1, n0, hc]; done)
                | (simp [-isPlace, -moves, isPlace_int, isPlace_bool, isPlace_str, isPlace_lst, moves_int, moves_bool, moves_str, moves_lst, LC_placeI, LC_placeI', LC_movesI, LC_cellI, LC_getE, LC_add, LC_add0, LC_put31, LC_place0, LC_place1, frzV, frzR, ss_okns, es_okns, cs_okns, mk_okns, rs_okns, ss_deps, es_deps, cs_deps, mk_deps, rs_deps, c24, Cd.nth, Cd.loops, Cd.body, Rnd.enc, Snt.enc, Frm.cs, hk, hk', hi, encs_getE, ← hx, h12, hw, W_one, b0, b1, c0, c1, n0]; done)
              · first
                | (exfalso; simp [b0, b1, c0, c1, n0] at hcnd; done)
                | (have hc := hcnd.symm; simp only [b0, b1, c0, c1, n0, decide_true, decide_false, Bool.true_or, Bool.false_or, Bool.and_true, Bool.true_and, Bool.and_false, Bool.false_and, reduceCtorEq] at hc; simp [-isPlace, -moves, isPlace_int, isPlace_bool, isPlace_str, isPlace_lst, moves_int, moves_bool, moves_str, moves_lst, LC_placeI, LC_placeI', LC_movesI, LC_cellI, LC_getE, LC_add, LC_add0, LC_put31, LC_place0, LC_place1, frzV, frzR, ss_okns, es_okns, cs_okns, mk_okns, rs_okns, ss_deps, es_deps, cs_deps, mk_deps, rs_deps, c24, Cd.nth, Cd.loops, Cd.body, Rnd.enc, Snt.enc, Frm.cs, hk, hk', hi, encs_getE, ← hx, h12, hw, W_one, b0, b1, c0, c1, n0, hc]; done)
                | (simp [-isPlace, -moves, isPlace_int, isPlace_bool, isPlace_str, isPlace_lst, moves_int, moves_bool, moves_str, moves_lst, LC_placeI, LC_placeI', LC_movesI, LC_cellI, LC_getE, LC_add, LC_add0, LC_put31, LC_place0, LC_place1, frzV, frzR, ss_okns, es_okns, cs_okns, mk_okns, rs_okns, ss_deps, es_deps, cs_deps, mk_deps, rs_deps, c24, Cd.nth, Cd.loops, Cd.body, Rnd.enc, Snt.enc, Frm.cs, hk, hk', hi, encs_getE, ← hx, h12, hw, W_one, b0, b1, c0, c1, n0]; done)
  · simp [c24, Cd.nth, Cd.loops, Cd.body, S24b, hi, encs_getE, Rnd.enc]
theorem sentN_take (i : Nat) (h : i < l.length) : sentN (l.take (i + 1)) c n = sentN (l.take i) c n + l[i].sents.countP (okS c n) := by
  unfold sentN
  rw [flatMap_take _ l i h, List.countP_append]
def S24 (i : Nat) : St := ⟨[(0, .lst none nl 6 (Rs l)), (1, .int .i64 c), (2, .int .i64 n), (7, .int .i64 (W (sentN (l.take i) c n : Int))), (8, .int .i64 i)], [], [], [], []⟩
theorem loop24 (hl : l.length < 1000000) (hf : ∀ r ∈ l, r.fine) {st : St} (h0 : maskSt [0, 1, 2, 7, 8] [] [] [] st = some (S24 nl l c n 0)) :
    loopW (maskSt [0, 1, 2, 7, 8] [] [] []) (Cd.run (app E) (c24.body.nth 0)) st = (c24.body.nth 0).run (app E) (S24 nl l c n l.length) := by
  refine loop_eq (S24 nl l c n) l.length (fun i hi => ?_) ?_ h0
  · have hi' : (i : Int) < l.length := by omega
    have hw := wrap_succ i (by omega)
    have h := @loop24b nl l c n i (sentN (l.take i) c n) hi (hf _ (List.getElem_mem hi)).1
    have hst := sentN_take l c n i hi
    simp only [S24b, c24, Cd.nth, Cd.loops, Cd.body, List.nil_append, List.append_nil, List.cons_append, List.getElem?_cons_succ, List.getElem?_cons_zero, Option.getD_some] at h
    simp [-isPlace, -moves, isPlace_int, isPlace_bool, isPlace_str, isPlace_lst, moves_int, moves_bool, moves_str, moves_lst, LC_placeI, LC_placeI', LC_movesI, LC_cellI, LC_getE, LC_add, LC_add0, LC_put31, LC_place0, LC_place1, frzV, frzR, ss_okns, es_okns, cs_okns, mk_okns, rs_okns, ss_deps, es_deps, cs_deps, mk_deps, rs_deps, c24, Cd.nth, Cd.loops, Cd.body, S24, hi, hi']
    rw [h (by simp [-isPlace, -moves, isPlace_int, isPlace_bool, isPlace_str, isPlace_lst, moves_int, moves_bool, moves_str, moves_lst, LC_placeI, LC_placeI', LC_movesI, LC_cellI, LC_getE, LC_add, LC_add0, LC_put31, LC_place0, LC_place1, frzV, frzR, ss_okns, es_okns, cs_okns, mk_okns, rs_okns, ss_deps, es_deps, cs_deps, mk_deps, rs_deps])]
    simp [-isPlace, -moves, isPlace_int, isPlace_bool, isPlace_str, isPlace_lst, moves_int, moves_bool, moves_str, moves_lst, LC_placeI, LC_placeI', LC_movesI, LC_cellI, LC_getE, LC_add, LC_add0, LC_put31, LC_place0, LC_place1, frzV, frzR, ss_okns, es_okns, cs_okns, mk_okns, rs_okns, ss_deps, es_deps, cs_deps, mk_deps, rs_deps, hi, encs_getE, Rnd.enc, hw, hst]
  · simp [c24, Cd.nth, Cd.loops, Cd.body, S24]
theorem app24 (hl : l.length < 1000000) (hf : ∀ r ∈ l, r.fine) : app E false (.fn 24 []) [.lst none nl 6 (Rs l), .int .i64 c, .int .i64 n] [] = some (.int .i64 (W (sentN l c n : Int)), emptyBag, []) := by
  rw [app_fn E rfl h24 rfl]
  have h := @loop24 nl l c n hl hf
  simp only [S24, c24, Cd.nth, Cd.loops, Cd.body, List.nil_append, List.append_nil, List.cons_append, List.getElem?_cons_succ, List.getElem?_cons_zero, Option.getD_some] at h
  simp [-isPlace, -moves, isPlace_int, isPlace_bool, isPlace_str, isPlace_lst, moves_int, moves_bool, moves_str, moves_lst, LC_placeI, LC_placeI', LC_movesI, LC_cellI, LC_getE, LC_add, LC_add0, LC_put31, LC_place0, LC_place1, frzV, frzR, ss_okns, es_okns, cs_okns, mk_okns, rs_okns, ss_deps, es_deps, cs_deps, mk_deps, rs_deps, c24]
  rw [h (by simp [-isPlace, -moves, isPlace_int, isPlace_bool, isPlace_str, isPlace_lst, moves_int, moves_bool, moves_str, moves_lst, LC_placeI, LC_placeI', LC_movesI, LC_cellI, LC_getE, LC_add, LC_add0, LC_put31, LC_place0, LC_place1, frzV, frzR, ss_okns, es_okns, cs_okns, mk_okns, rs_okns, ss_deps, es_deps, cs_deps, mk_deps, rs_deps, sentN, W_0])]
  simp [-isPlace, -moves, isPlace_int, isPlace_bool, isPlace_str, isPlace_lst, moves_int, moves_bool, moves_str, moves_lst, LC_placeI, LC_placeI', LC_movesI, LC_cellI, LC_getE, LC_add, LC_add0, LC_put31, LC_place0, LC_place1, frzV, frzR, ss_okns, es_okns, cs_okns, mk_okns, rs_okns, ss_deps, es_deps, cs_deps, mk_deps, rs_deps]
end
section
variable (m : Int)
def S23b (i b : Nat) (ss : List Mrk) (k : Nat) : St := ⟨[(0, .lst none nl 6 (Rs l)), (1, .int .i64 m), (5, .int .i64 (W ((b + (ss.take k).countP (okM m) : Nat) : Int))), (6, .int .i64 i), (7, .int .i64 k)], [], [], [], []⟩
theorem loop23b (i b : Nat) (hi : i < l.length) (hl : l[i].marks.length < 1000000) {st : St} (h0 : maskSt [0, 1, 5, 6, 7] [] [] [] st = some (S23b nl l m i b l[i].marks 0)) :
    loopW (maskSt [0, 1, 5, 6, 7] [] [] []) (Cd.run (app E) (c23.body.nth 1)) st = (c23.body.nth 1).run (app E) (S23b nl l m i b l[i].marks l[i].marks.length) := by
  refine loop_eq (S23b nl l m i b l[i].marks) l[i].marks.length (fun k hk => ?_) ?_ h0
  · have hk' : (k : Int) < l[i].marks.length := by omega
    have hw := wrap_succ k (by omega)
    have hct := countP_take (okM m) l[i].marks k hk
    obtain ⟨x, hx⟩ : ∃ x, x = l[i].marks[k] := ⟨_, rfl⟩
    rw [← hx] at hct
    cases hok : okM m x
    all_goals
      simp only [hok, if_true, Bool.false_eq_true, if_false, Nat.add_zero] at hct
      simp only [S23b, hct]
      unfold okM at hok
      simp [-isPlace, -moves, isPlace_int, isPlace_bool, isPlace_str, isPlace_lst, moves_int, moves_bool, moves_str, moves_lst, LC_placeI, LC_placeI', LC_movesI, LC_cellI, LC_getE, LC_add, LC_add0, LC_put31, LC_place0, LC_place1, frzV, frzR, ss_okns, es_okns, cs_okns, mk_okns, rs_okns, ss_deps, es_deps, cs_deps, mk_deps, rs_deps, c23, Cd.nth, Cd.loops, Cd.body, Rnd.enc, Mrk.enc, hk, hk', hi, encs_getE, ← hx, hw, hok, W_one]
  · simp [c23, Cd.nth, Cd.loops, Cd.body, S23b, hi, encs_getE, Rnd.enc]
theorem markN_take (i : Nat) (h : i < l.length) : markN (l.take (i + 1)) m = markN (l.take i) m + l[i].marks.countP (okM m) := by
  unfold markN
  rw [flatMap_take _ l i h, List.countP_append]
def S23 (i : Nat) : St := ⟨[(0, .lst none nl 6 (Rs l)), (1, .int .i64 m), (5, .int .i64 (W (markN (l.take i) m : Int))), (6, .int .i64 i)], [], [], [], []⟩
theorem loop23 (hl : l.length < 1000000) (hf : ∀ r ∈ l, r.fine) {st : St} (h0 : maskSt [0, 1, 5, 6] [] [] [] st = some (S23 nl l m 0)) :
    loopW (maskSt [0, 1, 5, 6] [] [] []) (Cd.run (app E) (c23.body.nth 0)) st = (c23.body.nth 0).run (app E) (S23 nl l m l.length) := by
  refine loop_eq (S23 nl l m) l.length (fun i hi => ?_) ?_ h0
  · have hi' : (i : Int) < l.length := by omega
    have hw := wrap_succ i (by omega)
    have h := @loop23b nl l m i (markN (l.take i) m) hi (hf _ (List.getElem_mem hi)).2.2.1
    have hst := markN_take l m i hi
    simp only [S23b, c23, Cd.nth, Cd.loops, Cd.body, List.nil_append, List.append_nil, List.cons_append, List.getElem?_cons_succ, List.getElem?_cons_zero, Option.getD_some] at h
    simp [-isPlace, -moves, isPlace_int, isPlace_bool, isPlace_str, isPlace_lst, moves_int, moves_bool, moves_str, moves_lst, LC_placeI, LC_placeI', LC_movesI, LC_cellI, LC_getE, LC_add, LC_add0, LC_put31, LC_place0, LC_place1, frzV, frzR, ss_okns, es_okns, cs_okns, mk_okns, rs_okns, ss_deps, es_deps, cs_deps, mk_deps, rs_deps, c23, Cd.nth, Cd.loops, Cd.body, S23, hi, hi']
    rw [h (by simp [-isPlace, -moves, isPlace_int, isPlace_bool, isPlace_str, isPlace_lst, moves_int, moves_bool, moves_str, moves_lst, LC_placeI, LC_placeI', LC_movesI, LC_cellI, LC_getE, LC_add, LC_add0, LC_put31, LC_place0, LC_place1, frzV, frzR, ss_okns, es_okns, cs_okns, mk_okns, rs_okns, ss_deps, es_deps, cs_deps, mk_deps, rs_deps])]
    simp [-isPlace, -moves, isPlace_int, isPlace_bool, isPlace_str, isPlace_lst, moves_int, moves_bool, moves_str, moves_lst, LC_placeI, LC_placeI', LC_movesI, LC_cellI, LC_getE, LC_add, LC_add0, LC_put31, LC_place0, LC_place1, frzV, frzR, ss_okns, es_okns, cs_okns, mk_okns, rs_okns, ss_deps, es_deps, cs_deps, mk_deps, rs_deps, hi, encs_getE, Rnd.enc, hw, hst]
  · simp [c23, Cd.nth, Cd.loops, Cd.body, S23]
theorem app23 (hl : l.length < 1000000) (hf : ∀ r ∈ l, r.fine) : app E false (.fn 23 []) [.lst none nl 6 (Rs l), .int .i64 m] [] = some (.int .i64 (W (markN l m : Int)), emptyBag, []) := by
  rw [app_fn E rfl h23 rfl]
  have h := @loop23 nl l m hl hf
  simp only [S23, c23, Cd.nth, Cd.loops, Cd.body, List.nil_append, List.append_nil, List.cons_append, List.getElem?_cons_succ, List.getElem?_cons_zero, Option.getD_some] at h
  simp [-isPlace, -moves, isPlace_int, isPlace_bool, isPlace_str, isPlace_lst, moves_int, moves_bool, moves_str, moves_lst, LC_placeI, LC_placeI', LC_movesI, LC_cellI, LC_getE, LC_add, LC_add0, LC_put31, LC_place0, LC_place1, frzV, frzR, ss_okns, es_okns, cs_okns, mk_okns, rs_okns, ss_deps, es_deps, cs_deps, mk_deps, rs_deps, c23]
  rw [h (by simp [-isPlace, -moves, isPlace_int, isPlace_bool, isPlace_str, isPlace_lst, moves_int, moves_bool, moves_str, moves_lst, LC_placeI, LC_placeI', LC_movesI, LC_cellI, LC_getE, LC_add, LC_add0, LC_put31, LC_place0, LC_place1, frzV, frzR, ss_okns, es_okns, cs_okns, mk_okns, rs_okns, ss_deps, es_deps, cs_deps, mk_deps, rs_deps, markN, W_0])]
  simp [-isPlace, -moves, isPlace_int, isPlace_bool, isPlace_str, isPlace_lst, moves_int, moves_bool, moves_str, moves_lst, LC_placeI, LC_placeI', LC_movesI, LC_cellI, LC_getE, LC_add, LC_add0, LC_put31, LC_place0, LC_place1, frzV, frzR, ss_okns, es_okns, cs_okns, mk_okns, rs_okns, ss_deps, es_deps, cs_deps, mk_deps, rs_deps]
end
end
end Go.Proofs.YtbbpkkeaddbcnaaDoor.ZJM.LD
