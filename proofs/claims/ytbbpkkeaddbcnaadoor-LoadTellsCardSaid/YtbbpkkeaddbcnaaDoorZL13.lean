/- Load: loads, added up. -/
import Derived.Test.YtbbpkkeaddbcnaaDoorZL12
set_option linter.unusedSimpArgs false
set_option linter.unusedVariables false
namespace Go.Proofs.YtbbpkkeaddbcnaaDoor.ZJM.LD
open Go.Proofs.YtbbpkkeaddbcnaaDoor.ZJM Go.RowKit
/-- A number that counts. -/
def num (n : Int) : Int := if 0 ≤ n ∧ n ≤ 2147483647 then n else 0
theorem num_le (n : Int) : 0 ≤ num n ∧ num n ≤ 2147483647 := by unfold num; split <;> omega
theorem app31 (n : Int) : app E false (.fn 31 []) [.int .i64 n] [] = some (.int .i64 (num n), emptyBag, []) := by
  rw [app_fn E rfl h31 rfl]
  unfold num
  by_cases a : n < 0
  · have b : ¬ 0 ≤ n := by omega
    simp [-isPlace, -moves, isPlace_int, isPlace_bool, isPlace_str, isPlace_lst, moves_int, moves_bool, moves_str, moves_lst, LC_placeI, LC_placeI', LC_movesI, LC_cellI, LC_getE, LC_add, LC_add0, LC_put31, LC_place0, LC_place1, frzV, frzR, ss_okns, es_okns, cs_okns, mk_okns, rs_okns, ss_deps, es_deps, cs_deps, mk_deps, rs_deps, c31, a, b]
  · have b : 0 ≤ n := by omega
    by_cases c : n ≤ 2147483647
    · have d : ¬ 2147483647 < n := by omega
      simp [-isPlace, -moves, isPlace_int, isPlace_bool, isPlace_str, isPlace_lst, moves_int, moves_bool, moves_str, moves_lst, LC_placeI, LC_placeI', LC_movesI, LC_cellI, LC_getE, LC_add, LC_add0, LC_put31, LC_place0, LC_place1, frzV, frzR, ss_okns, es_okns, cs_okns, mk_okns, rs_okns, ss_deps, es_deps, cs_deps, mk_deps, rs_deps, c31, a, b, c, d]
    · have d : 2147483647 < n := by omega
      simp [-isPlace, -moves, isPlace_int, isPlace_bool, isPlace_str, isPlace_lst, moves_int, moves_bool, moves_str, moves_lst, LC_placeI, LC_placeI', LC_movesI, LC_cellI, LC_getE, LC_add, LC_add0, LC_put31, LC_place0, LC_place1, frzV, frzR, ss_okns, es_okns, cs_okns, mk_okns, rs_okns, ss_deps, es_deps, cs_deps, mk_deps, rs_deps, c31, a, b, c, d]
theorem app29 (n : Int) : app E false (.fn 29 []) [.int .i64 n] [] = some (.int .i64 (num n), emptyBag, []) := by
  rw [app_fn E rfl h29 rfl]
  unfold num
  by_cases b : 0 ≤ n
  · by_cases c : n ≤ 2147483647
    · simp [-isPlace, -moves, isPlace_int, isPlace_bool, isPlace_str, isPlace_lst, moves_int, moves_bool, moves_str, moves_lst, LC_placeI, LC_placeI', LC_movesI, LC_cellI, LC_getE, LC_add, LC_add0, LC_put31, LC_place0, LC_place1, frzV, frzR, ss_okns, es_okns, cs_okns, mk_okns, rs_okns, ss_deps, es_deps, cs_deps, mk_deps, rs_deps, c29, b, c]
    · simp [-isPlace, -moves, isPlace_int, isPlace_bool, isPlace_str, isPlace_lst, moves_int, moves_bool, moves_str, moves_lst, LC_placeI, LC_placeI', LC_movesI, LC_cellI, LC_getE, LC_add, LC_add0, LC_put31, LC_place0, LC_place1, frzV, frzR, ss_okns, es_okns, cs_okns, mk_okns, rs_okns, ss_deps, es_deps, cs_deps, mk_deps, rs_deps, c29, b, c]
  · simp [-isPlace, -moves, isPlace_int, isPlace_bool, isPlace_str, isPlace_lst, moves_int, moves_bool, moves_str, moves_lst, LC_placeI, LC_placeI', LC_movesI, LC_cellI, LC_getE, LC_add, LC_add0, LC_put31, LC_place0, LC_place1, frzV, frzR, ss_okns, es_okns, cs_okns, mk_okns, rs_okns, ss_deps, es_deps, cs_deps, mk_deps, rs_deps, c29, b]
theorem app30 (a b : Int) : app E false (.fn 30 []) [.int .i64 a, .int .i64 b] [] = some (.int .i64 (W (num a + num b)), emptyBag, []) := by
  rw [app_fn E rfl h30 rfl]
  have h := app31
  simp [-isPlace, -moves, isPlace_int, isPlace_bool, isPlace_str, isPlace_lst, moves_int, moves_bool, moves_str, moves_lst, LC_placeI, LC_placeI', LC_movesI, LC_cellI, LC_getE, LC_add, LC_add0, LC_put31, LC_place0, LC_place1, frzV, frzR, ss_okns, es_okns, cs_okns, mk_okns, rs_okns, ss_deps, es_deps, cs_deps, mk_deps, rs_deps, c30, h]
def sumN (f g : Nat → Int) (j : Nat) : Int := num (W (f j)) + num (W (g j))
def mxN (f g : Nat → Int) : Int := if num (W (g 31)) > num (W (f 31)) then num (W (g 31)) else num (W (f 31))
theorem mxN_W (f g : Nat → Int) : W (mxN f g) = mxN f g := by
  have h1 := num_le (W (g 31))
  have h2 := num_le (W (f 31))
  apply W_id <;> unfold mxN <;> split <;> omega
def addF (f g : Nat → Int) (j : Nat) : Int := if j = 31 then mxN f g else sumN f g j
def addS (f g : Nat → Int) (b : Nat) (h : Nat → Int) (k : Nat) : Nat → Int := setAt h (b + k) (sumN f g (b + k))
theorem addS_fold (f g h : Nat → Int) (b j : Nat) : ∀ n : Nat, ((List.range n).foldl (addS f g b) h) j = if b ≤ j ∧ j < b + n then sumN f g j else h j
  | 0 => by simp; intro h1 h2; omega
  | n + 1 => by
    rw [foldl_range, addS, setAt]
    by_cases h1 : j = b + n
    · subst h1
      rw [if_pos rfl, if_pos (by omega)]
    · rw [if_neg h1, addS_fold f g h b j n]
      by_cases h2 : b ≤ j ∧ j < b + n
      · rw [if_pos h2, if_pos (by omega)]
      · rw [if_neg h2, if_neg (by omega)]
def lit7 (a0 a1 a27 a28 a29 a30 a31 : Int) : Nat → Int := fun j => if j = 0 then a0 else if j = 1 then a1 else if j = 27 then a27 else if j = 28 then a28 else if j = 29 then a29 else if j = 30 then a30 else if j = 31 then a31 else 0
theorem lit7_eq (a0 a1 a27 a28 a29 a30 a31 : Int) (h : W a31 = a31) : [.int .i64 (W a0), .int .i64 (W a1), .int .i64 0, .int .i64 0, .int .i64 0, .int .i64 0, .int .i64 0, .int .i64 0, .int .i64 0, .int .i64 0, .int .i64 0, .int .i64 0, .int .i64 0, .int .i64 0, .int .i64 0, .int .i64 0, .int .i64 0, .int .i64 0, .int .i64 0, .int .i64 0, .int .i64 0, .int .i64 0, .int .i64 0, .int .i64 0, .int .i64 0, .int .i64 0, .int .i64 0, .int .i64 (W a27), .int .i64 (W a28), .int .i64 (W a29), .int .i64 (W a30), .int .i64 a31] = LC (lit7 a0 a1 a27 a28 a29 a30 a31) := by
  have : LC (lit7 a0 a1 a27 a28 a29 a30 a31) = [.int .i64 (W a0), .int .i64 (W a1), .int .i64 (W 0), .int .i64 (W 0), .int .i64 (W 0), .int .i64 (W 0), .int .i64 (W 0), .int .i64 (W 0), .int .i64 (W 0), .int .i64 (W 0), .int .i64 (W 0), .int .i64 (W 0), .int .i64 (W 0), .int .i64 (W 0), .int .i64 (W 0), .int .i64 (W 0), .int .i64 (W 0), .int .i64 (W 0), .int .i64 (W 0), .int .i64 (W 0), .int .i64 (W 0), .int .i64 (W 0), .int .i64 (W 0), .int .i64 (W 0), .int .i64 (W 0), .int .i64 (W 0), .int .i64 (W 0), .int .i64 (W a27), .int .i64 (W a28), .int .i64 (W a29), .int .i64 (W a30), .int .i64 (W a31)] := rfl
  rw [this, h, W_0]
theorem fin_add (f g : Nat → Int) (a31 : Int) (h : a31 = mxN f g) : LC ((List.range 17).foldl (addS f g 10) ((List.range 8).foldl (addS f g 2) (lit7 (sumN f g 0) (sumN f g 1) (sumN f g 27) (sumN f g 28) (sumN f g 29) (sumN f g 30) a31))) = LC (addF f g) := by
  refine LC_ext _ fun j hj => ?_
  rw [addS_fold, addS_fold]
  congr 1
  unfold addF
  by_cases h1 : 10 ≤ j ∧ j < 10 + 17
  · rw [if_pos h1, if_neg (by omega)]
  rw [if_neg h1]
  by_cases h2 : 2 ≤ j ∧ j < 2 + 8
  · rw [if_pos h2, if_neg (by omega)]
  rw [if_neg h2]
  rcases (by omega : j = 0 ∨ j = 1 ∨ j = 27 ∨ j = 28 ∨ j = 29 ∨ j = 30 ∨ j = 31) with rfl | rfl | rfl | rfl | rfl | rfl | rfl <;> simp [lit7, h]
section
variable (f g : Nat → Int)
def S21a (h : Nat → Int) (k : Nat) : St := ⟨[(2, .ptr 0 2 [] 0), (3, .ptr 0 3 [] 0), (4, .ptr 0 4 [] 0), (5, .ptr 0 5 [] 0), (46, .int .i64 k)], [], [(2, LC f), (3, LC g), (4, LC zeroF), (5, LC ((List.range k).foldl (addS f g 2) h))], [], []⟩
theorem loop21a (h : Nat → Int) {st : St} (h0 : maskSt [2, 3, 4, 5, 46] [2, 3, 4, 5] [] [] st = some (S21a f g h 0)) :
    loopW (maskSt [2, 3, 4, 5, 46] [2, 3, 4, 5] [] []) (Cd.run (app E) (c21.body.nth 0)) st = (c21.body.nth 0).run (app E) (S21a f g h 8) := by
  refine loop_eq (S21a f g h) 8 (fun k hk => ?_) ?_ h0
  · have hk' : (k : Int) < 8 := by omega
    have hk0 : (0 : Int) ≤ k := by omega
    have hk1 : 2 + k < 32 := by omega
    have hk2 : 2 + k + 1 ≤ 32 := by omega
    have hw := wrap_succ k (by omega)
    have hft := foldl_range (addS f g 2) h k
    generalize hF : (List.range k).foldl (addS f g 2) h = F at *
    simp [-isPlace, -moves, isPlace_int, isPlace_bool, isPlace_str, isPlace_lst, moves_int, moves_bool, moves_str, moves_lst, LC_placeI, LC_placeI', LC_movesI, LC_cellI, LC_getE, LC_add, LC_add0, LC_put31, LC_place0, LC_place1, frzV, frzR, ss_okns, es_okns, cs_okns, mk_okns, rs_okns, ss_deps, es_deps, cs_deps, mk_deps, rs_deps, c21, Cd.nth, Cd.loops, Cd.body, S21a, hk, hk', hk0, hk1, hk2, hw, hft, app30, addS, sumN, LC_put, hF]
  · simp [c21, Cd.nth, Cd.loops, Cd.body, S21a]
def S21b (h : Nat → Int) (k : Nat) : St := ⟨[(2, .ptr 0 2 [] 0), (3, .ptr 0 3 [] 0), (4, .ptr 0 4 [] 0), (5, .ptr 0 5 [] 0), (62, .int .i64 k)], [], [(2, LC f), (3, LC g), (4, LC zeroF), (5, LC ((List.range k).foldl (addS f g 10) h))], [], []⟩
theorem loop21b (h : Nat → Int) {st : St} (h0 : maskSt [2, 3, 4, 5, 62] [2, 3, 4, 5] [] [] st = some (S21b f g h 0)) :
    loopW (maskSt [2, 3, 4, 5, 62] [2, 3, 4, 5] [] []) (Cd.run (app E) (c21.body.nth 1)) st = (c21.body.nth 1).run (app E) (S21b f g h 17) := by
  refine loop_eq (S21b f g h) 17 (fun k hk => ?_) ?_ h0
  · have hk' : (k : Int) < 17 := by omega
    have hk0 : (0 : Int) ≤ k := by omega
    have hk1 : 10 + k < 32 := by omega
    have hk2 : 10 + k + 1 ≤ 32 := by omega
    have hw := wrap_succ k (by omega)
    have hft := foldl_range (addS f g 10) h k
    generalize hF : (List.range k).foldl (addS f g 10) h = F at *
    simp [-isPlace, -moves, isPlace_int, isPlace_bool, isPlace_str, isPlace_lst, moves_int, moves_bool, moves_str, moves_lst, LC_placeI, LC_placeI', LC_movesI, LC_cellI, LC_getE, LC_add, LC_add0, LC_put31, LC_place0, LC_place1, frzV, frzR, ss_okns, es_okns, cs_okns, mk_okns, rs_okns, ss_deps, es_deps, cs_deps, mk_deps, rs_deps, c21, Cd.nth, Cd.loops, Cd.body, S21b, hk, hk', hk0, hk1, hk2, hw, hft, app30, addS, sumN, LC_put, hF]
  · simp [c21, Cd.nth, Cd.loops, Cd.body, S21b]
def S19a (h : Nat → Int) (k : Nat) : St := ⟨[(2, .ptr 0 2 [] 0), (3, .ptr 0 3 [] 0), (4, .ptr 0 4 [] 0), (5, .ptr 0 5 [] 0), (6, .int .i64 k)], [], [(2, LC f), (3, LC g), (4, LC zeroF), (5, LC ((List.range k).foldl (addS f g 2) h))], [], []⟩
theorem loop19a (h : Nat → Int) {st : St} (h0 : maskSt [2, 3, 4, 5, 6] [2, 3, 4, 5] [] [] st = some (S19a f g h 0)) :
    loopW (maskSt [2, 3, 4, 5, 6] [2, 3, 4, 5] [] []) (Cd.run (app E) (c19.body.nth 0)) st = (c19.body.nth 0).run (app E) (S19a f g h 8) := by
  refine loop_eq (S19a f g h) 8 (fun k hk => ?_) ?_ h0
  · have hk' : (k : Int) < 8 := by omega
    have hk0 : (0 : Int) ≤ k := by omega
    have hk1 : 2 + k < 32 := by omega
    have hk2 : 2 + k + 1 ≤ 32 := by omega
    have hw := wrap_succ k (by omega)
    have hft := foldl_range (addS f g 2) h k
    generalize hF : (List.range k).foldl (addS f g 2) h = F at *
    simp [-isPlace, -moves, isPlace_int, isPlace_bool, isPlace_str, isPlace_lst, moves_int, moves_bool, moves_str, moves_lst, LC_placeI, LC_placeI', LC_movesI, LC_cellI, LC_getE, LC_add, LC_add0, LC_put31, LC_place0, LC_place1, frzV, frzR, ss_okns, es_okns, cs_okns, mk_okns, rs_okns, ss_deps, es_deps, cs_deps, mk_deps, rs_deps, c19, Cd.nth, Cd.loops, Cd.body, S19a, hk, hk', hk0, hk1, hk2, hw, hft, app29, addS, sumN, LC_put, hF]
  · simp [c19, Cd.nth, Cd.loops, Cd.body, S19a]
def S19b (h : Nat → Int) (k : Nat) : St := ⟨[(2, .ptr 0 2 [] 0), (3, .ptr 0 3 [] 0), (4, .ptr 0 4 [] 0), (5, .ptr 0 5 [] 0), (7, .int .i64 k)], [], [(2, LC f), (3, LC g), (4, LC zeroF), (5, LC ((List.range k).foldl (addS f g 10) h))], [], []⟩
theorem loop19b (h : Nat → Int) {st : St} (h0 : maskSt [2, 3, 4, 5, 7] [2, 3, 4, 5] [] [] st = some (S19b f g h 0)) :
    loopW (maskSt [2, 3, 4, 5, 7] [2, 3, 4, 5] [] []) (Cd.run (app E) (c19.body.nth 1)) st = (c19.body.nth 1).run (app E) (S19b f g h 17) := by
  refine loop_eq (S19b f g h) 17 (fun k hk => ?_) ?_ h0
  · have hk' : (k : Int) < 17 := by omega
    have hk0 : (0 : Int) ≤ k := by omega
    have hk1 : 10 + k < 32 := by omega
    have hk2 : 10 + k + 1 ≤ 32 := by omega
    have hw := wrap_succ k (by omega)
    have hft := foldl_range (addS f g 10) h k
    generalize hF : (List.range k).foldl (addS f g 10) h = F at *
    simp [-isPlace, -moves, isPlace_int, isPlace_bool, isPlace_str, isPlace_lst, moves_int, moves_bool, moves_str, moves_lst, LC_placeI, LC_placeI', LC_movesI, LC_cellI, LC_getE, LC_add, LC_add0, LC_put31, LC_place0, LC_place1, frzV, frzR, ss_okns, es_okns, cs_okns, mk_okns, rs_okns, ss_deps, es_deps, cs_deps, mk_deps, rs_deps, c19, Cd.nth, Cd.loops, Cd.body, S19b, hk, hk', hk0, hk1, hk2, hw, hft, app29, addS, sumN, LC_put, hF]
  · simp [c19, Cd.nth, Cd.loops, Cd.body, S19b]
theorem app21 : app E false (.fn 21 []) [.agg (LC f), .agg (LC g)] [] = some (.agg (LC (addF f g)), emptyBag, []) := by
  rw [app_fn E rfl h21 rfl]
  have h30 := app30
  have h31 := app31
  have hm : (if num (W (f 31)) < num (W (g 31)) then num (W (g 31)) else num (W (f 31))) = mxN f g := rfl
  have hl := lit7_eq (sumN f g 0) (sumN f g 1) (sumN f g 27) (sumN f g 28) (sumN f g 29) (sumN f g 30) (mxN f g) (mxN_W f g)
  have hA := @loop21a f g (lit7 (sumN f g 0) (sumN f g 1) (sumN f g 27) (sumN f g 28) (sumN f g 29) (sumN f g 30) (mxN f g))
  have hB := @loop21b f g ((List.range 8).foldl (addS f g 2) (lit7 (sumN f g 0) (sumN f g 1) (sumN f g 27) (sumN f g 28) (sumN f g 29) (sumN f g 30) (mxN f g)))
  simp only [S21a, c21, Cd.nth, Cd.loops, Cd.body, List.nil_append, List.append_nil, List.cons_append, List.getElem?_cons_succ, List.getElem?_cons_zero, Option.getD_some] at hA
  simp only [S21b, c21, Cd.nth, Cd.loops, Cd.body, List.nil_append, List.append_nil, List.cons_append, List.getElem?_cons_succ, List.getElem?_cons_zero, Option.getD_some] at hB
  simp only [sumN] at hl hA hB
  simp [-isPlace, -moves, isPlace_int, isPlace_bool, isPlace_str, isPlace_lst, moves_int, moves_bool, moves_str, moves_lst, LC_placeI, LC_placeI', LC_movesI, LC_cellI, LC_getE, LC_add, LC_add0, LC_put31, LC_place0, LC_place1, frzV, frzR, ss_okns, es_okns, cs_okns, mk_okns, rs_okns, ss_deps, es_deps, cs_deps, mk_deps, rs_deps, c21, h30, h31, hm]
  simp only [hl, ← LC_zero]
  rw [hA (by simp [-isPlace, -moves, isPlace_int, isPlace_bool, isPlace_str, isPlace_lst, moves_int, moves_bool, moves_str, moves_lst, LC_placeI, LC_placeI', LC_movesI, LC_cellI, LC_getE, LC_add, LC_add0, LC_put31, LC_place0, LC_place1, frzV, frzR, ss_okns, es_okns, cs_okns, mk_okns, rs_okns, ss_deps, es_deps, cs_deps, mk_deps, rs_deps])]
  simp [-isPlace, -moves, isPlace_int, isPlace_bool, isPlace_str, isPlace_lst, moves_int, moves_bool, moves_str, moves_lst, LC_placeI, LC_placeI', LC_movesI, LC_cellI, LC_getE, LC_add, LC_add0, LC_put31, LC_place0, LC_place1, frzV, frzR, ss_okns, es_okns, cs_okns, mk_okns, rs_okns, ss_deps, es_deps, cs_deps, mk_deps, rs_deps]
  rw [hB (by simp [-isPlace, -moves, isPlace_int, isPlace_bool, isPlace_str, isPlace_lst, moves_int, moves_bool, moves_str, moves_lst, LC_placeI, LC_placeI', LC_movesI, LC_cellI, LC_getE, LC_add, LC_add0, LC_put31, LC_place0, LC_place1, frzV, frzR, ss_okns, es_okns, cs_okns, mk_okns, rs_okns, ss_deps, es_deps, cs_deps, mk_deps, rs_deps])]
  have hf := fin_add f g _ rfl
  simp only [sumN] at hf
  simp [-isPlace, -moves, isPlace_int, isPlace_bool, isPlace_str, isPlace_lst, moves_int, moves_bool, moves_str, moves_lst, LC_placeI, LC_placeI', LC_movesI, LC_cellI, LC_getE, LC_add, LC_add0, LC_put31, LC_place0, LC_place1, frzV, frzR, ss_okns, es_okns, cs_okns, mk_okns, rs_okns, ss_deps, es_deps, cs_deps, mk_deps, rs_deps, hf]
theorem app19 : app E false (.fn 19 []) [.agg (LC f), .agg (LC g)] [] = some (.agg (LC (addF f g)), emptyBag, []) := by
  rw [app_fn E rfl h19 rfl]
  have h29 := app29
  have hm : (if num (W (f 31)) < num (W (g 31)) then num (W (g 31)) else num (W (f 31))) = mxN f g := rfl
  have hl := lit7_eq (sumN f g 0) (sumN f g 1) (sumN f g 27) (sumN f g 28) (sumN f g 29) (sumN f g 30) (mxN f g) (mxN_W f g)
  have hA := @loop19a f g (lit7 (sumN f g 0) (sumN f g 1) (sumN f g 27) (sumN f g 28) (sumN f g 29) (sumN f g 30) (mxN f g))
  have hB := @loop19b f g ((List.range 8).foldl (addS f g 2) (lit7 (sumN f g 0) (sumN f g 1) (sumN f g 27) (sumN f g 28) (sumN f g 29) (sumN f g 30) (mxN f g)))
  simp only [S19a, c19, Cd.nth, Cd.loops, Cd.body, List.nil_append, List.append_nil, List.cons_append, List.getElem?_cons_succ, List.getElem?_cons_zero, Option.getD_some] at hA
  simp only [S19b, c19, Cd.nth, Cd.loops, Cd.body, List.nil_append, List.append_nil, List.cons_append, List.getElem?_cons_succ, List.getElem?_cons_zero, Option.getD_some] at hB
  simp only [sumN] at hl hA hB
  simp [-isPlace, -moves, isPlace_int, isPlace_bool, isPlace_str, isPlace_lst, moves_int, moves_bool, moves_str, moves_lst, LC_placeI, LC_placeI', LC_movesI, LC_cellI, LC_getE, LC_add, LC_add0, LC_put31, LC_place0, LC_place1, frzV, frzR, ss_okns, es_okns, cs_okns, mk_okns, rs_okns, ss_deps, es_deps, cs_deps, mk_deps, rs_deps, c19, h29, hm]
  simp only [hl, ← LC_zero]
  rw [hA (by simp [-isPlace, -moves, isPlace_int, isPlace_bool, isPlace_str, isPlace_lst, moves_int, moves_bool, moves_str, moves_lst, LC_placeI, LC_placeI', LC_movesI, LC_cellI, LC_getE, LC_add, LC_add0, LC_put31, LC_place0, LC_place1, frzV, frzR, ss_okns, es_okns, cs_okns, mk_okns, rs_okns, ss_deps, es_deps, cs_deps, mk_deps, rs_deps])]
  simp [-isPlace, -moves, isPlace_int, isPlace_bool, isPlace_str, isPlace_lst, moves_int, moves_bool, moves_str, moves_lst, LC_placeI, LC_placeI', LC_movesI, LC_cellI, LC_getE, LC_add, LC_add0, LC_put31, LC_place0, LC_place1, frzV, frzR, ss_okns, es_okns, cs_okns, mk_okns, rs_okns, ss_deps, es_deps, cs_deps, mk_deps, rs_deps]
  rw [hB (by simp [-isPlace, -moves, isPlace_int, isPlace_bool, isPlace_str, isPlace_lst, moves_int, moves_bool, moves_str, moves_lst, LC_placeI, LC_placeI', LC_movesI, LC_cellI, LC_getE, LC_add, LC_add0, LC_put31, LC_place0, LC_place1, frzV, frzR, ss_okns, es_okns, cs_okns, mk_okns, rs_okns, ss_deps, es_deps, cs_deps, mk_deps, rs_deps])]
  have hf := fin_add f g _ rfl
  simp only [sumN] at hf
  simp [-isPlace, -moves, isPlace_int, isPlace_bool, isPlace_str, isPlace_lst, moves_int, moves_bool, moves_str, moves_lst, LC_placeI, LC_placeI', LC_movesI, LC_cellI, LC_getE, LC_add, LC_add0, LC_put31, LC_place0, LC_place1, frzV, frzR, ss_okns, es_okns, cs_okns, mk_okns, rs_okns, ss_deps, es_deps, cs_deps, mk_deps, rs_deps, hf]
/-- Numbers that do not count when they are added up. -/
def hugeB (l : List Rnd) : Bool := decide (W (ofF l 30) > 2147483647) || decide (W (ofF l 31) > 2147483647)
theorem app20 (nl : Bool) (l : List Rnd) (hl : l.length < 1000000) (hf : ∀ r ∈ l, r.fine) : app E false (.fn 20 []) [.lst none nl 6 (Rs l)] [] = some (.bool (hugeB l), emptyBag, []) := by
  rw [app_fn E rfl h20 rfl]
  have a10 := app10 nl l hl hf
  rw [← of_ref] at a10
  unfold hugeB
  by_cases h : 2147483647 < W (ofF l 30)
  · simp [-isPlace, -moves, isPlace_int, isPlace_bool, isPlace_str, isPlace_lst, moves_int, moves_bool, moves_str, moves_lst, LC_placeI, LC_placeI', LC_movesI, LC_cellI, LC_getE, LC_add, LC_add0, LC_put31, LC_place0, LC_place1, frzV, frzR, ss_okns, es_okns, cs_okns, mk_okns, rs_okns, ss_deps, es_deps, cs_deps, mk_deps, rs_deps, c20, a10, h]
  · simp [-isPlace, -moves, isPlace_int, isPlace_bool, isPlace_str, isPlace_lst, moves_int, moves_bool, moves_str, moves_lst, LC_placeI, LC_placeI', LC_movesI, LC_cellI, LC_getE, LC_add, LC_add0, LC_put31, LC_place0, LC_place1, frzV, frzR, ss_okns, es_okns, cs_okns, mk_okns, rs_okns, ss_deps, es_deps, cs_deps, mk_deps, rs_deps, c20, a10, h]
end
end Go.Proofs.YtbbpkkeaddbcnaaDoor.ZJM.LD
