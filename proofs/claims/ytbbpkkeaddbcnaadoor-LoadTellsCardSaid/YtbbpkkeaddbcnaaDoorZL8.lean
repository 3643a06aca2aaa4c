/- Load: the document's load. -/
import Derived.Test.YtbbpkkeaddbcnaaDoorZL7
set_option linter.unusedSimpArgs false
set_option linter.unusedVariables false
namespace Go.Proofs.YtbbpkkeaddbcnaaDoor.ZJM.LD
open Go.Proofs.YtbbpkkeaddbcnaaDoor.ZJM Go.RowKit
def lostF (f : Nat → Int) (k : Mrk) : Nat → Int := if (k.kind == 6) = true then (if 0 < k.n ∧ k.n ≤ 2147483647 then addAt f 30 k.n else f) else f
def refR (f : Nat → Int) (r : Rnd) : Nat → Int :=
  let f1 := if r.sents = [] then f else addAt f 1 1
  let f2 := if r.waits > W (f1 31) then setAt f1 31 r.waits else f1
  r.marks.foldl lostF (r.cames.foldl camF f2)
def g0 (a b c : Int) : Nat → Int := setAt (setAt (setAt zeroF 0 a) 28 b) 29 c
theorem lit0 {a : Int} (h : W a = a) (b c : Int) : [.int .i64 a, .int .i64 0, .int .i64 0, .int .i64 0, .int .i64 0, .int .i64 0, .int .i64 0, .int .i64 0, .int .i64 0, .int .i64 0, .int .i64 0, .int .i64 0, .int .i64 0, .int .i64 0, .int .i64 0, .int .i64 0, .int .i64 0, .int .i64 0, .int .i64 0, .int .i64 0, .int .i64 0, .int .i64 0, .int .i64 0, .int .i64 0, .int .i64 0, .int .i64 0, .int .i64 0, .int .i64 0, .int .i64 (W b), .int .i64 (W c), .int .i64 0, .int .i64 0] = LC (g0 a b c) := by
  have z : W 0 = 0 := W_0
  have : LC (g0 a b c) = [.int .i64 (W a), .int .i64 (W 0), .int .i64 (W 0), .int .i64 (W 0), .int .i64 (W 0), .int .i64 (W 0), .int .i64 (W 0), .int .i64 (W 0), .int .i64 (W 0), .int .i64 (W 0), .int .i64 (W 0), .int .i64 (W 0), .int .i64 (W 0), .int .i64 (W 0), .int .i64 (W 0), .int .i64 (W 0), .int .i64 (W 0), .int .i64 (W 0), .int .i64 (W 0), .int .i64 (W 0), .int .i64 (W 0), .int .i64 (W 0), .int .i64 (W 0), .int .i64 (W 0), .int .i64 (W 0), .int .i64 (W 0), .int .i64 (W 0), .int .i64 (W 0), .int .i64 (W b), .int .i64 (W c), .int .i64 (W 0), .int .i64 (W 0)] := rfl
  rw [this, h, z]
section
variable (nl : Bool) (l : List Rnd) (f : Nat → Int)
def S10a (i k : Nat) (cs : List Cam) : St := ⟨[(0, .lst none nl 6 (Rs l)), (2, .ptr 0 2 [] 0), (3, .ptr 0 3 [] 0), (4, .int .i64 i), (5, .int .i64 k)], [], [(2, LC zeroF), (3, LC ((cs.take k).foldl camF f))], [], []⟩
theorem loop10a (i : Nat) (hi : i < l.length) (hl : l[i].cames.length < 1000000) {st : St} (h0 : maskSt [0, 2, 3, 4, 5] [2, 3] [] [] st = some (S10a nl l f i 0 l[i].cames)) :
    loopW (maskSt [0, 2, 3, 4, 5] [2, 3] [] []) (Cd.run (app E) (c10.body.nth 1)) st = (c10.body.nth 1).run (app E) (S10a nl l f i l[i].cames.length l[i].cames) := by
  refine loop_eq (fun k => S10a nl l f i k l[i].cames) l[i].cames.length (fun k hk => ?_) ?_ h0
  · have hk' : (k : Int) < l[i].cames.length := by omega
    have hw := wrap_succ k (by omega)
    have hft := foldl_take camF f l[i].cames k hk
    obtain ⟨x, hx⟩ : ∃ x, x = l[i].cames[k] := ⟨_, rfl⟩
    rw [← hx] at hft
    cases b0 : x.clean <;> simp [-isPlace, -moves, isPlace_int, isPlace_bool, isPlace_str, isPlace_lst, moves_int, moves_bool, moves_str, moves_lst, LC_placeI, LC_placeI', LC_movesI, LC_cellI, LC_getE, LC_add, LC_add0, LC_put31, LC_place0, LC_place1, frzV, frzR, ss_okns, es_okns, cs_okns, mk_okns, rs_okns, ss_deps, es_deps, cs_deps, mk_deps, rs_deps, c10, Cd.nth, Cd.loops, Cd.body, S10a, Rnd.enc, Cam.enc, Frm.cs, hk, hk', hi, encs_getE, ← hx, hw, b0, hft, camF]
  · simp [c10, Cd.nth, Cd.loops, Cd.body, S10a, hi, encs_getE, Rnd.enc]
def S10b (i k : Nat) (cs : List Mrk) : St := ⟨[(0, .lst none nl 6 (Rs l)), (2, .ptr 0 2 [] 0), (3, .ptr 0 3 [] 0), (4, .int .i64 i), (6, .int .i64 k)], [], [(2, LC zeroF), (3, LC ((cs.take k).foldl lostF f))], [], []⟩
theorem loop10b (i : Nat) (hi : i < l.length) (hl : l[i].marks.length < 1000000) {st : St} (h0 : maskSt [0, 2, 3, 4, 6] [2, 3] [] [] st = some (S10b nl l f i 0 l[i].marks)) :
    loopW (maskSt [0, 2, 3, 4, 6] [2, 3] [] []) (Cd.run (app E) (c10.body.nth 2)) st = (c10.body.nth 2).run (app E) (S10b nl l f i l[i].marks.length l[i].marks) := by
  refine loop_eq (fun k => S10b nl l f i k l[i].marks) l[i].marks.length (fun k hk => ?_) ?_ h0
  · have hk' : (k : Int) < l[i].marks.length := by omega
    have hw := wrap_succ k (by omega)
    have hft := foldl_take lostF f l[i].marks k hk
    obtain ⟨x, hx⟩ : ∃ x, x = l[i].marks[k] := ⟨_, rfl⟩
    rw [← hx] at hft
    cases b0 : (x.kind == 6)
    case false => simp [-isPlace, -moves, isPlace_int, isPlace_bool, isPlace_str, isPlace_lst, moves_int, moves_bool, moves_str, moves_lst, LC_placeI, LC_placeI', LC_movesI, LC_cellI, LC_getE, LC_add, LC_add0, LC_put31, LC_place0, LC_place1, frzV, frzR, ss_okns, es_okns, cs_okns, mk_okns, rs_okns, ss_deps, es_deps, cs_deps, mk_deps, rs_deps, c10, Cd.nth, Cd.loops, Cd.body, S10b, Rnd.enc, Mrk.enc, hk, hk', hi, encs_getE, ← hx, hw, b0, hft, lostF]
    by_cases b1 : 0 < x.n
    case neg => simp [-isPlace, -moves, isPlace_int, isPlace_bool, isPlace_str, isPlace_lst, moves_int, moves_bool, moves_str, moves_lst, LC_placeI, LC_placeI', LC_movesI, LC_cellI, LC_getE, LC_add, LC_add0, LC_put31, LC_place0, LC_place1, frzV, frzR, ss_okns, es_okns, cs_okns, mk_okns, rs_okns, ss_deps, es_deps, cs_deps, mk_deps, rs_deps, c10, Cd.nth, Cd.loops, Cd.body, S10b, Rnd.enc, Mrk.enc, hk, hk', hi, encs_getE, ← hx, hw, b0, b1, hft, lostF]
    by_cases b2 : x.n ≤ 2147483647 <;> simp [-isPlace, -moves, isPlace_int, isPlace_bool, isPlace_str, isPlace_lst, moves_int, moves_bool, moves_str, moves_lst, LC_placeI, LC_placeI', LC_movesI, LC_cellI, LC_getE, LC_add, LC_add0, LC_put31, LC_place0, LC_place1, frzV, frzR, ss_okns, es_okns, cs_okns, mk_okns, rs_okns, ss_deps, es_deps, cs_deps, mk_deps, rs_deps, c10, Cd.nth, Cd.loops, Cd.body, S10b, Rnd.enc, Mrk.enc, hk, hk', hi, encs_getE, ← hx, hw, b0, b1, b2, hft, lostF]
  · simp [c10, Cd.nth, Cd.loops, Cd.body, S10b, hi, encs_getE, Rnd.enc]
def S10 (i : Nat) : St := ⟨[(0, .lst none nl 6 (Rs l)), (2, .ptr 0 2 [] 0), (3, .ptr 0 3 [] 0), (4, .int .i64 i)], [], [(2, LC zeroF), (3, LC ((l.take i).foldl refR f))], [], []⟩
theorem loop10 (hl : l.length < 1000000) (hf : ∀ r ∈ l, r.fine) {st : St} (h0 : maskSt [0, 2, 3, 4] [2, 3] [] [] st = some (S10 nl l f 0)) :
    loopW (maskSt [0, 2, 3, 4] [2, 3] [] []) (Cd.run (app E) (c10.body.nth 0)) st = (c10.body.nth 0).run (app E) (S10 nl l f l.length) := by
  refine loop_eq (S10 nl l f) l.length (fun i hi => ?_) ?_ h0
  · have hi' : (i : Int) < l.length := by omega
    have hw := wrap_succ i (by omega)
    obtain ⟨f1, f2, f3, f4⟩ := hf _ (List.getElem_mem hi)
    have hA := fun f => @loop10a nl l f i hi f2
    have hB := fun f => @loop10b nl l f i hi f3
    have hft := foldl_take refR f l i hi
    generalize hF : (l.take i).foldl refR f = F at *
    simp only [S10a, c10, Cd.nth, Cd.loops, Cd.body, List.nil_append, List.append_nil, List.cons_append, List.getElem?_cons_succ, List.getElem?_cons_zero, Option.getD_some] at hA
    simp only [S10b, c10, Cd.nth, Cd.loops, Cd.body, List.nil_append, List.append_nil, List.cons_append, List.getElem?_cons_succ, List.getElem?_cons_zero, Option.getD_some] at hB
    have hput : ∀ g : Nat → Int, List.take 31 (LC g) ++ [PV.int .i64 l[i].waits] = LC (setAt g 31 l[i].waits) := fun g => LC_put31 g f4.w
    by_cases hs : l[i].sents = []
    · by_cases hm : W (F 31) < l[i].waits
      · simp [-isPlace, -moves, isPlace_int, isPlace_bool, isPlace_str, isPlace_lst, moves_int, moves_bool, moves_str, moves_lst, LC_placeI, LC_placeI', LC_movesI, LC_cellI, LC_getE, LC_add, LC_add0, LC_put31, LC_place0, LC_place1, frzV, frzR, ss_okns, es_okns, cs_okns, mk_okns, rs_okns, ss_deps, es_deps, cs_deps, mk_deps, rs_deps, c10, Cd.nth, Cd.loops, Cd.body, S10, hi, hi', encs_getE, Rnd.enc, hs, hm, hput, hF]
        rw [hA (setAt F 31 l[i].waits) (by simp [-isPlace, -moves, isPlace_int, isPlace_bool, isPlace_str, isPlace_lst, moves_int, moves_bool, moves_str, moves_lst, LC_placeI, LC_placeI', LC_movesI, LC_cellI, LC_getE, LC_add, LC_add0, LC_put31, LC_place0, LC_place1, frzV, frzR, ss_okns, es_okns, cs_okns, mk_okns, rs_okns, ss_deps, es_deps, cs_deps, mk_deps, rs_deps])]
        simp [-isPlace, -moves, isPlace_int, isPlace_bool, isPlace_str, isPlace_lst, moves_int, moves_bool, moves_str, moves_lst, LC_placeI, LC_placeI', LC_movesI, LC_cellI, LC_getE, LC_add, LC_add0, LC_put31, LC_place0, LC_place1, frzV, frzR, ss_okns, es_okns, cs_okns, mk_okns, rs_okns, ss_deps, es_deps, cs_deps, mk_deps, rs_deps, hi, encs_getE, Rnd.enc]
        rw [hB (l[i].cames.foldl camF (setAt F 31 l[i].waits)) (by simp [-isPlace, -moves, isPlace_int, isPlace_bool, isPlace_str, isPlace_lst, moves_int, moves_bool, moves_str, moves_lst, LC_placeI, LC_placeI', LC_movesI, LC_cellI, LC_getE, LC_add, LC_add0, LC_put31, LC_place0, LC_place1, frzV, frzR, ss_okns, es_okns, cs_okns, mk_okns, rs_okns, ss_deps, es_deps, cs_deps, mk_deps, rs_deps])]
        simp [-isPlace, -moves, isPlace_int, isPlace_bool, isPlace_str, isPlace_lst, moves_int, moves_bool, moves_str, moves_lst, LC_placeI, LC_placeI', LC_movesI, LC_cellI, LC_getE, LC_add, LC_add0, LC_put31, LC_place0, LC_place1, frzV, frzR, ss_okns, es_okns, cs_okns, mk_okns, rs_okns, ss_deps, es_deps, cs_deps, mk_deps, rs_deps, hi, encs_getE, Rnd.enc, hw, hft, refR, hs, hm]
      · simp [-isPlace, -moves, isPlace_int, isPlace_bool, isPlace_str, isPlace_lst, moves_int, moves_bool, moves_str, moves_lst, LC_placeI, LC_placeI', LC_movesI, LC_cellI, LC_getE, LC_add, LC_add0, LC_put31, LC_place0, LC_place1, frzV, frzR, ss_okns, es_okns, cs_okns, mk_okns, rs_okns, ss_deps, es_deps, cs_deps, mk_deps, rs_deps, c10, Cd.nth, Cd.loops, Cd.body, S10, hi, hi', encs_getE, Rnd.enc, hs, hm, hput, hF]
        rw [hA F (by simp [-isPlace, -moves, isPlace_int, isPlace_bool, isPlace_str, isPlace_lst, moves_int, moves_bool, moves_str, moves_lst, LC_placeI, LC_placeI', LC_movesI, LC_cellI, LC_getE, LC_add, LC_add0, LC_put31, LC_place0, LC_place1, frzV, frzR, ss_okns, es_okns, cs_okns, mk_okns, rs_okns, ss_deps, es_deps, cs_deps, mk_deps, rs_deps])]
        simp [-isPlace, -moves, isPlace_int, isPlace_bool, isPlace_str, isPlace_lst, moves_int, moves_bool, moves_str, moves_lst, LC_placeI, LC_placeI', LC_movesI, LC_cellI, LC_getE, LC_add, LC_add0, LC_put31, LC_place0, LC_place1, frzV, frzR, ss_okns, es_okns, cs_okns, mk_okns, rs_okns, ss_deps, es_deps, cs_deps, mk_deps, rs_deps, hi, encs_getE, Rnd.enc]
        rw [hB (l[i].cames.foldl camF F) (by simp [-isPlace, -moves, isPlace_int, isPlace_bool, isPlace_str, isPlace_lst, moves_int, moves_bool, moves_str, moves_lst, LC_placeI, LC_placeI', LC_movesI, LC_cellI, LC_getE, LC_add, LC_add0, LC_put31, LC_place0, LC_place1, frzV, frzR, ss_okns, es_okns, cs_okns, mk_okns, rs_okns, ss_deps, es_deps, cs_deps, mk_deps, rs_deps])]
        simp [-isPlace, -moves, isPlace_int, isPlace_bool, isPlace_str, isPlace_lst, moves_int, moves_bool, moves_str, moves_lst, LC_placeI, LC_placeI', LC_movesI, LC_cellI, LC_getE, LC_add, LC_add0, LC_put31, LC_place0, LC_place1, frzV, frzR, ss_okns, es_okns, cs_okns, mk_okns, rs_okns, ss_deps, es_deps, cs_deps, mk_deps, rs_deps, hi, encs_getE, Rnd.enc, hw, hft, refR, hs, hm]
    · have hs' : 0 < l[i].sents.length := List.length_pos_iff.2 hs
      by_cases hm : W (addAt F 1 1 31) < l[i].waits
      · simp [-isPlace, -moves, isPlace_int, isPlace_bool, isPlace_str, isPlace_lst, moves_int, moves_bool, moves_str, moves_lst, LC_placeI, LC_placeI', LC_movesI, LC_cellI, LC_getE, LC_add, LC_add0, LC_put31, LC_place0, LC_place1, frzV, frzR, ss_okns, es_okns, cs_okns, mk_okns, rs_okns, ss_deps, es_deps, cs_deps, mk_deps, rs_deps, c10, Cd.nth, Cd.loops, Cd.body, S10, hi, hi', encs_getE, Rnd.enc, hs, hs', hm, hput, hF]
        rw [hA (setAt (addAt F 1 1) 31 l[i].waits) (by simp [-isPlace, -moves, isPlace_int, isPlace_bool, isPlace_str, isPlace_lst, moves_int, moves_bool, moves_str, moves_lst, LC_placeI, LC_placeI', LC_movesI, LC_cellI, LC_getE, LC_add, LC_add0, LC_put31, LC_place0, LC_place1, frzV, frzR, ss_okns, es_okns, cs_okns, mk_okns, rs_okns, ss_deps, es_deps, cs_deps, mk_deps, rs_deps])]
        simp [-isPlace, -moves, isPlace_int, isPlace_bool, isPlace_str, isPlace_lst, moves_int, moves_bool, moves_str, moves_lst, LC_placeI, LC_placeI', LC_movesI, LC_cellI, LC_getE, LC_add, LC_add0, LC_put31, LC_place0, LC_place1, frzV, frzR, ss_okns, es_okns, cs_okns, mk_okns, rs_okns, ss_deps, es_deps, cs_deps, mk_deps, rs_deps, hi, encs_getE, Rnd.enc]
        rw [hB (l[i].cames.foldl camF (setAt (addAt F 1 1) 31 l[i].waits)) (by simp [-isPlace, -moves, isPlace_int, isPlace_bool, isPlace_str, isPlace_lst, moves_int, moves_bool, moves_str, moves_lst, LC_placeI, LC_placeI', LC_movesI, LC_cellI, LC_getE, LC_add, LC_add0, LC_put31, LC_place0, LC_place1, frzV, frzR, ss_okns, es_okns, cs_okns, mk_okns, rs_okns, ss_deps, es_deps, cs_deps, mk_deps, rs_deps])]
        simp [-isPlace, -moves, isPlace_int, isPlace_bool, isPlace_str, isPlace_lst, moves_int, moves_bool, moves_str, moves_lst, LC_placeI, LC_placeI', LC_movesI, LC_cellI, LC_getE, LC_add, LC_add0, LC_put31, LC_place0, LC_place1, frzV, frzR, ss_okns, es_okns, cs_okns, mk_okns, rs_okns, ss_deps, es_deps, cs_deps, mk_deps, rs_deps, hi, encs_getE, Rnd.enc, hw, hft, refR, hs, hm]
      · simp [-isPlace, -moves, isPlace_int, isPlace_bool, isPlace_str, isPlace_lst, moves_int, moves_bool, moves_str, moves_lst, LC_placeI, LC_placeI', LC_movesI, LC_cellI, LC_getE, LC_add, LC_add0, LC_put31, LC_place0, LC_place1, frzV, frzR, ss_okns, es_okns, cs_okns, mk_okns, rs_okns, ss_deps, es_deps, cs_deps, mk_deps, rs_deps, c10, Cd.nth, Cd.loops, Cd.body, S10, hi, hi', encs_getE, Rnd.enc, hs, hs', hm, hput, hF]
        rw [hA (addAt F 1 1) (by simp [-isPlace, -moves, isPlace_int, isPlace_bool, isPlace_str, isPlace_lst, moves_int, moves_bool, moves_str, moves_lst, LC_placeI, LC_placeI', LC_movesI, LC_cellI, LC_getE, LC_add, LC_add0, LC_put31, LC_place0, LC_place1, frzV, frzR, ss_okns, es_okns, cs_okns, mk_okns, rs_okns, ss_deps, es_deps, cs_deps, mk_deps, rs_deps])]
        simp [-isPlace, -moves, isPlace_int, isPlace_bool, isPlace_str, isPlace_lst, moves_int, moves_bool, moves_str, moves_lst, LC_placeI, LC_placeI', LC_movesI, LC_cellI, LC_getE, LC_add, LC_add0, LC_put31, LC_place0, LC_place1, frzV, frzR, ss_okns, es_okns, cs_okns, mk_okns, rs_okns, ss_deps, es_deps, cs_deps, mk_deps, rs_deps, hi, encs_getE, Rnd.enc]
        rw [hB (l[i].cames.foldl camF (addAt F 1 1)) (by simp [-isPlace, -moves, isPlace_int, isPlace_bool, isPlace_str, isPlace_lst, moves_int, moves_bool, moves_str, moves_lst, LC_placeI, LC_placeI', LC_movesI, LC_cellI, LC_getE, LC_add, LC_add0, LC_put31, LC_place0, LC_place1, frzV, frzR, ss_okns, es_okns, cs_okns, mk_okns, rs_okns, ss_deps, es_deps, cs_deps, mk_deps, rs_deps])]
        simp [-isPlace, -moves, isPlace_int, isPlace_bool, isPlace_str, isPlace_lst, moves_int, moves_bool, moves_str, moves_lst, LC_placeI, LC_placeI', LC_movesI, LC_cellI, LC_getE, LC_add, LC_add0, LC_put31, LC_place0, LC_place1, frzV, frzR, ss_okns, es_okns, cs_okns, mk_okns, rs_okns, ss_deps, es_deps, cs_deps, mk_deps, rs_deps, hi, encs_getE, Rnd.enc, hw, hft, refR, hs, hm]
  · simp [c10, Cd.nth, Cd.loops, Cd.body, S10]
def clsF (g : Nat → Int) (k : Nat) : Nat → Int := setAt g (2 + k) (sentN l k (-1))
def nodF (g : Nat → Int) (k : Nat) : Nat → Int := setAt g (10 + k) (sentN l (-1) k)
theorem foldl_range {β : Type} (g : β → Nat → β) (b : β) (k : Nat) : (List.range (k + 1)).foldl g b = g ((List.range k).foldl g b) k := by rw [List.range_succ, List.foldl_append]; rfl
def S10c (k : Nat) : St := ⟨[(0, .lst none nl 6 (Rs l)), (2, .ptr 0 2 [] 0), (3, .ptr 0 3 [] 0), (8, .int .i64 k)], [], [(2, LC zeroF), (3, LC ((List.range k).foldl (clsF l) f))], [], []⟩
theorem loop10c (hl : l.length < 1000000) (hf : ∀ r ∈ l, r.fine) {st : St} (h0 : maskSt [0, 2, 3, 8] [2, 3] [] [] st = some (S10c nl l f 0)) :
    loopW (maskSt [0, 2, 3, 8] [2, 3] [] []) (Cd.run (app E) (c10.body.nth 3)) st = (c10.body.nth 3).run (app E) (S10c nl l f 8) := by
  refine loop_eq (S10c nl l f) 8 (fun k hk => ?_) ?_ h0
  · have hk' : (k : Int) < 8 := by omega
    have hk0 : (0 : Int) ≤ k := by omega
    have hk1 : 2 + k < 32 := by omega
    have hk2 : 2 + k + 1 ≤ 32 := by omega
    have hw := wrap_succ k (by omega)
    have h24 := app24 nl l k (-1) hl hf
    have hft := foldl_range (clsF l) f k
    generalize hF : (List.range k).foldl (clsF l) f = F at *
    simp [-isPlace, -moves, isPlace_int, isPlace_bool, isPlace_str, isPlace_lst, moves_int, moves_bool, moves_str, moves_lst, LC_placeI, LC_placeI', LC_movesI, LC_cellI, LC_getE, LC_add, LC_add0, LC_put31, LC_place0, LC_place1, frzV, frzR, ss_okns, es_okns, cs_okns, mk_okns, rs_okns, ss_deps, es_deps, cs_deps, mk_deps, rs_deps, c10, Cd.nth, Cd.loops, Cd.body, S10c, hk, hk', hk0, hk1, hk2, hw, hft, h24, clsF, LC_put, hF]
  · simp [c10, Cd.nth, Cd.loops, Cd.body, S10c]
def S10d (k : Nat) : St := ⟨[(0, .lst none nl 6 (Rs l)), (2, .ptr 0 2 [] 0), (3, .ptr 0 3 [] 0), (9, .int .i64 k)], [], [(2, LC zeroF), (3, LC ((List.range k).foldl (nodF l) f))], [], []⟩
theorem loop10d (hl : l.length < 1000000) (hf : ∀ r ∈ l, r.fine) {st : St} (h0 : maskSt [0, 2, 3, 9] [2, 3] [] [] st = some (S10d nl l f 0)) :
    loopW (maskSt [0, 2, 3, 9] [2, 3] [] []) (Cd.run (app E) (c10.body.nth 4)) st = (c10.body.nth 4).run (app E) (S10d nl l f 17) := by
  refine loop_eq (S10d nl l f) 17 (fun k hk => ?_) ?_ h0
  · have hk' : (k : Int) < 17 := by omega
    have hk0 : (0 : Int) ≤ k := by omega
    have hk1 : 10 + k < 32 := by omega
    have hk2 : 10 + k + 1 ≤ 32 := by omega
    have hw := wrap_succ k (by omega)
    have h24 := app24 nl l (-1) k hl hf
    have hft := foldl_range (nodF l) f k
    generalize hF : (List.range k).foldl (nodF l) f = F at *
    simp [-isPlace, -moves, isPlace_int, isPlace_bool, isPlace_str, isPlace_lst, moves_int, moves_bool, moves_str, moves_lst, LC_placeI, LC_placeI', LC_movesI, LC_cellI, LC_getE, LC_add, LC_add0, LC_put31, LC_place0, LC_place1, frzV, frzR, ss_okns, es_okns, cs_okns, mk_okns, rs_okns, ss_deps, es_deps, cs_deps, mk_deps, rs_deps, c10, Cd.nth, Cd.loops, Cd.body, S10d, hk, hk', hk0, hk1, hk2, hw, hft, h24, nodF, LC_put, hF]
  · simp [c10, Cd.nth, Cd.loops, Cd.body, S10d]
/-- The load of rounds, as the document has it. -/
def refF : Nat → Int := (List.range 17).foldl (nodF l) ((List.range 8).foldl (clsF l) (l.foldl refR (g0 l.length (markN l 3) (markN l 2))))
theorem app10 (hl : l.length < 1000000) (hf : ∀ r ∈ l, r.fine) : app E false (.fn 10 []) [.lst none nl 6 (Rs l)] [] = some (.agg (LC (refF l)), emptyBag, []) := by
  rw [app_fn E rfl h10 rfl]
  have hA := @loop10 nl l (g0 l.length (markN l 3) (markN l 2)) hl hf
  have hB := @loop10c nl l (l.foldl refR (g0 l.length (markN l 3) (markN l 2))) hl hf
  have hC := @loop10d nl l ((List.range 8).foldl (clsF l) (l.foldl refR (g0 l.length (markN l 3) (markN l 2)))) hl hf
  simp only [S10, c10, Cd.nth, Cd.loops, Cd.body, List.nil_append, List.append_nil, List.cons_append, List.getElem?_cons_succ, List.getElem?_cons_zero, Option.getD_some] at hA
  simp only [S10c, c10, Cd.nth, Cd.loops, Cd.body, List.nil_append, List.append_nil, List.cons_append, List.getElem?_cons_succ, List.getElem?_cons_zero, Option.getD_some] at hB
  simp only [S10d, c10, Cd.nth, Cd.loops, Cd.body, List.nil_append, List.append_nil, List.cons_append, List.getElem?_cons_succ, List.getElem?_cons_zero, Option.getD_some] at hC
  have h23 := fun m => app23 nl l m hl hf
  have hz := lit0 (W_id (n := l.length) (by omega) (by omega)) (markN l 3) (markN l 2)
  simp [-isPlace, -moves, isPlace_int, isPlace_bool, isPlace_str, isPlace_lst, moves_int, moves_bool, moves_str, moves_lst, LC_placeI, LC_placeI', LC_movesI, LC_cellI, LC_getE, LC_add, LC_add0, LC_put31, LC_place0, LC_place1, frzV, frzR, ss_okns, es_okns, cs_okns, mk_okns, rs_okns, ss_deps, es_deps, cs_deps, mk_deps, rs_deps, c10, h23]
  simp only [hz, ← LC_zero]
  rw [hA (by simp [-isPlace, -moves, isPlace_int, isPlace_bool, isPlace_str, isPlace_lst, moves_int, moves_bool, moves_str, moves_lst, LC_placeI, LC_placeI', LC_movesI, LC_cellI, LC_getE, LC_add, LC_add0, LC_put31, LC_place0, LC_place1, frzV, frzR, ss_okns, es_okns, cs_okns, mk_okns, rs_okns, ss_deps, es_deps, cs_deps, mk_deps, rs_deps])]
  simp [-isPlace, -moves, isPlace_int, isPlace_bool, isPlace_str, isPlace_lst, moves_int, moves_bool, moves_str, moves_lst, LC_placeI, LC_placeI', LC_movesI, LC_cellI, LC_getE, LC_add, LC_add0, LC_put31, LC_place0, LC_place1, frzV, frzR, ss_okns, es_okns, cs_okns, mk_okns, rs_okns, ss_deps, es_deps, cs_deps, mk_deps, rs_deps]
  rw [hB (by simp [-isPlace, -moves, isPlace_int, isPlace_bool, isPlace_str, isPlace_lst, moves_int, moves_bool, moves_str, moves_lst, LC_placeI, LC_placeI', LC_movesI, LC_cellI, LC_getE, LC_add, LC_add0, LC_put31, LC_place0, LC_place1, frzV, frzR, ss_okns, es_okns, cs_okns, mk_okns, rs_okns, ss_deps, es_deps, cs_deps, mk_deps, rs_deps])]
  simp [-isPlace, -moves, isPlace_int, isPlace_bool, isPlace_str, isPlace_lst, moves_int, moves_bool, moves_str, moves_lst, LC_placeI, LC_placeI', LC_movesI, LC_cellI, LC_getE, LC_add, LC_add0, LC_put31, LC_place0, LC_place1, frzV, frzR, ss_okns, es_okns, cs_okns, mk_okns, rs_okns, ss_deps, es_deps, cs_deps, mk_deps, rs_deps]
  rw [hC (by simp [-isPlace, -moves, isPlace_int, isPlace_bool, isPlace_str, isPlace_lst, moves_int, moves_bool, moves_str, moves_lst, LC_placeI, LC_placeI', LC_movesI, LC_cellI, LC_getE, LC_add, LC_add0, LC_put31, LC_place0, LC_place1, frzV, frzR, ss_okns, es_okns, cs_okns, mk_okns, rs_okns, ss_deps, es_deps, cs_deps, mk_deps, rs_deps])]
  simp [-isPlace, -moves, isPlace_int, isPlace_bool, isPlace_str, isPlace_lst, moves_int, moves_bool, moves_str, moves_lst, LC_placeI, LC_placeI', LC_movesI, LC_cellI, LC_getE, LC_add, LC_add0, LC_put31, LC_place0, LC_place1, frzV, frzR, ss_okns, es_okns, cs_okns, mk_okns, rs_okns, ss_deps, es_deps, cs_deps, mk_deps, rs_deps, refF]
end
end Go.Proofs.YtbbpkkeaddbcnaaDoor.ZJM.LD
