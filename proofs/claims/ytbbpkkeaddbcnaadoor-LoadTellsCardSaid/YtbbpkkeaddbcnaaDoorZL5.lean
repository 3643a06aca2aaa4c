/- Load: a round counts. -/
import Derived.Test.YtbbpkkeaddbcnaaDoorZL4
set_option linter.unusedSimpArgs false
set_option linter.unusedVariables false
namespace Go.Proofs.YtbbpkkeaddbcnaaDoor.ZJM.LD
open Go.Proofs.YtbbpkkeaddbcnaaDoor.ZJM Go.RowKit
/-- A node, as it counts. -/
def nod (n : Int) : Nat := if n < 1 then 0 else if n > 16 then 0 else n.toNat
theorem nod_lt (n : Int) : nod n < 17 := by unfold nod; repeat' split <;> try omega
def sentF (f : Nat → Int) (s : Snt) : Nat → Int := addAt (addAt f (2 + cls s.fr.id) 1) (10 + nod s.frm) 1
def camF (f : Nat → Int) (c : Cam) : Nat → Int := if c.clean = true then f else addAt f 27 1
theorem foldl_take {α β : Type} (g : β → α → β) (b : β) (l : List α) (i : Nat) (h : i < l.length) : (l.take (i + 1)).foldl g b = g ((l.take i).foldl g b) l[i] := by
  rw [take_succ' l i h, List.foldl_append]; rfl
def _root_.Go.Proofs.YtbbpkkeaddbcnaaDoor.ZJM.Cd.loops : Cd → List Cd
  | .seq a b => a.loops ++ b.loops
  | .block _ a => a.loops
  | .cond _ a b => a.loops ++ b.loops
  | .loop f k t d a => .loop f k t d a :: a.loops
  | _ => []
/-- The n-th loop's body. -/
def _root_.Go.Proofs.YtbbpkkeaddbcnaaDoor.ZJM.Cd.nth (c : Cd) (n : Nat) : Cd := (c.loops[n]?.getD .skip).body
section
variable (r : Rnd) (f : Nat → Int) (rc z : List PV)
def rcs (r : Rnd) : List PV := r.enc.cells
def Sa (k : Nat) : St := ⟨[(0, .ptr 0 3 [] 0), (3, .ptr 1 3 [] 0), (30, .lst none r.ns 12 (Ss r.sents)), (31, .int .i64 r.sents.length), (32, .int .i64 k)], [], [(3, rcs r)], [], [[(5, rc), (2, z), (3, LC ((r.sents.take k).foldl sentF f))]]⟩
theorem loopA (hl : r.sents.length < 1000000) {st : St} (h0 : maskSt [0, 3, 30, 31, 32] [3] [] [] st = some (Sa r f rc z 0)) :
    loopW (maskSt [0, 3, 30, 31, 32] [3] [] []) (Cd.run (app E) (c22.body.nth 0)) st = (c22.body.nth 0).run (app E) (Sa r f rc z r.sents.length) := by
  refine loop_eq (Sa r f rc z) r.sents.length (fun k hk => ?_) ?_ h0
  · have hk' : (k : Int) < r.sents.length := by omega
    have hw := wrap_succ k (by omega)
    have hft := foldl_take sentF f r.sents k hk
    obtain ⟨x, hx⟩ : ∃ x, x = r.sents[k] := ⟨_, rfl⟩
    rw [← hx] at hft
    have h11 := app11 x.fr
    simp only [Frm.enc, Frm.cs] at h11
    have hc := cls_lt x.fr.id
    have hc0 : (0 : Int) ≤ (cls x.fr.id : Int) := by omega
    have hc8 : ((cls x.fr.id : Int)) < 8 := by omega
    have hc32 : 2 + cls x.fr.id < 32 := by omega
    have hc33 : 2 + cls x.fr.id + 1 ≤ 32 := by omega
    by_cases b0 : x.frm < 1
    · have b0' : ¬ 1 ≤ x.frm := by omega
      simp [-isPlace, -moves, isPlace_int, isPlace_bool, isPlace_str, isPlace_lst, moves_int, moves_bool, moves_str, moves_lst, LC_placeI, LC_placeI', LC_movesI, LC_cellI, LC_getE, LC_add, LC_add0, LC_put31, LC_place0, LC_place1, frzV, frzR, ss_okns, es_okns, cs_okns, mk_okns, rs_okns, ss_deps, es_deps, cs_deps, mk_deps, rs_deps, c22, Cd.nth, Cd.loops, Cd.body, Sa, rcs, Rnd.enc, hk, hk', encs_getE, ← hx, Snt.enc, Frm.cs, h11, hw, ss_okns, es_okns, cs_okns, mk_okns, hc0, hc8, hc32, hc33, b0, b0', hft, sentF, nod]
    · by_cases b1 : x.frm > 16
      · have b0' : 1 ≤ x.frm := by omega
        simp [-isPlace, -moves, isPlace_int, isPlace_bool, isPlace_str, isPlace_lst, moves_int, moves_bool, moves_str, moves_lst, LC_placeI, LC_placeI', LC_movesI, LC_cellI, LC_getE, LC_add, LC_add0, LC_put31, LC_place0, LC_place1, frzV, frzR, ss_okns, es_okns, cs_okns, mk_okns, rs_okns, ss_deps, es_deps, cs_deps, mk_deps, rs_deps, c22, Cd.nth, Cd.loops, Cd.body, Sa, rcs, Rnd.enc, hk, hk', encs_getE, ← hx, Snt.enc, Frm.cs, h11, hw, ss_okns, es_okns, cs_okns, mk_okns, hc0, hc8, hc32, hc33, b0, b0', b1, hft, sentF, nod]
      · have b0' : 1 ≤ x.frm := by omega
        have b1' : x.frm ≤ 16 := by omega
        have b2 : 0 ≤ x.frm := by omega
        have b3 : x.frm < 17 := by omega
        have b4 : 10 + x.frm.toNat < 32 := by omega
        have b5 : 10 + x.frm.toNat + 1 ≤ 32 := by omega
        simp [-isPlace, -moves, isPlace_int, isPlace_bool, isPlace_str, isPlace_lst, moves_int, moves_bool, moves_str, moves_lst, LC_placeI, LC_placeI', LC_movesI, LC_cellI, LC_getE, LC_add, LC_add0, LC_put31, LC_place0, LC_place1, frzV, frzR, ss_okns, es_okns, cs_okns, mk_okns, rs_okns, ss_deps, es_deps, cs_deps, mk_deps, rs_deps, c22, Cd.nth, Cd.loops, Cd.body, Sa, rcs, Rnd.enc, hk, hk', encs_getE, ← hx, Snt.enc, Frm.cs, h11, hw, ss_okns, es_okns, cs_okns, mk_okns, hc0, hc8, hc32, hc33, b0, b0', b1, b1', b2, b3, b4, b5, hft, sentF, nod]
  · simp [c22, Cd.nth, Cd.loops, Cd.body, Sa]
def Sb (k : Nat) : St := ⟨[(0, .ptr 0 3 [] 0), (3, .ptr 1 3 [] 0), (68, .lst none r.nc 14 (Cs' r.cames)), (69, .int .i64 r.cames.length), (70, .int .i64 k)], [], [(3, rcs r)], [], [[(5, rc), (2, z), (3, LC ((r.cames.take k).foldl camF f))]]⟩
theorem loopB (hl : r.cames.length < 1000000) {st : St} (h0 : maskSt [0, 3, 68, 69, 70] [3] [] [] st = some (Sb r f rc z 0)) :
    loopW (maskSt [0, 3, 68, 69, 70] [3] [] []) (Cd.run (app E) (c22.body.nth 1)) st = (c22.body.nth 1).run (app E) (Sb r f rc z r.cames.length) := by
  refine loop_eq (Sb r f rc z) r.cames.length (fun k hk => ?_) ?_ h0
  · have hk' : (k : Int) < r.cames.length := by omega
    have hw := wrap_succ k (by omega)
    have hft := foldl_take camF f r.cames k hk
    obtain ⟨x, hx⟩ : ∃ x, x = r.cames[k] := ⟨_, rfl⟩
    rw [← hx] at hft
    cases b0 : x.clean <;> simp [-isPlace, -moves, isPlace_int, isPlace_bool, isPlace_str, isPlace_lst, moves_int, moves_bool, moves_str, moves_lst, LC_placeI, LC_placeI', LC_movesI, LC_cellI, LC_getE, LC_add, LC_add0, LC_put31, LC_place0, LC_place1, frzV, frzR, ss_okns, es_okns, cs_okns, mk_okns, rs_okns, ss_deps, es_deps, cs_deps, mk_deps, rs_deps, c22, Cd.nth, Cd.loops, Cd.body, Sb, rcs, Rnd.enc, hk, hk', encs_getE, ← hx, Cam.enc, Frm.cs, hw, ss_okns, es_okns, cs_okns, mk_okns, b0, hft, camF]
  · simp [c22, Cd.nth, Cd.loops, Cd.body, Sb]
def Sc (k : Nat) : St := ⟨[(0, .ptr 0 3 [] 0), (3, .ptr 1 3 [] 0), (86, .lst none r.nm 5 (Mk r.marks)), (87, .int .i64 r.marks.length), (88, .int .i64 k)], [], [(3, rcs r)], [], [[(5, rc), (2, z), (3, LC ((r.marks.take k).foldl markF f))]]⟩
theorem loopC (hl : r.marks.length < 1000000) {st : St} (h0 : maskSt [0, 3, 86, 87, 88] [3] [] [] st = some (Sc r f rc z 0)) :
    loopW (maskSt [0, 3, 86, 87, 88] [3] [] []) (Cd.run (app E) (c22.body.nth 2)) st = (c22.body.nth 2).run (app E) (Sc r f rc z r.marks.length) := by
  refine loop_eq (Sc r f rc z) r.marks.length (fun k hk => ?_) ?_ h0
  · have hk' : (k : Int) < r.marks.length := by omega
    have hw := wrap_succ k (by omega)
    have hft := foldl_take markF f r.marks k hk
    obtain ⟨x, hx⟩ : ∃ x, x = r.marks[k] := ⟨_, rfl⟩
    rw [← hx] at hft
    have h32 := fun own => app32 ((r.marks.take k).foldl markF f) x rc own z []
    simp only [Mrk.enc] at h32
    simp [-isPlace, -moves, isPlace_int, isPlace_bool, isPlace_str, isPlace_lst, moves_int, moves_bool, moves_str, moves_lst, LC_placeI, LC_placeI', LC_movesI, LC_cellI, LC_getE, LC_add, LC_add0, LC_put31, LC_place0, LC_place1, frzV, frzR, ss_okns, es_okns, cs_okns, mk_okns, rs_okns, ss_deps, es_deps, cs_deps, mk_deps, rs_deps, c22, Cd.nth, Cd.loops, Cd.body, Sc, rcs, Rnd.enc, hk, hk', encs_getE, ← hx, Mrk.enc, Frm.cs, hw, ss_okns, es_okns, cs_okns, mk_okns, h32, hft]
  · simp [c22, Cd.nth, Cd.loops, Cd.body, Sc]
/-- A round counts. -/
def roundF (f : Nat → Int) (r : Rnd) : Nat → Int :=
  let f1 := if r.sents = [] then addAt f 0 1 else addAt (addAt f 0 1) 1 1
  let f4 := r.marks.foldl markF (r.cames.foldl camF (r.sents.foldl sentF f1))
  setAt f4 31 (if r.waits > W (f4 31) then r.waits else W (f4 31))
theorem app22 (h1 : r.sents.length < 1000000) (h2 : r.cames.length < 1000000) (h3 : r.marks.length < 1000000) (hw : I64 r.waits) :
    app E false (.fn 22 []) [.ptr 0 3 [] 0, r.enc] [[(5, rc), (2, z), (3, LC f)]] = some (.tup [], emptyBag, [[(5, rc), (2, z), (3, LC (roundF f r))]]) := by
  rw [app_fn E rfl h22 rfl]
  have hA := fun f => @loopA r f rc z h1
  have hB := fun f => @loopB r f rc z h2
  have hC := fun f => @loopC r f rc z h3
  simp [Sa, c22, Cd.nth, Cd.loops, Cd.body, rcs, Rnd.enc] at hA
  simp [Sb, c22, Cd.nth, Cd.loops, Cd.body, rcs, Rnd.enc] at hB
  simp [Sc, c22, Cd.nth, Cd.loops, Cd.body, rcs, Rnd.enc] at hC
  have key : ∀ f1, (if r.sents = [] then addAt f 0 1 else addAt (addAt f 0 1) 1 1) = f1 → LC (roundF f r) = LC (setAt (r.marks.foldl markF (r.cames.foldl camF (r.sents.foldl sentF f1))) 31 (if r.waits > W ((r.marks.foldl markF (r.cames.foldl camF (r.sents.foldl sentF f1))) 31) then r.waits else W ((r.marks.foldl markF (r.cames.foldl camF (r.sents.foldl sentF f1))) 31))) := by
    intro f1 h; subst h; rfl
  have hmx : ∀ g : Nat → Int, W (if r.waits > W (g 31) then r.waits else W (g 31)) = if r.waits > W (g 31) then r.waits else W (g 31) := by
    intro g; split
    · exact hw.w
    · exact W_W _
  by_cases hs : r.sents = []
  · rw [key _ (if_pos hs)]
    rw [hs] at hA hB hC
    simp [-isPlace, -moves, isPlace_int, isPlace_bool, isPlace_str, isPlace_lst, moves_int, moves_bool, moves_str, moves_lst, LC_placeI, LC_placeI', LC_movesI, LC_cellI, LC_getE, LC_add, LC_add0, LC_put31, LC_place0, LC_place1, frzV, frzR, ss_okns, es_okns, cs_okns, mk_okns, rs_okns, ss_deps, es_deps, cs_deps, mk_deps, rs_deps, c22, Rnd.enc, hs]
    rw [hA (addAt f 0 1) (by simp [-isPlace, -moves, isPlace_int, isPlace_bool, isPlace_str, isPlace_lst, moves_int, moves_bool, moves_str, moves_lst, LC_placeI, LC_placeI', LC_movesI, LC_cellI, LC_getE, LC_add, LC_add0, LC_put31, LC_place0, LC_place1, frzV, frzR, ss_okns, es_okns, cs_okns, mk_okns, rs_okns, ss_deps, es_deps, cs_deps, mk_deps, rs_deps, ss_okns, es_okns, cs_okns, mk_okns])]
    simp [-isPlace, -moves, isPlace_int, isPlace_bool, isPlace_str, isPlace_lst, moves_int, moves_bool, moves_str, moves_lst, LC_placeI, LC_placeI', LC_movesI, LC_cellI, LC_getE, LC_add, LC_add0, LC_put31, LC_place0, LC_place1, frzV, frzR, ss_okns, es_okns, cs_okns, mk_okns, rs_okns, ss_deps, es_deps, cs_deps, mk_deps, rs_deps, hs]
    rw [hB (r.sents.foldl sentF (addAt f 0 1)) (by simp [-isPlace, -moves, isPlace_int, isPlace_bool, isPlace_str, isPlace_lst, moves_int, moves_bool, moves_str, moves_lst, LC_placeI, LC_placeI', LC_movesI, LC_cellI, LC_getE, LC_add, LC_add0, LC_put31, LC_place0, LC_place1, frzV, frzR, ss_okns, es_okns, cs_okns, mk_okns, rs_okns, ss_deps, es_deps, cs_deps, mk_deps, rs_deps, ss_okns, es_okns, cs_okns, mk_okns, hs])]
    simp [-isPlace, -moves, isPlace_int, isPlace_bool, isPlace_str, isPlace_lst, moves_int, moves_bool, moves_str, moves_lst, LC_placeI, LC_placeI', LC_movesI, LC_cellI, LC_getE, LC_add, LC_add0, LC_put31, LC_place0, LC_place1, frzV, frzR, ss_okns, es_okns, cs_okns, mk_okns, rs_okns, ss_deps, es_deps, cs_deps, mk_deps, rs_deps, hs]
    rw [hC (r.cames.foldl camF (r.sents.foldl sentF (addAt f 0 1))) (by simp [-isPlace, -moves, isPlace_int, isPlace_bool, isPlace_str, isPlace_lst, moves_int, moves_bool, moves_str, moves_lst, LC_placeI, LC_placeI', LC_movesI, LC_cellI, LC_getE, LC_add, LC_add0, LC_put31, LC_place0, LC_place1, frzV, frzR, ss_okns, es_okns, cs_okns, mk_okns, rs_okns, ss_deps, es_deps, cs_deps, mk_deps, rs_deps, ss_okns, es_okns, cs_okns, mk_okns, hs])]
    simp [-isPlace, -moves, isPlace_int, isPlace_bool, isPlace_str, isPlace_lst, moves_int, moves_bool, moves_str, moves_lst, LC_placeI, LC_placeI', LC_movesI, LC_cellI, LC_getE, LC_add, LC_add0, LC_put31, LC_place0, LC_place1, frzV, frzR, ss_okns, es_okns, cs_okns, mk_okns, rs_okns, ss_deps, es_deps, cs_deps, mk_deps, rs_deps, hs, hmx]
  · rw [key _ (if_neg hs)]
    have hs' : 0 < r.sents.length := List.length_pos_iff.2 hs
    simp [-isPlace, -moves, isPlace_int, isPlace_bool, isPlace_str, isPlace_lst, moves_int, moves_bool, moves_str, moves_lst, LC_placeI, LC_placeI', LC_movesI, LC_cellI, LC_getE, LC_add, LC_add0, LC_put31, LC_place0, LC_place1, frzV, frzR, ss_okns, es_okns, cs_okns, mk_okns, rs_okns, ss_deps, es_deps, cs_deps, mk_deps, rs_deps, c22, Rnd.enc, hs, hs']
    rw [hA (addAt (addAt f 0 1) 1 1) (by simp [-isPlace, -moves, isPlace_int, isPlace_bool, isPlace_str, isPlace_lst, moves_int, moves_bool, moves_str, moves_lst, LC_placeI, LC_placeI', LC_movesI, LC_cellI, LC_getE, LC_add, LC_add0, LC_put31, LC_place0, LC_place1, frzV, frzR, ss_okns, es_okns, cs_okns, mk_okns, rs_okns, ss_deps, es_deps, cs_deps, mk_deps, rs_deps, ss_okns, es_okns, cs_okns, mk_okns])]
    simp [-isPlace, -moves, isPlace_int, isPlace_bool, isPlace_str, isPlace_lst, moves_int, moves_bool, moves_str, moves_lst, LC_placeI, LC_placeI', LC_movesI, LC_cellI, LC_getE, LC_add, LC_add0, LC_put31, LC_place0, LC_place1, frzV, frzR, ss_okns, es_okns, cs_okns, mk_okns, rs_okns, ss_deps, es_deps, cs_deps, mk_deps, rs_deps, hs]
    rw [hB (r.sents.foldl sentF (addAt (addAt f 0 1) 1 1)) (by simp [-isPlace, -moves, isPlace_int, isPlace_bool, isPlace_str, isPlace_lst, moves_int, moves_bool, moves_str, moves_lst, LC_placeI, LC_placeI', LC_movesI, LC_cellI, LC_getE, LC_add, LC_add0, LC_put31, LC_place0, LC_place1, frzV, frzR, ss_okns, es_okns, cs_okns, mk_okns, rs_okns, ss_deps, es_deps, cs_deps, mk_deps, rs_deps, ss_okns, es_okns, cs_okns, mk_okns, hs])]
    simp [-isPlace, -moves, isPlace_int, isPlace_bool, isPlace_str, isPlace_lst, moves_int, moves_bool, moves_str, moves_lst, LC_placeI, LC_placeI', LC_movesI, LC_cellI, LC_getE, LC_add, LC_add0, LC_put31, LC_place0, LC_place1, frzV, frzR, ss_okns, es_okns, cs_okns, mk_okns, rs_okns, ss_deps, es_deps, cs_deps, mk_deps, rs_deps, hs]
    rw [hC (r.cames.foldl camF (r.sents.foldl sentF (addAt (addAt f 0 1) 1 1))) (by simp [-isPlace, -moves, isPlace_int, isPlace_bool, isPlace_str, isPlace_lst, moves_int, moves_bool, moves_str, moves_lst, LC_placeI, LC_placeI', LC_movesI, LC_cellI, LC_getE, LC_add, LC_add0, LC_put31, LC_place0, LC_place1, frzV, frzR, ss_okns, es_okns, cs_okns, mk_okns, rs_okns, ss_deps, es_deps, cs_deps, mk_deps, rs_deps, ss_okns, es_okns, cs_okns, mk_okns, hs])]
    simp [-isPlace, -moves, isPlace_int, isPlace_bool, isPlace_str, isPlace_lst, moves_int, moves_bool, moves_str, moves_lst, LC_placeI, LC_placeI', LC_movesI, LC_cellI, LC_getE, LC_add, LC_add0, LC_put31, LC_place0, LC_place1, frzV, frzR, ss_okns, es_okns, cs_okns, mk_okns, rs_okns, ss_deps, es_deps, cs_deps, mk_deps, rs_deps, hs, hmx]
end
/-- The load of rounds, as load.Of reckons it. -/
def ofF (l : List Rnd) : Nat → Int := l.foldl roundF zeroF
/-- What a round may be. -/
def Rnd.fine (r : Rnd) : Prop := r.sents.length < 1000000 ∧ r.cames.length < 1000000 ∧ r.marks.length < 1000000 ∧ I64 r.waits
section
variable (nl : Bool) (l : List Rnd)
def S9 (k : Nat) : St := ⟨[(2, .ptr 0 2 [] 0), (3, .ptr 0 3 [] 0), (6, .lst none nl 6 (Rs l)), (7, .int .i64 l.length), (8, .int .i64 k)], [], [(2, LC zeroF), (3, LC (ofF (l.take k)))], [], []⟩
theorem loop9 (hl : l.length < 1000000) (hf : ∀ r ∈ l, r.fine) {st : St} (h0 : maskSt [2, 3, 6, 7, 8] [2, 3] [] [] st = some (S9 nl l 0)) :
    loopW (maskSt [2, 3, 6, 7, 8] [2, 3] [] []) (Cd.run (app E) (c9.body.nth 0)) st = (c9.body.nth 0).run (app E) (S9 nl l l.length) := by
  refine loop_eq (S9 nl l) l.length (fun k hk => ?_) ?_ h0
  · have hk' : (k : Int) < l.length := by omega
    have hw := wrap_succ k (by omega)
    have hft : ofF (l.take (k + 1)) = _ := foldl_take roundF zeroF l k hk
    have hfo : List.foldl roundF zeroF (l.take k) = ofF (l.take k) := rfl
    rw [hfo] at hft
    obtain ⟨f1, f2, f3, f4⟩ := hf _ (List.getElem_mem hk)
    obtain ⟨x, hx⟩ : ∃ x, x = l[k] := ⟨_, rfl⟩
    rw [← hx] at hft f1 f2 f3 f4
    have h22 := app22 x (ofF (l.take k)) (rcs x) (LC zeroF) f1 f2 f3 f4
    simp only [Rnd.enc, rcs, PV.cells] at h22
    simp [-isPlace, -moves, isPlace_int, isPlace_bool, isPlace_str, isPlace_lst, moves_int, moves_bool, moves_str, moves_lst, LC_placeI, LC_placeI', LC_movesI, LC_cellI, LC_getE, LC_add, LC_add0, LC_put31, LC_place0, LC_place1, frzV, frzR, ss_okns, es_okns, cs_okns, mk_okns, rs_okns, ss_deps, es_deps, cs_deps, mk_deps, rs_deps, c9, Cd.nth, Cd.loops, Cd.body, S9, Rnd.enc, hk, hk', encs_getE, ← hx, hw, ss_okns, es_okns, cs_okns, mk_okns, rs_okns, h22, hft]
  · simp [c9, Cd.nth, Cd.loops, Cd.body, S9]
theorem app9 (hl : l.length < 1000000) (hf : ∀ r ∈ l, r.fine) : app E false (.fn 9 []) [.lst none nl 6 (Rs l)] [] = some (.agg (LC (ofF l)), emptyBag, []) := by
  rw [app_fn E rfl h9 rfl]
  have h := @loop9 nl l hl hf
  simp only [S9, c9, Cd.nth, Cd.loops, Cd.body, List.nil_append, List.append_nil, List.cons_append, List.getElem?_cons_succ, List.getElem?_cons_zero, Option.getD_some] at h
  simp [-isPlace, -moves, isPlace_int, isPlace_bool, isPlace_str, isPlace_lst, moves_int, moves_bool, moves_str, moves_lst, LC_placeI, LC_placeI', LC_movesI, LC_cellI, LC_getE, LC_add, LC_add0, LC_put31, LC_place0, LC_place1, frzV, frzR, ss_okns, es_okns, cs_okns, mk_okns, rs_okns, ss_deps, es_deps, cs_deps, mk_deps, rs_deps, c9, ← LC_zero]
  rw [h (by simp [-isPlace, -moves, isPlace_int, isPlace_bool, isPlace_str, isPlace_lst, moves_int, moves_bool, moves_str, moves_lst, LC_placeI, LC_placeI', LC_movesI, LC_cellI, LC_getE, LC_add, LC_add0, LC_put31, LC_place0, LC_place1, frzV, frzR, ss_okns, es_okns, cs_okns, mk_okns, rs_okns, ss_deps, es_deps, cs_deps, mk_deps, rs_deps, rs_okns, ofF])]
  simp [-isPlace, -moves, isPlace_int, isPlace_bool, isPlace_str, isPlace_lst, moves_int, moves_bool, moves_str, moves_lst, LC_placeI, LC_placeI', LC_movesI, LC_cellI, LC_getE, LC_add, LC_add0, LC_put31, LC_place0, LC_place1, frzV, frzR, ss_okns, es_okns, cs_okns, mk_okns, rs_okns, ss_deps, es_deps, cs_deps, mk_deps, rs_deps, ss_okns]
end
end Go.Proofs.YtbbpkkeaddbcnaaDoor.ZJM.LD
