/- Load: LoadAdds answers true. -/
import Derived.Test.YtbbpkkeaddbcnaaDoorZL13
set_option linter.unusedSimpArgs false
set_option linter.unusedVariables false
namespace Go.Proofs.YtbbpkkeaddbcnaaDoor.ZJM.LD
open Go.Proofs.YtbbpkkeaddbcnaaDoor.ZJM Go.RowKit
theorem sum_le {α : Type} {h : α → Int} {c : Int} : ∀ {l : List α}, (∀ x ∈ l, 0 ≤ h x ∧ h x ≤ c) → 0 ≤ (l.map h).sum ∧ (l.map h).sum ≤ l.length * c
  | [], _ => by simp
  | x :: l, H => by
    have h1 := H x List.mem_cons_self
    have h2 := sum_le fun y hy => H y (List.mem_cons_of_mem _ hy)
    rw [List.map_cons, List.sum_cons, List.length_cons]
    have : ((l.length + 1 : Nat) : Int) * c = l.length * c + c := by rw [Int.natCast_add, Int.add_mul]; simp
    omega
/-- A few of each thing. -/
def Rnd.few (r : Rnd) : Prop := r.sents.length ≤ 5 ∧ r.cames.length ≤ 5 ∧ r.marks.length ≤ 5 ∧ I64 r.waits
theorem sJ_le (j : Nat) (s : Snt) : 0 ≤ sJ j s ∧ sJ j s ≤ 2 := by unfold sJ; split <;> split <;> omega
theorem camJ_le (j : Nat) (s : Cam) : 0 ≤ camJ j s ∧ camJ j s ≤ 1 := by unfold camJ; split <;> omega
theorem lJ_le (j : Nat) (k : Mrk) : 0 ≤ lJ j k ∧ lJ j k ≤ 2147483647 := by
  unfold lJ; split
  · rename_i h; omega
  · omega
theorem mJ_le (j : Nat) (k : Mrk) : 0 ≤ mJ j k ∧ mJ j k ≤ 2147483649 := by
  have := lJ_le j k
  unfold mJ; split <;> split <;> omega
theorem mJ_le' (j : Nat) (hj : j ≠ 30) (k : Mrk) : 0 ≤ mJ j k ∧ mJ j k ≤ 2 := by
  have : lJ j k = 0 := lJ_no j hj k
  unfold mJ; rw [this]; split <;> split <;> omega
theorem busyJ_le (r : Rnd) : 0 ≤ busyJ r ∧ busyJ r ≤ 1 := by unfold busyJ; split <;> omega
theorem rJ_le (j : Nat) (r : Rnd) (h : r.few) : 0 ≤ rJ j r ∧ rJ j r ≤ 10737418300 := by
  obtain ⟨h1, h2, h3, _⟩ := h
  have a := sum_le (l := r.sents) fun s _ => sJ_le j s
  have b := sum_le (l := r.cames) fun s _ => camJ_le j s
  have c := sum_le (l := r.marks) fun s _ => mJ_le j s
  have d := busyJ_le r
  unfold rJ
  split <;> split <;> omega
theorem rJ_le' (j : Nat) (hj : j ≠ 30) (r : Rnd) (h : r.few) : 0 ≤ rJ j r ∧ rJ j r ≤ 27 := by
  obtain ⟨h1, h2, h3, _⟩ := h
  have a := sum_le (l := r.sents) fun s _ => sJ_le j s
  have b := sum_le (l := r.cames) fun s _ => camJ_le j s
  have c := sum_le (l := r.marks) fun s _ => mJ_le' j hj s
  have d := busyJ_le r
  unfold rJ
  split <;> split <;> omega
theorem tot_le (j : Nat) (l : List Rnd) (hl : l.length ≤ 40) (h : ∀ r ∈ l, r.few) : 0 ≤ tot j l ∧ tot j l ≤ 429496732000 := by
  have a := sum_le (l := l) fun r hr => rJ_le j r (h r hr)
  unfold tot; omega
theorem tot_le' (j : Nat) (hj : j ≠ 30) (l : List Rnd) (hl : l.length ≤ 40) (h : ∀ r ∈ l, r.few) : 0 ≤ tot j l ∧ tot j l ≤ 1080 := by
  have a := sum_le (l := l) fun r hr => rJ_le' j hj r (h r hr)
  unfold tot; omega
theorem tot_append (j : Nat) (a b : List Rnd) : tot j (a ++ b) = tot j a + tot j b := by unfold tot; rw [List.map_append, List.sum_append]
/-- The most that waited. -/
def mxr (m : Int) (r : Rnd) : Int := max m r.waits
def most (l : List Rnd) : Int := l.foldl mxr 0
theorem fold_mx : ∀ (l : List Rnd) (f : Nat → Int), I64 (f 31) → (∀ r ∈ l, r.few) → (l.foldl roundF f) 31 = l.foldl mxr (f 31) ∧ I64 (l.foldl mxr (f 31))
  | [], f, h, _ => ⟨rfl, h⟩
  | r :: l, f, h, hl => by
    have hr := (hl r List.mem_cons_self).2.2.2
    have e : roundF f r 31 = mxr (f 31) r := by rw [round_31, h.w]; unfold mxr; split <;> omega
    have h' : I64 (roundF f r 31) := by rw [e]; unfold I64 mxr at *; omega
    have := fold_mx l (roundF f r) h' fun y hy => hl y (List.mem_cons_of_mem _ hy)
    rw [e] at this
    exact this
theorem ofF_31 (l : List Rnd) (h : ∀ r ∈ l, r.few) : ofF l 31 = most l ∧ I64 (most l) := fold_mx l zeroF (by unfold I64 zeroF; omega) h
theorem mx_max : ∀ (l : List Rnd) (c d : Int), l.foldl mxr (max c d) = max c (l.foldl mxr d)
  | [], c, d => rfl
  | r :: l, c, d => by
    rw [List.foldl_cons, List.foldl_cons]
    have : mxr (max c d) r = max c (mxr d r) := by unfold mxr; omega
    rw [this, mx_max l]
theorem most_pos (l : List Rnd) : 0 ≤ most l := by
  have := mx_max l 0 0
  unfold most
  have e : max (0 : Int) 0 = 0 := by omega
  rw [e] at this
  omega
theorem most_append (a b : List Rnd) : most (a ++ b) = max (most a) (most b) := by
  have := mx_max b (most a) 0
  have h0 := most_pos a
  rw [show max (most a) 0 = most a by omega] at this
  unfold most at *
  rw [List.foldl_append, this]
theorem num_id {n : Int} (h : 0 ≤ n) (h' : n ≤ 2147483647) : num n = n := by unfold num; rw [if_pos ⟨h, h'⟩]
theorem num_tot (l : List Rnd) (hl : l.length ≤ 40) (h : ∀ r ∈ l, r.few) (hh : hugeB l = false) (j : Nat) (hj : j ≠ 31) : num (W (ofF l j)) = tot j l := by
  rw [ofF_at hj]
  unfold hugeB at hh
  simp only [Bool.or_eq_false_iff, decide_eq_false_iff_not] at hh
  by_cases h30 : j = 30
  · subst h30
    have a := tot_le 30 l hl h
    have e : W (tot 30 l) = tot 30 l := W_id (by omega) (by omega)
    have b := hh.1
    rw [ofF_at (by omega), e] at b
    rw [e, num_id a.1 (by omega)]
  · have a := tot_le' j h30 l hl h
    rw [W_id (by omega) (by omega), num_id a.1 (by omega)]
theorem num_most (l : List Rnd) (hl : l.length ≤ 40) (h : ∀ r ∈ l, r.few) (hh : hugeB l = false) : num (W (ofF l 31)) = most l := by
  obtain ⟨e, i⟩ := ofF_31 l h
  unfold hugeB at hh
  simp only [Bool.or_eq_false_iff, decide_eq_false_iff_not] at hh
  have b := hh.2
  rw [e, i.w] at b
  rw [e, i.w, num_id (most_pos l) (by omega)]
/-- THE LOADS OF TWO PARTS, ADDED UP, ARE THE LOAD OF BOTH. -/
theorem add_of (a b : List Rnd) (ha : a.length ≤ 20) (hb : b.length ≤ 20) (fa : ∀ r ∈ a, r.few) (fb : ∀ r ∈ b, r.few) (h1 : hugeB a = false) (h2 : hugeB b = false) : LC (addF (ofF a) (ofF b)) = LC (ofF (a ++ b)) := by
  refine LC_ext _ fun j hj => ?_
  congr 1
  unfold addF
  by_cases h31 : j = 31
  · subst h31
    rw [if_pos rfl]
    unfold mxN
    rw [num_most a (by omega) fa h1, num_most b (by omega) fb h2, (ofF_31 (a ++ b) fun r hr => by rcases List.mem_append.1 hr with h | h; exact fa r h; exact fb r h).1, most_append]
    split <;> omega
  · rw [if_neg h31]
    unfold sumN
    rw [num_tot a (by omega) fa h1 j h31, num_tot b (by omega) fb h2 j h31, ofF_at h31, tot_append]
set_option maxRecDepth 100000 in
set_option maxHeartbeats 2000000 in
theorem app6 (na nb : Bool) (a b : List Rnd) (ha : ∀ r ∈ a, I64 r.waits) (hb : ∀ r ∈ b, I64 r.waits) (f g : Nat → Int) :
    app E false (.fn 6 []) [.lst none na 6 (Rs a), .lst none nb 6 (Rs b), .agg (LC f), .agg (LC g)] [] = some (.bool true, emptyBag, []) := by
  rw [app_fn E rfl h6 rfl]
  have ka := few_fine a ha
  have kb := few_fine b hb
  have la := few_len a
  have lb := few_len b
  have fa : ∀ r ∈ few a, r.fine := fun r hr => fine_of (ka r hr)
  have fb : ∀ r ∈ few b, r.fine := fun r hr => fine_of (kb r hr)
  have a7 := app7 na a
  have b7 := app7 nb b
  have a9 := app9 false (few a) (by omega) fa
  have b9 := app9 false (few b) (by omega) fb
  have d9 := app9 false (few a ++ few b) (by simp; omega) (fun r hr => by rcases List.mem_append.1 hr with h | h; exact fa r h; exact fb r h)
  have a20 := app20 false (few a) (by omega) fa
  have b20 := app20 false (few b) (by omega) fb
  have d21 := app21 f g
  have d19 := app19 f g
  have e21 := app21 (ofF (few a)) (ofF (few b))
  have m1 : (few a).length * 112 ≤ maxBytes := by unfold maxBytes; omega
  have m2 : ((few a).length + (few b).length) * 112 ≤ maxBytes := by unfold maxBytes; omega
  rw [show Rs (few a ++ few b) = Rs (few a) ++ Rs (few b) from encs_append _ _] at d9
  cases ga : hugeB (few a)
  · cases gb : hugeB (few b)
    · have hadd := add_of (few a) (few b) la lb ka kb ga gb
      rw [hadd] at e21
      rw [ga] at a20
      rw [gb] at b20
      simp [-isPlace, -moves, isPlace_int, isPlace_bool, isPlace_str, isPlace_lst, moves_int, moves_bool, moves_str, moves_lst, LC_placeI, LC_placeI', LC_movesI, LC_cellI, LC_getE, LC_add, LC_add0, LC_put31, LC_place0, LC_place1, frzV, frzR, ss_okns, es_okns, cs_okns, mk_okns, rs_okns, ss_deps, es_deps, cs_deps, mk_deps, rs_deps, c6, ← LC_zero, deps_append, okns_append, a7, b7, app8, a9, b9, d9, a20, b20, d21, d19, e21, m1, m2]
    · rw [ga] at a20
      rw [gb] at b20
      simp [-isPlace, -moves, isPlace_int, isPlace_bool, isPlace_str, isPlace_lst, moves_int, moves_bool, moves_str, moves_lst, LC_placeI, LC_placeI', LC_movesI, LC_cellI, LC_getE, LC_add, LC_add0, LC_put31, LC_place0, LC_place1, frzV, frzR, ss_okns, es_okns, cs_okns, mk_okns, rs_okns, ss_deps, es_deps, cs_deps, mk_deps, rs_deps, c6, ← LC_zero, deps_append, okns_append, a7, b7, app8, a9, b9, d9, a20, b20, d21, d19, m1, m2]
  · rw [ga] at a20
    simp [-isPlace, -moves, isPlace_int, isPlace_bool, isPlace_str, isPlace_lst, moves_int, moves_bool, moves_str, moves_lst, LC_placeI, LC_placeI', LC_movesI, LC_cellI, LC_getE, LC_add, LC_add0, LC_put31, LC_place0, LC_place1, frzV, frzR, ss_okns, es_okns, cs_okns, mk_okns, rs_okns, ss_deps, es_deps, cs_deps, mk_deps, rs_deps, c6, ← LC_zero, deps_append, okns_append, a7, b7, app8, a9, b9, d9, a20, b20, d21, d19, m1, m2]
theorem ints_of : ∀ {n : Nat} {ys : List PV}, CT.hass (List.replicate n (.int .i64)) ys → ∃ ns : List Int, ns.length = n ∧ (∀ x ∈ ns, I64 x) ∧ ys = ns.map (.int .i64)
  | 0, ys, h => by simp only [List.replicate, CT.hass] at h; subst h; exact ⟨[], rfl, (fun x hx => by cases hx), rfl⟩
  | n + 1, ys, h => by
    rw [List.replicate_succ, CT.hass] at h
    obtain ⟨v, r, rfl, h1, h2⟩ := h
    obtain ⟨x, rfl, hx⟩ := int_of (x := v) (by simp only [CT.val, CT.hass]; exact ⟨_, _, rfl, h1, rfl⟩)
    obtain ⟨ns, e1, e2, rfl⟩ := ints_of h2
    exact ⟨x :: ns, by simp [e1], fun y hy => by rcases List.mem_cons.1 hy with rfl | hy; exact hx; exact e2 y hy, rfl⟩
theorem load_of {x : PV} (h : CT.val true (List.replicate 32 (.int .i64)) x) : ∃ f : Nat → Int, (∀ j, I64 (f j)) ∧ x = .agg (LC f) := by
  obtain ⟨ys, rfl, h⟩ := h
  obtain ⟨ns, e1, e2, rfl⟩ := ints_of h
  have hI : ∀ j, I64 (ns.getD j 0) := by
    intro j
    by_cases hj : j < ns.length
    · rw [List.getD_eq_getElem?_getD, List.getElem?_eq_getElem hj]; exact e2 _ (List.getElem_mem hj)
    · rw [List.getD_eq_getElem?_getD, List.getElem?_eq_none (by omega)]; unfold I64; simp
  refine ⟨fun j => ns.getD j 0, hI, ?_⟩
  congr 1
  apply List.ext_getElem?
  intro i
  by_cases hi : i < 32
  · rw [LC_get _ hi, (hI i).w, List.getElem?_map, List.getElem?_eq_getElem (by omega), List.getD_eq_getElem?_getD, List.getElem?_eq_getElem (by omega)]; rfl
  · rw [List.getElem?_eq_none (by simp; omega), List.getElem?_eq_none (by simp; omega)]
abbrev loadT : List CT := [.int .i64, .int .i64, .int .i64, .int .i64, .int .i64, .int .i64, .int .i64, .int .i64, .int .i64, .int .i64, .int .i64, .int .i64, .int .i64, .int .i64, .int .i64, .int .i64, .int .i64, .int .i64, .int .i64, .int .i64, .int .i64, .int .i64, .int .i64, .int .i64, .int .i64, .int .i64, .int .i64, .int .i64, .int .i64, .int .i64, .int .i64, .int .i64]
theorem law6 {e1 e2 e3 e4 e5 e6 e7 e8 : Nat} {x0 x1 x2 x3 : PV} (c0 : CT.val false [.lst true 112 (rndT e1 e2 e3 e4)] x0) (c1 : CT.val false [.lst true 112 (rndT e5 e6 e7 e8)] x1) (c2 : CT.val true loadT x2) (c3 : CT.val true loadT x3) :
    app E false (.fn 6 []) [x0, x1, x2, x3] [] = some (.bool true, emptyBag, []) := by
  obtain ⟨na, a, _, ha, rfl⟩ := rnds_of c0
  obtain ⟨nb, b, _, hb, rfl⟩ := rnds_of c1
  obtain ⟨f, _, rfl⟩ := load_of c2
  obtain ⟨g, _, rfl⟩ := load_of c3
  exact app6 na nb a b ha hb f g
end Go.Proofs.YtbbpkkeaddbcnaaDoor.ZJM.LD
