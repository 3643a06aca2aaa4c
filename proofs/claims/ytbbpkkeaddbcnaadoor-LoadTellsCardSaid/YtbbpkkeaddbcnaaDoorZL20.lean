/- Load: the busiest node; the share. -/
import Derived.Test.YtbbpkkeaddbcnaaDoorZL19
set_option linter.unusedSimpArgs false
set_option linter.unusedVariables false
namespace Go.Proofs.YtbbpkkeaddbcnaaDoor.ZJM.LD
open Go.Proofs.YtbbpkkeaddbcnaaDoor.ZJM Go.RowKit
/-- The best so far. -/
def bestF (v : Nat → Int) : Nat → Nat × Int
  | 0 => (0, 0)
  | i + 1 => if 0 < i ∧ (bestF v i).2 < v i then (i, v i) else bestF v i
theorem bestF_ok (v : Nat → Int) : ∀ i : Nat, 0 ≤ (bestF v i).2 ∧ (∀ j, 1 ≤ j → j < i → v j ≤ (bestF v i).2) ∧
    (((bestF v i).2 = 0 ∧ (bestF v i).1 = 0) ∨ (1 ≤ (bestF v i).1 ∧ (bestF v i).1 < i ∧ v (bestF v i).1 = (bestF v i).2 ∧ 0 < (bestF v i).2 ∧ ∀ j, 1 ≤ j → j < (bestF v i).1 → v j < (bestF v i).2))
  | 0 => by simp [bestF]
  | i + 1 => by
    obtain ⟨h1, h2, h3⟩ := bestF_ok v i
    unfold bestF
    by_cases hc : 0 < i ∧ (bestF v i).2 < v i
    · rw [if_pos hc]
      refine ⟨by simp only; omega, fun j a b => ?_, .inr ⟨by simp only; omega, by simp only; omega, rfl, by simp only; omega, fun j a b => ?_⟩⟩
      · simp only
        by_cases hj : j = i
        · subst hj; omega
        · have := h2 j a (by omega); omega
      · simp only at b ⊢
        have := h2 j a b; omega
    · rw [if_neg hc]
      refine ⟨h1, fun j a b => ?_, ?_⟩
      · by_cases hj : j = i
        · subst hj; omega
        · exact h2 j a (by omega)
      · rcases h3 with h3 | ⟨a, b, c, d, e⟩
        · exact .inl h3
        · exact .inr ⟨a, by omega, c, d, e⟩
section
variable (f : Nat → Int)
def nv (j : Nat) : Int := W (f (10 + j))
def S13 (i : Nat) : St := ⟨[(4, .int .i64 (bestF (nv f) i).1), (5, .int .i64 (bestF (nv f) i).2), (9, .agg (List.take 17 (List.drop 10 (LC f)))), (10, .int .i64 i)], [], [], [], []⟩
theorem loop13 {st : St} (h0 : maskSt [4, 5, 9, 10] [] [] [] st = some (S13 f 0)) :
    loopW (maskSt [4, 5, 9, 10] [] [] []) (Cd.run (app E) (c13.body.nth 0)) st = (c13.body.nth 0).run (app E) (S13 f 17) := by
  refine loop_eq (S13 f) 17 (fun k hk => ?_) ?_ h0
  · have hk' : (k : Int) < 17 := by omega
    have hk0 : (0 : Int) ≤ k := by omega
    have hw := wrap_succ k (by omega)
    have hv : W (f (10 + k)) = nv f k := rfl
    simp only [S13, bestF]
    by_cases a0 : 0 < k
    · have a0' : (0 : Int) < (k : Int) := by omega
      by_cases a1 : (bestF (nv f) k).2 < nv f k
      · rw [if_pos ⟨a0, a1⟩]
        simp [-isPlace, -moves, isPlace_int, isPlace_bool, isPlace_str, isPlace_lst, moves_int, moves_bool, moves_str, moves_lst, LC_placeI, LC_placeI', LC_movesI, LC_cellI, LC_getE, LC_add, LC_add0, LC_put31, LC_place0, LC_place1, frzV, frzR, ss_okns, es_okns, cs_okns, mk_okns, rs_okns, ss_deps, es_deps, cs_deps, mk_deps, rs_deps, c13, Cd.nth, Cd.loops, Cd.body, hk, hk', hk0, hw, a0, a0', hv, a1, LC_outS, LC_cellS, LC_oknsS]
      · rw [if_neg (fun h => a1 h.2)]
        simp [-isPlace, -moves, isPlace_int, isPlace_bool, isPlace_str, isPlace_lst, moves_int, moves_bool, moves_str, moves_lst, LC_placeI, LC_placeI', LC_movesI, LC_cellI, LC_getE, LC_add, LC_add0, LC_put31, LC_place0, LC_place1, frzV, frzR, ss_okns, es_okns, cs_okns, mk_okns, rs_okns, ss_deps, es_deps, cs_deps, mk_deps, rs_deps, c13, Cd.nth, Cd.loops, Cd.body, hk, hk', hk0, hw, a0, a0', hv, a1, LC_outS, LC_cellS, LC_oknsS]
    · have e : k = 0 := by omega
      subst e
      rw [if_neg (fun h => a0 h.1)]
      simp [-isPlace, -moves, isPlace_int, isPlace_bool, isPlace_str, isPlace_lst, moves_int, moves_bool, moves_str, moves_lst, LC_placeI, LC_placeI', LC_movesI, LC_cellI, LC_getE, LC_add, LC_add0, LC_put31, LC_place0, LC_place1, frzV, frzR, ss_okns, es_okns, cs_okns, mk_okns, rs_okns, ss_deps, es_deps, cs_deps, mk_deps, rs_deps, c13, Cd.nth, Cd.loops, Cd.body, LC_outS, LC_cellS, LC_oknsS, wrap_one]
  · simp [c13, Cd.nth, Cd.loops, Cd.body, S13]
theorem app13 : app E false (.fn 13 []) [.agg (LC f)] [] = some (.tup [.int .i64 (bestF (nv f) 17).1, .bool (decide ((bestF (nv f) 17).2 > 0))], emptyBag, []) := by
  rw [app_fn E rfl h13 rfl]
  have h := @loop13 f
  simp only [S13, c13, Cd.nth, Cd.loops, Cd.body, List.nil_append, List.append_nil, List.cons_append, List.getElem?_cons_succ, List.getElem?_cons_zero, Option.getD_some] at h
  simp [-isPlace, -moves, isPlace_int, isPlace_bool, isPlace_str, isPlace_lst, moves_int, moves_bool, moves_str, moves_lst, LC_placeI, LC_placeI', LC_movesI, LC_cellI, LC_getE, LC_add, LC_add0, LC_put31, LC_place0, LC_place1, frzV, frzR, ss_okns, es_okns, cs_okns, mk_okns, rs_okns, ss_deps, es_deps, cs_deps, mk_deps, rs_deps, c13, LC_outS, LC_cellS, LC_oknsS]
  rw [h (by simp [-isPlace, -moves, isPlace_int, isPlace_bool, isPlace_str, isPlace_lst, moves_int, moves_bool, moves_str, moves_lst, LC_placeI, LC_placeI', LC_movesI, LC_cellI, LC_getE, LC_add, LC_add0, LC_put31, LC_place0, LC_place1, frzV, frzR, ss_okns, es_okns, cs_okns, mk_okns, rs_okns, ss_deps, es_deps, cs_deps, mk_deps, rs_deps, bestF, LC_oknsS])]
  simp [-isPlace, -moves, isPlace_int, isPlace_bool, isPlace_str, isPlace_lst, moves_int, moves_bool, moves_str, moves_lst, LC_placeI, LC_placeI', LC_movesI, LC_cellI, LC_getE, LC_add, LC_add0, LC_put31, LC_place0, LC_place1, frzV, frzR, ss_okns, es_okns, cs_okns, mk_okns, rs_okns, ss_deps, es_deps, cs_deps, mk_deps, rs_deps]
/-- Is a node the best, as far as looked. -/
def bt (v : Nat → Int) (n : Nat) : Nat → Bool
  | 0 => decide (0 < v n)
  | t + 1 => bt v n t && !decide (v (t + 1) > v n)
theorem bt_iff (v : Nat → Int) (n : Nat) : ∀ t, bt v n t = true ↔ 0 < v n ∧ ∀ j, 1 ≤ j → j ≤ t → v j ≤ v n
  | 0 => by simp [bt]; intro _ j; omega
  | t + 1 => by
    unfold bt
    rw [Bool.and_eq_true, bt_iff v n t]
    simp only [Bool.not_eq_true', decide_eq_false_iff_not]
    constructor
    · rintro ⟨⟨h1, h2⟩, h3⟩
      refine ⟨h1, fun j a b => ?_⟩
      by_cases hj : j = t + 1
      · subst hj; omega
      · exact h2 j a (by omega)
    · rintro ⟨h1, h2⟩
      have := h2 (t + 1) (by omega) (by omega)
      exact ⟨⟨h1, fun j a b => h2 j a (by omega)⟩, by omega⟩
def S14b (n t : Nat) : St := ⟨[(1, .ptr 0 1 [] 0), (4, .int .i64 n), (5, .bool (bt (nv f) n t)), (6, .int .i64 ((t + 1 : Nat) : Int))], [], [(1, LC f)], [], []⟩
theorem loop14b (n : Nat) (hn : 1 ≤ n ∧ n < 17) {st : St} (h0 : maskSt [1, 4, 5, 6] [1] [] [] st = some (S14b f n 0)) :
    loopW (maskSt [1, 4, 5, 6] [1] [] []) (Cd.run (app E) (c14.body.nth 1)) st = (c14.body.nth 1).run (app E) (S14b f n 16) := by
  refine loop_eq (S14b f n) 16 (fun t ht => ?_) ?_ h0
  · obtain ⟨k, hkt⟩ : ∃ k, k = t + 1 := ⟨_, rfl⟩
    have hk' : (k : Int) < 17 := by omega
    have hk0 : (0 : Int) ≤ k := by omega
    have hk1 : 10 + k < 32 := by omega
    have hk17 : k < 17 := by omega
    have hn' : (n : Int) < 17 := by omega
    have hn0 : (0 : Int) ≤ n := by omega
    have hn1 : 10 + n < 32 := by omega
    have hw := wrap_succ k (by omega)
    have hv : W (f (10 + k)) = nv f k := rfl
    have hvn : W (f (10 + n)) = nv f n := rfl
    simp only [S14b, bt, ← hkt]
    generalize bt (nv f) n t = b
    clear hkt ht
    by_cases a1 : nv f n < nv f k
    · simp [-isPlace, -moves, isPlace_int, isPlace_bool, isPlace_str, isPlace_lst, moves_int, moves_bool, moves_str, moves_lst, LC_placeI, LC_placeI', LC_movesI, LC_cellI, LC_getE, LC_add, LC_add0, LC_put31, LC_place0, LC_place1, frzV, frzR, ss_okns, es_okns, cs_okns, mk_okns, rs_okns, ss_deps, es_deps, cs_deps, mk_deps, rs_deps, c14, Cd.nth, Cd.loops, Cd.body, hk', hk0, hk1, hk17, hn.2, hn', hn0, hn1, hw, hv, hvn, a1]
    · simp [-isPlace, -moves, isPlace_int, isPlace_bool, isPlace_str, isPlace_lst, moves_int, moves_bool, moves_str, moves_lst, LC_placeI, LC_placeI', LC_movesI, LC_cellI, LC_getE, LC_add, LC_add0, LC_put31, LC_place0, LC_place1, frzV, frzR, ss_okns, es_okns, cs_okns, mk_okns, rs_okns, ss_deps, es_deps, cs_deps, mk_deps, rs_deps, c14, Cd.nth, Cd.loops, Cd.body, hk', hk0, hk1, hk17, hn.2, hn', hn0, hn1, hw, hv, hvn, a1]
  · simp [c14, Cd.nth, Cd.loops, Cd.body, S14b]
def S14 (n : Nat) : St := ⟨[(1, .ptr 0 1 [] 0), (4, .int .i64 n)], [], [(1, LC f)], [], []⟩
def Q14 (e : Ex) (st : St) : Prop := (e = .ret ∧ ∃ f', st = ⟨(3, .bool true) :: (2, .int .i64 (bestF (nv f) 17).1) :: f', [], [(1, LC f)], [], []⟩ ∧ 0 < (bestF (nv f) 17).2) ∨ (e = .exit 0 ∧ (bestF (nv f) 17).2 = 0 ∧ (bestF (nv f) 17).1 = 0 ∧ ∃ f', st = ⟨f', [], [(1, LC f)], [], []⟩)
theorem loop14 {st : St} (h0 : maskSt [1, 4] [1] [] [] st = some (S14 f 1)) :
    ∃ e st', loopW (maskSt [1, 4] [1] [] []) (Cd.run (app E) (c14.body.nth 0)) st = some (e, st') ∧ e ≠ .normal ∧ Q14 f e st' := by
  obtain ⟨b1, b2, b3⟩ := bestF_ok (nv f) 17
  refine loop_inv (fun i S => S = S14 f (i + 1) ∧ ∀ j, 1 ≤ j → j ≤ i → bt (nv f) j 16 = false) 16 (Q14 f) h0 ⟨rfl, fun j a b => by omega⟩ ?_ ?_
  · rintro i S hi ⟨rfl, hp⟩
    obtain ⟨n, hnd⟩ : ∃ n, n = i + 1 := ⟨_, rfl⟩
    rw [← hnd]
    have hn : 1 ≤ n ∧ n < 17 := by omega
    have hn' : (n : Int) < 17 := by omega
    have hn0 : (0 : Int) ≤ n := by omega
    have hn1 : 10 + n < 32 := by omega
    have hw := wrap_succ n (by omega)
    have hvn : W (f (10 + n)) = nv f n := rfl
    have hb := @loop14b f n hn
    have hb0 : bt (nv f) n 0 = decide (0 < nv f n) := rfl
    simp only [S14b, c14, Cd.nth, Cd.loops, Cd.body, List.nil_append, List.append_nil, List.cons_append, List.getElem?_cons_succ, List.getElem?_cons_zero, Option.getD_some, hb0, Nat.zero_add] at hb
    cases hbt : bt (nv f) n 16
    · left
      have g : Goes (maskSt [1, 4] [1] [] []) (S14 f (n + 1)) (Cd.run (app E) (c14.body.nth 0) (S14 f n)) := by
        rw [hbt] at hb
        simp [-isPlace, -moves, isPlace_int, isPlace_bool, isPlace_str, isPlace_lst, moves_int, moves_bool, moves_str, moves_lst, LC_placeI, LC_placeI', LC_movesI, LC_cellI, LC_getE, LC_add, LC_add0, LC_put31, LC_place0, LC_place1, frzV, frzR, ss_okns, es_okns, cs_okns, mk_okns, rs_okns, ss_deps, es_deps, cs_deps, mk_deps, rs_deps, c14, Cd.nth, Cd.loops, Cd.body, S14, hn.2, hn', hn0, hn1, hvn]
        rw [hb (by simp [-isPlace, -moves, isPlace_int, isPlace_bool, isPlace_str, isPlace_lst, moves_int, moves_bool, moves_str, moves_lst, LC_placeI, LC_placeI', LC_movesI, LC_cellI, LC_getE, LC_add, LC_add0, LC_put31, LC_place0, LC_place1, frzV, frzR, ss_okns, es_okns, cs_okns, mk_okns, rs_okns, ss_deps, es_deps, cs_deps, mk_deps, rs_deps])]
        simp [-isPlace, -moves, isPlace_int, isPlace_bool, isPlace_str, isPlace_lst, moves_int, moves_bool, moves_str, moves_lst, LC_placeI, LC_placeI', LC_movesI, LC_cellI, LC_getE, LC_add, LC_add0, LC_put31, LC_place0, LC_place1, frzV, frzR, ss_okns, es_okns, cs_okns, mk_okns, rs_okns, ss_deps, es_deps, cs_deps, mk_deps, rs_deps, hw]
      obtain ⟨st2, x, y⟩ := g.get
      refine ⟨st2, _, x, y, rfl, fun j a b => ?_⟩
      by_cases hj : j = n
      · subst hj; exact hbt
      · exact hp j a (by omega)
    · right
      have hbest := (bt_iff (nv f) n 16).1 hbt
      have hfin : (bestF (nv f) 17).1 = n ∧ 0 < (bestF (nv f) 17).2 := by
        have h1 := b2 n hn.1 hn.2
        rcases b3 with ⟨c1, c2⟩ | ⟨c1, c2, c3, c4, c5⟩
        · omega
        · refine ⟨?_, c4⟩
          have h2 := hbest.2 _ c1 (by omega)
          rcases Nat.lt_trichotomy (bestF (nv f) 17).1 n with h | h | h
          · have h3 := hp _ c1 (by omega)
            have h4 : bt (nv f) (bestF (nv f) 17).1 16 = true := (bt_iff _ _ _).2 ⟨by omega, fun j a b => by have := b2 j a (by omega); omega⟩
            rw [h4] at h3; cases h3
          · exact h
          · have := c5 n hn.1 h; omega
      rw [hbt] at hb
      simp [-isPlace, -moves, isPlace_int, isPlace_bool, isPlace_str, isPlace_lst, moves_int, moves_bool, moves_str, moves_lst, LC_placeI, LC_placeI', LC_movesI, LC_cellI, LC_getE, LC_add, LC_add0, LC_put31, LC_place0, LC_place1, frzV, frzR, ss_okns, es_okns, cs_okns, mk_okns, rs_okns, ss_deps, es_deps, cs_deps, mk_deps, rs_deps, c14, Cd.nth, Cd.loops, Cd.body, S14, hn.2, hn', hn0, hn1, hvn]
      rw [hb (by simp [-isPlace, -moves, isPlace_int, isPlace_bool, isPlace_str, isPlace_lst, moves_int, moves_bool, moves_str, moves_lst, LC_placeI, LC_placeI', LC_movesI, LC_cellI, LC_getE, LC_add, LC_add0, LC_put31, LC_place0, LC_place1, frzV, frzR, ss_okns, es_okns, cs_okns, mk_okns, rs_okns, ss_deps, es_deps, cs_deps, mk_deps, rs_deps])]
      simp [-isPlace, -moves, isPlace_int, isPlace_bool, isPlace_str, isPlace_lst, moves_int, moves_bool, moves_str, moves_lst, LC_placeI, LC_placeI', LC_movesI, LC_cellI, LC_getE, LC_add, LC_add0, LC_put31, LC_place0, LC_place1, frzV, frzR, ss_okns, es_okns, cs_okns, mk_okns, rs_okns, ss_deps, es_deps, cs_deps, mk_deps, rs_deps, EndsL, Q14, hfin]
  · rintro S ⟨rfl, hp⟩
    have hno : (bestF (nv f) 17).2 = 0 ∧ (bestF (nv f) 17).1 = 0 := by
      rcases b3 with h | ⟨c1, c2, c3, c4, c5⟩
      · exact h
      · have h3 := hp _ c1 (by omega)
        have h4 : bt (nv f) (bestF (nv f) 17).1 16 = true := (bt_iff _ _ _).2 ⟨by omega, fun j a b => by have := b2 j a (by omega); omega⟩
        rw [h4] at h3; cases h3
    simp [c14, Cd.nth, Cd.loops, Cd.body, S14, EndsL, Q14, hno]
theorem app14 : app E false (.fn 14 []) [.agg (LC f)] [] = some (.tup [.int .i64 (bestF (nv f) 17).1, .bool (decide ((bestF (nv f) 17).2 > 0))], emptyBag, []) := by
  rw [app_fn E rfl h14 rfl]
  obtain ⟨e, st', h1, h2, h3⟩ := @loop14 f ⟨[(4, .int .i64 1), (3, .bool false), (2, .int .i64 0), (1, .ptr 0 1 [] 0), (0, .agg (LC f))], [], [(1, LC f)], [], []⟩ (by simp [-isPlace, -moves, isPlace_int, isPlace_bool, isPlace_str, isPlace_lst, moves_int, moves_bool, moves_str, moves_lst, LC_placeI, LC_placeI', LC_movesI, LC_cellI, LC_getE, LC_add, LC_add0, LC_put31, LC_place0, LC_place1, frzV, frzR, ss_okns, es_okns, cs_okns, mk_okns, rs_okns, ss_deps, es_deps, cs_deps, mk_deps, rs_deps, S14])
  simp only [S14, c14, Cd.nth, Cd.loops, Cd.body, List.nil_append, List.append_nil, List.cons_append, List.getElem?_cons_succ, List.getElem?_cons_zero, Option.getD_some] at h1
  simp [-isPlace, -moves, isPlace_int, isPlace_bool, isPlace_str, isPlace_lst, moves_int, moves_bool, moves_str, moves_lst, LC_placeI, LC_placeI', LC_movesI, LC_cellI, LC_getE, LC_add, LC_add0, LC_put31, LC_place0, LC_place1, frzV, frzR, ss_okns, es_okns, cs_okns, mk_okns, rs_okns, ss_deps, es_deps, cs_deps, mk_deps, rs_deps, c14]
  rw [h1]
  rcases h3 with ⟨rfl, f', rfl, hp⟩ | ⟨rfl, c1, c2, f', rfl⟩
  · simp [-isPlace, -moves, isPlace_int, isPlace_bool, isPlace_str, isPlace_lst, moves_int, moves_bool, moves_str, moves_lst, LC_placeI, LC_placeI', LC_movesI, LC_cellI, LC_getE, LC_add, LC_add0, LC_put31, LC_place0, LC_place1, frzV, frzR, ss_okns, es_okns, cs_okns, mk_okns, rs_okns, ss_deps, es_deps, cs_deps, mk_deps, rs_deps, hp]
  · simp [-isPlace, -moves, isPlace_int, isPlace_bool, isPlace_str, isPlace_lst, moves_int, moves_bool, moves_str, moves_lst, LC_placeI, LC_placeI', LC_movesI, LC_cellI, LC_getE, LC_add, LC_add0, LC_put31, LC_place0, LC_place1, frzV, frzR, ss_okns, es_okns, cs_okns, mk_okns, rs_okns, ss_deps, es_deps, cs_deps, mk_deps, rs_deps, c1, c2]
/-- The share. -/
def share : Int := if W (f 0) ≥ 1 ∧ W (f 0) ≤ 2147483647 ∧ W (f 1) ≥ 0 ∧ W (f 1) ≤ W (f 0) then W ((W (1000 * W (f 1))).tdiv (W (f 0))) else 0
theorem app17 : app E false (.fn 17 []) [.agg (LC f)] [] = some (.int .i64 (share f), emptyBag, []) := by
  rw [app_fn E rfl h17 rfl]
  unfold share
  by_cases a : W (f 0) < 1
  · have a' : ¬ 1 ≤ W (f 0) := by omega
    simp [-isPlace, -moves, isPlace_int, isPlace_bool, isPlace_str, isPlace_lst, moves_int, moves_bool, moves_str, moves_lst, LC_placeI, LC_placeI', LC_movesI, LC_cellI, LC_getE, LC_add, LC_add0, LC_put31, LC_place0, LC_place1, frzV, frzR, ss_okns, es_okns, cs_okns, mk_okns, rs_okns, ss_deps, es_deps, cs_deps, mk_deps, rs_deps, c17, a, a']
  · have a' : 1 ≤ W (f 0) := by omega
    by_cases b : 2147483647 < W (f 0)
    · have b' : ¬ W (f 0) ≤ 2147483647 := by omega
      simp [-isPlace, -moves, isPlace_int, isPlace_bool, isPlace_str, isPlace_lst, moves_int, moves_bool, moves_str, moves_lst, LC_placeI, LC_placeI', LC_movesI, LC_cellI, LC_getE, LC_add, LC_add0, LC_put31, LC_place0, LC_place1, frzV, frzR, ss_okns, es_okns, cs_okns, mk_okns, rs_okns, ss_deps, es_deps, cs_deps, mk_deps, rs_deps, c17, a, a', b, b']
    · have b' : W (f 0) ≤ 2147483647 := by omega
      by_cases c : W (f 1) < 0
      · have c' : ¬ 0 ≤ W (f 1) := by omega
        simp [-isPlace, -moves, isPlace_int, isPlace_bool, isPlace_str, isPlace_lst, moves_int, moves_bool, moves_str, moves_lst, LC_placeI, LC_placeI', LC_movesI, LC_cellI, LC_getE, LC_add, LC_add0, LC_put31, LC_place0, LC_place1, frzV, frzR, ss_okns, es_okns, cs_okns, mk_okns, rs_okns, ss_deps, es_deps, cs_deps, mk_deps, rs_deps, c17, a, a', b, b', c, c']
      · have c' : 0 ≤ W (f 1) := by omega
        by_cases d : W (f 0) < W (f 1)
        · have d' : ¬ W (f 1) ≤ W (f 0) := by omega
          simp [-isPlace, -moves, isPlace_int, isPlace_bool, isPlace_str, isPlace_lst, moves_int, moves_bool, moves_str, moves_lst, LC_placeI, LC_placeI', LC_movesI, LC_cellI, LC_getE, LC_add, LC_add0, LC_put31, LC_place0, LC_place1, frzV, frzR, ss_okns, es_okns, cs_okns, mk_okns, rs_okns, ss_deps, es_deps, cs_deps, mk_deps, rs_deps, c17, a, a', b, b', c, c', d, d']
        · have d' : W (f 1) ≤ W (f 0) := by omega
          have e : ¬ W (f 0) = 0 := by omega
          simp [-isPlace, -moves, isPlace_int, isPlace_bool, isPlace_str, isPlace_lst, moves_int, moves_bool, moves_str, moves_lst, LC_placeI, LC_placeI', LC_movesI, LC_cellI, LC_getE, LC_add, LC_add0, LC_put31, LC_place0, LC_place1, frzV, frzR, ss_okns, es_okns, cs_okns, mk_okns, rs_okns, ss_deps, es_deps, cs_deps, mk_deps, rs_deps, c17, a, a', b, b', c, c', d, d', e]
end
end Go.Proofs.YtbbpkkeaddbcnaaDoor.ZJM.LD
