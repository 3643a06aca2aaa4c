/- Load: windows, handed to whoever wants them. -/
import Derived.Test.YtbbpkkeaddbcnaaDoorZL14
set_option linter.unusedSimpArgs false
set_option linter.unusedVariables false
namespace Go.Proofs.YtbbpkkeaddbcnaaDoor.ZJM.LD
open Go.Proofs.YtbbpkkeaddbcnaaDoor.ZJM Go.RowKit
theorem rs_namess (l : List Rnd) (a) : PV.namess a (Rs l) = [] := PV.datas_namess _ _ (rs_data l)
theorem rs_rens (l : List Rnd) (a b ρ) : PV.rens a b ρ (Rs l) = Rs l := PV.datas_rens _ _ _ _ (rs_data l)
theorem app18 (n : Int) (nl : Bool) (l : List Rnd) (M : Mem) : app E false (.fn 18 []) [.int .i64 n, .lst none nl 6 (Rs l)] M = some (.fn 28 [.ptr M.length 0 [] 0, .ptr M.length 1 [] 0], ⟨[(0, [.int .i64 n]), (1, [.lst none nl 6 (Rs l)])], []⟩, M) := by
  rw [app_fn E rfl h18 rfl]
  simp [-isPlace, -moves, isPlace_int, isPlace_bool, isPlace_str, isPlace_lst, moves_int, moves_bool, moves_str, moves_lst, LC_placeI, LC_placeI', LC_movesI, LC_cellI, LC_getE, LC_add, LC_add0, LC_put31, LC_place0, LC_place1, frzV, frzR, ss_okns, es_okns, cs_okns, mk_okns, rs_okns, ss_deps, es_deps, cs_deps, mk_deps, rs_deps, -encs_cons, c18, bagEv, bagOf, bagChk, renB, obsB, topsB, nameIn, isRec, noTagB, nodupB, tagsOf, tagOf, PV.ren, PV.rens, PV.retag, PV.retag1, PV.names, PV.namess, reach, dedup, idxOf, rs_namess, rs_rens]
/-- A window's length at a place; the places. -/
def wlen (N len a : Nat) : Nat := min N (len - a)
def win (N : Nat) (l : List Rnd) (a : Nat) : List Rnd := (l.take (a + wlen N l.length a)).drop a
section
variable {σ : Type} (mem : σ → Lvl) (n : Int) (hn : 1 ≤ n) (nl : Bool) (l : List Rnd) (hl : l.length < 1000000) (hf : ∀ r ∈ l, r.fine) (y : PV) (hy : ∀ ks ts, y.okn 1 ks ts = true) (s1 s2 : Nat) (hs1 : ∀ s, get (mem s) s1 = some [.int .i64 n]) (hs2 : ∀ s, get (mem s) s2 = some [.lst none nl 6 (Rs l)])
  (J : Nat → σ → Prop) (Stop : σ → Prop)
  (hyld : ∀ (a : Nat) (ha : a < l.length) (s : σ), J a s → ∃ b s', app E false y [.int .i64 a, .agg (LC (ofF (win n.toNat l a)))] ([] :: [mem s]) = some (.bool b, emptyBag, [] :: [mem s']) ∧ (if b = true then J (a + wlen n.toNat l.length a) s' else Stop s'))
def S28 (a : Nat) (s : σ) : St := ⟨[(0, y), (1, .ptr 0 s1 [] 0), (2, .ptr 0 s2 [] 0), (4, .int .i64 a)], [], [], [], [mem s]⟩
include hn hl hf hy hs1 hs2 hyld in
theorem loop28 (s : σ) (hJ : J 0 s) {st : St} (h0 : maskSt [0, 1, 2, 4] [] [] [] st = some (S28 mem y s1 s2 0 s)) :
    ∃ e st', loopW (maskSt [0, 1, 2, 4] [] [] []) (Cd.run (app E) (c28.body.nth 0)) st = some (e, st') ∧ e ≠ .normal ∧
      ((e = .exit 0 ∧ ∃ s', J l.length s' ∧ st'.m = [mem s']) ∨ (e = .ret ∧ ∃ s', Stop s' ∧ st'.m = [mem s'])) := by
  refine loop_inv (fun i S => ∃ a s, i ≤ a ∧ a ≤ l.length ∧ J a s ∧ S = S28 mem y s1 s2 a s) l.length _ h0 ⟨0, s, Nat.le_refl _, Nat.zero_le _, hJ, rfl⟩ ?_ ?_
  · rintro i S hi ⟨a, s, hia, hal, hJ, rfl⟩
    by_cases ha : a < l.length
    · have ha' : (a : Int) < l.length := by omega
      have hge : ¬ ((l.length : Int) ≤ a) := by omega
      have hN : 1 ≤ n.toNat := by omega
      obtain ⟨w, hwd⟩ : ∃ w, w = wlen n.toNat l.length a := ⟨_, rfl⟩
      have hw1 : 1 ≤ w ∧ a + w ≤ l.length := by rw [hwd]; unfold wlen; omega
      have hsub : IntKind.i64.wrap ((l.length : Int) - a) = (l.length : Int) - a := W_id (by omega) (by omega)
      have hmn : mnP (.int .i64 n) (.int .i64 ((l.length : Int) - a)) = some (.int .i64 w) := by
        have : (if (l.length : Int) - a < n then (l.length : Int) - a else n) = (w : Int) := by rw [hwd]; unfold wlen; split <;> omega
        simp [this]
      have hadd : IntKind.i64.wrap ((a : Int) + w) = (a : Int) + w := W_id (by omega) (by omega)
      have hsl : slclP 6 (.lst none nl 6 (Rs l)) (some (.int .i64 a)) (some (.int .i64 ((a : Int) + w))) = some (.lst none nl 6 (Rs (win n.toNat l a))) := by
        have e1 : (a : Int) ≤ (a : Int) + w ∧ (a : Int) + w ≤ l.length := by omega
        have e2 : ((a : Int) + w).toNat = a + w := by omega
        simp [e1, e2, win, ← hwd, encs_take, encs_drop]
      have hwf : ∀ r ∈ win n.toNat l a, r.fine := fun r hr => hf r (List.mem_of_mem_take (List.mem_of_mem_drop hr))
      have hwl : (win n.toNat l a).length < 1000000 := by simp [win]; omega
      have a9 := app9 nl (win n.toNat l a) hwl hwf
      obtain ⟨b, s', h1, h2⟩ := hyld a ha s hJ
      rw [← hwd] at h2
      cases b with
      | true =>
        have hG : Goes (maskSt [0, 1, 2, 4] [] [] []) (S28 mem y s1 s2 (a + w) s') (Cd.run (app E) (c28.body.nth 0) (S28 mem y s1 s2 a s)) := by
          simp [-slclP, -mnP, -isPlace, -moves, isPlace_int, isPlace_bool, isPlace_str, isPlace_lst, moves_int, moves_bool, moves_str, moves_lst, LC_placeI, LC_placeI', LC_movesI, LC_cellI, LC_getE, LC_add, LC_add0, LC_put31, LC_place0, LC_place1, frzV, frzR, ss_okns, es_okns, cs_okns, mk_okns, rs_okns, ss_deps, es_deps, cs_deps, mk_deps, rs_deps, c28, Cd.nth, Cd.loops, Cd.body, S28, ha', ha, hge, hs1, hs2, hsub, hmn, hadd, hsl, a9, h1, hy]
        obtain ⟨st2, x, y⟩ := hG.get
        exact .inl ⟨st2, _, x, y, a + w, s', by omega, hw1.2, by simpa using h2, rfl⟩
      | false =>
        refine .inr ?_
        simp [-slclP, -mnP, -isPlace, -moves, isPlace_int, isPlace_bool, isPlace_str, isPlace_lst, moves_int, moves_bool, moves_str, moves_lst, LC_placeI, LC_placeI', LC_movesI, LC_cellI, LC_getE, LC_add, LC_add0, LC_put31, LC_place0, LC_place1, frzV, frzR, ss_okns, es_okns, cs_okns, mk_okns, rs_okns, ss_deps, es_deps, cs_deps, mk_deps, rs_deps, c28, Cd.nth, Cd.loops, Cd.body, S28, ha', ha, hge, hs1, hs2, hsub, hmn, hadd, hsl, a9, h1, hy, EndsL]
        exact ⟨s', by simpa using h2, rfl⟩
    · have e : a = l.length := by omega
      subst e
      refine .inr ?_
      simp [-isPlace, -moves, isPlace_int, isPlace_bool, isPlace_str, isPlace_lst, moves_int, moves_bool, moves_str, moves_lst, LC_placeI, LC_placeI', LC_movesI, LC_cellI, LC_getE, LC_add, LC_add0, LC_put31, LC_place0, LC_place1, frzV, frzR, ss_okns, es_okns, cs_okns, mk_okns, rs_okns, ss_deps, es_deps, cs_deps, mk_deps, rs_deps, c28, Cd.nth, Cd.loops, Cd.body, S28, hs1, hs2, EndsL]
      exact ⟨s, hJ, rfl⟩
  · rintro S ⟨a, s, hia, hal, hJ, rfl⟩
    have e : a = l.length := by omega
    subst e
    simp [-isPlace, -moves, isPlace_int, isPlace_bool, isPlace_str, isPlace_lst, moves_int, moves_bool, moves_str, moves_lst, LC_placeI, LC_placeI', LC_movesI, LC_cellI, LC_getE, LC_add, LC_add0, LC_put31, LC_place0, LC_place1, frzV, frzR, ss_okns, es_okns, cs_okns, mk_okns, rs_okns, ss_deps, es_deps, cs_deps, mk_deps, rs_deps, c28, Cd.nth, Cd.loops, Cd.body, S28, hs1, hs2, EndsL]
    exact ⟨s, hJ, rfl⟩
include hn hl hf hy hs1 hs2 hyld in
/-- All windows, one by one. -/
theorem app28 (hyt : isTup y = false) (s : σ) (hJ : J 0 s) : ∃ s', (J l.length s' ∨ Stop s') ∧ app E false (.fn 28 [.ptr 0 s1 [] 0, .ptr 0 s2 [] 0]) [y] [mem s] = some (.tup [], emptyBag, [mem s']) := by
  rw [app_fn E rfl h28 (by
    rw [show ([y] ++ [PV.ptr 0 s1 [] 0, PV.ptr 0 s2 [] 0]).all (fun v => !isTup v) = true by
      simp only [List.cons_append, List.nil_append, List.all_cons, List.all_nil, hyt]; rfl]
    rfl)]
  have hn' : ¬ n < 1 := by omega
  obtain ⟨e, st', h1, h2, h3⟩ := @loop28 σ mem n hn nl l hl hf y hy s1 s2 hs1 hs2 J Stop hyld s hJ { f := [(4, .int .i64 0), (7, .bool false), (6, .int .i64 n), (0, y), (1, .ptr 0 s1 [] 0), (2, .ptr 0 s2 [] 0)], tops := [], own := [], dead := [], m := [mem s] } (by simp [S28, hy])
  simp only [c28, Cd.nth, Cd.loops, Cd.body, List.nil_append, List.append_nil, List.cons_append, List.getElem?_cons_succ, List.getElem?_cons_zero, Option.getD_some] at h1
  rcases h3 with ⟨rfl, s', hJ', hm⟩ | ⟨rfl, s', hS, hm⟩
  · refine ⟨s', .inl hJ', ?_⟩
    simp [c28, hs1, hs2, hn', h1, hm]
  · refine ⟨s', .inr hS, ?_⟩
    simp [c28, hs1, hs2, hn', h1, hm]
end
section
variable (mem : Lvl) (n : Int) (hn : n < 1) (y : PV) (s1 s2 : Nat) (hs1 : get mem s1 = some [.int .i64 n])
include hn hs1 in
/-- No windows. -/
theorem app28n (hyt : isTup y = false) : app E false (.fn 28 [.ptr 0 s1 [] 0, .ptr 0 s2 [] 0]) [y] [mem] = some (.tup [], emptyBag, [mem]) := by
  rw [app_fn E rfl h28 (by
    rw [show ([y] ++ [PV.ptr 0 s1 [] 0, PV.ptr 0 s2 [] 0]).all (fun v => !isTup v) = true by
      simp only [List.cons_append, List.nil_append, List.all_cons, List.all_nil, hyt]; rfl]
    rfl)]
  simp [c28, hs1, hn]
end
end Go.Proofs.YtbbpkkeaddbcnaaDoor.ZJM.LD
