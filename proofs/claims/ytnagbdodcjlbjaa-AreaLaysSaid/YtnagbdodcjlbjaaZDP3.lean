/- DictPlays: its function. -/
import Derived.Test.YtnagbdodcjlbjaaZDP1
import Derived.Test.YtnagbdodcjlbjaaZDL14
set_option linter.unusedSimpArgs false
set_option linter.unusedVariables false
set_option maxRecDepth 4000
namespace Go.Proofs.Ytnagbdodcjlbjaa.ZJM.DC
open Go.Proofs.Ytnagbdodcjlbjaa.ZJM Go.RowKit
attribute [simp] shC_names shC_ren shC_okn shC_rec

section
variable (nl : Bool) (l : List Deed) (hl : ∀ x ∈ l, x.ok)
def ownD (r : RD) (ver : Nat) (rows : List Row) (c : Int) : Lvl := [(4, [El r.nl r.l, .int .i64 r.c]), (1000000000, [.ptr 0 1000000001 [] 0, .int .i64 c]), (1000000001, [shC ver rows])]
def S9 (i : Nat) (r : RD) (ver : Nat) (rows : List Row) (c : Int) : St :=
  ⟨[(0, .lst none nl 9 (Ds l)), (3, .ptr 0 1000000000 [] 0), (4, .ptr 0 4 [] 0), (5, .int .i64 i)], [], ownD r ver rows c, [], []⟩
theorem ownD_da (r : RD) (ver : Nat) (rows : List Row) (c : Int) : DA [ownD r ver rows c] 0 1000000000 1000000001 ver rows c := ⟨by simp [ownD], by simp [ownD], by decide⟩
theorem ownD_set (r : RD) (ver : Nat) (rows : List Row) (c : Int) (v : Nat) (l' : List Row) (c' : Int) : dset [ownD r ver rows c] 0 1000000000 1000000001 v l' c' = [ownD r v l' c'] := by simp [dset, wr, ownD]
include hl in
theorem loop9 {st : St} (h0 : maskSt [0, 3, 4, 5] [4] [] [3] st = some (S9 nl l 0 ⟨true, [], 0⟩ 0 [] 0)) :
    ∃ e st', loopW (maskSt [0, 3, 4, 5] [4] [] [3]) (Cd.run (app E) c9.body.inner.body) st = some (e, st') ∧ e ≠ .normal ∧ (e = .exit 0 ∧ st'.m = []) := by
  refine loop_inv (fun i S => i ≤ l.length ∧ ∃ r ver rows c, Sim rows c r ∧ S = S9 nl l i r ver rows c) (min l.length 40) _ h0 ⟨Nat.zero_le _, ⟨true, [], 0⟩, 0, [], 0, sim_new, rfl⟩ ?_ ?_
  · rintro i S hi ⟨hil, r, ver, rows, c, hs, rfl⟩
    have hil' : i < l.length := by omega
    have hi1 : (i : Int) < l.length := by omega
    have hi2 : (i : Int) < 40 := by omega
    have hw := wrap_succ i (by omega)
    have hx := hl _ (List.getElem_mem hil')
    have hd := ownD_da r ver rows c
    refine .inl ?_
    by_cases h4 : l[i].o = 4
    · obtain ⟨m', v', l', c', e1, e2⟩ := app49_fork hd hs l[i] hx h4
      rw [ownD_set] at e2
      have h50 : app E false (.fn 50 []) [.ptr 0 26000 [] 0, r.pv] [(26000, [.ptr 0 26001 [] 0, .int .i64 c]) :: (26001, [shC 0 rows]) :: ownD r v' l' c'] = _ := app50 (lv := 0) (a := 26000) (a' := 26001) (ver := 0) (l := rows) (c := c) ⟨by simp, by simp, by decide⟩ hs
      subst e2
      simp only [Deed.enc, Deed.cs, List.length_singleton, RD.pv, ownD] at e1 h50
      have hG : Goes (maskSt [0, 3, 4, 5] [4] [] [3]) (S9 nl l (i + 1) r 0 rows c) (Cd.run (app E) c9.body.inner.body (S9 nl l i r ver rows c)) := by
        simp [c9, Cd.inner, Cd.body, S9, ownD, hi1, hi2, hil', ds_getE, Deed.enc, Deed.cs, e1, h50, bagName, PV.retag, PV.retag1, hw]
      obtain ⟨st2, q1, q2⟩ := hG.get
      exact ⟨st2, _, q1, q2, by omega, r, 0, rows, c, hs, rfl⟩
    · obtain ⟨m', e1, e2⟩ := app49 hd hs l[i] hx h4
      obtain ⟨v', l', c', e3, hs'⟩ := e2
      rw [ownD_set] at e3
      have h50 : app E false (.fn 50 []) [.ptr 0 1000000000 [] 0, (deedR r l[i]).pv] [ownD (deedR r l[i]) v' l' c'] = _ := app50 (ownD_da _ _ _ _) hs'
      subst e3
      generalize deedR r l[i] = r' at *
      simp only [Deed.enc, Deed.cs, List.length_singleton, RD.pv, ownD] at e1 h50
      have hG : Goes (maskSt [0, 3, 4, 5] [4] [] [3]) (S9 nl l (i + 1) r' v' l' c') (Cd.run (app E) c9.body.inner.body (S9 nl l i r ver rows c)) := by
        simp [c9, Cd.inner, Cd.body, S9, ownD, hi1, hi2, hil', ds_getE, Deed.enc, Deed.cs, e1, h50, bagName, PV.retag, PV.retag1, hw]
      obtain ⟨st2, q1, q2⟩ := hG.get
      exact ⟨st2, _, q1, q2, by omega, r', v', l', c', hs', rfl⟩
  · rintro S ⟨hil, r, ver, rows, c, hs, rfl⟩
    by_cases h : l.length ≤ 40
    · have e : min l.length 40 = l.length := by omega
      rw [e]
      simp [c9, Cd.inner, Cd.body, S9, EndsL]
    · have e : min l.length 40 = 40 := by omega
      rw [e]
      have h1 : (40 : Int) < l.length := by omega
      simp [c9, Cd.inner, Cd.body, S9, EndsL, h1]
include hl in
theorem app9 : app E false (.fn 9 []) [.lst none nl 9 (Ds l)] [] = some (.bool true, emptyBag, []) := by
  rw [app_fn E rfl h9 rfl]
  have h11 := app11 [[]]
  obtain ⟨e, st', q1, q2, rfl, q4⟩ := @loop9 nl l hl ⟨[(5, .int .i64 0), (4, .ptr 0 4 [] 0), (3, .ptr 0 8000 [] 0), (7, .ptr 0 8000 [] 0), (2, .bool false), (0, .lst none nl 9 (Ds l))], [], [(4, [.lst none true 7 [], .int .i64 0]), (8000, [.ptr 0 8001 [] 0, .int .i64 0]), (8001, [shC 0 []])], [], []⟩ (by simp [S9, ownD])
  simp only [c9, Cd.inner, Cd.body] at q1
  simp only [shC] at q1
  simp [c9, h11, bagName, PV.retag, PV.retag1, shC, q1, live14, q4]
end
end Go.Proofs.Ytnagbdodcjlbjaa.ZJM.DC
