/- Both dictionaries behind deeds. -/
import Derived.Test.YtnagbdodcjlbjaaZDP3
set_option linter.unusedSimpArgs false
set_option linter.unusedVariables false
set_option maxRecDepth 4000
namespace Go.Proofs.Ytnagbdodcjlbjaa.ZJM.DC
open Go.Proofs.Ytnagbdodcjlbjaa.ZJM Go.RowKit

section
variable (m : Mem) (nl : Bool) (l : List Deed) (hl : ∀ x ∈ l, x.ok)
def ownP (L : Nat) (r : RD) (ver : Nat) (rows : List Row) (c : Int) : Lvl := [(3, [.lst none true 7 [], .int .i64 0]), (6, [El r.nl r.l, .int .i64 r.c]), (1000000000, [.ptr L 1000000001 [] 0, .int .i64 c]), (1000000001, [shC ver rows])]
def S22 (i : Nat) (r : RD) (ver : Nat) (rows : List Row) (c : Int) : St :=
  ⟨[(0, .lst none nl 9 (Ds l)), (3, .ptr m.length 3 [] 0), (5, .ptr m.length 1000000000 [] 0), (6, .ptr m.length 6 [] 0), (7, .int .i64 i)], [], ownP m.length r ver rows c, [], m⟩
theorem ownP_da (r : RD) (ver : Nat) (rows : List Row) (c : Int) : DA (ownP m.length r ver rows c :: m) m.length 1000000000 1000000001 ver rows c := ⟨by simp [ownP], by simp [ownP], by decide⟩
theorem ownP_set (r : RD) (ver : Nat) (rows : List Row) (c : Int) (v : Nat) (l' : List Row) (c' : Int) : dset (ownP m.length r ver rows c :: m) m.length 1000000000 1000000001 v l' c' = ownP m.length r v l' c' :: m := by simp [dset, wr, ownP]
include hl in
theorem loop22 {st : St} (h0 : maskSt [0, 3, 5, 6, 7] [3, 6] [] [5] st = some (S22 m nl l 0 ⟨true, [], 0⟩ 0 [] 0)) :
    ∃ e st', loopW (maskSt [0, 3, 5, 6, 7] [3, 6] [] [5]) (Cd.run (app E) c22.body.inner.body) st = some (e, st') ∧ e ≠ .normal ∧
      (e = .exit 0 ∧ get st'.f 5 = some (.ptr m.length 1000000000 [] 0) ∧ get st'.f 6 = some (.ptr m.length 6 [] 0) ∧ get st'.f 3 = some (.ptr m.length 3 [] 0) ∧ st'.m = m ∧ ∃ r ver rows c, Sim rows c r ∧ st'.own = ownP m.length r ver rows c) := by
  refine loop_inv (fun i S => i ≤ l.length ∧ ∃ r ver rows c, Sim rows c r ∧ S = S22 m nl l i r ver rows c) (min l.length 40) _ h0 ⟨Nat.zero_le _, ⟨true, [], 0⟩, 0, [], 0, sim_new, rfl⟩ ?_ ?_
  · rintro i S hi ⟨hil, r, ver, rows, c, hs, rfl⟩
    have hil' : i < l.length := by omega
    have hi1 : (i : Int) < l.length := by omega
    have hi2 : (i : Int) < 40 := by omega
    have hw := wrap_succ i (by omega)
    have hx := hl _ (List.getElem_mem hil')
    have hd := ownP_da m r ver rows c
    refine .inl ?_
    by_cases h4 : l[i].o = 4
    · obtain ⟨m', v', l', c', e1, e2⟩ := app49_fork hd hs l[i] hx h4
      rw [ownP_set] at e2
      subst e2
      simp only [Deed.enc, Deed.cs, List.length_cons, RD.pv, ownP] at e1
      have hG : Goes (maskSt [0, 3, 5, 6, 7] [3, 6] [] [5]) (S22 m nl l (i + 1) r 0 rows c) (Cd.run (app E) c22.body.inner.body (S22 m nl l i r ver rows c)) := by
        simp [c22, Cd.inner, Cd.body, S22, ownP, hi1, hi2, hil', ds_getE, Deed.enc, Deed.cs, e1, bagName, PV.retag, PV.retag1, hw]
      obtain ⟨st2, q1, q2⟩ := hG.get
      exact ⟨st2, _, q1, q2, by omega, r, 0, rows, c, hs, rfl⟩
    · obtain ⟨m', e1, e2⟩ := app49 hd hs l[i] hx h4
      obtain ⟨v', l', c', e3, hs'⟩ := e2
      rw [ownP_set] at e3
      subst e3
      generalize deedR r l[i] = r' at *
      simp only [Deed.enc, Deed.cs, List.length_cons, RD.pv, ownP] at e1
      have hG : Goes (maskSt [0, 3, 5, 6, 7] [3, 6] [] [5]) (S22 m nl l (i + 1) r' v' l' c') (Cd.run (app E) c22.body.inner.body (S22 m nl l i r ver rows c)) := by
        simp [c22, Cd.inner, Cd.body, S22, ownP, hi1, hi2, hil', ds_getE, Deed.enc, Deed.cs, e1, bagName, PV.retag, PV.retag1, hw]
      obtain ⟨st2, q1, q2⟩ := hG.get
      exact ⟨st2, _, q1, q2, by omega, r', v', l', c', hs', rfl⟩
  · rintro S ⟨hil, r, ver, rows, c, hs, rfl⟩
    by_cases h : l.length ≤ 40
    · have e : min l.length 40 = l.length := by omega
      rw [e]
      simp [c22, Cd.inner, Cd.body, S22, EndsL]
      exact ⟨r, ver, rows, c, hs, rfl⟩
    · have e : min l.length 40 = 40 := by omega
      rw [e]
      have h1 : (40 : Int) < l.length := by omega
      simp [c22, Cd.inner, Cd.body, S22, EndsL, h1]
      exact ⟨r, ver, rows, c, hs, rfl⟩
include hl in
theorem app22 : ∃ r ver rows c, Sim rows c r ∧ app E false (.fn 22 []) [.lst none nl 9 (Ds l)] m = some (.tup [.ptr m.length 0 [] 0, r.pv, .bool true], ⟨[(0, [.ptr m.length 1 [] 0, .int .i64 c]), (1, [shC ver rows])], []⟩, m) := by
  have h11 := app11 ([(3, [.lst none true 7 [], .int .i64 0])] :: m)
  obtain ⟨e, ⟨f', tops', own', dead', m'⟩, q1, q2, rfl, g5, g6, g3, gm, r, ver, rows, c, hs, go⟩ := @loop22 m nl l hl ⟨[(7, .int .i64 0), (6, .ptr m.length 6 [] 0), (5, .ptr m.length 10000 [] 0), (9, .ptr m.length 10000 [] 0), (4, .bool false), (3, .ptr m.length 3 [] 0), (2, .nilp), (0, .lst none nl 9 (Ds l))], [], [(6, [.lst none true 7 [], .int .i64 0]), (10000, [.ptr m.length 10001 [] 0, .int .i64 0]), (10001, [shC 0 []]), (3, [.lst none true 7 [], .int .i64 0])], [], m⟩ (by simp [S22, ownP])
  refine ⟨r, ver, rows, c, hs, ?_⟩
  rw [app_fn E rfl h22 rfl]
  simp only at g5 g6 g3 gm go
  subst gm; subst go
  simp only [c22, Cd.inner, Cd.body, ownP] at q1
  have s1 := fun lv => shC_names lv ver rows
  have s2 := fun a b ρ => shC_ren a b ρ ver rows
  have s3 := fun a ks ts => shC_okn a ks ts ver rows
  have s4 := shC_rec ver rows
  have r1 : ∀ a b p o, isRec (.ptr a b p o) = false := fun _ _ _ _ => rfl
  have r2 : ∀ k n, isRec (.int k n) = false := fun _ _ => rfl
  have hsh : shC 0 [] = .lst none true 6 [] := rfl
  rw [hsh] at q1 h11
  generalize shC ver rows = S at *
  simp [c22, h11, bagName, PV.retag, PV.retag1, q1, ownP, g5, g6, g3, s1, s2, s3, s4, r1, r2, frzV, frzR, bagEv, bagOf, bagChk, renB, obsB, topsB, nameIn, noTagB, nodupB, tagsOf, tagOf]
end
end Go.Proofs.Ytnagbdodcjlbjaa.ZJM.DC
