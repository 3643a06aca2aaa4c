/- AreaLays: its function. -/
import Derived.Test.YtnagbdodcjlbjaaZDA5
set_option linter.unusedSimpArgs false
set_option linter.unusedVariables false
set_option maxRecDepth 10000
namespace Go.Proofs.Ytnagbdodcjlbjaa.ZJM.DC
open Go.Proofs.Ytnagbdodcjlbjaa.ZJM Go.RowKit

theorem laid_len : laid.length = 70 := by kernel_rfl
theorem laid_okb : (laid.all fun e => e.b.all (fun x => decide (0 ≤ x) && decide (x < 256)) && decide (e.b.length ≤ 64)) = true := by kernel_rfl
theorem laid_ok {e : Ent} (h : e ∈ laid) : OkB e.b ∧ e.b.length ≤ 64 := by
  have := List.all_eq_true.1 laid_okb e h
  simp only [Bool.and_eq_true, List.all_eq_true, decide_eq_true_eq] at this
  exact ⟨fun x hx => this.1 x hx, this.2⟩
theorem addR_len (r : RD) (i s k a l h : Int) (b : List Int) : (addR r i s k a l h b).l.length ≤ r.l.length + 1 := by
  unfold addR; split <;> simp
theorem runE_len (r : RD) (A : List Ent) : (runE r A).1.l.length ≤ r.l.length + A.length := by
  induction A generalizing r with
  | nil => simp [runE]
  | cons e A ih =>
    by_cases h : codeE r e = 0
    · rw [runE_ok h]
      have h1 := ih (addE r e)
      have h2 := addR_len r e.i e.s e.k e.a e.l e.h e.b
      unfold addE at h1 ⊢
      simp only [List.length_cons]; omega
    · rw [runE_no h]; simp
section
variable (LL : List Ent) (hL : LL.length ≤ 500) (hok : ∀ e ∈ LL, OkB e.b ∧ e.b.length ≤ 64) (r1 : RD) (hr1 : r1.l.length ≤ 1) (f8 f7 : Int) (ver : Nat) (rows : List Row) (c : Int)
def own3 (r : RD) : Lvl := [(6, [El r.nl r.l, .int .i64 r.c]), (1000000000, [.ptr 0 1000000001 [] 0, .int .i64 c]), (1000000001, [shC ver rows])]
def S3 (t : Nat) (w : RD × Int) : St := ⟨[(5, .ptr 0 1000000000 [] 0), (6, .ptr 0 6 [] 0), (7, .int .i64 f7), (8, .int .i64 f8), (9, .int .i64 w.2), (10, El false LL), (11, .int .i64 t)], [], own3 ver rows c w.1, [], []⟩
include hL in
set_option maxHeartbeats 2000000 in
theorem round3 (t : Nat) (ht : t < LL.length) (e : Ent) (hgE : (Es LL)[t]? = some e.enc) (ok1 : OkB e.b) (ok2 : e.b.length ≤ 64) (r0 : RD) (hr0 : r0.l.length ≤ 512) :
    Goes (maskSt [5, 6, 7, 8, 9, 10, 11] [6] [] [5]) (S3 LL f8 f7 ver rows c (t + 1) (addE r0 e, codeE r0 e)) (Cd.run (app E) c3.body.inner.body (S3 LL f8 f7 ver rows c t (r0, 0))) := by
  have hti : (t : Int) < LL.length := by omega
  have hw := wrap_succ t (by omega)
  have h12 : app E false (.fn 12 []) [r0.pv, ky e.i e.s, sp e.k e.a e.l e.h, Bl false e.b] [] = some (.tup [(addE r0 e).pv, .int .i64 (codeE r0 e)], emptyBag, []) := app12 r0 hr0 e.i e.s e.k e.a e.l e.h false e.b ok1
  have hsb := strBytes_strOf ok1
  have hsz := strOf_size e.b
  have hmx := maxB64 ok2
  have hgg : (Es LL)[t]'(by rw [encs_len]; exact ht) = e.enc := by
    have := List.getElem?_eq_some_iff.1 hgE
    exact this.2
  by_cases q : codeE r0 e = 0
  · rw [q] at h12 ⊢
    generalize addE r0 e = r2 at *
    simp only [RD.pv] at h12
    simp [c3, Cd.inner, Cd.body, S3, own3, hti, ht, hgE, hgg, Ent.enc, Ent.cs, h12, hsb, hsz, hmx, hw]
  · have q' : (codeE r0 e == 0) = false := by simpa using q
    have hsame := addE_no q
    rw [hsame] at h12 ⊢
    generalize codeE r0 e = cc at *
    simp only [RD.pv] at h12
    simp [c3, Cd.inner, Cd.body, S3, own3, hti, ht, hgE, hgg, Ent.enc, Ent.cs, h12, hsb, hsz, hmx, hw, q']
include hr1 hL hok in
theorem loop3 {st : St} (h0 : maskSt [5, 6, 7, 8, 9, 10, 11] [6] [] [5] st = some (S3 LL f8 f7 ver rows c 0 (r1, 0))) :
    ∃ e st', loopW (maskSt [5, 6, 7, 8, 9, 10, 11] [6] [] [5]) (Cd.run (app E) c3.body.inner.body) st = some (e, st') ∧ e ≠ .normal ∧
      (e = .exit 0 ∧ get st'.f 5 = some (.ptr 0 1000000000 [] 0) ∧ get st'.f 6 = some (.ptr 0 6 [] 0) ∧ get st'.f 7 = some (.int .i64 f7) ∧ get st'.f 8 = some (.int .i64 f8) ∧ get st'.f 9 = some (.int .i64 (runE r1 LL).2) ∧ st'.m = [] ∧ st'.tops = [] ∧ st'.dead = [] ∧ st'.own = own3 ver rows c (runE r1 LL).1) := by
  refine loop_inv (fun t S => S = S3 LL f8 f7 ver rows c t (runE r1 (LL.take t))) LL.length _ h0 rfl ?_ ?_
  · rintro t S ht rfl
    have hti : (t : Int) < LL.length := by omega
    by_cases hz : (runE r1 (LL.take t)).2 = 0
    · have hst := runE_snoc r1 (LL.take t) LL[t] hz
      rw [← take_succ' LL t ht] at hst
      obtain ⟨ok1, ok2⟩ := hok _ (List.getElem_mem ht)
      have hlen := runE_len r1 (LL.take t)
      rw [List.length_take] at hlen
      have hgE : (Es LL)[t]? = some LL[t].enc := by rw [List.getElem?_eq_getElem (by rw [encs_len]; exact ht), es_getE]
      have hst2 : runE r1 (LL.take (t + 1)) = (addE (runE r1 (LL.take t)).1 LL[t], codeE (runE r1 (LL.take t)).1 LL[t]) := by
        rw [hst]
        by_cases q : codeE (runE r1 (LL.take t)).1 LL[t] = 0
        · rw [if_pos q, q]
        · rw [if_neg q, addE_no q]
      have hw0 : runE r1 (LL.take t) = ((runE r1 (LL.take t)).1, 0) := Prod.ext rfl hz
      refine .inl ?_
      have hG := round3 LL hL f8 f7 ver rows c t ht LL[t] hgE ok1 ok2 (runE r1 (LL.take t)).1 (by omega)
      rw [← hst2, ← hw0] at hG
      obtain ⟨st2, q1, q2⟩ := hG.get
      exact ⟨st2, _, q1, q2, rfl⟩
    · refine .inr ?_
      have hfull : runE r1 LL = runE r1 (LL.take t) := by
        have := runE_bad hz (LL.drop t)
        rw [List.take_append_drop] at this; exact this
      rw [hfull]
      have hz' : ((runE r1 (LL.take t)).2 == 0) = false := by simpa using hz
      generalize runE r1 (LL.take t) = w at *
      simp [c3, Cd.inner, Cd.body, S3, own3, hti, hz', EndsL]
  · rintro S rfl
    rw [List.take_length]
    generalize runE r1 LL = w at *
    simp [c3, Cd.inner, Cd.body, S3, own3, EndsL]
end
theorem app3 (i s k a l h : Int) : app E false (.fn 3 []) [ky i s, sp k a l h] [] = some (.bool true, emptyBag, []) := by
  have h11 := app11 [[(3, [.int .i64 k, .int .i64 a, .int .i64 l, .int .i64 h]), (2, [.int .i64 i, .int .i64 s])]]
  have h12 := app12 ⟨true, [], 0⟩ (Nat.zero_le _) i s k a l h true [] (fun x hx => by simp at hx)
  obtain ⟨r1, hr1⟩ : ∃ r1, r1 = addR ⟨true, [], 0⟩ i s k a l h [] := ⟨_, rfl⟩
  have hlen1 : r1.l.length ≤ 1 := by rw [hr1]; exact addR_len _ _ _ _ _ _ _ _
  have hd0 : DA [[(6, [El r1.nl r1.l, .int .i64 r1.c]), (15000, [.ptr 0 15001 [] 0, .int .i64 0]), (15001, [shC 0 []]), (3, [.int .i64 k, .int .i64 a, .int .i64 l, .int .i64 h]), (2, [.int .i64 i, .int .i64 s])]] 0 15000 15001 0 [] 0 := ⟨by simp, by simp, by decide⟩
  obtain ⟨m1, e1, v1, l1, c1, rfl, hs1⟩ := do_add hd0 sim_new i s k a l h true [] (fun x hx => by simp at hx) (fun _ => rfl)
  have hset : dset [[(6, [El r1.nl r1.l, .int .i64 r1.c]), (15000, [.ptr 0 15001 [] 0, .int .i64 0]), (15001, [shC 0 []]), (3, [.int .i64 k, .int .i64 a, .int .i64 l, .int .i64 h]), (2, [.int .i64 i, .int .i64 s])]] 0 15000 15001 v1 l1 c1 = [[(6, [El r1.nl r1.l, .int .i64 r1.c]), (15000, [.ptr 0 15001 [] 0, .int .i64 c1]), (15001, [shC v1 l1]), (3, [.int .i64 k, .int .i64 a, .int .i64 l, .int .i64 h]), (2, [.int .i64 i, .int .i64 s])]] := by simp [dset, wr]
  rw [hset] at e1
  rw [← hr1] at h12 hs1
  obtain ⟨w, hw⟩ : ∃ w, w = addRC ⟨true, [], 0⟩ i s k a l h [] := ⟨_, rfl⟩
  rw [← hw] at h12 e1
  obtain ⟨e, ⟨f', tops', own', dead', m'⟩, q1, q2, rfl, g5, g6, g7, g8, g9, gm, gt, gd, go⟩ := @loop3 laid (by rw [laid_len]; decide) (fun e he => laid_ok he) r1 hlen1 w w v1 l1 c1 ⟨[(11, .int .i64 0), (10, El false laid), (26, El false laid), (9, .int .i64 0), (8, .int .i64 w), (25, .int .i64 w), (24, sp k a l h), (23, ky i s), (22, .ptr 0 15000 [] 0), (7, .int .i64 w), (21, .int .i64 w), (20, r1.pv), (15, .tup [r1.pv, .int .i64 w]), (19, .tup [r1.pv, .int .i64 w]), (18, sp k a l h), (17, ky i s), (16, .agg [.lst none true 7 [], .int .i64 0]), (6, .ptr 0 6 [] 0), (5, .ptr 0 15000 [] 0), (14, .ptr 0 15000 [] 0), (4, .bool false), (3, .ptr 0 3 [] 0), (2, .ptr 0 2 [] 0), (0, ky i s), (1, sp k a l h)], [], [(6, [El r1.nl r1.l, .int .i64 r1.c]), (15000, [.ptr 0 15001 [] 0, .int .i64 c1]), (15001, [shC v1 l1]), (3, [.int .i64 k, .int .i64 a, .int .i64 l, .int .i64 h]), (2, [.int .i64 i, .int .i64 s])], [], []⟩ (by simp [S3, own3])
  simp only at g5 g6 g7 g8 g9 gm gt gd go
  subst gm; subst gt; subst gd; subst go
  -- the program's Lay
  have hd2 : DA [own3 v1 l1 c1 (runE r1 laid).1] 0 1000000000 1000000001 v1 l1 c1 := ⟨by simp [own3], by simp [own3], by decide⟩
  obtain ⟨m2, f1, v2, l2, c2, rfl, hs2⟩ := app16 hd2 hs1
  have hset2 : dset [own3 v1 l1 c1 (runE r1 laid).1] 0 1000000000 1000000001 v2 l2 c2 = [own3 v2 l2 c2 (runE r1 laid).1] := by simp [dset, wr, own3]
  rw [hset2] at f1
  have hd3 : DA [own3 v2 l2 c2 (runE r1 laid).1] 0 1000000000 1000000001 v2 l2 c2 := ⟨by simp [own3], by simp [own3], by decide⟩
  have h17 := app17 hd3 hs2
  have hnil := fun own : Lvl => app16_nil [own]
  simp only [c3, Cd.inner, Cd.body] at q1
  have hsh : shC 0 [] = .lst none true 6 [] := rfl
  rw [hsh] at h11 e1
  rw [app_fn E rfl h3 rfl]
  generalize runE r1 laid = W at *
  obtain ⟨W1, W2⟩ := W
  simp only [own3, RD.pv, Bl, Bs, encs_nil, List.length_singleton, List.length_cons, List.length_nil] at q1 h11 h12 e1 f1 h17
  have h12' : app E false (.fn 12 []) [.agg [.lst none true 7 [], .int .i64 0], .agg [.int .i64 i, .int .i64 s], .agg [.int .i64 k, .int .i64 a, .int .i64 l, .int .i64 h], .lst none true 1 []] [] = _ := h12
  have hEl : El false laid = .lst none false 7 (Es laid) := rfl
  have h14 := app14
  rw [hEl] at h14 q1
  generalize Es laid = LL at *
  simp [c3, h11, h12', e1, h14, q1, g5, g6, g7, g8, g9, own3, live15, f1, h17, hnil, bagName, PV.retag, PV.retag1]
end Go.Proofs.Ytnagbdodcjlbjaa.ZJM.DC
