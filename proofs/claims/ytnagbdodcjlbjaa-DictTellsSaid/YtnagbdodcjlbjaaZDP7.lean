/- DictTells: its function. -/
import Derived.Test.YtnagbdodcjlbjaaZDP5
set_option linter.unusedSimpArgs false
set_option linter.unusedVariables false
set_option maxRecDepth 4000
namespace Go.Proofs.Ytnagbdodcjlbjaa.ZJM.DC
open Go.Proofs.Ytnagbdodcjlbjaa.ZJM Go.RowKit

abbrev Is (l : List Int) : List PV := encs (PV.int .i64) l
theorem is_data (l : List Int) : PV.datas (Is l) = true := encs_data fun x _ => rfl
theorem is_okns (l : List Int) (a b c) : PV.okns a b c (Is l) = true := PV.datas_okns _ _ _ _ (is_data l)
theorem is_deps (l : List Int) (a) : PV.deps a (Is l) = true := PV.datas_deps _ _ (is_data l)
theorem is_names (l : List Int) (a) : PV.namess a (Is l) = [] := PV.datas_namess _ _ (is_data l)
theorem is_rens (l : List Int) (a b ρ) : PV.rens a b ρ (Is l) = Is l := PV.datas_rens _ _ _ _ (is_data l)
attribute [simp] is_okns is_deps is_names is_rens
theorem is_cell (l : List Int) : (∀ x ∈ Is l, x.isCell = true) = True := eq_true fun x hx => by
  simp only [encs, List.mem_map] at hx
  obtain ⟨y, _, rfl⟩ := hx
  rfl
def wantE (S : List Ent) (i : Int) : List Int := (S.filter fun y => y.i == i).map Ent.s
section
variable (i s : Int) (r : RD) (ver : Nat) (rows : List Row) (c : Int)
def cellW (W : List Int) : PV := .vec W.length W.length 1 (Is W)
def S6 (j : Nat) : St :=
  ⟨[(3, .ptr 0 3 [] 0), (4, .ptr 0 4 [] 0), (5, .ptr 0 1000000000 [] 0), (18, .ptr 0 18 [] 0), (19, El false (sortE r.l)), (20, .int .i64 j)], [],
    [(3, [.int .i64 i, .int .i64 s]), (4, [.bool false]), (18, [cellW (wantE ((sortE r.l).take j) i)]), (1000000000, [.ptr 0 1000000001 [] 0, .int .i64 c]), (1000000001, [shC ver rows])], [], []⟩
theorem wantE_succ (S : List Ent) (j : Nat) (hj : j < S.length) : wantE (S.take (j + 1)) i = wantE (S.take j) i ++ (if S[j].i == i then [S[j].s] else []) := by
  unfold wantE
  rw [filter_take (fun y : Ent => y.i == i) S j hj, List.map_append]
  cases (S[j].i == i) <;> simp
theorem loop6 (hl : r.l.length ≤ 512) {st : St} (h0 : maskSt [3, 4, 5, 18, 19, 20] [3, 4, 18] [] [5] st = some (S6 i s r ver rows c 0)) :
    loopW (maskSt [3, 4, 5, 18, 19, 20] [3, 4, 18] [] [5]) (Cd.run (app E) c6.body.inner.body) st = c6.body.inner.body.run (app E) (S6 i s r ver rows c r.l.length) := by
  have hSl : (sortE r.l).length = r.l.length := sortE_len _
  refine loop_eq (S6 i s r ver rows c) r.l.length (fun j hj => ?_) ?_ h0
  · have hjS : j < (sortE r.l).length := by omega
    have hji : (j : Int) < (sortE r.l).length := by omega
    have hw := wrap_succ j (by omega)
    have hsc := wantE_succ i (sortE r.l) j hjS
    have hle : (wantE ((sortE r.l).take j) i).length ≤ 512 := by
      have : (((sortE r.l).take j).filter fun y => y.i == i).length ≤ ((sortE r.l).take j).length := List.length_filter_le _ _
      simp only [wantE, List.length_map]
      simp only [List.length_take] at this
      omega
    unfold S6
    rw [hsc]
    generalize wantE ((sortE r.l).take j) i = W at *
    generalize hS : sortE r.l = S at *
    have hgE : (Es S)[j]? = some S[j].enc := by rw [List.getElem?_eq_getElem (by rw [encs_len]; exact hjS), es_getE]
    have hb : (W.length + 1) * 8 ≤ maxBytes := by unfold maxBytes; omega
    have hic := is_cell W
    cases hq : (S[j].i == i) with
    | false => simp [c6, Cd.inner, Cd.body, cellW, hji, hjS, hgE, es_getE, Ent.enc, Ent.cs, hw, hq]
    | true => simp [c6, Cd.inner, Cd.body, cellW, hji, hjS, hgE, es_getE, Ent.enc, Ent.cs, hw, hq, hb, hic]
  · simp [c6, Cd.inner, Cd.body, S6, hSl]
def rd6 : Rd := (c6.rds[0]?).getD ⟨[], [], .skip, .skip⟩
def own6 (W : List Int) (q : Nat) (n : Int) : Lvl := [(500000000, [.lrec q]), (131000, [.int .i64 i]), (131001, [.ptr 0 1000000000 [] 0]), (21, [.int .i64 n]), (3, [.int .i64 i, .int .i64 s]), (4, [.bool false]), (18, [cellW W]), (1000000000, [.ptr 0 1000000001 [] 0, .int .i64 c]), (1000000001, [shC ver rows])]
theorem rnd6 (W : List Int) (t : Nat) (ht : t < W.length) (hl : W.length < 1000000) (o1 o2 o3 o4 : Lvl) :
    app E false (.rnd 6 0 [4, 18, 21] [.ptr 0 4 [] 0, .ptr 0 18 [] 0, .ptr 0 21 [] 0] 0 500000000) [.int .i64 W[t]] (o1 :: o2 :: o3 :: o4 :: [own6 i s ver rows c W 0 t]) = some (.bool true, emptyBag, o1 :: o2 :: o3 :: o4 :: [own6 i s ver rows c W 0 (t + 1 : Nat)]) := by
  have hti : (t : Int) < W.length := by omega
  have htn : ¬ ((W.length : Int) ≤ t) := by omega
  have hw := wrap_succ t (by omega)
  have hg : (Is W)[t]? = some (.int .i64 W[t]) := by rw [List.getElem?_eq_getElem (by rw [encs_len]; exact ht), encs_getE]
  rw [app_rnd E h6 (rd := rd6) rfl (by simp [rd6, c6, own6])]
  simp [rd6, c6, own6, cellW, hti, htn, ht, hg, hw, encs_getE]
end
theorem app6 (nl : Bool) (l : List Deed) (hl : ∀ x ∈ l, x.ok) (i s : Int) : app E false (.fn 6 []) [.lst none nl 9 (Ds l), ky i s] [] = some (.bool true, emptyBag, []) := by
  obtain ⟨r, ver, rows, c, hs, h22'⟩ := app22 [[(4, [.bool false]), (3, [.int .i64 i, .int .i64 s])]] nl l hl
  have hd : DA [[(6, [El r.nl r.l, .int .i64 r.c]), (27000, [.ptr 0 27001 [] 0, .int .i64 c]), (27001, [shC ver rows]), (4, [.bool false]), (3, [.int .i64 i, .int .i64 s])]] 0 27000 27001 ver rows c := ⟨by simp, by simp, by decide⟩
  have h29' := app29 (fm_da hd hs.dok i s) (okO_get hs.dok _)
  have h26' := app26 (.inr ⟨_, _, rfl⟩) (finds hd hs.dok i s) (okO_get hs.dok _)
  have h31' := app31 (.inr ⟨_, _, rfl⟩) (finds hd hs.dok i s) (okO_get hs.dok _)
  have h30' := app30 r hs.rok i s
  have h32' := app32 r hs.rok i s
  have h33' := app33 r.nl r.l r.c i s hs.rok.1
  have h34' := app34 r.nl r.l r.c hs.rok.1
  obtain ⟨a1, a2⟩ := hs.read i s
  have a3 := hs.num i s
  have a4 := hs.has i s
  rw [a1, a2] at h29'
  rw [a3] at h31'
  have hraw : (getW rows (knum i s)).isSome = false → (rawB (getW rows (knum i s))).2 = [] := by
    intro h
    cases hg : getW rows (knum i s) with
    | none => rfl
    | some x => rw [hg] at h; cases h
  rw [a4] at h26' hraw
  generalize (readO (getW rows (knum i s)) (missW rows i)).1 = n1 at *
  generalize readR r i s = X at *
  obtain ⟨X1, X2⟩ := X
  generalize numR r i s = Y at *
  obtain ⟨Y1, Y2⟩ := Y
  generalize rawB (getW rows (knum i s)) = Z at *
  obtain ⟨Z1, Z2⟩ := Z
  have hh : hasA r.l i s = decide (0 ≤ atA r.l i s) := rfl
  rw [hh] at h26' hraw
  have bb : ∀ z : List Int, ((strOf z).toList == (strOf z).toList) = true := fun z => by simp
  -- the sub-indices
  have hF := hs.subs i
  obtain ⟨W, hW⟩ : ∃ W, W = wantE (sortE r.l) i := ⟨_, rfl⟩
  have hWl : (subW rows i).length = W.length := by rw [f2_len hF, hW]; simp [wantE]
  have hWlen : W.length < 1000000 := by
    have h1 : W.length ≤ (sortE r.l).length := by rw [hW]; simp only [wantE, List.length_map]; exact List.length_filter_le _ _
    have h2 := hs.rok.1
    rw [sortE_len] at h1; omega
  have hWt : ∀ t (h1 : t < (subW rows i).length) (h2 : t < W.length), (subW rows i)[t].n - knum i 0 = W[t] := by
    intro t h1 h2
    have hre := f2_get hF t h1 (by rw [← f2_len hF]; exact h1)
    have hmem : ((sortE r.l).filter fun y => y.i == i)[t]'(by rw [← f2_len hF]; exact h1) ∈ (sortE r.l).filter fun y => y.i == i := List.getElem_mem _
    obtain ⟨hm1, hm2⟩ := List.mem_filter.1 hmem
    have hok := (hs.rok.2 _ (sortE_mem.1 hm1)).2.1
    have hWg : W[t] = (((sortE r.l).filter fun y => y.i == i)[t]'(by rw [← f2_len hF]; exact h1)).s := by simp [hW, wantE]
    rw [hWg, hre.1]
    simp only [beq_iff_eq] at hm2
    rw [hm2] at hok ⊢
    have ho : okK i 0 = true := by
      simp only [okK, Bool.and_eq_true, decide_eq_true_eq] at hok ⊢
      omega
    rw [knum, if_pos ho]
    omega
  have hd2 : ∀ q n, DA [own6 i s ver rows c W q n] 0 1000000000 1000000001 ver rows c := fun q n => ⟨by simp [own6], by simp [own6], by decide⟩
  obtain ⟨⟨q, n⟩, g1, g2⟩ := @app82 (Nat × Int) (fun p => [own6 i s ver rows c W p.1 p.2]) 1 (fun p => rfl) rows hs.dok i 6 0 [4, 18, 21] [.ptr 0 4 [] 0, .ptr 0 18 [] 0, .ptr 0 21 [] 0] 0 500000000 (by omega)
    (fun t p => p = (0, (t : Int))) (fun p => False) (fun t ht p o1 o2 o3 o4 hp => by
      subst hp
      have ht2 : t < W.length := by omega
      refine ⟨true, (0, ((t + 1 : Nat) : Int)), ?_, by rw [if_pos rfl]⟩
      rw [hWt t ht ht2]
      exact rnd6 i s ver rows c W t ht2 hWlen o1 o2 o3 o4) (0, 0) rfl 0 131000 0 131001 0 1000000000 1000000001 ver c (by simp [own6]) (by simp [own6]) (hd2 _ _)
  have g3 := g1.resolve_right id
  simp only [Prod.mk.injEq] at g3
  obtain ⟨rfl, rfl⟩ := g3
  rw [hWl] at g2
  have h35' := app35 [[(21, [.int .i64 0]), (3, [.int .i64 i, .int .i64 s]), (4, [.bool false]), (18, [cellW W]), (1000000000, [.ptr 0 1000000001 [] 0, .int .i64 c]), (1000000001, [shC ver rows])]] 0 1000000000 i (by simp)
  have hlp := @loop6 i s r ver rows c hs.rok.1
  have hWfull : wantE ((sortE r.l).take r.l.length) i = W := by rw [hW, ← sortE_len r.l, List.take_length]
  simp only [c6, Cd.inner, Cd.body, S6] at hlp
  rw [hWfull] at hlp
  have hW0 : wantE ((sortE r.l).take 0) i = [] := rfl
  rw [hW0] at hlp
  have hSl : (sortE r.l).length = r.l.length := sortE_len _
  simp only [own6, cellW, List.length_singleton, List.length_cons, List.length_nil, RD.pv] at g2 h22' h35' hlp h29' h26' h31' h30' h32'
  have hwl : ((W.length : Int) == (W.length : Int)) = true := by simp
  rw [app_fn E rfl h6 rfl]
  by_cases hat : 0 ≤ atA r.l i s
  · rw [decide_eq_true hat] at h26'
    simp [c6, h22', h29', h26', h31', h30', h32', h33', h34', bb, bytesP_bs, hat, bagName, PV.retag, PV.retag1]
    rw [hlp (by simp)]
    simp [hSl, h35', g2, live14, bagName, PV.retag, PV.retag1]
  · rw [decide_eq_false hat] at h26' hraw
    have hz := hraw rfl
    simp only at hz
    subst hz
    simp [c6, h22', h29', h26', h31', h30', h32', h33', h34', bb, bytesP_bs, hat, bagName, PV.retag, PV.retag1]
    rw [hlp (by simp)]
    simp [hSl, h35', g2, live14, bagName, PV.retag, PV.retag1]
end Go.Proofs.Ytnagbdodcjlbjaa.ZJM.DC
