/- DictHolds: its function. -/
import Derived.Test.YtnagbdodcjlbjaaZDP5
set_option linter.unusedSimpArgs false
set_option linter.unusedVariables false
set_option maxRecDepth 4000
namespace Go.Proofs.Ytnagbdodcjlbjaa.ZJM.DC
open Go.Proofs.Ytnagbdodcjlbjaa.ZJM Go.RowKit

section
variable (i s : Int) (nb : Bool) (b : List Int) (w : Int) (r : RD) (v1 : Nat) (R1 : List Row) (c1 : Int) (R0 : List Row) (c : Int)
def own5 : Lvl := [(4, [.int .i64 i, .int .i64 s]), (8, [El r.nl r.l, .int .i64 r.c]), (1000000000, [.ptr 0 1000000002 [] 0, .int .i64 c1]), (1000000001, [.ptr 0 1000000003 [] 0, .int .i64 c]), (1000000002, [shC v1 R1]), (1000000003, [shC 0 R0])]
def S5 (j : Nat) : St :=
  ⟨[(2, Bl nb b), (4, .ptr 0 4 [] 0), (7, .ptr 0 1000000000 [] 0), (8, .ptr 0 8 [] 0), (10, .ptr 0 1000000001 [] 0), (12, .int .i64 w), (13, .int .i64 j)], [], own5 i s r v1 R1 c1 R0 c, [], []⟩
variable (hs : Sim R0 c r) (hk1 : Dok R1) (hb : OkB b)
  (hw : (w ≠ 0 ∧ R1 = R0) ∨ (w = 0 ∧ ∃ x, getW R0 (knum i s) = some x ∧ R1 = putW (x.with nb b) R0 ∧ (x.a = 2 ∨ x.a = 3) ∧ fitsA x.k x.a x.l x.h b = 0))
include hs hk1 hb hw
theorem round5 (j : Nat) (hj : j < r.l.length) : Goes (maskSt [2, 4, 7, 8, 10, 12, 13] [4, 8] [] [7, 10]) (S5 i s nb b w r v1 R1 c1 R0 c (j + 1)) (Cd.run (app E) c5.body.inner.body (S5 i s nb b w r v1 R1 c1 R0 c j)) := by
  have hlen := hs.rok.1
  have hji : (j : Int) < r.l.length := by omega
  have hwj := wrap_succ j (by omega)
  have hy := hs.rok.2 _ (List.getElem_mem hj)
  obtain ⟨y, hyy⟩ : ∃ y, y = r.l[j] := ⟨_, rfl⟩
  rw [← hyy] at hy
  have hgE : (Es r.l)[j]? = some y.enc := by rw [List.getElem?_eq_getElem (by rw [encs_len]; exact hj), es_getE, hyy]
  have hd1 : DA [own5 i s r v1 R1 c1 R0 c] 0 1000000000 1000000002 v1 R1 c1 := ⟨by simp [own5], by simp [own5], by decide⟩
  have hd0 : DA [own5 i s r v1 R1 c1 R0 c] 0 1000000001 1000000003 0 R0 c := ⟨by simp [own5], by simp [own5], by decide⟩
  obtain ⟨x0, hx0, hre⟩ : ∃ x0, getW R0 (knum y.i y.s) = some x0 ∧ RE x0 y := by
    have hfd := hs.find y.i y.s
    cases hq : entR r.l y.i y.s with
    | none =>
      unfold entR at hq
      rw [List.find?_eq_none] at hq
      exact absurd (is_iff.2 ⟨rfl, rfl⟩) (hq y (by rw [hyy]; exact List.getElem_mem hj))
    | some z =>
      rw [hq] at hfd
      cases hg : getW R0 (knum y.i y.s) with
      | none => rw [hg] at hfd; exact hfd.elim
      | some x0 =>
        rw [hg] at hfd
        have hzm : z ∈ r.l := List.mem_of_find?_eq_some hq
        have hzi := is_iff.1 (List.find?_some hq)
        obtain ⟨t, ht, rfl⟩ := List.mem_iff_getElem.1 hzm
        have := hs.nd t j ht hj (by rw [hzi.1, hyy]) (by rw [hzi.2, hyy])
        subst this
        rw [← hyy] at hfd
        exact ⟨x0, rfl, hfd⟩
  have hok0 := okO_get hs.dok _ _ hx0
  have hr0 : app E false (.fn 26 []) [.ptr 0 1000000001 [] 0, ky y.i y.s] [own5 i s r v1 R1 c1 R0 c] = _ := app26 (.inr ⟨_, _, rfl⟩) (finds hd0 hs.dok _ _) (okO_get hs.dok _)
  have hr1 : app E false (.fn 26 []) [.ptr 0 1000000000 [] 0, ky y.i y.s] [own5 i s r v1 R1 c1 R0 c] = _ := app26 (.inr ⟨_, _, rfl⟩) (finds hd1 hk1 _ _) (okO_get hk1 _)
  rw [hx0] at hr0
  simp only [rawB, Option.isSome_some] at hr0
  obtain ⟨e0, e1, e2, e3, e4, e5⟩ := hre
  rw [e5] at hr0
  have bb : ∀ z : List Int, ((strOf z).toList == (strOf z).toList) = true := fun z => by simp
  rcases hw with ⟨hw0, rfl⟩ | ⟨rfl, x, hx, hR, hacc, hfit⟩
  · rw [hx0] at hr1
    simp only [rawB, Option.isSome_some] at hr1
    rw [e5] at hr1
    have hfy := hy.2.2.2
    have h27 := app27 y.k y.a y.l y.h x0.nl y.b hy.1
    rw [hfy] at h27
    have hw1 : (w != 0) = true := by simpa using hw0
    have hw2 : (w == 0) = false := by simpa using hw0
    generalize x0.nl = n0 at *
    simp only [own5] at hr0 hr1
    simp [c5, Cd.inner, Cd.body, S5, own5, hji, hj, hgE, ← hyy, es_getE, Ent.enc, Ent.cs, hr0, hr1, h27, hw1, hw2, bytesP_bs, bb, hwj]
  · have hris := ris_iff.1 hs.dok.ris
    have hxn := getW_n hx
    have hg1 : getW R1 (knum y.i y.s) = if knum y.i y.s = x.n then some (x.with nb b) else some x0 := by
      rw [hR, get_put hris, hx0]; rfl
    have hkk : okK i s = true := by
      cases ho : okK i s with
      | true => rfl
      | false =>
        exfalso
        obtain ⟨_, _, _, _, i', s', q1, q2⟩ := okO_get hs.dok _ _ hx
        rw [hxn, knum, ho] at q2
        simp only [okK, Bool.and_eq_true, decide_eq_true_eq] at q1
        simp at q2
        omega
    have hkey : knum y.i y.s = x.n ↔ (y.i = i ∧ y.s = s) := by
      rw [hxn, knum, if_pos hy.2.1, knum, if_pos hkk]
      exact key_iff hy.2.1 hkk
    by_cases he : y.i = i ∧ y.s = s
    · rw [hg1, if_pos (hkey.2 he)] at hr1
      simp only [rawB, Option.isSome_some, Row.with] at hr1
      have hxx : x = x0 := by
        rw [he.1, he.2, hx] at hx0
        exact Option.some.inj hx0
      have hfit' : fitsA y.k y.a y.l y.h b = 0 := by rw [hxx, e1, e2, e3, e4] at hfit; exact hfit
      have h27 := app27 y.k y.a y.l y.h nb b hb
      rw [hfit'] at h27
      have hacc' : y.a = 2 ∨ y.a = 3 := by rw [hxx, e2] at hacc; exact hacc
      have ha1 : (y.a == 1) = false := by simp; omega
      have ha4 : (y.a == 4) = false := by simp; omega
      have k1 : (y.i == i) = true := by simpa using he.1
      have k2 : (y.s == s) = true := by simpa using he.2
      generalize x0.nl = n0 at *
      simp only [own5] at hr0 hr1
      simp [c5, Cd.inner, Cd.body, S5, own5, hji, hj, hgE, ← hyy, es_getE, Ent.enc, Ent.cs, hr0, hr1, h27, bytesP_bs, bb, hwj, ha1, ha4, k1, k2]
    · rw [hg1, if_neg (fun hh => he (hkey.1 hh))] at hr1
      simp only [rawB, Option.isSome_some] at hr1
      rw [e5] at hr1
      have hfy := hy.2.2.2
      have h27 := app27 y.k y.a y.l y.h x0.nl y.b hy.1
      rw [hfy] at h27
      have k : (y.i == i && y.s == s) = false := by
        cases q : (y.i == i && y.s == s) with
        | false => rfl
        | true => simp at q; exact absurd q he
      generalize x0.nl = n0 at *
      simp only [own5] at hr0 hr1
      simp [c5, Cd.inner, Cd.body, S5, own5, hji, hj, hgE, ← hyy, es_getE, Ent.enc, Ent.cs, hr0, hr1, h27, bytesP_bs, bb, hwj, k]
theorem loop5 {st : St} (h0 : maskSt [2, 4, 7, 8, 10, 12, 13] [4, 8] [] [7, 10] st = some (S5 i s nb b w r v1 R1 c1 R0 c 0)) :
    loopW (maskSt [2, 4, 7, 8, 10, 12, 13] [4, 8] [] [7, 10]) (Cd.run (app E) c5.body.inner.body) st = c5.body.inner.body.run (app E) (S5 i s nb b w r v1 R1 c1 R0 c r.l.length) := by
  refine loop_eq (S5 i s nb b w r v1 R1 c1 R0 c) r.l.length (fun j hj => round5 i s nb b w r v1 R1 c1 R0 c hs hk1 hb hw j hj) ?_ h0
  simp [c5, Cd.inner, Cd.body, S5, own5]
end
theorem app5 (nl : Bool) (l : List Deed) (hl : ∀ x ∈ l, x.ok) (i s : Int) (nb : Bool) (b : List Int) (hb : OkB b) (hn : nb = true → b = []) : app E false (.fn 5 []) [.lst none nl 9 (Ds l), ky i s, Bl nb b] [] = some (.bool true, emptyBag, []) := by
  obtain ⟨r, ver, rows, c, hs, h22'⟩ := app22 [[(4, [.int .i64 i, .int .i64 s])]] nl l hl
  have hd : DA [[(8, [El r.nl r.l, .int .i64 r.c]), (21000, [.ptr 0 21001 [] 0, .int .i64 c]), (21001, [shC ver rows]), (4, [.int .i64 i, .int .i64 s])]] 0 21000 21001 ver rows c := ⟨by simp, by simp, by decide⟩
  have h23' := app23 hd hs.dok
  have hd2 : DA [[(26000, [.ptr 0 26001 [] 0, .int .i64 c]), (26001, [shC 0 rows]), (8, [El r.nl r.l, .int .i64 r.c]), (21000, [.ptr 0 21001 [] 0, .int .i64 c]), (21001, [shC ver rows]), (4, [.int .i64 i, .int .i64 s])]] 0 21000 21001 ver rows c := ⟨by simp, by simp, by decide⟩
  have h24' := app24 hd2
  obtain ⟨v', h25'⟩ := app25 hd2 hs.dok i s nb b hb hn
  have hset : ∀ l' c', dset [[(26000, [.ptr 0 26001 [] 0, .int .i64 c]), (26001, [shC 0 rows]), (8, [El r.nl r.l, .int .i64 r.c]), (21000, [.ptr 0 21001 [] 0, .int .i64 c]), (21001, [shC ver rows]), (4, [.int .i64 i, .int .i64 s])]] 0 21000 21001 v' l' c' = [[(26000, [.ptr 0 26001 [] 0, .int .i64 c]), (26001, [shC 0 rows]), (8, [El r.nl r.l, .int .i64 r.c]), (21000, [.ptr 0 21001 [] 0, .int .i64 c']), (21001, [shC v' l']), (4, [.int .i64 i, .int .i64 s])]] := fun l' c' => by simp [dset, wr]
  simp only [hset] at h25'
  obtain ⟨w, hwe⟩ : ∃ w, w = writeO (getW rows (knum i s)) (missW rows i) b := ⟨_, rfl⟩
  rw [← hwe] at h25'
  simp only [List.length_singleton, List.length_cons, List.length_nil, RD.pv] at h22' h23'
  rw [app_fn E rfl h5 rfl]
  by_cases hw : w = 0
  · rw [if_pos hw, hw] at h25'
    have hx : ∃ x, getW rows (knum i s) = some x ∧ (x.a = 2 ∨ x.a = 3) ∧ fitsA x.k x.a x.l x.h b = 0 := by
      cases hg : getW rows (knum i s) with
      | none => rw [hg, writeO] at hwe; unfold missW at hwe; split at hwe <;> omega
      | some x =>
        rw [hg, writeO] at hwe
        by_cases d : writesA x.a = 0
        · rw [if_pos d] at hwe
          refine ⟨x, rfl, ?_, by rw [← hwe]; exact hw⟩
          unfold writesA at d
          by_cases q : x.a = 2 ∨ x.a = 3
          · exact q
          · rw [if_neg q] at d; split at d <;> simp at d
        · rw [if_neg d] at hwe; omega
    obtain ⟨x, hx1, hx2, hx3⟩ := hx
    have hhold : holdW rows (knum i s) nb b = putW (x.with nb b) rows := by rw [holdW, hx1]
    have hs2 := hs.hold hx1 nb b hb hn hx3
    have h := @loop5 i s nb b 0 r v' (holdW rows (knum i s) nb b) (holdC rows c (knum i s) b) rows c hs hs2.dok hb (.inr ⟨rfl, x, hx1, hhold, hx2, hx3⟩)
    simp only [c5, Cd.inner, Cd.body, S5, own5] at h
    generalize holdW rows (knum i s) nb b = R1 at *
    generalize holdC rows c (knum i s) b = c1 at *
    simp [c5, h22', h23', h24', h25', bagName, PV.retag, PV.retag1]
    rw [h (by simp)]
    simp [live14]
  · rw [if_neg hw] at h25'
    have hw1 : (w != 0) = true := by simpa using hw
    have h := @loop5 i s nb b w r ver rows c rows c hs hs.dok hb (.inl ⟨hw, rfl⟩)
    simp only [c5, Cd.inner, Cd.body, S5, own5] at h
    simp [c5, h22', h23', h24', h25', hw1, bagName, PV.retag, PV.retag1]
    rw [h (by simp)]
    simp [live14]
end Go.Proofs.Ytnagbdodcjlbjaa.ZJM.DC
