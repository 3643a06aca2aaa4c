/- DictFull: its function. -/
import Derived.Test.YtnagbdodcjlbjaaZDP3
set_option linter.unusedSimpArgs false
set_option linter.unusedVariables false
set_option maxRecDepth 4000
namespace Go.Proofs.Ytnagbdodcjlbjaa.ZJM.DC
open Go.Proofs.Ytnagbdodcjlbjaa.ZJM Go.RowKit

def key8 (j : Nat) : Int := (1 + (j : Int) / 4) * 256 + (j : Int) % 4
structure Full (t : Nat) (rows : List Row) : Prop where
  dok : Dok rows
  len : rows.length = t
  has : ∀ n, (getW rows n).isSome = true ↔ ∃ j, j < t ∧ n = key8 j
theorem key8_inj {a b : Nat} (h : key8 a = key8 b) : a = b := by
  unfold key8 at h; omega
theorem key8_ok {j : Nat} (hj : j < 512) : okK (1 + (j : Int) / 4) ((j : Int) % 4) = true := by
  simp only [okK, Bool.and_eq_true, decide_eq_true_eq]; omega
theorem key8_knum {j : Nat} (hj : j < 512) : knum (1 + (j : Int) / 4) ((j : Int) % 4) = key8 j := by rw [knum, if_pos (key8_ok hj), key8]
theorem full_zero : Full 0 [] := ⟨⟨by simp, fun i j _ hj => by simp at hj, fun x hx => by simp at hx⟩, rfl, fun n => by simp [getW]⟩
theorem may8 : mayA 2 3 0 255 = true := by decide
theorem first8 : firstB 2 3 0 255 [] = [0] := by
  have h : fitsA 2 3 0 255 [] = 101122067 := by decide
  rw [firstB, if_pos ⟨rfl, by rw [h]; decide⟩]
  decide
theorem fits8 : fitsA 2 3 0 255 [0] = 0 := by decide
theorem fits8' : fitsA 2 3 0 255 [1] = 0 := by decide
theorem full_add {t : Nat} {rows : List Row} (h : Full t rows) (ht : t < 512) : addWC rows (1 + (t : Int) / 4) ((t : Int) % 4) 2 3 0 255 [] = 0 ∧ Full (t + 1) (addWR rows (1 + (t : Int) / 4) ((t : Int) % 4) 2 3 0 255 true []) := by
  have hk := key8_knum ht
  have hno : getW rows (key8 t) = none := by
    cases hg : getW rows (key8 t) with
    | none => rfl
    | some x =>
      obtain ⟨j, hj, e⟩ := (h.has (key8 t)).1 (by rw [hg]; rfl)
      have := key8_inj e; omega
  have hris := ris_iff.1 h.dok.ris
  have hnl : (if ([] : List Int) = [] ∧ fitsA 2 3 0 255 [] ≠ 0 then false else true) = false := by
    rw [if_pos ⟨rfl, by decide⟩]
  refine ⟨?_, ?_⟩
  · rw [addWC, addC, if_pos ⟨key8_ok ht, may8⟩, first8, if_pos fits8, hk, hno, h.len]
    simp; omega
  · rw [addWR, hk, first8, hnl]
    have hok : okRow ⟨key8 t, 2, 3, 0, 255, false, [0]⟩ := ⟨fun x hx => by simp at hx; omega, by simp, may8, fits8, _, _, key8_ok ht, rfl⟩
    refine ⟨dok_put h.dok hok (.inl (by have := h.len; omega)), ?_, fun n => ?_⟩
    · rw [putW_len hris]
      show (if (getW rows (key8 t)).isSome = true then _ else _) = _
      rw [hno]; simp [h.len]
    · rw [get_put hris]
      show (if n = key8 t then some _ else getW rows n).isSome = true ↔ _
      by_cases e : n = key8 t
      · rw [if_pos e]
        exact ⟨fun _ => ⟨t, by omega, e⟩, fun _ => rfl⟩
      · rw [if_neg e, h.has n]
        constructor
        · rintro ⟨j, hj, e2⟩; exact ⟨j, by omega, e2⟩
        · rintro ⟨j, hj, e2⟩
          refine ⟨j, ?_, e2⟩
          by_cases q : j = t
          · subst q; exact absurd e2 e
          · omega
section
variable (i s : Int)
def own8 (ver : Nat) (rows : List Row) : Lvl := [(1, [.int .i64 i, .int .i64 s]), (4, [.int .i64 2, .int .i64 3, .int .i64 0, .int .i64 255]), (1000000000, [.ptr 0 1000000001 [] 0, .int .i64 0]), (1000000001, [shC ver rows])]
def S8 (t : Nat) (ver : Nat) (rows : List Row) : St := ⟨[(1, .ptr 0 1 [] 0), (3, .ptr 0 1000000000 [] 0), (4, .ptr 0 4 [] 0), (5, .int .i64 t)], [], own8 i s ver rows, [], []⟩
theorem own8_da (ver : Nat) (rows : List Row) : DA [own8 i s ver rows] 0 1000000000 1000000001 ver rows 0 := ⟨by simp [own8], by simp [own8], by decide⟩
theorem own8_set (ver : Nat) (rows : List Row) (v : Nat) (l' : List Row) : dset [own8 i s ver rows] 0 1000000000 1000000001 v l' 0 = [own8 i s v l'] := by simp [dset, wr, own8]
theorem loop8 {st : St} (h0 : maskSt [1, 3, 4, 5] [1, 4] [] [3] st = some (S8 i s 0 0 [])) :
    ∃ e st', loopW (maskSt [1, 3, 4, 5] [1, 4] [] [3]) (Cd.run (app E) c8.body.inner.body) st = some (e, st') ∧ e ≠ .normal ∧
      (e = .exit 0 ∧ get st'.f 1 = some (.ptr 0 1 [] 0) ∧ get st'.f 3 = some (.ptr 0 1000000000 [] 0) ∧ get st'.f 4 = some (.ptr 0 4 [] 0) ∧ st'.m = [] ∧ st'.dead = [] ∧ st'.tops = [] ∧ ∃ ver rows, Full 512 rows ∧ st'.own = own8 i s ver rows) := by
  refine loop_inv (fun t S => ∃ ver rows, Full t rows ∧ S = S8 i s t ver rows) 512 _ h0 ⟨0, [], full_zero, rfl⟩ ?_ ?_
  · rintro t S ht ⟨ver, rows, hf, rfl⟩
    have hti : (t : Int) < 512 := by omega
    have hw := wrap_succ t (by omega)
    obtain ⟨h1, h2⟩ := full_add hf ht
    obtain ⟨v', h13'⟩ := app13 (own8_da i s ver rows) hf.dok (1 + (t : Int) / 4) ((t : Int) % 4) 2 3 0 255 true [] (fun x hx => by simp at hx) (fun _ => rfl)
    rw [h1, if_pos rfl, own8_set] at h13'
    have w1 : IntKind.i64.wrap ((t : Int).tdiv 4) = (t : Int) / 4 := by rw [Int.tdiv_eq_ediv_of_nonneg (by omega), wrap_id _ (by omega) (by omega)]
    have w1' : IntKind.i64.wrap ((t : Int) / 4) = (t : Int) / 4 := wrap_id _ (by omega) (by omega)
    have w2 : IntKind.i64.wrap (1 + (t : Int) / 4) = 1 + (t : Int) / 4 := wrap_id _ (by omega) (by omega)
    have w3 : (t : Int).tmod 4 = (t : Int) % 4 := Int.tmod_eq_emod_of_nonneg (by omega)
    generalize addWR rows (1 + (t : Int) / 4) ((t : Int) % 4) 2 3 0 255 true [] = rows' at *
    simp only [own8, encs_nil] at h13'
    have h13'' : app E false (.fn 13 []) [.ptr 0 1000000000 [] 0, .agg [.int .i64 (1 + (t : Int) / 4), .int .i64 ((t : Int) % 4)], .agg [.int .i64 2, .int .i64 3, .int .i64 0, .int .i64 255], .lst none true 1 []] _ = _ := h13'
    have hG : Goes (maskSt [1, 3, 4, 5] [1, 4] [] [3]) (S8 i s (t + 1) v' rows') (Cd.run (app E) c8.body.inner.body (S8 i s t ver rows)) := by
      simp [c8, Cd.inner, Cd.body, S8, own8, hti, w1, w1', w2, w3, hw, h13'']
    obtain ⟨st2, q1, q2⟩ := hG.get
    exact .inl ⟨st2, _, q1, q2, v', rows', h2, rfl⟩
  · rintro S ⟨ver, rows, hf, rfl⟩
    simp [c8, Cd.inner, Cd.body, S8, EndsL]
    exact ⟨ver, rows, hf, rfl⟩
def rd8a : Rd := (c8.rds[0]?).getD ⟨[], [], .skip, .skip⟩
set_option maxHeartbeats 4000000 in
theorem app8 : app E false (.fn 8 []) [ky i s] [] = some (.bool true, emptyBag, []) := by
  have h11 := app11 [[(1, [.int .i64 i, .int .i64 s])]]
  obtain ⟨e, ⟨f', tops', own', dead', m'⟩, q1, q2, rfl, g1, g3, g4, gm, gd, gt, ver, rows, hf, go⟩ := @loop8 i s ⟨[(5, .int .i64 0), (4, .ptr 0 4 [] 0), (15, .agg [.int .i64 2, .int .i64 3, .int .i64 0, .int .i64 255]), (3, .ptr 0 15000 [] 0), (14, .ptr 0 15000 [] 0), (2, .bool false), (1, .ptr 0 1 [] 0), (0, ky i s)], [], [(4, [.int .i64 2, .int .i64 3, .int .i64 0, .int .i64 255]), (15000, [.ptr 0 15001 [] 0, .int .i64 0]), (15001, [shC 0 []]), (1, [.int .i64 i, .int .i64 s])], [], []⟩ (by simp [S8, own8])
  simp only at g1 g3 g4 gm gd gt go
  subst gm; subst gd; subst gt; subst go
  have hd := own8_da i s ver rows
  obtain ⟨v', h13'⟩ := app13 hd hf.dok i s 2 3 0 255 false [1] (fun x hx => by simp at hx; omega) (by simp)
  have h44' := app44 i s
  -- what the full one answers
  have hfb : firstB 2 3 0 255 [1] = [1] := by rw [firstB, if_neg (by simp)]
  obtain ⟨w, hw⟩ : ∃ w, w = addWC rows i s 2 3 0 255 [1] := ⟨_, rfl⟩
  rw [← hw] at h13'
  have hw2 : w = if okK i s = true then (if i ≤ 128 ∧ s < 4 then 8 else 6) else 2 := by
    rw [hw, addWC, addC]
    by_cases ho : okK i s = true
    · rw [if_pos ⟨ho, may8⟩, if_pos ho, hfb, if_pos fits8', knum, if_pos ho]
      have ho' := ho
      simp only [okK, Bool.and_eq_true, decide_eq_true_eq] at ho'
      by_cases hc : i ≤ 128 ∧ s < 4
      · have : (getW rows (i * 256 + s)).isSome = true := (hf.has _).2 ⟨((i - 1) * 4 + s).toNat, by omega, by unfold key8; omega⟩
        rw [if_pos this, if_pos hc]
      · have : ¬ (getW rows (i * 256 + s)).isSome = true := by
          intro hh
          obtain ⟨j, hj, e⟩ := (hf.has _).1 hh
          unfold key8 at e
          omega
        rw [if_neg this, if_neg hc, if_pos hf.len]
    · rw [if_neg (fun hh => ho hh.1), if_neg ho]
  have hw0 : w ≠ 0 := by rw [hw2]; split; · split <;> decide
                         · decide
  rw [if_neg hw0] at h13'
  have hw00 : IntKind.i64.wrap 0 = 0 := wrap_id 0 (by decide) (by decide)
  simp only [c8, Cd.inner, Cd.body] at q1
  have hsh : shC 0 [] = .lst none true 6 [] := rfl
  rw [hsh] at q1 h11
  rw [app_fn E rfl h8 rfl]
  have n1 := fun own : Lvl => app29 (fm_nil [own] i s) okO_none
  have n2 := fun own : Lvl => app45_nil [own]
  have n3 := fun own : Lvl => app24_nil [own]
  have n4 := fun own : Lvl => app46_nil [own]
  have n5 := fun own : Lvl => app35_nil [own] i
  have n6 := fun own : Lvl => app25_nil [own] i s true []
  have n7 := fun own : Lvl => app13_nil [own] i s 2 3 0 255 true []
  have n8 := fun own : Lvl => app47_nil [own] i s true []
  have n9 := fun own : Lvl => app48_nil [own] i s 1
  have n10 := fun own : Lvl => app23_nil [own]
  have r1 := app88_nil [(500000000, [.lrec 0]) :: (59000, [.nilp]) :: (11, [.int .i64 0]) :: own8 i s ver rows] 0 59000 .nilp (by simp [own8]) 8 0 [11] [.ptr 0 11 [] 0] 0 500000000
  have r2 := app82_nil [(500000001, [.lrec 0]) :: (69000, [.int .i64 i]) :: (69001, [.nilp]) :: (59000, [.nilp]) :: (11, [.int .i64 0]) :: own8 i s ver rows] 0 69000 0 69001 i (by simp [own8]) (by simp [own8]) 8 1 [11] [.ptr 0 11 [] 0] 0 500000001
  simp only [own8, readO, Bl, Bs, encs_nil, encs_cons, List.length_singleton, List.length_cons, List.length_nil] at q1 h13' n1 n4 n5 n6 n7 n8 n9 r1 r2
  by_cases ho : okK i s = true
  · rw [if_pos ho] at hw2
    by_cases hc : i ≤ 128 ∧ s < 4
    · rw [if_pos hc] at hw2
      obtain ⟨hc1, hc2⟩ := hc
      subst hw2
      simp [c8, h11, bagName, PV.retag, PV.retag1, q1, g1, g3, g4, own8, h13', h44', ho, hc1, hc2, n1, n2, n3, n4, n5, n6, n7, n8, n9, n10, r1, r2, live14, hw00]
    · rw [if_neg hc] at hw2
      subst hw2
      by_cases hc1 : i ≤ 128
      · have hc2 : ¬ s < 4 := fun hh => hc ⟨hc1, hh⟩
        simp [c8, h11, bagName, PV.retag, PV.retag1, q1, g1, g3, g4, own8, h13', h44', ho, hc1, hc2, n1, n2, n3, n4, n5, n6, n7, n8, n9, n10, r1, r2, live14, hw00]
      · simp [c8, h11, bagName, PV.retag, PV.retag1, q1, g1, g3, g4, own8, h13', h44', ho, hc1, n1, n2, n3, n4, n5, n6, n7, n8, n9, n10, r1, r2, live14, hw00]
  · rw [if_neg ho] at hw2
    subst hw2
    simp [c8, h11, bagName, PV.retag, PV.retag1, q1, g1, g3, g4, own8, h13', h44', ho, n1, n2, n3, n4, n5, n6, n7, n8, n9, n10, r1, r2, live14, hw00]
end
end Go.Proofs.Ytnagbdodcjlbjaa.ZJM.DC
