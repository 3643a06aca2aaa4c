/- What was stored is loaded: the plain law. -/
import Derived.Test.YtmffcpiffkclgaaZEW6
import Derived.Test.YtmffcpiffkclgaaZEW4
import Derived.Test.YtmffcpiffkclgaaZEI4
set_option linter.unusedSimpArgs false
set_option linter.unusedVariables false
set_option maxRecDepth 10000
namespace Go.Proofs.Ytmffcpiffkclgaa.ZJM.DC
open Go.Proofs.Ytmffcpiffkclgaa.ZJM Go.RowKit

theorem num_set1 {r : RD} (hr : r.ok) {i s n : Int} (h : setC r i s n = 0) : numR (setR r i s n) i s = (n, true) := by
  have hb := slotB_set h ⟨i, s, 0⟩
  rw [if_pos ⟨rfl, rfl⟩] at hb
  unfold numR
  unfold slotB at hb
  simp only at hb
  rcases skel_entry (skel_set r i s n) i s with ⟨h1, h2⟩ | ⟨j, x, x', h1, h2, h3, h4, e1, e2, e3, e4⟩
  · have := set_some h; rw [h2] at this; cases this
  · rw [h1] at hb ⊢
    simp only [h3] at hb ⊢
    obtain ⟨hjl, hje⟩ := List.getElem?_eq_some_iff.1 h4
    have hok := hr.2 x' (by rw [← hje]; exact List.getElem_mem hjl)
    have hc : setC r i s n = if x'.a = 4 then 12 else if x'.k = 8 then 2 else if n < x'.l ∨ x'.h < n then 14 else 0 := by simp [setC, h2, h4]
    have hB : setB r i s n = kb (ksz x'.k).toNat n := by simp [setB, h2, h4]
    rw [hc] at h
    by_cases a4 : x'.a = 4
    · rw [if_pos a4] at h; omega
    rw [if_neg a4] at h
    by_cases k8 : x'.k = 8
    · rw [if_pos k8] at h; omega
    rw [if_neg k8] at h
    by_cases q : n < x'.l ∨ x'.h < n
    · rw [if_pos q] at h; omega
    have hz := may_num hok.2.2.1 k8
    have hp := put_fits hok.2.2.1 hz (show x'.l ≤ n by omega) (show n ≤ x'.h by omega)
    have hg := get_kb (may_put hok.2.2.1 hz (show x'.l ≤ n by omega) (show n ≤ x'.h by omega))
    rw [hb, hB, e1, e2, e3, e4, numA, if_pos ⟨hz, hp⟩, hg]
theorem num_set2 {r : RD} {i s n i' s' : Int} (h : ¬ (i' = i ∧ s' = s)) : numR (setR r i s n) i' s' = numR r i' s' := by
  by_cases hz : setC r i s n = 0
  · refine skel_num (skel_set r i s n) ?_
    rw [slotB_set hz, if_neg h]
  · rw [setR_no hz]
theorem fold_other {w : RD × Int} (Q : List (Int × Int × Int)) {i s : Int} (h : ∀ x ∈ Q, ¬ (i = x.1 ∧ s = x.2.1)) : numR (Q.foldl stepS w).1 i s = numR w.1 i s := by
  induction Q generalizing w with
  | nil => rfl
  | cons x Q ih =>
    rw [List.foldl_cons, ih fun y hy => h y (by simp [hy]), stepS]
    split
    · exact num_set2 (h x (by simp))
    · rfl
theorem fold_get {l : List Row} {c : Int} {w : RD × Int} (hs : Sim l c w.1) (Q : List (Int × Int × Int)) (hn : (Q.map fun x => (x.1, x.2.1)).Nodup) (h : (Q.foldl stepS w).2 = 0) : ∀ x ∈ Q, numR (Q.foldl stepS w).1 x.1 x.2.1 = (x.2.2, true) := by
  induction Q generalizing w l c with
  | nil => intro x hx; cases hx
  | cons y Q ih =>
    rw [List.map_cons, List.nodup_cons] at hn
    obtain ⟨l', c', hs'⟩ := sim_step hs y
    rw [List.foldl_cons] at h ⊢
    have hw : w.2 = 0 := by
      by_cases hw : w.2 = 0
      · exact hw
      · have e : stepS w y = w := by rw [stepS, if_neg hw]
        rw [e, stepS_bad hw] at h
        exact absurd h hw
    have hst : stepS w y = (setR w.1 y.1 y.2.1 y.2.2, setC w.1 y.1 y.2.1 y.2.2) := by rw [stepS, if_pos hw]
    have hz : setC w.1 y.1 y.2.1 y.2.2 = 0 := by
      by_cases hz : setC w.1 y.1 y.2.1 y.2.2 = 0
      · exact hz
      · have e : (stepS w y).2 ≠ 0 := by rw [hst]; exact hz
        rw [stepS_bad e] at h
        exact absurd h e
    intro x hx
    rcases List.mem_cons.1 hx with rfl | hx
    · rw [fold_other Q, hst]
      · exact num_set1 hs.rok hz
      · intro z hz2 hh
        refine hn.1 (List.mem_map.2 ⟨z, hz2, ?_⟩)
        exact Prod.ext hh.1.symm hh.2.symm
    · exact ih hs' hn.2 h x hx
theorem skel_step (w : RD × Int) (x : Int × Int × Int) : skel (stepS w x).1 = skel w.1 := by
  unfold stepS; split
  · exact skel_set _ _ _ _
  · rfl
theorem skel_fold (w : RD × Int) (Q : List (Int × Int × Int)) : skel (Q.foldl stepS w).1 = skel w.1 := by
  induction Q generalizing w with
  | nil => rfl
  | cons x Q ih => rw [List.foldl_cons, ih, skel_step]
theorem skel_store (r : RD) (c : Int) (f : Nat → Int) : skel (storeA r c f).1 = skel r := by
  unfold storeA
  split
  · split
    · exact skel_fold (r, 0) _
    · rfl
  · rfl
theorem setQ_keys (c : Int) (f : Nat → Int) : ((setQ c f).map fun x => (x.1, x.2.1)) = nameL c := rfl
theorem nameL_nodup (c : Int) : (nameL c).Nodup := by
  simp [nameL]
/-! ### the entries that all tables have -/
def spK (i s : Int) : Option (Int × Int × Int) := (findIx rAll.l i s).bind fun n => (rAll.l[n]?).map fun x => (x.k, x.l, x.h)
def isK (i s : Int) : Bool := match spK i s with
  | none => false
  | some q => decide (0 < ksz q.1)
def isU (i s : Int) : Bool := match spK i s with
  | none => false
  | some q => decide (0 < ksz q.1) && (decide (q.2.1 = 0) && decide (q.2.2 = 4294967295))
theorem keys_all : ((List.range 4).all fun c => ((List.range 7).all fun (j : Nat) => isK (4865 + (c : Int)) (j : Int)) && (isK (4993 + (c : Int)) 0 && (((List.range 8).all fun (j : Nat) => isU (4993 + (c : Int)) ((j : Int) + 1)) && isK 5119 ((c : Int) + 1)))) = true := by kernel_rfl
theorem num_in {r : RD} (hk : skel r = skel rAll) (hr : r.ok) {i s : Int} {q : Int × Int × Int} (hq : spK i s = some q) (hz : 0 < ksz q.1) : (numR r i s).2 = true ∧ q.2.1 ≤ (numR r i s).1 ∧ (numR r i s).1 ≤ q.2.2 := by
  unfold numR
  unfold spK at hq
  rcases skel_entry hk i s with ⟨h1, h2⟩ | ⟨j, x, x', h1, h2, h3, h4, e1, e2, e3, e4⟩
  · rw [h2] at hq; cases hq
  · rw [h2] at hq
    simp only [Option.bind_some, h4, Option.map_some, Option.some.injEq] at hq
    subst hq
    rw [h1]
    simp only [h3]
    obtain ⟨hjl, hje⟩ := List.getElem?_eq_some_iff.1 h3
    have hok := hr.2 x (by rw [← hje]; exact List.getElem_mem hjl)
    simp only at hz ⊢
    rw [← e1] at hz
    have hg := fits_get hz hok.2.2.2
    rw [numA, if_pos ⟨hz, hok.2.2.2⟩, ← e3, ← e4]
    exact ⟨rfl, hg.2.2.2⟩
theorem isK_num {r : RD} (hk : skel r = skel rAll) (hr : r.ok) {i s : Int} (h : isK i s = true) : (numR r i s).2 = true := by
  unfold isK at h
  cases hq : spK i s with
  | none => rw [hq] at h; cases h
  | some q =>
    rw [hq] at h
    simp only [decide_eq_true_eq] at h
    exact (num_in hk hr hq h).1
theorem isU_num {r : RD} (hk : skel r = skel rAll) (hr : r.ok) {i s : Int} (h : isU i s = true) : (numR r i s).2 = true ∧ 0 ≤ (numR r i s).1 ∧ (numR r i s).1 ≤ 4294967295 := by
  unfold isU at h
  cases hq : spK i s with
  | none => rw [hq] at h; cases h
  | some q =>
    rw [hq] at h
    simp only [Bool.and_eq_true, decide_eq_true_eq] at h
    have := num_in hk hr hq h.1
    rw [h.2.1, h.2.2] at this
    exact this
theorem keys_at {c : Int} (h0 : 0 ≤ c) (h4 : c < 4) : (∀ j : Nat, j < 7 → isK (4865 + c) (j : Int) = true) ∧ isK (4993 + c) 0 = true ∧ (∀ j : Nat, j < 8 → isU (4993 + c) ((j : Int) + 1) = true) ∧ isK 5119 (c + 1) = true := by
  have h := List.all_eq_true.1 keys_all c.toNat (List.mem_range.2 (by omega))
  have e : (c.toNat : Int) = c := by omega
  rw [e] at h
  simp only [Bool.and_eq_true, List.all_eq_true, List.mem_range] at h
  exact h
theorem load_ok {r : RD} (hk : skel r = skel rAll) (hr : r.ok) {c : Int} (h0 : 0 ≤ c) (h4 : c < 4) : loadOk r c = true := by
  obtain ⟨k1, k2, k3, k4⟩ := keys_at h0 h4
  have hT : ∀ j : Nat, j < 7 → (numR r (4865 + c) (j : Int)).2 = true := fun j hj => isK_num hk hr (k1 j hj)
  simp only [loadOk, hasM, hasT, Bool.and_eq_true, List.all_eq_true, List.mem_range]
  exact ⟨⟨⟨⟨⟨⟨⟨⟨hT, hT 1 (by omega)⟩, hT 2 (by omega)⟩, hT 3 (by omega)⟩, hT 5 (by omega)⟩, hT 6 (by omega)⟩, isK_num hk hr k2⟩, fun j hj => (isU_num hk hr (k3 j hj)).1⟩, isK_num hk hr k4⟩
theorem load_bd {r : RD} (hk : skel r = skel rAll) (hr : r.ok) {c : Int} (h0 : 0 ≤ c) (h4 : c < 4) : ∀ j : Nat, j < 8 → 0 ≤ (numR r (4993 + c) ((j : Int) + 1)).1 ∧ (numR r (4993 + c) ((j : Int) + 1)).1 ≤ 4294967295 := by
  obtain ⟨k1, k2, k3, k4⟩ := keys_at h0 h4
  exact fun j hj => (isU_num hk hr (k3 j hj)).2
/-- Both load the same. -/
theorem load_same {m : Mem} {lv a a' ver : Nat} {l : List Row} {ct : Int} (hd : DA m lv a a' ver l ct) {r : RD} (hs : Sim l ct r) (hk : skel r = skel rAll) (c : Int) :
    ∃ g e, app E false (.fn 31 []) [.ptr lv a [] 0, .int .i64 c] m = some (.tup [.agg (CF g 30), .int .i64 e], emptyBag, m) ∧ app E false (.fn 28 []) [r.pv, .int .i64 c] [] = some (.tup [.agg (CF g 30), .int .i64 e], emptyBag, []) := by
  by_cases hc : 0 ≤ c ∧ c < 4
  · exact ⟨_, _, appx31 hd hs c hc.1 hc.2, appx28 hs.rok c hc.1 hc.2 (load_bd hk hs.rok hc.1 hc.2)⟩
  · exact ⟨_, _, appx31_no hd c hc, appx28_no r c hc⟩
/-! ### a slot's number back -/
theorem slot_word {x : Slot} (h : (wordA x.i x.s x.n).2 = 0) : slotP (wordA x.i x.s x.n).1 = x := by
  unfold wordA at h ⊢
  by_cases ho : okS x.i x.s x.n = true
  · rw [if_pos ho]
    simp only [okS, Bool.and_eq_true, decide_eq_true_eq] at ho
    obtain ⟨⟨⟨⟨⟨o1, o2⟩, o3⟩, o4⟩, o5⟩, o6⟩ := ho
    obtain ⟨i, s, n⟩ := x
    simp only at *
    rw [slotP, if_pos (by rw [wfits4]; simp only [Bool.and_eq_true, decide_eq_true_eq]; omega)]
    have e1 : (i * 65536 + s * 256 + n) / 65536 = i := by omega
    have e2 : (i * 65536 + s * 256 + n) / 256 % 256 = s := by omega
    have e3 : (i * 65536 + s * 256 + n) % 256 = n := by omega
    rw [e1, e2, e3]
  · rw [if_neg ho] at h; simp at h
def slC (x : Slot) (q : Nat) : Int := if q = 0 then x.i else if q = 1 then x.s else x.n
theorem loadT_lo (r : RD) (c : Int) (t p : Nat) (hp : p < 6) : loadT r c t p = headL r c p := by
  induction t with
  | zero => rfl
  | succ t ih =>
    rw [loadT]
    split
    · rw [up3, if_neg (by omega), if_neg (by omega), if_neg (by omega), ih]
    · exact ih
theorem loadT_hi (r : RD) (c : Int) (t j q : Nat) (hq : q < 3) : loadT r c t (j * 3 + 6 + q) = if j < t ∧ (j : Int) < numM r c then slC (slotP (numR r (4993 + c) ((j : Int) + 1)).1) q else 0 := by
  induction t with
  | zero =>
    rw [if_neg (by omega)]
    unfold loadT headL
    rw [if_neg (by omega), if_neg (by omega), if_neg (by omega), if_neg (by omega), if_neg (by omega), if_neg (by omega)]
  | succ t ih =>
    rw [loadT]
    by_cases hn : (t : Int) < numM r c
    · rw [if_pos hn, up3]
      by_cases e : j = t
      · subst e
        rw [if_pos (by omega : j < j + 1 ∧ (j : Int) < numM r c)]
        unfold slC
        rcases (by omega : q = 0 ∨ q = 1 ∨ q = 2) with rfl | rfl | rfl
        · simp
        · rw [if_neg (by omega), if_pos rfl]; simp
        · rw [if_neg (by omega), if_neg (by omega), if_pos rfl]; simp
      · rw [if_neg (by omega), if_neg (by omega), if_neg (by omega), ih]
        by_cases h : j < t ∧ (j : Int) < numM r c
        · rw [if_pos h, if_pos (by omega)]
        · rw [if_neg h, if_neg (by omega)]
    · rw [if_neg hn, ih]
      by_cases h : j < t ∧ (j : Int) < numM r c
      · rw [if_pos h, if_pos (by omega)]
      · rw [if_neg h, if_neg (by omega)]
/-- The table with the slots from the n-th to the k-th empty. -/
def zF (f : Nat → Int) (k : Nat) : Nat → Int := fun p => if (f 5).toNat * 3 + 6 ≤ p ∧ p < k * 3 + 6 then 0 else f p
theorem zF_succ (f : Nat → Int) (k : Nat) (h : (f 5).toNat ≤ k) : CF (up3 (zF f k) (6 + k * 3) 0 0 0) 30 = CF (zF f (k + 1)) 30 := by
  apply CF_ext
  intro p _
  unfold up3 zF
  by_cases h1 : p = 6 + k * 3
  · rw [if_pos h1, if_pos (by omega)]
  · by_cases h2 : p = 6 + k * 3 + 1
    · rw [if_neg h1, if_pos h2, if_pos (by omega)]
    · by_cases h3 : p = 6 + k * 3 + 2
      · rw [if_neg h1, if_neg h2, if_pos h3, if_pos (by omega)]
      · rw [if_neg h1, if_neg h2, if_neg h3]
        by_cases h4 : (f 5).toNat * 3 + 6 ≤ p ∧ p < k * 3 + 6
        · rw [if_pos h4, if_pos (by omega)]
        · rw [if_neg h4, if_neg (by omega)]
theorem zF_0 (f : Nat → Int) : CF (zF f (f 5).toNat) 30 = CF f 30 := by
  apply CF_ext
  intro p _
  unfold zF
  rw [if_neg (by omega)]
theorem store_load {l : List Row} {ct : Int} {r : RD} (hs : Sim l ct r) {c : Int} {f : Nat → Int} (h : (storeA r c f).2 = 0) : 0 ≤ c ∧ c < 4 ∧ 0 ≤ f 5 ∧ f 5 ≤ 8 ∧ CF (loadT (storeA r c f).1 c 8) 30 = CF (zF f 8) 30 := by
  unfold storeA at h ⊢
  by_cases hc : 0 ≤ c ∧ c < 4
  case neg => rw [if_neg hc] at h; simp at h
  rw [if_pos hc] at h ⊢
  by_cases hw : wordsOk f = true
  case neg => rw [if_neg hw] at h; simp at h
  rw [if_pos hw] at h ⊢
  obtain ⟨w0, w8, wj⟩ := (wordsOk_iff f).1 hw
  refine ⟨hc.1, hc.2, w0, w8, ?_⟩
  have hg := fold_get (w := (r, 0)) hs (setQ c f) (by rw [setQ_keys]; exact nameL_nodup c) h
  generalize ((setQ c f).foldl stepS (r, 0)).1 = r2 at *
  have g0 : numR r2 (4865 + c) 1 = (f 0, true) := hg (4865 + c, 1, f 0) (by simp [setQ])
  have g1 : numR r2 (4865 + c) 2 = (f 1, true) := hg (4865 + c, 2, f 1) (by simp [setQ])
  have g2 : numR r2 (4865 + c) 3 = (f 2, true) := hg (4865 + c, 3, f 2) (by simp [setQ])
  have g3 : numR r2 (4865 + c) 5 = (f 3, true) := hg (4865 + c, 5, f 3) (by simp [setQ])
  have g4 : numR r2 (4865 + c) 6 = (f 4, true) := hg (4865 + c, 6, f 4) (by simp [setQ])
  have g5 : numR r2 (4993 + c) 0 = (f 5, true) := hg (4993 + c, 0, f 5) (by simp [setQ])
  have gj : ∀ j : Nat, j < 8 → numR r2 (4993 + c) ((j : Int) + 1) = (wordL f j, true) := fun j hj => hg (4993 + c, (j : Int) + 1, wordL f j) (List.mem_append.2 (.inr (List.mem_map.2 ⟨j, List.mem_range.2 hj, rfl⟩)))
  have hM : numM r2 c = f 5 := by rw [numM, g5]
  apply CF_ext
  intro p hp
  by_cases h6 : p < 6
  · rw [loadT_lo _ _ _ _ h6]
    have hz : zF f 8 p = f p := by unfold zF; rw [if_neg (by omega)]
    rw [hz]
    rcases (by omega : p = 0 ∨ p = 1 ∨ p = 2 ∨ p = 3 ∨ p = 4 ∨ p = 5) with rfl | rfl | rfl | rfl | rfl | rfl <;> simp [headL, g0, g1, g2, g3, g4, g5]
  · obtain ⟨j, q, hq, rfl⟩ : ∃ j q, q < 3 ∧ p = j * 3 + 6 + q := ⟨(p - 6) / 3, (p - 6) % 3, by omega, by omega⟩
    rw [loadT_hi _ _ _ _ _ hq, hM]
    have hj : j < 8 := by omega
    rw [gj j hj]
    by_cases hn : (j : Int) < f 5
    · have hz : zF f 8 (j * 3 + 6 + q) = f (j * 3 + 6 + q) := by unfold zF; rw [if_neg (by omega)]
      rw [if_pos ⟨hj, hn⟩, hz]
      have e : wordL f j = (wordF f j).1 := by rw [wordL, if_pos hn]
      simp only [e]
      have := slot_word (x := slF f j) (wj j hn)
      unfold wordF
      rw [this]
      unfold slC slF
      rcases (by omega : q = 0 ∨ q = 1 ∨ q = 2) with rfl | rfl | rfl <;> simp
    · have hz : zF f 8 (j * 3 + 6 + q) = 0 := by unfold zF; rw [if_pos (by omega)]
      rw [if_neg (by omega), hz]
end Go.Proofs.Ytmffcpiffkclgaa.ZJM.DC

set_option linter.unusedSimpArgs false
set_option linter.unusedVariables false
set_option maxRecDepth 10000
namespace Go.Proofs.Ytmffcpiffkclgaa.ZJM.DC
open Go.Proofs.Ytmffcpiffkclgaa.ZJM Go.RowKit

theorem load_nil0 : loadOk rNil 0 = false := by kernel_rfl
def S6s (cc : Int) (f g : Nat → Int) (ev : Int) (k : Nat) : St := ⟨[(0, .int .i64 cc), (5, .ptr 0 5 [] 0), (15, .ptr 0 15 [] 0), (16, .int .i64 ev), (17, .int .i64 k)], [], [(5, CF (zF f k) 30), (15, CF g 30)], [], []⟩
theorem loop6 (cc : Int) (f g : Nat → Int) (ev : Int) (hf0 : 0 ≤ f 5) (hf8 : f 5 ≤ 8) {st : St} (hst : maskSt [0, 5, 15, 16, 17] [5, 15] [] [] st = some (S6s cc f g ev (f 5).toNat)) :
    ∃ e st', loopW (maskSt [0, 5, 15, 16, 17] [5, 15] [] []) (Cd.run (app E) cx6.body.inner.body) st = some (e, st') ∧ e ≠ .normal ∧ e = .exit 0 ∧ st'.m = [] ∧ st'.dead = [] ∧ st'.tops = [] ∧ get st'.f 0 = some (.int .i64 cc) ∧ get st'.f 5 = some (.ptr 0 5 [] 0) ∧ get st'.f 15 = some (.ptr 0 15 [] 0) ∧ get st'.f 16 = some (.int .i64 ev) ∧ st'.own = [(5, CF (zF f 8) 30), (15, CF g 30)] := by
  refine loop_inv (fun t S => S = S6s cc f g ev ((f 5).toNat + t)) (8 - (f 5).toNat) _ hst rfl ?_ ?_
  · rintro t S ht rfl
    generalize hk : (f 5).toNat + t = k
    have hk8 : k < 8 := by omega
    have hk7 : k ≤ 7 := by omega
    have hkI : (k : Int) < 8 := by omega
    have hw := wrap_succ k (by omega)
    have hput := CF_put3 (zF f k) (n := 30) (a := 6 + k * 3) (by omega) 0 0 0
    rw [zF_succ f k (by omega)] at hput
    have hb1 : 6 + k * 3 + 3 ≤ 30 := by omega
    have hG : Goes (maskSt [0, 5, 15, 16, 17] [5, 15] [] []) (S6s cc f g ev (k + 1)) (Cd.run (app E) cx6.body.inner.body (S6s cc f g ev k)) := by
      simp only [S6s]
      generalize zF f (k + 1) = g1 at *
      generalize zF f k = g0 at *
      simp [-isPlace, -moves, cx6, Cd.inner, Cd.body, hkI, hk7, hk8, hb1, hw, hput]
    obtain ⟨st2, q1, q2⟩ := hG.get
    exact .inl ⟨st2, _, q1, q2, by rw [← hk]; rfl⟩
  · rintro S rfl
    have e : (f 5).toNat + (8 - (f 5).toNat) = 8 := by omega
    rw [e]
    simp only [S6s]
    generalize zF f 8 = g0 at *
    simp [-isPlace, -moves, cx6, Cd.inner, Cd.body, EndsL]
def own6s (f : Nat → Int) (r : RD) (ver : Nat) (rows : List Row) (ct : Int) : Lvl := [(8, [El r.nl r.l, .int .i64 r.c]), (24000, [.ptr 0 24001 [] 0, .int .i64 ct]), (24001, [shC ver rows]), (5, CF f 30)]
theorem own6s_da (f : Nat → Int) (r : RD) (ver : Nat) (rows : List Row) (c : Int) : DA [own6s f r ver rows c] 0 24000 24001 ver rows c := ⟨by simp [own6s], by simp [own6s], by decide⟩
theorem own6s_set (f : Nat → Int) (r : RD) (ver : Nat) (rows : List Row) (c : Int) (v : Nat) (l' : List Row) (c' : Int) : dset [own6s f r ver rows c] 0 24000 24001 v l' c' = [own6s f r v l' c'] := by simp [dset, wr, own6s]
theorem load_new (rest : Lvl) : app E false (.fn 31 []) [.ptr 0 107000 [] 0, .int .i64 0] [(107000, [.ptr 0 107001 [] 0, .int .i64 0]) :: (107001, [shC 0 []]) :: rest] = some (.tup [.agg (CF (fun _ => 0) 30), .int .i64 7], emptyBag, [(107000, [.ptr 0 107001 [] 0, .int .i64 0]) :: (107001, [shC 0 []]) :: rest]) := by
  have hd : DA [(107000, [.ptr 0 107001 [] 0, .int .i64 0]) :: (107001, [shC 0 []]) :: rest] 0 107000 107001 0 [] 0 := ⟨by simp, by simp, by decide⟩
  have := appx31 hd sim_rNil 0 (by decide) (by decide)
  rw [load_nil0] at this
  exact this
set_option maxHeartbeats 4000000 in
theorem appx6 (cc oc : Int) (f : Nat → Int) : app E false (.fn 6 []) [.int .i64 cc, .int .i64 oc, .agg (CF f 30)] [] = some (.bool true, emptyBag, []) := by
  have z := CF_zero30
  obtain ⟨v0, l0, c0, hs0, h11⟩ := app84 [[(5, CF f 30)]]
  obtain ⟨m1, e25, v1, l1, c1, rfl, hs1⟩ := appx25 (own6s_da f rAll v0 l0 c0) hs0 cc f
  rw [own6s_set] at e25
  have h26 := appx26 cc f rAll hs0
  have hk1 : skel (storeA rAll cc f).1 = skel rAll := skel_store _ _ _
  have hd1 := own6s_da f (storeA rAll cc f).1 v1 l1 c1
  have h15 := app17 hd1 hs1
  have h29 := appx29 hd1 hs1 f
  have h30 := appx30 hs1.rok f
  have hsl := store_load (c := cc) (f := f) hs0
  obtain ⟨g, e, h31, h28⟩ := load_same hd1 hs1 hk1 oc
  have h31n := fun m => appx31_nil m cc
  have h25n := fun m g => appx25_nil m cc g
  have h32 := fun m => app11 m
  have h31w := load_new
  have h24 := live15
  have s1 := fun lv => shC_names lv v0 l0
  have s2 := fun a b ρ => shC_ren a b ρ v0 l0
  have s3 := fun a ks ts => shC_okn a ks ts v0 l0
  have s4 := shC_rec v0 l0
  have t1 := fun lv => shC_names lv 0 []
  have t2 := fun a b ρ => shC_ren a b ρ 0 []
  have t3 := fun a ks ts => shC_okn a ks ts 0 []
  have t4 := shC_rec 0 []
  have u2 := fun a b ρ => es_rens rAll.l a b ρ
  have u3 := fun a => es_deps rAll.l a
  have u4 := fun a b c => es_okns rAll.l a b c
  have u5 := fun a => es_names rAll.l a
  by_cases he : (storeA rAll cc f).2 = 0
  · obtain ⟨hc0, hc4, hf0, hf8, hcf⟩ := hsl he
    have hd2 : DA [(13, CF g 30) :: (11, CF g 30) :: own6s f (storeA rAll cc f).1 v1 l1 c1] 0 24000 24001 v1 l1 c1 := ⟨by simp [own6s], by simp [own6s], by decide⟩
    have h31c := appx31 hd2 hs1 cc hc0 hc4
    rw [load_ok hk1 hs1.rok hc0 hc4, if_pos rfl, eOf_t, hcf] at h31c
    rw [he] at e25 h26
    have hS0 : maskSt [0, 5, 15, 16, 17] [5, 15] [] [] (S6s cc f (zF f 8) 0 (f 5).toNat) = some (S6s cc f (zF f 8) 0 (f 5).toNat) := by
      simp only [S6s]
      generalize zF f 8 = g8
      generalize zF f (f 5).toNat = gN
      simp [-isPlace, -moves]
    obtain ⟨e2, ⟨f', tops', own', dead', m'⟩, q1, q2, rfl, gm, gd, gt, j0, j5, j15, j16, go⟩ := loop6 cc f (zF f 8) 0 hf0 hf8 hS0
    simp only at gm gd gt j0 j5 j15 j16 go
    subst gm gd gt go
    have hl := loop_at hS0 q1
    have hn : (((f 5).toNat : Nat) : Int) = f 5 := by omega
    have hmx : max (f 5) 0 = f 5 := by omega
    simp only [cx6, Cd.inner, Cd.body, S6s, zF_0, hn] at hl
    generalize (storeA rAll cc f).1 = r1 at *
    have w3 := fun a => es_deps r1.l a
    have w4 := fun a b c => es_okns r1.l a b c
    have p1 := fun lv => shC_names lv v1 l1
    have p2 := fun a b ρ => shC_ren a b ρ v1 l1
    have p3 := fun a ks ts => shC_okn a ks ts v1 l1
    have p4 := shC_rec v1 l1
    generalize fitsC r1 f = fb at *
    generalize zF f 8 = g8 at *
    simp only [own6s, RD.pv, El, rd] at *
    generalize shC v0 l0 = SS0 at *
    generalize shC v1 l1 = SS1 at *
    generalize shC 0 [] = SSn at *
    generalize Es r1.l = L1 at *
    generalize Es rAll.l = LA at *
    rw [app_fn E rfl hx6 rfl]
    simp [-isPlace, -moves, cx6, ← z, h11, e25, h26, h15, h29, h30, h31, h28, h31c, hl, j0, j5, j15, j16, h31n, h25n, h32, h31w, h24, hn, hmx, s1, s2, s3, s4, t1, t2, t3, t4, u2, u3, u4, u5, w3, w4, p1, p2, p3, p4, bagName, PV.retag, PV.retag1]
  · have he' : ((storeA rAll cc f).2 == 0) = false := by simpa using he
    generalize (storeA rAll cc f).2 = ee at *
    generalize (storeA rAll cc f).1 = r1 at *
    have w3 := fun a => es_deps r1.l a
    have w4 := fun a b c => es_okns r1.l a b c
    have p1 := fun lv => shC_names lv v1 l1
    have p2 := fun a b ρ => shC_ren a b ρ v1 l1
    have p3 := fun a ks ts => shC_okn a ks ts v1 l1
    have p4 := shC_rec v1 l1
    generalize fitsC r1 f = fb at *
    simp only [own6s, RD.pv, El, rd] at *
    generalize shC v0 l0 = SS0 at *
    generalize shC v1 l1 = SS1 at *
    generalize shC 0 [] = SSn at *
    generalize Es r1.l = L1 at *
    generalize Es rAll.l = LA at *
    rw [app_fn E rfl hx6 rfl]
    simp [-isPlace, -moves, cx6, ← z, h11, e25, h26, h15, h29, h30, h31, h28, he', h31n, h25n, h32, h31w, h24, s1, s2, s3, s4, t1, t2, t3, t4, u2, u3, u4, u5, w3, w4, p1, p2, p3, p4, bagName, PV.retag, PV.retag1]
end Go.Proofs.Ytmffcpiffkclgaa.ZJM.DC

set_option linter.unusedSimpArgs false
set_option linter.unusedVariables false
set_option maxRecDepth 10000
namespace Go.Proofs.Ytmffcpiffkclgaa.ZJM.DC
open Go.Proofs.Ytmffcpiffkclgaa.ZJM Go.RowKit
theorem CF_cons (a : Int) (f : Nat → Int) (n : Nat) : CF (fun j => if j = 0 then a else f (j - 1)) (n + 1) = PV.int .i64 a :: CF f n := by
  unfold CF
  rw [List.range_succ_eq_map, List.map_cons, List.map_map]
  congr 1
theorem ints_n (n : Nat) {ys : List PV} (h : CT.hass (List.replicate n (.int .i64)) ys) : ∃ f, ys = CF f n := by
  induction n generalizing ys with
  | zero =>
    simp only [List.replicate, CT.hass] at h
    exact ⟨fun _ => 0, h⟩
  | succ n ih =>
    simp only [List.replicate_succ, CT.hass, CT.has] at h
    obtain ⟨_, r, rfl, ⟨a, rfl, _⟩, h⟩ := h
    obtain ⟨f, rfl⟩ := ih h
    exact ⟨_, (CF_cons a f n).symm⟩
abbrev chanT : List CT := [.int .i64, .int .i64, .int .i64, .int .i64, .int .i64, .int .i64, .int .i64, .int .i64, .int .i64, .int .i64, .int .i64, .int .i64, .int .i64, .int .i64, .int .i64, .int .i64, .int .i64, .int .i64, .int .i64, .int .i64, .int .i64, .int .i64, .int .i64, .int .i64, .int .i64, .int .i64, .int .i64, .int .i64, .int .i64, .int .i64]
theorem chan_of {x : PV} (h : CT.val true chanT x) : ∃ f, x = .agg (CF f 30) := by
  obtain ⟨ys, rfl, h⟩ := h
  obtain ⟨f, rfl⟩ := ints_n 30 (ys := ys) h
  exact ⟨f, rfl⟩
theorem lawx6 {x0 x1 x2 : PV} (h0 : CT.val false [.int .i64] x0) (h1 : CT.val false [.int .i64] x1) (h2 : CT.val true chanT x2) : app E false (.fn 6 []) [x0, x1, x2] [] = some (.bool true, emptyBag, []) := by
  obtain ⟨c, rfl⟩ := int1 h0
  obtain ⟨oc, rfl⟩ := int1 h1
  obtain ⟨f, rfl⟩ := chan_of h2
  exact appx6 c oc f
end Go.Proofs.Ytmffcpiffkclgaa.ZJM.DC
