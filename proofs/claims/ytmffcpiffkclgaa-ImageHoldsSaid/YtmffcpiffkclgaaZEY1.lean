/- The image's values: what fits, with, Value, one. -/
import Derived.Test.YtmffcpiffkclgaaZEW8
import Derived.Test.YtmffcpiffkclgaaZEU1
set_option linter.unusedSimpArgs false
set_option linter.unusedVariables false
set_option maxRecDepth 10000
namespace Go.Proofs.Ytmffcpiffkclgaa.ZJM.DC
open Go.Proofs.Ytmffcpiffkclgaa.ZJM Go.RowKit

def LF (f : Nat → Int) : List Slot := slsF f (f 5).toNat
def fitsI (r : RD) (f : Nat → Int) : Bool := decide (0 ≤ f 5) && (decide (f 5 ≤ 8) && (checkA r (LF f) == 0))
theorem LF_len (f : Nat → Int) : (LF f).length = (f 5).toNat := slsF_len _ _
theorem CF_LF (f : Nat → Int) (h : f 5 ≤ 8) : chunks 3 (f 5).toNat ((CF f 30).drop 6) = Ss (LF f) := CF_chunks f _ (by omega)
theorem appx37 (r : RD) (hr : r.ok) (f : Nat → Int) : app E false (.fn 37 []) [r.pv, .agg (CF f 30)] [] = some (.bool (fitsI r f), emptyBag, []) := by
  have k5 := CF_get f 30 (k := 5) (by omega)
  have g4 := fun a => es_deps r.l a
  have g5 := fun a b c => es_okns r.l a b c
  rw [app_fn E rfl hx37 rfl]
  unfold fitsI
  by_cases h0 : 0 ≤ f 5
  case neg =>
    simp only [RD.pv, El, rd]
    generalize Es r.l = L0 at *
    simp [cx37, k5, h0]
  by_cases h8 : f 5 ≤ 8
  case neg =>
    simp only [RD.pv, El, rd]
    generalize Es r.l = L0 at *
    simp [cx37, k5, h0, h8]
  have h40 := app40 r hr false (LF f)
  have hch := CF_LF f h8
  have hok := fun a => ss_deps (LF f) a
  simp only [RD.pv, El, rd, Sl] at *
  generalize checkA r (LF f) = w at *
  generalize Ss (LF f) = SL at *
  generalize Es r.l = L0 at *
  simp [cx37, k5, h0, h8, hch, h40, g4, hok]
section
variable {m : Mem} {lv a a' ver : Nat} {l : List Row} {c : Int} (hd : DA m lv a a' ver l c) {r : RD} (hs : Sim l c r) (f : Nat → Int)
include hd hs in
theorem appx146 : ∃ v, app E false (.fn 146 []) [.ptr lv a [] 0, .agg (CF f 30)] m = some (.tup [v, .bool (fitsI r f)], emptyBag, m) ∧ (fitsI r f = true → v = Sl false (LF f)) ∧ (v = .lst none true 3 [] ∨ v = Sl false (LF f)) := by
  have hlt := hd.lv_lt
  have hlv : lv ≠ m.length := by omega
  have k5 := CF_get f 30 (k := 5) (by omega)
  unfold fitsI
  by_cases h0 : f 5 < 0
  · have h0' : ¬ 0 ≤ f 5 := by omega
    refine ⟨.lst none true 3 [], ?_, fun h => by simp [h0'] at h, .inl rfl⟩
    rw [app_fn E rfl hx146 rfl]
    simp [cx146, k5, h0, h0', hlv]
  by_cases h8 : 8 < f 5
  · have h8' : ¬ f 5 ≤ 8 := by omega
    refine ⟨.lst none true 3 [], ?_, fun h => by simp [h8'] at h, .inl rfl⟩
    rw [app_fn E rfl hx146 rfl]
    simp [cx146, k5, h0, h8, h8', hlv]
  have h0' : 0 ≤ f 5 := by omega
  have h8' : f 5 ≤ 8 := by omega
  have h39 := app39 (hd.cons []) hs false (LF f)
  have hch := CF_LF f h8'
  have hok := fun a b c => ss_okns (LF f) a b c
  have hdp := fun a => ss_deps (LF f) a
  refine ⟨Sl false (LF f), ?_, fun _ => rfl, .inr rfl⟩
  rw [app_fn E rfl hx146 rfl]
  simp only [Sl] at *
  generalize checkA r (LF f) = w at *
  generalize Ss (LF f) = SL at *
  simp [cx146, k5, h0, h8, h0', h8', hch, h39, hok, hdp, hlv]
include hd hs in
theorem appx100_no (hf : fitsI r f = false) (k : FuncId) (l1 s1 l2 s2 : Nat) (h1 : l1 ≠ m.length) (h2 : l2 ≠ m.length) : app E false (.fn 100 []) [.ptr lv a [] 0, .agg (CF f 30), .fn k [.ptr l1 s1 [] 0, .ptr l2 s2 [] 0]] m = some (.int .i64 14, emptyBag, m) := by
  have hlt := hd.lv_lt
  have hlv : lv ≠ m.length := by omega
  obtain ⟨v, e, _, hv⟩ := appx146 (hd.cons [(4, CF f 30)]) hs f
  have hok := fun a b c => ss_okns (LF f) a b c
  rw [hf] at e
  rw [app_fn E rfl hx100 rfl]
  rcases hv with rfl | rfl
  · simp [-isPlace, -moves, cx100, e, hlv, h1, h2]
  · simp only [Sl] at *
    generalize Ss (LF f) = SL at *
    simp [-isPlace, -moves, cx100, e, hlv, h1, h2]
include hd hs in
theorem appx100 (hf : fitsI r f = true) (k : FuncId) (l1 s1 l2 s2 : Nat) (h1 : l1 ≠ m.length) (h2 : l2 ≠ m.length) {w : Int} {m' : Mem} (hlen : m'.length = m.length) (hg : app E false (.fn k [.ptr l1 s1 [] 0, .ptr l2 s2 [] 0]) [Sl false (LF f)] ([(4, CF f 30)] :: m) = some (.int .i64 w, emptyBag, [(4, CF f 30)] :: m')) :
    app E false (.fn 100 []) [.ptr lv a [] 0, .agg (CF f 30), .fn k [.ptr l1 s1 [] 0, .ptr l2 s2 [] 0]] m = some (.int .i64 w, emptyBag, m') := by
  have hlt := hd.lv_lt
  have hlv : lv ≠ m.length := by omega
  obtain ⟨v, e, hv, _⟩ := appx146 (hd.cons [(4, CF f 30)]) hs f
  have hok := fun a b c => ss_okns (LF f) a b c
  rw [hv hf, hf] at e
  rw [app_fn E rfl hx100 rfl]
  simp only [Sl] at *
  generalize Ss (LF f) = SL at *
  simp [-isPlace, -moves, cx100, e, hlv, h1, h2, hg, hlen]
end
def valB (r : RD) (f : Nat → Int) : List Int := if fitsI r f = true then catA r (LF f) else []
def valE (r : RD) (f : Nat → Int) : Int := if fitsI r f = true then 0 else 14
theorem fitsI_check {r : RD} {f : Nat → Int} (h : fitsI r f = true) : 0 ≤ f 5 ∧ f 5 ≤ 8 ∧ checkA r (LF f) = 0 := by
  unfold fitsI at h
  simp only [Bool.and_eq_true, decide_eq_true_eq, beq_iff_eq] at h
  exact h
theorem fits_pack {r : RD} {f : Nat → Int} (h : fitsI r f = true) : packB r (LF f) = valB r f ∧ packE r (LF f) = 0 := by
  obtain ⟨_, _, hc⟩ := fitsI_check h
  rw [packB, packE, if_pos hc, if_pos hc, valB, if_pos h]
  exact ⟨rfl, rfl⟩
section
variable {m : Mem} {lv a a' ver : Nat} {l : List Row} {c : Int} (hd : DA m lv a a' ver l c) {r : RD} (hs : Sim l c r) (f : Nat → Int)
def own35 (f : Nat → Int) (lv a : Nat) (b : PV) : Lvl := [(6, [b]), (3, CF f 30), (2, [.ptr lv a [] 0])]
include hd hs in
theorem appx101 (o1 : Lvl) (hf : fitsI r f = true) : app E false (.fn 101 [.ptr m.length 2 [] 0, .ptr m.length 6 [] 0]) [Sl false (LF f)] (o1 :: own35 f lv a (.lst none true 1 []) :: m) = some (.int .i64 0, emptyBag, o1 :: own35 f lv a (Bl (valB r f).isEmpty (valB r f)) :: m) := by
  have hlt := hd.lv_lt
  have hlv : lv ≠ m.length := by omega
  have hlv1 : lv ≠ m.length + 1 := by omega
  have hlv2 : lv ≠ m.length + 2 := by omega
  have hn2 : ¬ m.length = m.length + 1 + 1 := by omega
  obtain ⟨_, _, e⟩ := app37 (((hd.cons (own35 f lv a (.lst none true 1 []))).cons o1).cons []) hs false (LF f)
  rw [(fits_pack hf).1, (fits_pack hf).2] at e
  have hok := fun a b c => ss_okns (LF f) a b c
  have hb := fun a b c => bs_okns (valB r f) a b c
  have hdb := fun a => bs_deps (valB r f) a
  rw [app_fn E rfl hx101 rfl]
  simp only [own35, Bl, Sl] at *
  generalize Ss (LF f) = SL at *
  generalize (valB r f).isEmpty = em at *
  generalize Bs (valB r f) = VB at *
  simp [-isPlace, -moves, cx101, e, hn2, hlv, hlv1, hlv2, hok, hb, hdb]
include hd hs in
theorem appx35 : app E false (.fn 35 []) [.ptr lv a [] 0, .agg (CF f 30)] m = some (.tup [Bl (valB r f).isEmpty (valB r f), .int .i64 (valE r f)], emptyBag, m) := by
  have hlt := hd.lv_lt
  have hlv : lv ≠ m.length := by omega
  have hd2 := hd.cons (own35 f lv a (.lst none true 1 []))
  cases hf : fitsI r f with
  | false =>
    have e := appx100_no hd2 hs f hf 101 m.length 2 m.length 6 (by simp) (by simp)
    have hv : valB r f = [] := by rw [valB, hf]; rfl
    have he : valE r f = 14 := by rw [valE, hf]; rfl
    rw [hv, he, app_fn E rfl hx35 rfl]
    simp only [own35] at *
    simp [-isPlace, -moves, cx35, e, hlv]
  | true =>
    have e1 := appx101 hd hs f [(4, CF f 30)] hf
    have e := appx100 hd2 hs f hf 101 m.length 2 m.length 6 (by simp) (by simp) (m' := own35 f lv a (Bl (valB r f).isEmpty (valB r f)) :: m) (by simp) e1
    have he : valE r f = 0 := by rw [valE, hf]; rfl
    have hb := fun a b c => bs_okns (valB r f) a b c
    have hdb := fun a => bs_deps (valB r f) a
    rw [he, app_fn E rfl hx35 rfl]
    simp only [own35, Bl] at *
    generalize (valB r f).isEmpty = em at *
    generalize Bs (valB r f) = VB at *
    simp [-isPlace, -moves, cx35, e, hlv, hb, hdb]
end
end Go.Proofs.Ytmffcpiffkclgaa.ZJM.DC

set_option linter.unusedSimpArgs false
set_option linter.unusedVariables false
set_option maxRecDepth 10000
namespace Go.Proofs.Ytmffcpiffkclgaa.ZJM.DC
open Go.Proofs.Ytmffcpiffkclgaa.ZJM Go.RowKit

def oneB (r : RD) (x : Slot) : List Int := if x.i ≤ 65279 ∧ (slotB r ⟨x.i + 256, x.s, 0⟩).length = (x.n / 8).toNat then slotB r ⟨x.i + 256, x.s, 0⟩ else zs (x.n / 8).toNat
def okX (x : Slot) : Prop := (x.n = 8 ∨ x.n = 16 ∨ x.n = 32) ∧ 0 ≤ x.i ∧ x.i ≤ 65535
theorem ksz124 (k : Int) (h : 0 < ksz k) : ksz k = 1 ∨ ksz k = 2 ∨ ksz k = 4 := by
  rcases kinds k with rfl | rfl | rfl | rfl | rfl | rfl | rfl | ⟨h1, h2, h3, h4, h5, h6, h7, e1, e2, e3, e4⟩
  all_goals first | (simp [ksz]; done) | (simp [ksz] at h; done) | (rw [e1] at h; simp at h)
theorem oneA_ok {r : RD} (hr : r.ok) {x : Slot} (h : oneA r x = true) : okX x := by
  unfold oneA at h
  cases hf : findIx r.l x.i x.s with
  | none => rw [hf] at h; cases h
  | some j =>
    rw [hf] at h
    obtain ⟨hj, e1, e2⟩ := findIx_some hf
    simp only [List.getElem?_eq_getElem hj, Bool.and_eq_true, decide_eq_true_eq, beq_iff_eq] at h
    obtain ⟨⟨_, hz⟩, hn⟩ := h
    have hk := (hr.2 _ (List.getElem_mem hj)).2.1
    rw [e1, e2] at hk
    simp only [okK, Bool.and_eq_true, decide_eq_true_eq] at hk
    refine ⟨?_, by omega, by omega⟩
    rcases ksz124 _ hz with q | q | q <;> rw [q] at hn <;> omega
theorem chk_each {r : RD} {L : List Slot} {acc : Int} (h : chk r acc L = 0) : ∀ x ∈ L, oneA r x = true := by
  induction L generalizing acc with
  | nil => intro x hx; cases hx
  | cons y L ih =>
    rw [chk] at h
    split at h
    · next h1 =>
      split at h
      · simp at h
      · intro x hx
        rcases List.mem_cons.1 hx with rfl | hx
        · exact h1
        · exact ih h x hx
    · simp at h
theorem fits_ok {r : RD} (hr : r.ok) {f : Nat → Int} (h : fitsI r f = true) : ∀ x ∈ LF f, okX x := by
  intro x hx
  exact oneA_ok hr (chk_each (check_chk (fitsI_check h).2.2).2 x hx)
theorem oneB_len {r : RD} {x : Slot} (h : okX x) : 1 ≤ (oneB r x).length ∧ (oneB r x).length ≤ 4 ∧ (oneB r x).length = (x.n / 8).toNat := by
  obtain ⟨hn, _, _⟩ := h
  have h8 : 1 ≤ (x.n / 8).toNat ∧ (x.n / 8).toNat ≤ 4 := by rcases hn with h | h | h <;> rw [h] <;> decide
  unfold oneB
  split
  · next hh => exact ⟨by omega, by omega, hh.2⟩
  · have e : (zs (x.n / 8).toNat).length = (x.n / 8).toNat := by simp [zs]
    exact ⟨by omega, by omega, e⟩
section
variable {m : Mem} {lv a a' ver : Nat} {l : List Row} {c : Int} (hd : DA m lv a a' ver l c) {r : RD} (hs : Sim l c r)
include hd hs in
theorem appx103 {x : Slot} (hx : okX x) : app E false (.fn 103 []) [.ptr lv a [] 0, .agg [.int .i64 x.i, .int .i64 x.s, .int .i64 x.n]] m = some (Bl false (oneB r x), emptyBag, m) := by
  have hlt := hd.lv_lt
  have hlv : lv ≠ m.length := by omega
  obtain ⟨hn, h0, h1⟩ := hx
  obtain ⟨i, s, n⟩ := x
  simp only at hn h0 h1
  have hwi : IntKind.i64.wrap (i + 256) = i + 256 := wrap_id _ (by omega) (by omega)
  have h26 := app26 (.inr ⟨_, _, rfl⟩) (finds (hd.cons [(6, [.int .i64 (i + 256), .int .i64 s]), (3, [.int .i64 i, .int .i64 s, .int .i64 n])]) hs.dok (i + 256) s) (okO_get hs.dok _)
  have hB := hs.slotB ⟨i + 256, s, 0⟩
  simp only at hB
  have hnl : (getW l (knum (i + 256) s)).isSome = true → (rawB (getW l (knum (i + 256) s))).1 = true → (rawB (getW l (knum (i + 256) s))).2 = [] := by
    intro _
    cases hg : getW l (knum (i + 256) s) with
    | none => intro _; rfl
    | some y => exact (okO_get hs.dok _ y hg).2.1
  have hno : (getW l (knum (i + 256) s)).isSome = false → (rawB (getW l (knum (i + 256) s))).2 = [] := by
    intro h
    cases hg : getW l (knum (i + 256) s) with
    | none => rfl
    | some y => rw [hg] at h; cases h
  rw [hB] at h26 hnl hno
  unfold oneB
  simp only
  generalize slotB r ⟨i + 256, s, 0⟩ = b at *
  generalize (getW l (knum (i + 256) s)).isSome = is at *
  generalize (rawB (getW l (knum (i + 256) s))).1 = nb at *
  have hok := fun a b' c => bs_okns b a b' c
  have hdp := fun a => bs_deps b a
  have hbl : (Bs b).length = b.length := bs_len b
  have mb1 : 1 ≤ maxBytes := by unfold maxBytes; omega
  have mb2 : 2 ≤ maxBytes := by unfold maxBytes; omega
  have mb4 : 4 ≤ maxBytes := by unfold maxBytes; omega
  by_cases hi : i ≤ 65279
  case neg =>
    rw [if_neg (fun h => hi h.1), app_fn E rfl hx103 rfl]
    rcases hn with rfl | rfl | rfl
    · simp [cx103, hi, wrap_id, zs, mb1, mb2, mb4, rep, chunks, mkc, frzV, frzR, frzRs]
    · simp [cx103, hi, wrap_id, zs, mb1, mb2, mb4, rep, chunks, mkc, frzV, frzR, frzRs]
    · simp [cx103, hi, wrap_id, zs, mb1, mb2, mb4, rep, chunks, mkc, frzV, frzR, frzRs]
  by_cases hl : b.length = (n / 8).toNat
  · rw [if_pos ⟨hi, hl⟩, app_fn E rfl hx103 rfl]
    have his : is = true := by
      cases is with
      | true => rfl
      | false => rw [hno rfl] at hl; simp at hl; omega
    subst his
    have hnb : nb = false := by
      cases nb with
      | false => rfl
      | true => rw [hnl rfl rfl] at hl; simp at hl; omega
    subst hnb
    simp only [Bl] at *
    rcases hn with rfl | rfl | rfl
    · have hl' : (Bs b).length = 1 := by rw [hbl]; omega
      generalize Bs b = BB at *
      simp [cx103, hi, wrap_id, hwi, h26, hl', hlv, hok, hdp]
    · have hl' : (Bs b).length = 2 := by rw [hbl]; omega
      generalize Bs b = BB at *
      simp [cx103, hi, wrap_id, hwi, h26, hl', hlv, hok, hdp]
    · have hl' : (Bs b).length = 4 := by rw [hbl]; omega
      generalize Bs b = BB at *
      simp [cx103, hi, wrap_id, hwi, h26, hl', hlv, hok, hdp]
  · rw [if_neg (fun h => hl h.2), app_fn E rfl hx103 rfl]
    simp only [Bl] at *
    have hq : ((b.length : Int) == n / 8) = false := by
      rw [beq_eq_false_iff_ne]; omega
    cases is with
    | false =>
      generalize Bs b = BB at *
      rcases hn with rfl | rfl | rfl <;> simp [cx103, hi, wrap_id, hwi, h26, hlv, hok, hdp, zs, mb1, mb2, mb4, rep, chunks, mkc, frzV, frzR, frzRs]
    | true =>
      rcases hn with rfl | rfl | rfl
      · have hl' : ((b.length : Int) == 1) = false := by rw [beq_eq_false_iff_ne]; omega
        generalize Bs b = BB at *
        simp [cx103, hi, wrap_id, hwi, h26, hbl, hl', hlv, hok, hdp, zs, mb1, mb2, mb4, rep, chunks, mkc, frzV, frzR, frzRs]
      · have hl' : ((b.length : Int) == 2) = false := by rw [beq_eq_false_iff_ne]; omega
        generalize Bs b = BB at *
        simp [cx103, hi, wrap_id, hwi, h26, hbl, hl', hlv, hok, hdp, zs, mb1, mb2, mb4, rep, chunks, mkc, frzV, frzR, frzRs]
      · have hl' : ((b.length : Int) == 4) = false := by rw [beq_eq_false_iff_ne]; omega
        generalize Bs b = BB at *
        simp [cx103, hi, wrap_id, hwi, h26, hbl, hl', hlv, hok, hdp, zs, mb1, mb2, mb4, rep, chunks, mkc, frzV, frzR, frzRs]
end
end Go.Proofs.Ytmffcpiffkclgaa.ZJM.DC

set_option linter.unusedSimpArgs false
set_option linter.unusedVariables false
set_option maxRecDepth 10000
namespace Go.Proofs.Ytmffcpiffkclgaa.ZJM.DC
open Go.Proofs.Ytmffcpiffkclgaa.ZJM Go.RowKit

def safB (r : RD) (L : List Slot) : List Int := L.flatMap (oneB r)
theorem oneB_byte {l : List Row} {c : Int} {r : RD} (hs : Sim l c r) (x : Slot) : OkB (oneB r x) := by
  unfold oneB
  split
  · rw [← hs.slotB]
    intro y hy
    cases hg : getW l (knum (x.i + 256) x.s) with
    | none => rw [hg] at hy; cases hy
    | some z => rw [hg] at hy; exact (okO_get hs.dok _ z hg).1 y hy
  · exact zs_ok _
theorem safB_byte {l : List Row} {c : Int} {r : RD} (hs : Sim l c r) (L : List Slot) : OkB (safB r L) := by
  intro y hy
  unfold safB at hy
  obtain ⟨x, _, hx⟩ := List.mem_flatMap.1 hy
  exact oneB_byte hs x y hx
theorem safB_succ (r : RD) (L : List Slot) (t : Nat) (ht : t < L.length) : safB r (L.take (t + 1)) = safB r (L.take t) ++ oneB r L[t] := by
  unfold safB
  rw [take_succ' L t ht, List.flatMap_append]
  simp
theorem safB_len {r : RD} {L : List Slot} (h : ∀ x ∈ L, okX x) : (safB r L).length ≤ 4 * L.length := by
  unfold safB
  induction L with
  | nil => simp
  | cons x L ih =>
    have := ih fun y hy => h y (by simp [hy])
    have := (oneB_len (r := r) (h x (by simp))).2.1
    simp only [List.flatMap_cons, List.length_append, List.length_cons]
    omega
theorem chunks_bs (W : List Int) : chunks 1 W.length (Bs W) = Bs W := by
  induction W with
  | nil => rfl
  | cons w W ih =>
    show mkc 1 [PV.int .u8 w] :: chunks 1 W.length (Bs W) = _
    rw [ih]
    rfl
/-- The growing row, behind t slots. -/
def cellS (W : List Int) (t : Nat) : PV := match t with
  | 0 => .lst none true 1 []
  | k + 1 => .vec k W.length 1 (Bs W)
section
variable {m : Mem} {lv a a' ver : Nat} {l : List Row} {c : Int} (hd : DA m lv a a' ver l c) {r : RD} (hs : Sim l c r) (f : Nat → Int)
def S102x (f : Nat → Int) (lv a : Nat) (m : Mem) (o1 : Lvl) (L : List Slot) (r : RD) (t : Nat) : St := ⟨[(1, .ptr m.length 6 [] 0), (2, .ptr m.length 2 [] 0), (7, Sl false L), (8, .int .i64 L.length), (9, .int .i64 t)], [], [], [], o1 :: own35 f lv a (cellS (safB r (L.take t)) t) :: m⟩
include hd hs in
set_option maxHeartbeats 1000000 in
theorem loop102x (o1 : Lvl) (L : List Slot) (hL : L.length ≤ 8) (hok : ∀ x ∈ L, okX x) {st : St} (h0 : maskSt [1, 2, 7, 8, 9] [] [] [] st = some (S102x f lv a m o1 L r 0)) :
    loopW (maskSt [1, 2, 7, 8, 9] [] [] []) (Cd.run (app E) cx102.body.inner.body) st = cx102.body.inner.body.run (app E) (S102x f lv a m o1 L r L.length) := by
  have hlt := hd.lv_lt
  have hlv : lv ≠ m.length := by omega
  have hlv1 : lv ≠ m.length + 1 := by omega
  have hlv2 : lv ≠ m.length + 2 := by omega
  have hn2 : ¬ m.length = m.length + 1 + 1 := by omega
  refine loop_eq (S102x f lv a m o1 L r) L.length (fun t ht => ?_) ?_ h0
  · have hti : (t : Int) < L.length := by omega
    have hw := wrap_succ t (by omega)
    obtain ⟨g1, g2⟩ := ss_get L t ht
    simp only [Slot.enc] at g1 g2
    have hx := hok _ (List.getElem_mem ht)
    have h103 := appx103 (((hd.cons (own35 f lv a (cellS (safB r (L.take t)) t))).cons o1).cons [(6, [.int .i64 L[t].i, .int .i64 L[t].s, .int .i64 L[t].n])]) hs hx
    obtain ⟨k1, k2, _⟩ := oneB_len (r := r) hx
    have hlenW : (safB r (L.take t)).length ≤ 32 := by
      have := safB_len (r := r) (L := L.take t) fun x hx => hok x (List.mem_of_mem_take hx)
      rw [List.length_take] at this
      omega
    have hsucc := safB_succ r L t ht
    have hok7 := fun a b c => ss_okns L a b c
    have hsl : (Ss L).length = L.length := encs_len L
    have hob := fun a b c => bs_okns (oneB r L[t]) a b c
    unfold S102x
    rw [hsucc]
    generalize hW : safB r (L.take t) = W at *
    generalize hY : oneB r L[t] = Y at *
    have hmb : (W.length + Y.length) * 1 ≤ maxBytes := by unfold maxBytes; omega
    have hmb' : W.length + Y.length ≤ maxBytes := by unfold maxBytes; omega
    have hmb2 : Y.length ≤ maxBytes := by unfold maxBytes; omega
    obtain ⟨y0, Y0, rfl⟩ : ∃ y0 Y0, Y = y0 :: Y0 := by
      cases Y with
      | nil => simp at k1
      | cons y0 Y0 => exact ⟨_, _, rfl⟩
    have hBs : Bs (y0 :: Y0) = .int .u8 y0 :: Bs Y0 := rfl
    have hfl : ∀ Z : List Int, (Bs Z).flatMap PV.cells = Bs Z := fun Z => by
      induction Z with
      | nil => rfl
      | cons z Z ih => simp only [encs_cons, List.flatMap_cons, cells_int, ih]; rfl
    have hcell : ∀ Z : List Int, (Bs Z).all PV.isCell = true := fun Z => by
      induction Z with
      | nil => rfl
      | cons z Z ih => simp only [encs_cons, List.all_cons, isCell_int, ih]; rfl
    have happ : Bs W ++ .int .u8 y0 :: Bs Y0 = Bs (W ++ y0 :: Y0) := by rw [bs_app]; rfl
    have hbl : ∀ Z : List Int, (Bs Z).length = Z.length := bs_len
    have hmbz : Y0.length + 1 ≤ maxBytes := by simp only [List.length_cons] at hmb2; exact hmb2
    have hmbs : W.length + (Y0.length + 1) ≤ maxBytes := by simp only [List.length_cons] at hmb'; exact hmb'
    have hcs : ∀ V, cellS V (t + 1) = .vec t V.length 1 (Bs V) := fun V => rfl
    rw [hcs]
    by_cases ht0 : t = 0
    · subst ht0
      have hW0 : W = [] := by rw [← hW]; rfl
      subst hW0
      simp only [cellS, own35, Bl, Sl, S102x] at *
      generalize Ss L = SL at *
      have hf0 := hfl Y0
      have hc0 := hcell Y0
      have hl0 := hbl Y0
      have hd0 := fun a => bs_deps Y0 a
      have hc0' : ∀ x ∈ Bs Y0, x.isCell = true := fun x hx => List.all_eq_true.1 hc0 x hx
      simp only [hBs, List.nil_append] at *
      generalize Bs Y0 = BY at *
      simp [cx102, Cd.inner, Cd.body, hti, ht, g1, g2, hsl, hok7, hw, h103, hlv, hlv1, hlv2, hn2, hf0, hc0, hc0', hl0, hmbz, hd0, wrap_id]
    · obtain ⟨q, hq1, hq2⟩ : ∃ q, cellS W t = .vec q W.length 1 (Bs W) ∧ t = q + 1 := ⟨t - 1, by
        cases t with
        | zero => omega
        | succ k => rfl, by omega⟩
      rw [hq1] at h103 ⊢
      rw [show PV.vec t = PV.vec (q + 1) from by rw [hq2]]
      have hcW := hcell W
      have hlW := hbl W
      have hdW := fun a => bs_deps W a
      have hcW' : ∀ x ∈ Bs W, x.isCell = true := fun x hx => List.all_eq_true.1 hcW x hx
      simp only [cellS, own35, Bl, Sl, S102x] at *
      generalize Ss L = SL at *
      have hf0 := hfl Y0
      have hc0 := hcell Y0
      have hl0 := hbl Y0
      have hd0 := fun a => bs_deps Y0 a
      have hc0' : ∀ x ∈ Bs Y0, x.isCell = true := fun x hx => List.all_eq_true.1 hc0 x hx
      rw [← happ]
      simp only [hBs] at *
      generalize Bs Y0 = BY at *
      generalize Bs W = BW at *
      simp [cx102, Cd.inner, Cd.body, hti, ht, g1, g2, hsl, hok7, hw, h103, hlv, hlv1, hlv2, hn2, hf0, hc0, hc0', hl0, hmbs, hcW, hcW', hlW, hd0, hdW]
  · have hsl : (Ss L).length = L.length := encs_len L
    simp only [S102x, Sl]
    generalize Ss L = SL at *
    simp [cx102, Cd.inner, Cd.body]
include hd hs in
theorem appx102 (o1 : Lvl) (L : List Slot) (hL : L.length ≤ 8) (hok : ∀ x ∈ L, okX x) : app E false (.fn 102 [.ptr m.length 6 [] 0, .ptr m.length 2 [] 0]) [Sl false L] (o1 :: own35 f lv a (.lst none true 1 []) :: m) = some (.int .i64 0, emptyBag, o1 :: own35 f lv a (cellS (safB r L) L.length) :: m) := by
  have hlt := hd.lv_lt
  have hlv : lv ≠ m.length := by omega
  have hn2 : ¬ m.length = m.length + 1 + 1 := by omega
  have hok7 := fun a b c => ss_okns L a b c
  have hsl : (Ss L).length = L.length := encs_len L
  have hS0 : maskSt [1, 2, 7, 8, 9] [] [] [] (S102x f lv a m o1 L r 0) = some (S102x f lv a m o1 L r 0) := by
    simp only [S102x, own35, Sl]
    generalize Ss L = SL at *
    simp [hn2, hok7]
  have hl := fun st h => loop102x hd hs f o1 L hL hok (st := st) h
  have htk : L.take L.length = L := List.take_length
  simp only [cx102, Cd.inner, Cd.body, S102x, htk] at hl
  have h00 : safB r (L.take 0) = [] := rfl
  rw [h00] at hl
  rw [app_fn E rfl hx102 rfl]
  simp only [own35, Sl, cellS] at *
  generalize Ss L = SL at *
  simp [cx102, hn2, hok7, hsl, hl]
def sfB (r : RD) (f : Nat → Int) : List Int := if fitsI r f = true then safB r (LF f) else []
include hd hs in
theorem appx36 : app E false (.fn 36 []) [.ptr lv a [] 0, .agg (CF f 30)] m = some (.tup [Bl (sfB r f).isEmpty (sfB r f), .int .i64 (valE r f)], emptyBag, m) := by
  have hlt := hd.lv_lt
  have hlv : lv ≠ m.length := by omega
  have hd2 := hd.cons (own35 f lv a (.lst none true 1 []))
  cases hf : fitsI r f with
  | false =>
    have e := appx100_no hd2 hs f hf 102 m.length 6 m.length 2 (by simp) (by simp)
    have hv : sfB r f = [] := by rw [sfB, hf]; rfl
    have he : valE r f = 14 := by rw [valE, hf]; rfl
    rw [hv, he, app_fn E rfl hx36 rfl]
    simp only [own35] at *
    simp [-isPlace, -moves, cx36, e, hlv]
  | true =>
    have hL8 : (LF f).length ≤ 8 := by rw [LF_len]; have := (fitsI_check hf).2.1; omega
    have hokL := fits_ok hs.rok hf
    have e1 := appx102 hd hs f [(4, CF f 30)] (LF f) hL8 hokL
    have e := appx100 hd2 hs f hf 102 m.length 6 m.length 2 (by simp) (by simp) (m' := own35 f lv a (cellS (safB r (LF f)) (LF f).length) :: m) (by simp) e1
    have he : valE r f = 0 := by rw [valE, hf]; rfl
    have hv : sfB r f = safB r (LF f) := by rw [sfB, if_pos hf]
    rw [he, hv, app_fn E rfl hx36 rfl]
    by_cases h0 : (LF f).length = 0
    · have hnil : LF f = [] := List.length_eq_zero_iff.1 h0
      rw [hnil] at e ⊢
      simp only [own35, cellS, List.length_nil] at *
      have hz : safB r [] = [] := rfl
      rw [hz]
      simp [-isPlace, -moves, cx36, e, hlv]
    · obtain ⟨q, hq⟩ : ∃ q, (LF f).length = q + 1 := ⟨(LF f).length - 1, by omega⟩
      rw [hq] at e
      simp only [own35, cellS] at *
      have hne : (safB r (LF f)).isEmpty = false := by
        cases hLF : LF f with
        | nil => rw [hLF] at hq; simp at hq
        | cons x L =>
          have := (oneB_len (r := r) (hokL x (by rw [hLF]; simp))).1
          unfold safB
          rw [List.flatMap_cons]
          cases hB : oneB r x with
          | nil => rw [hB] at this; simp at this
          | cons y Y => rfl
      rw [hne]
      have hbl : ∀ Z : List Int, (Bs Z).length = Z.length := bs_len
      have hlW := hbl (safB r (LF f))
      have hdW := fun a => bs_deps (safB r (LF f)) a
      have hoW := fun a b c => bs_okns (safB r (LF f)) a b c
      generalize safB r (LF f) = W at *
      have hchk := chunks_bs W
      have hbo := fun a b c d => bs_out W a b c d
      have htkW : (Bs W).take W.length = Bs W := by rw [← hlW]; exact List.take_length
      simp only [Bl] at *
      generalize Bs W = BW at *
      simp [-isPlace, -moves, cx36, e, hlv, frzV, hlW, hdW, hoW, hchk, hbo, htkW]
end
end Go.Proofs.Ytmffcpiffkclgaa.ZJM.DC

set_option linter.unusedSimpArgs false
set_option linter.unusedVariables false
set_option maxRecDepth 10000
namespace Go.Proofs.Ytmffcpiffkclgaa.ZJM.DC
open Go.Proofs.Ytmffcpiffkclgaa.ZJM Go.RowKit

section
variable {r : RD} (hr : r.ok) (f : Nat → Int)
def S40x (r : RD) (f : Nat → Int) (t : Nat) : St := ⟨[(2, .ptr 0 2 [] 0), (3, .ptr 0 3 [] 0), (5, .str (strOf (safB r ((LF f).take t)))), (6, .int .i64 t)], [], [(2, [El r.nl r.l, .int .i64 r.c]), (3, CF f 30)], [], []⟩
theorem LF_get (f : Nat → Int) (t : Nat) (h : t < (LF f).length) : (LF f)[t] = slF f t := by
  simp [LF, slsF]
include hr in
set_option maxHeartbeats 2000000 in
theorem loop40x (hf : fitsI r f = true) {st : St} (h0 : maskSt [2, 3, 5, 6] [2, 3] [] [] st = some (S40x r f 0)) :
    loopW (maskSt [2, 3, 5, 6] [2, 3] [] []) (Cd.run (app E) cx40.body.inner.body) st = cx40.body.inner.body.run (app E) (S40x r f (f 5).toNat) := by
  have k5 := CF_get f 30 (k := 5) (by omega)
  obtain ⟨hf0, hf8, _⟩ := fitsI_check hf
  have hokL := fits_ok hr hf
  have hLl := LF_len f
  have g4 := fun a => es_deps r.l a
  have g5 := fun a b c => es_okns r.l a b c
  have hrn := fun a b ρ => es_rens r.l a b ρ
  refine loop_eq (S40x r f) (f 5).toNat (fun t ht => ?_) ?_ h0
  · have hti : (t : Int) < f 5 := by omega
    have ht8 : t < 8 := by omega
    have hti8 : (t : Int) < 8 := by omega
    have hw := wrap_succ t (by omega)
    have htL : t < (LF f).length := by omega
    have hsl := CF_slot f t ht8
    have hb1 : 6 + t * 3 + 3 ≤ 30 := by omega
    have hx := hokL _ (List.getElem_mem htL)
    have hsucc := safB_succ r (LF f) t htL
    rw [LF_get f t htL] at hx hsucc
    have hlenW : (safB r ((LF f).take t)).length ≤ 32 := by
      have := safB_len (r := r) (L := (LF f).take t) fun x hx => hokL x (List.mem_of_mem_take hx)
      rw [List.length_take] at this
      omega
    unfold S40x
    rw [hsucc]
    generalize slF f t = x at *
    generalize safB r ((LF f).take t) = W at *
    obtain ⟨k1, k2, k3⟩ := oneB_len (r := r) hx
    obtain ⟨hn, hi0, hi1⟩ := hx
    obtain ⟨i, s, n⟩ := x
    simp only at hn hi0 hi1 hsl k3
    have hwi : IntKind.i64.wrap (i + 256) = i + 256 := wrap_id _ (by omega) (by omega)
    have hat := app33 r.nl r.l r.c (i + 256) s hr.1
    have hap := strOf_app
    have hsz := strOf_size
    have mb1 : 1 ≤ maxBytes := by unfold maxBytes; omega
    have mb2 : 2 ≤ maxBytes := by unfold maxBytes; omega
    have mb4 : 4 ≤ maxBytes := by unfold maxBytes; omega
    have hmb : ∀ Z : List Int, Z.length ≤ 4 → W.length + Z.length ≤ maxBytes := fun Z h => by unfold maxBytes; omega
    have wm1 : W.length + 1 ≤ maxBytes := by unfold maxBytes; omega
    have wm2 : W.length + 2 ≤ maxBytes := by unfold maxBytes; omega
    have wm4 : W.length + 4 ≤ maxBytes := by unfold maxBytes; omega
    cases hfi : findIx r.l (i + 256) s with
    | none =>
      rw [atA_none hfi] at hat
      have hB : oneB r ⟨i, s, n⟩ = zs (n / 8).toNat := by
        unfold oneB slotB
        simp only [hfi]
        rw [if_neg]
        rintro ⟨_, h⟩
        simp only [List.length_nil] at h
        omega
      rw [hB]
      simp only [El, rd] at *
      generalize Es r.l = L0 at *
      rcases hn with rfl | rfl | rfl
      · simp [-isPlace, -moves, cx40, Cd.inner, Cd.body, hti, hti8, ht8, hb1, hsl, k5, hwi, wrap_id, hat, hap, hsz, mb1, mb2, mb4, wm1, wm2, wm4, rep, chunks, mkc, bytesP, zs, hw, g4, g5, hrn]
      · simp [-isPlace, -moves, cx40, Cd.inner, Cd.body, hti, hti8, ht8, hb1, hsl, k5, hwi, wrap_id, hat, hap, hsz, mb1, mb2, mb4, wm1, wm2, wm4, rep, chunks, mkc, bytesP, zs, hw, g4, g5, hrn]
      · simp [-isPlace, -moves, cx40, Cd.inner, Cd.body, hti, hti8, ht8, hb1, hsl, k5, hwi, wrap_id, hat, hap, hsz, mb1, mb2, mb4, wm1, wm2, wm4, rep, chunks, mkc, bytesP, zs, hw, g4, g5, hrn]
    | some j =>
      rw [atA_some hfi] at hat
      obtain ⟨hj, e1, e2⟩ := findIx_some hfi
      have hj' : (j : Int) < r.l.length := by omega
      have hj2 : (0 : Int) ≤ j := by omega
      have hk := (hr.2 _ (List.getElem_mem hj)).2.1
      rw [e1] at hk
      simp only [okK, Bool.and_eq_true, decide_eq_true_eq] at hk
      have hi79 : i ≤ 65279 := by omega
      have hgE : (Es r.l)[j]? = some r.l[j].enc := by rw [List.getElem?_eq_getElem (by rw [encs_len]; exact hj), es_getE]
      have hgg : ∀ h, (Es r.l)[j]'h = r.l[j].enc := fun h => encs_getE r.l j h
      have hel : (Es r.l).length = r.l.length := encs_len _
      have hsB : slotB r ⟨i + 256, s, 0⟩ = r.l[j].b := by
        unfold slotB
        simp only [hfi, List.getElem?_eq_getElem hj]
      simp only [El, rd, Ent.enc, Ent.cs] at *
      by_cases hl : r.l[j].b.length = (n / 8).toNat
      · have hB : oneB r ⟨i, s, n⟩ = r.l[j].b := by
          unfold oneB
          simp only [hsB]
          rw [if_pos ⟨hi79, hl⟩]
        rw [hB]
        have wmj : W.length + r.l[j].b.length ≤ maxBytes := by unfold maxBytes; rw [hB] at k2; omega
        generalize r.l[j].b = b at *
        rcases hn with rfl | rfl | rfl
        · have hl' : b.length = 1 := by rw [hl]; rfl
          have wmj' := wmj
          generalize Es r.l = L0 at *
          simp [-isPlace, -moves, cx40, Cd.inner, Cd.body, hti, hti8, ht8, hb1, hsl, k5, hwi, wrap_id, hat, hap, hsz, mb1, mb2, mb4, wm1, wm2, wm4, rep, chunks, mkc, bytesP, zs, hw, g4, g5, hrn, hj, hj', hj2, hgE, hgg, hel, hl']
        · have hl' : b.length = 2 := by rw [hl]; rfl
          generalize Es r.l = L0 at *
          simp [-isPlace, -moves, cx40, Cd.inner, Cd.body, hti, hti8, ht8, hb1, hsl, k5, hwi, wrap_id, hat, hap, hsz, mb1, mb2, mb4, wm1, wm2, wm4, rep, chunks, mkc, bytesP, zs, hw, g4, g5, hrn, hj, hj', hj2, hgE, hgg, hel, hl']
        · have hl' : b.length = 4 := by rw [hl]; rfl
          generalize Es r.l = L0 at *
          simp [-isPlace, -moves, cx40, Cd.inner, Cd.body, hti, hti8, ht8, hb1, hsl, k5, hwi, wrap_id, hat, hap, hsz, mb1, mb2, mb4, wm1, wm2, wm4, rep, chunks, mkc, bytesP, zs, hw, g4, g5, hrn, hj, hj', hj2, hgE, hgg, hel, hl']
      · have hB : oneB r ⟨i, s, n⟩ = zs (n / 8).toNat := by
          unfold oneB
          simp only [hsB]
          rw [if_neg fun h => hl h.2]
        rw [hB]
        generalize r.l[j].b = b at *
        rcases hn with rfl | rfl | rfl
        · have hl' : ((b.length : Int) == 1) = false := by rw [beq_eq_false_iff_ne]; omega
          generalize Es r.l = L0 at *
          simp [-isPlace, -moves, cx40, Cd.inner, Cd.body, hti, hti8, ht8, hb1, hsl, k5, hwi, wrap_id, hat, hap, hsz, mb1, mb2, mb4, wm1, wm2, wm4, rep, chunks, mkc, bytesP, zs, hw, g4, g5, hrn, hj, hj', hj2, hgE, hgg, hel, hl']
        · have hl' : ((b.length : Int) == 2) = false := by rw [beq_eq_false_iff_ne]; omega
          generalize Es r.l = L0 at *
          simp [-isPlace, -moves, cx40, Cd.inner, Cd.body, hti, hti8, ht8, hb1, hsl, k5, hwi, wrap_id, hat, hap, hsz, mb1, mb2, mb4, wm1, wm2, wm4, rep, chunks, mkc, bytesP, zs, hw, g4, g5, hrn, hj, hj', hj2, hgE, hgg, hel, hl']
        · have hl' : ((b.length : Int) == 4) = false := by rw [beq_eq_false_iff_ne]; omega
          generalize Es r.l = L0 at *
          simp [-isPlace, -moves, cx40, Cd.inner, Cd.body, hti, hti8, ht8, hb1, hsl, k5, hwi, wrap_id, hat, hap, hsz, mb1, mb2, mb4, wm1, wm2, wm4, rep, chunks, mkc, bytesP, zs, hw, g4, g5, hrn, hj, hj', hj2, hgE, hgg, hel, hl']
  · have hn : ((f 5).toNat : Int) = f 5 := by omega
    have hmx : max (f 5) 0 = f 5 := by omega
    simp [-isPlace, -moves, cx40, Cd.inner, Cd.body, S40x, k5, hn, hmx]
include hr in
theorem appx40 (hf : fitsI r f = true) : app E false (.fn 40 []) [r.pv, .agg (CF f 30)] [] = some (.str (strOf (safB r (LF f))), emptyBag, []) := by
  have g4 := fun a => es_deps r.l a
  have g5 := fun a b c => es_okns r.l a b c
  have hrn := fun a b ρ => es_rens r.l a b ρ
  have k5 := CF_get f 30 (k := 5) (by omega)
  obtain ⟨hf0, hf8, _⟩ := fitsI_check hf
  have hn : ((f 5).toNat : Int) = f 5 := by omega
  have hmx : max (f 5) 0 = f 5 := by omega
  have hl := fun st h => loop40x hr f hf (st := st) h
  have htk : (LF f).take (f 5).toNat = LF f := by rw [← LF_len]; exact List.take_length
  have h00 : safB r ((LF f).take 0) = [] := rfl
  simp only [cx40, Cd.inner, Cd.body, S40x, htk, h00, strOf_nil] at hl
  rw [app_fn E rfl hx40 rfl]
  simp only [RD.pv, El, rd] at *
  generalize strOf (safB r (LF f)) = w at *
  generalize Es r.l = L0 at *
  simp [-isPlace, -moves, cx40, k5, hn, hmx, hl, g4, g5, hrn]
end
end Go.Proofs.Ytmffcpiffkclgaa.ZJM.DC

set_option linter.unusedSimpArgs false
set_option linter.unusedVariables false
set_option maxRecDepth 10000
namespace Go.Proofs.Ytmffcpiffkclgaa.ZJM.DC
open Go.Proofs.Ytmffcpiffkclgaa.ZJM Go.RowKit

def relC (r : RD) (f : Nat → Int) (b : List Int) : Int := if fitsI r f = true then unpC r b (LF f) else 14
def relR (r : RD) (f : Nat → Int) (b : List Int) : RD := if fitsI r f = true then unpR r b (LF f) else r
section
variable {m : Mem} {lv a a' ver : Nat} {l : List Row} {c : Int} (hd : DA m lv a a' ver l c) {r : RD} (hs : Sim l c r) (f : Nat → Int)
def own52 (f : Nat → Int) (lv a : Nat) (nb : Bool) (b : List Int) : Lvl := [(5, [Bl nb b]), (4, CF f 30), (3, [.ptr lv a [] 0])]
include hd hs in
theorem appx52 (nb : Bool) (b : List Int) (hb : OkB b) (hn : nb = true → b = []) : ∃ m', app E false (.fn 52 []) [.ptr lv a [] 0, .agg (CF f 30), Bl nb b] m = some (.int .i64 (relC r f b), emptyBag, m') ∧ Does m lv a a' ver l c (relR r f b) m' := by
  have hlt := hd.lv_lt
  have hlv : lv ≠ m.length := by omega
  have hlv1 : lv ≠ m.length + 1 := by omega
  have hlv2 : lv ≠ m.length + 2 := by omega
  have hn2 : ¬ m.length = m.length + 1 + 1 := by omega
  have hd2 := hd.cons (own52 f lv a nb b)
  have hob := fun a b' c => bs_okns b a b' c
  have hdb := fun a => bs_deps b a
  cases hf : fitsI r f with
  | false =>
    have e := appx100_no hd2 hs f hf 121 m.length 3 m.length 5 (by simp) (by simp)
    have h1 : relC r f b = 14 := by rw [relC, hf]; rfl
    have h2 : relR r f b = r := by rw [relR, hf]; rfl
    rw [h1, h2]
    refine ⟨m, ?_, does_none hd hs⟩
    rw [app_fn E rfl hx52 rfl]
    simp only [own52, Bl] at *
    generalize Bs b = BB at *
    simp [-isPlace, -moves, cx52, e, hlv, hob, hdb]
  | true =>
    obtain ⟨m1, e1, e2⟩ := app51 ((hd2.cons [(4, CF f 30)]).cons []) hs nb false (LF f) b hb hn
    obtain ⟨m2, rfl, e3⟩ := e2.cons (hd2.cons _)
    obtain ⟨m3, rfl, e4⟩ := e3.cons hd2
    obtain ⟨m4, rfl, e5⟩ := e4.cons hd
    have hlen : m4.length = m.length := by obtain ⟨_, _, _, _, _, q, _⟩ := e5.da hd; exact q
    have h1 : relC r f b = unpC r b (LF f) := by rw [relC, if_pos hf]
    have h2 : relR r f b = unpR r b (LF f) := by rw [relR, if_pos hf]
    have hok := fun a b c => ss_okns (LF f) a b c
    have e121 : app E false (.fn 121 [.ptr m.length 3 [] 0, .ptr m.length 5 [] 0]) [Sl false (LF f)] ([(4, CF f 30)] :: own52 f lv a nb b :: m) = some (.int .i64 (unpC r b (LF f)), emptyBag, [(4, CF f 30)] :: own52 f lv a nb b :: m4) := by
      rw [app_fn E rfl hx121 rfl]
      generalize unpC r b (LF f) = w at *
      simp only [own52, Bl, Sl] at *
      generalize Ss (LF f) = SL at *
      generalize Bs b = BB at *
      simp [-isPlace, -moves, cx121, e1, hn2, hlv, hlv1, hlv2, hlen, hok, hob, hdb]
    have e := appx100 hd2 hs f hf 121 m.length 3 m.length 5 (by simp) (by simp) (m' := own52 f lv a nb b :: m4) (by simp [hlen]) e121
    rw [h1, h2]
    refine ⟨m4, ?_, e5⟩
    rw [app_fn E rfl hx52 rfl]
    generalize unpC r b (LF f) = w at *
    simp only [own52, Bl] at *
    generalize Bs b = BB at *
    simp [-isPlace, -moves, cx52, e, hlv, hlen, hob, hdb]
theorem sfB_byte (hs : Sim l c r) : OkB (sfB r f) := by
  unfold sfB
  split
  · exact safB_byte hs _
  · intro x hx; cases hx
include hd hs in
theorem valB_byte : OkB (valB r f) := by
  have := app37 hd hs false (LF f)
  cases hf : fitsI r f with
  | false => rw [valB, hf]; intro x hx; cases hx
  | true => rw [← (fits_pack hf).1]; exact this.2.1
include hd hs in
theorem appx54 : ∃ m', app E false (.fn 54 []) [.ptr lv a [] 0, .agg (CF f 30)] m = some (.int .i64 (relC r f (sfB r f)), emptyBag, m') ∧ Does m lv a a' ver l c (relR r f (sfB r f)) m' := by
  have hlt := hd.lv_lt
  have hlv : lv ≠ m.length := by omega
  have e1 := appx36 (hd.cons [(3, CF f 30)]) hs f
  have hob := fun a b' c => bs_okns (sfB r f) a b' c
  have hdb := fun a => bs_deps (sfB r f) a
  cases hf : fitsI r f with
  | false =>
    have h1 : relC r f (sfB r f) = 14 := by rw [relC, hf]; rfl
    have h2 : relR r f (sfB r f) = r := by rw [relR, hf]; rfl
    have h3 : valE r f = 14 := by rw [valE, hf]; rfl
    rw [h1, h2]
    rw [h3] at e1
    refine ⟨m, ?_, does_none hd hs⟩
    rw [app_fn E rfl hx54 rfl]
    simp only [Bl] at *
    generalize (sfB r f).isEmpty = em at *
    generalize Bs (sfB r f) = BB at *
    simp [-isPlace, -moves, cx54, e1, hlv, hob, hdb]
  | true =>
    obtain ⟨m1, e2, e3⟩ := appx52 (hd.cons [(3, CF f 30)]) hs f (sfB r f).isEmpty (sfB r f) (sfB_byte f hs) (fun h => List.isEmpty_iff.1 h)
    obtain ⟨m2, rfl, e4⟩ := e3.cons hd
    have hlen : m2.length = m.length := by obtain ⟨_, _, _, _, _, q, _⟩ := e4.da hd; exact q
    have h3 : valE r f = 0 := by rw [valE, hf]; rfl
    rw [h3] at e1
    refine ⟨m2, ?_, e4⟩
    rw [app_fn E rfl hx54 rfl]
    generalize relC r f (sfB r f) = w at *
    simp only [Bl] at *
    generalize (sfB r f).isEmpty = em at *
    generalize Bs (sfB r f) = BB at *
    simp [-isPlace, -moves, cx54, e1, e2, hlv, hlen, hob, hdb]
def isS (r : RD) (f : Nat → Int) : Bool := fitsI r f && decide (valB r f = sfB r f)
include hd hs in
theorem appx38 : app E false (.fn 38 []) [.ptr lv a [] 0, .agg (CF f 30)] m = some (.bool (isS r f), emptyBag, m) := by
  have hlt := hd.lv_lt
  have hlv : lv ≠ m.length := by omega
  have e1 := appx35 (hd.cons [(3, CF f 30)]) hs f
  have e2 := appx36 (hd.cons [(3, CF f 30)]) hs f
  have e3 := app111 (valB r f).isEmpty (sfB r f).isEmpty (valB r f) (sfB r f) (valB_byte hd hs f) (sfB_byte f hs)
  have hob := fun a b' c => bs_okns (sfB r f) a b' c
  have hdb := fun a => bs_deps (sfB r f) a
  have hov := fun a b' c => bs_okns (valB r f) a b' c
  have hdv := fun a => bs_deps (valB r f) a
  unfold isS
  rw [app_fn E rfl hx38 rfl]
  generalize decide (valB r f = sfB r f) = dq at *
  simp only [Bl] at *
  generalize (sfB r f).isEmpty = em at *
  generalize Bs (sfB r f) = BB at *
  generalize (valB r f).isEmpty = em2 at *
  generalize Bs (valB r f) = VV at *
  cases hf : fitsI r f with
  | false =>
    have h3 : valE r f = 14 := by rw [valE, hf]; rfl
    rw [h3] at e1 e2
    simp [-isPlace, -moves, cx38, e1, e2, e3, hlv, hob, hdb, hov, hdv]
  | true =>
    have h3 : valE r f = 0 := by rw [valE, hf]; rfl
    rw [h3] at e1 e2
    simp [-isPlace, -moves, cx38, e1, e2, e3, hlv, hob, hdb, hov, hdv]
def wrtC (r : RD) (i s n : Int) : Int := if progA i s = true then setC r i s n else 2
def wrtR (r : RD) (i s n : Int) : RD := if progA i s = true then setR r i s n else r
include hd hs in
theorem appx50 (i s n : Int) : ∃ m', app E false (.fn 50 []) [.ptr lv a [] 0, ky i s, .int .i64 n] m = some (.int .i64 (wrtC r i s n), emptyBag, m') ∧ Does m lv a a' ver l c (wrtR r i s n) m' := by
  have hlt := hd.lv_lt
  have hlv : lv ≠ m.length := by omega
  have h45 := appx45 i s
  cases hp : progA i s with
  | false =>
    rw [hp] at h45
    have h1 : wrtC r i s n = 2 := by rw [wrtC, hp]; rfl
    have h2 : wrtR r i s n = r := by rw [wrtR, hp]; rfl
    rw [h1, h2]
    refine ⟨m, ?_, does_none hd hs⟩
    rw [app_fn E rfl hx50 rfl]
    simp [cx50, h45, hlv]
  | true =>
    rw [hp] at h45
    have h1 : wrtC r i s n = setC r i s n := by rw [wrtC, if_pos hp]
    have h2 : wrtR r i s n = setR r i s n := by rw [wrtR, if_pos hp]
    rw [h1, h2]
    obtain ⟨m1, e1, e2⟩ := do_set (hd.cons [(4, [.int .i64 i, .int .i64 s])]) hs i s n
    obtain ⟨m2, rfl, e3⟩ := e2.cons hd
    have hlen : m2.length = m.length := by obtain ⟨_, _, _, _, _, q, _⟩ := e3.da hd; exact q
    refine ⟨m2, ?_, e3⟩
    rw [app_fn E rfl hx50 rfl]
    generalize setC r i s n = w at *
    simp [cx50, h45, hlv, e1, hlen]
end
theorem appx99 {rows : List Row} {ct : Int} {r : RD} (hs : Sim rows ct r) (f : Nat → Int) (nb : Bool) (b : List Int) (hb : OkB b) : app E false (.fn 99 []) [r.pv, .agg (CF f 30), Bl nb b] [] = some (.tup [(relR r f b).pv, .int .i64 (relC r f b)], emptyBag, []) := by
  have h37 := appx37 r hs.rok f
  have k5 := CF_get f 30 (k := 5) (by omega)
  have g4 := fun a => es_deps r.l a
  have g5 := fun a b c => es_okns r.l a b c
  have hob := fun a b' c => bs_okns b a b' c
  have hdb := fun a => bs_deps b a
  cases hf : fitsI r f with
  | false =>
    have h1 : relC r f b = 14 := by rw [relC, hf]; rfl
    have h2 : relR r f b = r := by rw [relR, hf]; rfl
    rw [h1, h2, app_fn E rfl hx99 rfl]
    rw [hf] at h37
    simp only [RD.pv, El, rd, Bl] at *
    generalize Es r.l = L0 at *
    generalize Bs b = BB at *
    simp [-isPlace, -moves, cx99, h37, g4, g5, hob, hdb]
  | true =>
    obtain ⟨hf0, hf8, _⟩ := fitsI_check hf
    have h12 := appx12 (r := r) (nb := nb) (b := b) (nl := false) (L := LF f) hs hb
    have h1 : relC r f b = unpC r b (LF f) := by rw [relC, if_pos hf]
    have h2 : relR r f b = unpR r b (LF f) := by rw [relR, if_pos hf]
    rw [h1, h2, app_fn E rfl hx99 rfl]
    rw [hf] at h37
    have hch := CF_LF f hf8
    have hdL := fun a => ss_deps (LF f) a
    generalize unpC r b (LF f) = w at *
    generalize unpR r b (LF f) = r2 at *
    have w4 := fun a => es_deps r2.l a
    have w5 := fun a b c => es_okns r2.l a b c
    simp only [RD.pv, El, rd, Bl, Sl] at *
    generalize Es r.l = L0 at *
    generalize Es r2.l = L2 at *
    generalize Bs b = BB at *
    generalize Ss (LF f) = SL at *
    simp [-isPlace, -moves, cx99, h37, h12, k5, hf0, hf8, hch, hdL, g4, g5, w4, w5, hob, hdb]
end Go.Proofs.Ytmffcpiffkclgaa.ZJM.DC

set_option linter.unusedSimpArgs false
set_option linter.unusedVariables false
set_option maxRecDepth 10000
namespace Go.Proofs.Ytmffcpiffkclgaa.ZJM.DC
open Go.Proofs.Ytmffcpiffkclgaa.ZJM Go.RowKit

def own33 (lv ver : Nat) (rows : List Row) (c : Int) : Lvl := [(4000, [.ptr lv 4001 [] 0, .int .i64 c]), (4001, [shC ver rows]), (1, [.lst none true 7 [], .int .i64 0])]
theorem own33_da (m : Mem) (ver : Nat) (rows : List Row) (c : Int) : DA (own33 m.length ver rows c :: m) m.length 4000 4001 ver rows c := ⟨by simp [own33], by simp [own33], by decide⟩
theorem own33_set (m : Mem) (ver : Nat) (rows : List Row) (c : Int) (v : Nat) (l' : List Row) (c' : Int) : dset (own33 m.length ver rows c :: m) m.length 4000 4001 v l' c' = own33 m.length v l' c' :: m := by simp [dset, wr, own33]
theorem appx33 (m : Mem) : ∃ ver rows c, Sim rows c rImg ∧ app E false (.fn 33 []) [] m = some (.tup [.ptr m.length 0 [] 0, rImg.pv], ⟨[(0, [.ptr m.length 1 [] 0, .int .i64 c]), (1, [shC ver rows])], []⟩, m) := by
  have h11 := app11 ([(1, [.lst none true 7 [], .int .i64 0])] :: m)
  obtain ⟨m2, e1, v2, l2, c2, rfl, hs2⟩ := appx49 (own33_da m 0 [] 0) sim_rNil
  rw [own33_set] at e1
  have hrun : runE rNil imgN = (rImg, 0) := run_img
  rw [hrun] at e1 hs2
  refine ⟨v2, l2, c2, hs2, ?_⟩
  have h48 := appx48
  have s1 := fun lv => shC_names lv v2 l2
  have s2 := fun a b ρ => shC_ren a b ρ v2 l2
  have s3 := fun a ks ts => shC_okn a ks ts v2 l2
  have s4 := shC_rec v2 l2
  have t1 : ∀ a b p o, isRec (.ptr a b p o) = false := fun _ _ _ _ => rfl
  have t2 : ∀ k n, isRec (.int k n) = false := fun _ _ => rfl
  have hsh : shC 0 [] = .lst none true 6 [] := rfl
  have hrI : rImg.pv = .agg [El false imgR, .int .i64 0] := rfl
  have hok1 := fun a b c => es_okns imgR a b c
  have hr8 := fun a b ρ => es_rens imgR a b ρ
  have hdp1 := fun a => es_deps imgR a
  have hnm1 := fun a => es_names imgR a
  rw [hrI, app_fn E rfl hx33 rfl]
  simp only [own33, El, hsh] at *
  generalize Es imgR = LI at *
  generalize shC v2 l2 = SS at *
  simp [cx33, h11, e1, h48, bagName, PV.retag, PV.retag1, hr8, hdp1, hnm1, hok1, s1, s2, s3, s4, t1, t2, frzV, frzR, bagEv, bagOf, bagChk, renB, obsB, topsB, nameIn, noTagB, nodupB, tagsOf, tagOf]
/-! ### one deed -/
structure Dd where
  (o i s n : Int) (nb : Bool) (b : List Int)
def Dd.cs (x : Dd) : List PV := [.int .i64 x.o, .int .i64 x.i, .int .i64 x.s, .int .i64 x.n, Bl x.nb x.b]
def Dd.enc (x : Dd) : PV := .agg x.cs
def Dd.ok (x : Dd) : Prop := OkB x.b ∧ (x.nb = true → x.b = [])
def ddR (r : RD) (f : Nat → Int) (x : Dd) : RD :=
  if x.o = 0 then wrtR r x.i x.s x.n else if x.o = 1 then putR r x.i x.s x.b else if x.o = 2 then relR r f x.b else if x.o = 3 then relR r f (sfB r f) else r
section
variable {m : Mem} {lv a a' ver : Nat} {l : List Row} {c : Int} (hd : DA m lv a a' ver l c) {r : RD} (hs : Sim l c r) (f : Nat → Int)
def own34 (r : RD) (f : Nat → Int) (x : Dd) : Lvl := [(8, [.lst none true 7 [], .int .i64 0]), (7, x.cs), (6, CF f 30), (5, [El r.nl r.l, .int .i64 r.c])]
include hd hs in
set_option maxHeartbeats 2000000 in
theorem appx34 (x : Dd) (hx : x.ok) : ∃ m', app E false (.fn 34 []) [.ptr lv a [] 0, r.pv, .agg (CF f 30), x.enc] m = some (.tup [(ddR r f x).pv, .bool true], emptyBag, m') ∧ Does m lv a a' ver l c (ddR r f x) m' := by
  have hlt := hd.lv_lt
  have hlv : lv ≠ m.length := by omega
  have hd2 := hd.cons (own34 r f x)
  have g4 := fun a => es_deps r.l a
  have g5 := fun a b c => es_okns r.l a b c
  have hob := fun a b' c => bs_okns x.b a b' c
  have hdb := fun a => bs_deps x.b a
  by_cases o0 : x.o = 0
  · obtain ⟨m1, e1, e2⟩ := appx50 hd2 hs x.i x.s x.n
    obtain ⟨m2, rfl, e3⟩ := e2.cons hd
    have hlen : m2.length = m.length := by obtain ⟨_, _, _, _, _, q, _⟩ := e3.da hd; exact q
    have hR : ddR r f x = wrtR r x.i x.s x.n := by rw [ddR, if_pos o0]
    rw [hR]
    refine ⟨m2, ?_, e3⟩
    have h43 := appx43 8192 x.s
    have h94 := app94 r hs.rok x.i x.s x.n
    have hpA : progA x.i x.s = ((slotA 8192 x.s).2 && ((slotA 8192 x.s).1.i == x.i && (slotA 8192 x.s).1.s == x.s)) := rfl
    obtain ⟨o, i, s, n, nb, b⟩ := x
    simp only at o0
    subst o0
    cases hp : progA i s with
    | false =>
      have h1 : wrtC r i s n = 2 := by rw [wrtC, hp]; rfl
      have h2 : wrtR r i s n = r := by rw [wrtR, hp]; rfl
      simp only at e1
      rw [h1] at e1
      rw [h2]
      rw [hp] at hpA
      rw [app_fn E rfl hx34 rfl]
      simp only [own34, Dd.enc, Dd.cs, RD.pv, El, rd, Bl, Slot.enc] at *
      generalize slotA 8192 s = sa at *
      obtain ⟨⟨si, ss, sn⟩, sb⟩ := sa
      generalize Es r.l = L0 at *
      generalize Bs b = BB at *
      simp only at hpA
      cases sb with
      | false => simp [-isPlace, -moves, cx34, e1, h43, hlv, hlen, g4, g5, hob, hdb]
      | true =>
        simp only [Bool.true_and] at hpA
        cases q1 : (si == i) with
        | false => simp [-isPlace, -moves, cx34, e1, h43, q1, hlv, hlen, g4, g5, hob, hdb]
        | true =>
          rw [q1, Bool.true_and] at hpA
          have q2 : (ss == s) = false := hpA.symm
          simp [-isPlace, -moves, cx34, e1, h43, q1, q2, hlv, hlen, g4, g5, hob, hdb]
    | true =>
      have h1 : wrtC r i s n = setC r i s n := by rw [wrtC, if_pos hp]
      have h2 : wrtR r i s n = setR r i s n := by rw [wrtR, if_pos hp]
      simp only at e1
      rw [h1] at e1
      rw [h2]
      rw [hp] at hpA
      rw [app_fn E rfl hx34 rfl]
      simp only at h94 h43 hpA
      generalize setC r i s n = w at *
      generalize setR r i s n = r2 at *
      have w4 := fun a => es_deps r2.l a
      have w5 := fun a b c => es_okns r2.l a b c
      simp only [own34, Dd.enc, Dd.cs, RD.pv, El, rd, Bl, Slot.enc] at *
      generalize slotA 8192 s = sa at *
      obtain ⟨⟨si, ss, sn⟩, sb⟩ := sa
      generalize Es r.l = L0 at *
      generalize Es r2.l = L2 at *
      generalize Bs b = BB at *
      simp only at hpA
      have hpA' := hpA.symm
      simp only [Bool.and_eq_true] at hpA'
      obtain ⟨rfl, q1, q2⟩ := hpA'
      simp [-isPlace, -moves, cx34, e1, h43, h94, q1, q2, hlv, hlen, g4, g5, w4, w5, hob, hdb]
  have o0' : (x.o == 0) = false := by simpa using o0
  by_cases o1 : x.o = 1
  · obtain ⟨m1, e1, e2⟩ := do_put hd2 hs x.i x.s x.nb x.b hx.1 hx.2
    obtain ⟨m2, rfl, e3⟩ := e2.cons hd
    have hlen : m2.length = m.length := by obtain ⟨_, _, _, _, _, q, _⟩ := e3.da hd; exact q
    have hR : ddR r f x = putR r x.i x.s x.b := by rw [ddR, if_neg o0, if_pos o1]
    rw [hR]
    refine ⟨m2, ?_, e3⟩
    have h85 := app85 r hs.rok x.i x.s x.nb x.b hx.1
    obtain ⟨o, i, s, n, nb, b⟩ := x
    simp only at o1
    subst o1
    rw [app_fn E rfl hx34 rfl]
    simp only at e1 h85
    generalize putC r i s b = w at *
    generalize putR r i s b = r2 at *
    have w4 := fun a => es_deps r2.l a
    have w5 := fun a b c => es_okns r2.l a b c
    simp only [own34, Dd.enc, Dd.cs, RD.pv, El, rd, Bl] at *
    generalize Es r.l = L0 at *
    generalize Es r2.l = L2 at *
    generalize Bs b = BB at *
    simp [-isPlace, -moves, cx34, e1, h85, hlv, hlen, g4, g5, w4, w5, hob, hdb]
  have o1' : (x.o == 1) = false := by simpa using o1
  by_cases o2 : x.o = 2
  · obtain ⟨m1, e1, e2⟩ := appx52 hd2 hs f x.nb x.b hx.1 hx.2
    obtain ⟨m2, rfl, e3⟩ := e2.cons hd
    have hlen : m2.length = m.length := by obtain ⟨_, _, _, _, _, q, _⟩ := e3.da hd; exact q
    have hR : ddR r f x = relR r f x.b := by rw [ddR, if_neg o0, if_neg o1, if_pos o2]
    rw [hR]
    refine ⟨m2, ?_, e3⟩
    have h99 := appx99 hs f x.nb x.b hx.1
    obtain ⟨o, i, s, n, nb, b⟩ := x
    simp only at o2
    subst o2
    rw [app_fn E rfl hx34 rfl]
    simp only at e1 h99
    generalize relC r f b = w at *
    generalize relR r f b = r2 at *
    have w4 := fun a => es_deps r2.l a
    have w5 := fun a b c => es_okns r2.l a b c
    simp only [own34, Dd.enc, Dd.cs, RD.pv, El, rd, Bl] at *
    generalize Es r.l = L0 at *
    generalize Es r2.l = L2 at *
    generalize Bs b = BB at *
    simp [-isPlace, -moves, cx34, e1, h99, hlv, hlen, g4, g5, w4, w5, hob, hdb]
  have o2' : (x.o == 2) = false := by simpa using o2
  by_cases o3 : x.o = 3
  · obtain ⟨m1, e1, e2⟩ := appx54 hd2 hs f
    obtain ⟨m2, rfl, e3⟩ := e2.cons hd
    have hlen : m2.length = m.length := by obtain ⟨_, _, _, _, _, q, _⟩ := e3.da hd; exact q
    have hR : ddR r f x = relR r f (sfB r f) := by rw [ddR, if_neg o0, if_neg o1, if_neg o2, if_pos o3]
    rw [hR]
    refine ⟨m2, ?_, e3⟩
    have h37 := appx37 r hs.rok f
    obtain ⟨o, i, s, n, nb, b⟩ := x
    simp only at o3
    subst o3
    rw [app_fn E rfl hx34 rfl]
    cases hf : fitsI r f with
    | false =>
      have h1 : relC r f (sfB r f) = 14 := by rw [relC, hf]; rfl
      have h2 : relR r f (sfB r f) = r := by rw [relR, hf]; rfl
      rw [h1] at e1
      rw [h2]
      rw [hf] at h37
      simp only [own34, Dd.enc, Dd.cs, RD.pv, El, rd, Bl] at *
      generalize Es r.l = L0 at *
      generalize Bs b = BB at *
      simp [-isPlace, -moves, cx34, e1, h37, hlv, hlen, g4, g5, hob, hdb]
    | true =>
      have h40 := appx40 hs.rok f hf
      have hsf : sfB r f = safB r (LF f) := by rw [sfB, if_pos hf]
      have hby := safB_byte hs (LF f)
      have hsb := strBytes_strOf hby
      have h99 := appx99 hs f false (safB r (LF f)) hby
      have hsz : (strOf (safB r (LF f))).size ≤ maxBytes := by
        rw [strOf_size]
        have := safB_len (r := r) (L := LF f) (fits_ok hs.rok hf)
        have := LF_len f
        have := (fitsI_check hf).2.1
        unfold maxBytes; omega
      rw [hsf] at e1 ⊢
      rw [hf] at h37
      have hdS := fun a => bs_deps (safB r (LF f)) a
      have hoS := fun a b c => bs_okns (safB r (LF f)) a b c
      generalize relC r f (safB r (LF f)) = w at *
      generalize relR r f (safB r (LF f)) = r2 at *
      have w4 := fun a => es_deps r2.l a
      have w5 := fun a b c => es_okns r2.l a b c
      simp only [own34, Dd.enc, Dd.cs, RD.pv, El, rd, Bl] at *
      generalize strOf (safB r (LF f)) = SO at *
      generalize Bs (safB r (LF f)) = BS at *
      generalize Es r.l = L0 at *
      generalize Es r2.l = L2 at *
      generalize Bs b = BB at *
      simp [-isPlace, -moves, cx34, e1, h37, h40, h99, hsb, hsz, hdS, hoS, hlv, hlen, g4, g5, w4, w5, hob, hdb]
  have o3' : (x.o == 3) = false := by simpa using o3
  have hR : ddR r f x = r := by rw [ddR, if_neg o0, if_neg o1, if_neg o2, if_neg o3]
  rw [hR]
  refine ⟨m, ?_, does_none hd hs⟩
  obtain ⟨o, i, s, n, nb, b⟩ := x
  rw [app_fn E rfl hx34 rfl]
  simp only at o0' o1' o2' o3'
  simp only [own34, Dd.enc, Dd.cs, RD.pv, El, rd, Bl] at *
  generalize Es r.l = L0 at *
  generalize Bs b = BB at *
  simp [-isPlace, -moves, cx34, o0', o1', o2', o3', hlv, g4, g5, hob, hdb]
end
end Go.Proofs.Ytmffcpiffkclgaa.ZJM.DC

set_option linter.unusedSimpArgs false
set_option linter.unusedVariables false
set_option maxRecDepth 10000
namespace Go.Proofs.Ytmffcpiffkclgaa.ZJM.DC
open Go.Proofs.Ytmffcpiffkclgaa.ZJM Go.RowKit

abbrev Dl (l : List Dd) : List PV := encs Dd.enc l
theorem dl_data (l : List Dd) : PV.datas (Dl l) = true := encs_data fun x _ => by simp [Dd.enc, Dd.cs, PV.datas, PV.data, bs_data]
theorem dl_okns (l : List Dd) (a b c) : PV.okns a b c (Dl l) = true := PV.datas_okns _ _ _ _ (dl_data l)
theorem dl_rens (l : List Dd) (a b ρ) : PV.rens a b ρ (Dl l) = Dl l := PV.datas_rens _ _ _ _ (dl_data l)
theorem dl_deps (l : List Dd) (a) : PV.deps a (Dl l) = true := PV.datas_deps _ _ (dl_data l)
section
variable (nl : Bool) (f : Nat → Int) (L : List Dd) (hL : ∀ x ∈ L, x.ok)
end
end Go.Proofs.Ytmffcpiffkclgaa.ZJM.DC

set_option linter.unusedSimpArgs false
set_option linter.unusedVariables false
set_option maxRecDepth 10000
namespace Go.Proofs.Ytmffcpiffkclgaa.ZJM.DC
open Go.Proofs.Ytmffcpiffkclgaa.ZJM Go.RowKit

abbrev ddT : List CT := [.int .i64, .int .i64, .int .i64, .int .i64, .lst false 1 [.int .u8]]
theorem dd_of {x : PV} (h : CT.val true ddT x) : ∃ d : Dd, d.ok ∧ x = d.enc := by
  obtain ⟨ys, rfl, h⟩ := h
  simp only [CT.hass] at h
  obtain ⟨_, _, rfl, h0, _, _, rfl, h1, _, _, rfl, h2, _, _, rfl, h3, _, _, rfl, h4, rfl⟩ := h
  simp only [CT.has] at h0 h1 h2 h3
  obtain ⟨o, rfl, _⟩ := h0
  obtain ⟨i, rfl, _⟩ := h1
  obtain ⟨s, rfl, _⟩ := h2
  obtain ⟨n, rfl, _⟩ := h3
  obtain ⟨nb, b, hb, hn, rfl⟩ := bl_of h4
  exact ⟨⟨o, i, s, n, nb, b⟩, ⟨hb, hn⟩, rfl⟩
theorem dds_of {xs : List PV} (h : ∀ x ∈ xs, CT.val true ddT x) : ∃ l : List Dd, (∀ d ∈ l, d.ok) ∧ xs = Dl l := by
  induction xs with
  | nil => exact ⟨[], fun x hx => by simp at hx, rfl⟩
  | cons x r ih =>
    obtain ⟨d, hd, rfl⟩ := dd_of (h x (by simp))
    obtain ⟨l, hl, rfl⟩ := ih fun y hy => h y (by simp [hy])
    exact ⟨d :: l, fun y hy => by rcases List.mem_cons.1 hy with rfl | hy; exact hd; exact hl y hy, rfl⟩
end Go.Proofs.Ytmffcpiffkclgaa.ZJM.DC
