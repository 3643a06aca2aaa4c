/- Laid: both dictionaries with a node's own entries and the safety section. -/
import Derived.Test.YtmffcpiffkclgaaZEM1
set_option linter.unusedSimpArgs false
set_option linter.unusedVariables false
set_option maxRecDepth 10000
namespace Go.Proofs.Ytmffcpiffkclgaa.ZJM.DC
open Go.Proofs.Ytmffcpiffkclgaa.ZJM Go.RowKit

def r0 : RD := ⟨true, [], 0⟩
section
variable (m : Mem)
variable (LL : List Ent) (hL : LL.length ≤ 500) (hok : ∀ e ∈ LL, OkB e.b ∧ e.b.length ≤ 64) (h8 : 8 ≤ LL.length)
end
end Go.Proofs.Ytmffcpiffkclgaa.ZJM.DC

set_option linter.unusedSimpArgs false
set_option linter.unusedVariables false
set_option maxRecDepth 10000
namespace Go.Proofs.Ytmffcpiffkclgaa.ZJM.DC
open Go.Proofs.Ytmffcpiffkclgaa.ZJM Go.RowKit

structure Byt where
  (nl : Bool) (b : List Int)
def Byt.enc (x : Byt) : PV := Bl x.nl x.b
def Byt.ok (x : Byt) : Prop := OkB x.b ∧ (x.nl = true → x.b = [])
abbrev Ys (l : List Byt) : List PV := encs Byt.enc l
theorem byt_data (x : Byt) : x.enc.data = true := by simp [Byt.enc, PV.data, bs_data]
theorem ys_data (l : List Byt) : PV.datas (Ys l) = true := encs_data fun x _ => byt_data x
theorem ys_okns (l : List Byt) (a b c) : PV.okns a b c (Ys l) = true := PV.datas_okns _ _ _ _ (ys_data l)
theorem ys_deps (l : List Byt) (a) : PV.deps a (Ys l) = true := PV.datas_deps _ _ (ys_data l)
theorem ys_names (l : List Byt) (a) : PV.namess a (Ys l) = [] := PV.datas_namess _ _ (ys_data l)
theorem ys_rens (l : List Byt) (a b ρ) : PV.rens a b ρ (Ys l) = Ys l := PV.datas_rens _ _ _ _ (ys_data l)
attribute [simp] ys_okns ys_deps ys_names ys_rens
def skE (e : Ent) : Int × Int × Int × Int × Int × Int := (e.i, e.s, e.k, e.a, e.l, e.h)
def skel (r : RD) : List (Int × Int × Int × Int × Int × Int) := r.l.map skE
theorem skel_hold (r : RD) (n : Nat) (b : List Int) : skel (holdR r n b) = skel r := by
  simp only [skel, holdR, upE]
  apply List.ext_getElem
  · simp
  · intro t h1 h2
    simp only [List.getElem_map, List.getElem_modify]
    split <;> rfl
theorem skel_holdAt (r : RD) (i s : Int) (b : List Int) : skel (holdAt r i s b) = skel r := by
  unfold holdAt; split
  · rfl
  · exact skel_hold _ _ _
theorem skel_put (r : RD) (i s : Int) (b : List Int) : skel (putR r i s b) = skel r := by
  unfold putR; split
  · exact skel_holdAt _ _ _ _
  · rfl
section
variable (m : Mem) (nl : Bool) (Y : List Byt) (hY : ∀ y ∈ Y, y.ok)
end
end Go.Proofs.Ytmffcpiffkclgaa.ZJM.DC

set_option linter.unusedSimpArgs false
set_option linter.unusedVariables false
set_option maxRecDepth 4000
namespace Go.Proofs.Ytmffcpiffkclgaa.ZJM.DC
open Go.Proofs.Ytmffcpiffkclgaa.ZJM Go.RowKit

/-- What an entry holds. -/
def slotB (r : RD) (x : Slot) : List Int := match findIx r.l x.i x.s with
  | none => []
  | some j => match r.l[j]? with
    | none => []
    | some y => y.b
def catA (r : RD) (L : List Slot) : List Int := L.flatMap (slotB r)
theorem Sim.slotB {l : List Row} {c : Int} {r : RD} (h : Sim l c r) (x : Slot) : (rawB (getW l (knum x.i x.s))).2 = slotB r x := by
  rcases h.at x.i x.s with ⟨h1, h2⟩ | ⟨y, j, hj, h1, h2, hre, e1, e2, hok⟩
  · rw [h1]; simp [DC.slotB, h2, rawB]
  · rw [h1]
    simp only [DC.slotB, h2, List.getElem?_eq_getElem hj, rawB, hre.2.2.2.2.2]
theorem Sim.slot_ok {l : List Row} {c : Int} {r : RD} (h : Sim l c r) (x : Slot) (ho : oneA r x = true) : OkB (DC.slotB r x) ∧ ((DC.slotB r x).length : Int) * 8 = x.n ∧ ∃ j, ∃ hj : j < r.l.length, findIx r.l x.i x.s = some j ∧ DC.slotB r x = r.l[j].b := by
  rcases h.at x.i x.s with ⟨h1, h2⟩ | ⟨y, j, hj, h1, h2, hre, e1, e2, hok⟩
  · simp [oneA, h2] at ho
  · simp only [oneA, h2, List.getElem?_eq_getElem hj, Bool.and_eq_true, decide_eq_true_eq, beq_iff_eq] at ho
    have e : DC.slotB r x = r.l[j].b := by simp only [DC.slotB, h2, List.getElem?_eq_getElem hj]
    rw [e, ← hre.2.2.2.2.2]
    obtain ⟨⟨hm, hz⟩, hn⟩ := ho
    rw [← hre.2.1] at hz hn
    have hl := (fits_get hz hok.2.2.2.1).2.2.1
    refine ⟨hok.1, by omega, j, hj, h2, hre.2.2.2.2.2⟩
theorem okB_app {a b : List Int} (ha : OkB a) (hb : OkB b) : OkB (a ++ b) := fun x hx => by
  rcases List.mem_append.1 hx with h | h
  · exact ha x h
  · exact hb x h
theorem bs_cells (b : List Int) : (Bs b).flatMap PV.cells = Bs b := by
  induction b with
  | nil => rfl
  | cons x b ih => simp only [encs_cons, List.flatMap_cons, ih, cells_int]; rfl
theorem bs_noplace (b : List Int) : (Bs b).all (fun c => !isPlace c) = true := by
  induction b with
  | nil => rfl
  | cons x b ih => simp only [encs_cons, List.all_cons, ih]; rfl
theorem bs_sized (b : List Int) : sized 1 (Bs b) = true := by
  induction b with
  | nil => rfl
  | cons x b ih =>
    simp only [sized] at ih
    simp only [encs_cons, sized, List.all_cons, ih]; rfl
theorem bs_drop (b : List Int) (n : Nat) : (Bs b).drop n = Bs (b.drop n) := by simp [encs, List.map_drop]
theorem bs_takeN (b : List Int) (n : Nat) : (Bs b).take n = Bs (b.take n) := by simp [encs, List.map_take]
theorem zs_drop (n k : Nat) : (zs n).drop k = zs (n - k) := by simp [zs]
/-- Bytes are copied behind those that stand there. -/
theorem cpy_bytes (f : List (Nat × PV)) (tops) (dead) (m : Mem) (own0 : Lvl) (s d : Nat) (cat b : List Int) (n : Nat) (nl : Bool) (hn : cat.length + n = 8) (hb : b.length ≤ n)
    (hs : get own0 s = some (Bs (cat ++ zs n))) :
    cpyEv ⟨f, tops, own0, dead, m⟩ (some d) 1 (.slr m.length s [] cat.length n 1) (Bl nl b) =
      (match writeSt ⟨f, tops, own0, dead, m⟩ m.length s [] (Bs ((cat ++ b) ++ zs (n - b.length))) with
          | some st' => some (st'.put (some d) (.int .i64 b.length))
          | none => none) := by
  have h1 : mget (own0 :: m) m.length s [] = some (Bs (cat ++ zs n)) := by simp [hs]
  have h2 : min n (Bs b).length = b.length := by rw [bs_len]; omega
  have h3 : (Bs b).take b.length = Bs b := bs_take b
  have h4 : PV.deps (m.length + 1) (Bs b) = true := bs_deps b _
  have h5 : splice (Bs (cat ++ zs n)) (Bs b) cat.length = Bs ((cat ++ b) ++ zs (n - b.length)) := by
    rw [splice, bs_len, bs_takeN, bs_drop, List.drop_append, List.take_append]
    simp only [List.take_length, Nat.sub_self, List.take_zero, List.append_nil, List.drop_of_length_le (show cat.length ≤ cat.length + b.length by omega), List.nil_append, show cat.length + b.length - cat.length = b.length by omega, zs_drop, bs_app]
  have h6 : (((Bs (cat ++ zs n)).drop cat.length).take b.length).all (fun c => !isPlace c) = true := by
    rw [bs_drop, bs_takeN]; exact bs_noplace _
  have h7 : (Bs (cat ++ zs n)).length = 8 := by rw [bs_len, List.length_append, zs, List.length_replicate, hn]
  simp only [cpyEv, derefP, beq_self_eq_true, Bool.true_or, if_true, cpyTo, h1, h2, h3, bs_cells, h4, h5, h6, h7, bs_sized, bs_noplace, Nat.mul_one, hn, decide_true, Bool.and_true, Nat.le_refl, Bool.and_self]
  rfl
section
variable {m : Mem} {lv a a' ver : Nat} {l : List Row} {c : Int} (hd : DA m lv a a' ver l c) {r : RD} (hs : Sim l c r) (nl : Bool) (L : List Slot)
def S37 (m : Mem) (lv a : Nat) (nl : Bool) (L : List Slot) (t : Nat) (cat : List Int) : St := ⟨[(0, .ptr lv a [] 0), (6, .ptr m.length 6 [] 0), (7, .int .i64 cat.length), (16, Sl nl L), (17, .int .i64 L.length), (18, .int .i64 t)], [], [(6, Bs (cat ++ zs (8 - cat.length)))], [], m⟩
include hd hs in
theorem loop37 (hL : L.length ≤ 8) (hc0 : chk r 0 L = 0) {st : St} (h0 : maskSt [0, 6, 7, 16, 17, 18] [6] [] [] st = some (S37 m lv a nl L 0 [])) :
    ∃ e st', loopW (maskSt [0, 6, 7, 16, 17, 18] [6] [] []) (Cd.run (app E) c37.body.inner.body) st = some (e, st') ∧ e ≠ .normal ∧
      (e = .exit 0 ∧ (catA r L).length ≤ 8 ∧ OkB (catA r L) ∧ get st'.f 6 = some (.ptr m.length 6 [] 0) ∧ get st'.f 7 = some (.int .i64 (catA r L).length) ∧ st'.m = m ∧ st'.own = [(6, Bs (catA r L ++ zs (8 - (catA r L).length)))]) := by
  have hlt := hd.lv_lt
  have hlv : lv ≠ m.length := by omega
  refine loop_inv (fun t S => ∃ cat, cat = catA r (L.take t) ∧ OkB cat ∧ cat.length ≤ 8 ∧ chk r (8 * (cat.length : Int)) (L.drop t) = 0 ∧ S = S37 m lv a nl L t cat) L.length _ h0 ?_ ?_ ?_
  · refine ⟨[], rfl, ?_, Nat.zero_le _, ?_, rfl⟩
    · intro x hx; cases hx
    · simpa using hc0
  · rintro t S ht ⟨cat, hcat, hok, h8, hc, rfl⟩
    have hti : (t : Int) < L.length := by omega
    have hw := wrap_succ t (by omega)
    have hdd : L.drop t = L[t] :: L.drop (t + 1) := List.drop_eq_getElem_cons ht
    rw [hdd, chk] at hc
    obtain ⟨g1, g2⟩ := ss_get L t ht
    simp only [Slot.enc] at g1 g2
    have ho : oneA r L[t] = true := by
      by_cases ho : oneA r L[t] = true
      · exact ho
      · rw [if_neg ho] at hc; simp at hc
    rw [if_pos ho] at hc
    obtain ⟨k1, k2, _⟩ := hs.slot_ok L[t] ho
    have hb64 : ¬ 64 < 8 * (cat.length : Int) + L[t].n := by
      intro hb; rw [if_pos hb] at hc; simp at hc
    rw [if_neg hb64] at hc
    have h26 := app26 (.inr ⟨_, _, rfl⟩) (finds (hd.cons [(9, [.int .i64 L[t].i, .int .i64 L[t].s, .int .i64 L[t].n]), (6, Bs (cat ++ zs (8 - cat.length)))]) hs.dok L[t].i L[t].s) (okO_get hs.dok _)
    have hsl := hs.slotB L[t]
    rw [hsl] at h26
    have hcat2 : cat ++ slotB r L[t] = catA r (L.take (t + 1)) := by
      rw [hcat, catA, catA, take_succ' L t ht, List.flatMap_append]; simp
    generalize hbb : slotB r L[t] = bb at *
    generalize (rawB (getW l (knum L[t].i L[t].s))).1 = bn at *
    have hbl : bb.length ≤ 8 - cat.length := by omega
    have hwa : IntKind.i64.wrap ((cat.length : Int) + bb.length) = ((cat ++ bb).length : Nat) := by rw [List.length_append, wrap_id _ (by omega) (by omega)]; omega
    have hwa' : IntKind.i64.wrap ((cat.length : Int) + bb.length) = (cat.length : Int) + bb.length := by rw [wrap_id _ (by omega) (by omega)]
    have hcp := fun f d => cpy_bytes f [] [] m [(9, [.int .i64 L[t].i, .int .i64 L[t].s, .int .i64 L[t].n]), (6, Bs (cat ++ zs (8 - cat.length)))] 6 d cat bb (8 - cat.length) bn (by omega) hbl (by simp)
    have hz8 : 8 - cat.length - bb.length = 8 - (cat ++ bb).length := by rw [List.length_append]; omega
    rw [hz8] at hcp
    have hl8 : (Bs (cat ++ zs (8 - cat.length))).length = 8 := by rw [bs_len, List.length_append, zs, List.length_replicate]; omega
    have hc8 : (cat.length : Int) ≤ 8 := by omega
    refine .inl ?_
    have hG : Goes (maskSt [0, 6, 7, 16, 17, 18] [6] [] []) (S37 m lv a nl L (t + 1) (cat ++ bb)) (Cd.run (app E) c37.body.inner.body (S37 m lv a nl L t cat)) := by
      simp only [bs_app] at hcp hl8 h26
      simp [-cpyEv, c37, Cd.inner, Cd.body, S37, hti, ht, g1, g2, h26, hcp, hwa, hwa', hw, hlv, hl8, hc8]
    obtain ⟨st2, q1, q2⟩ := hG.get
    refine ⟨st2, _, q1, q2, cat ++ bb, hcat2, okB_app hok k1, by rw [List.length_append]; omega, ?_, rfl⟩
    rw [List.length_append]
    have : 8 * ((cat.length + bb.length : Nat) : Int) = 8 * (cat.length : Int) + L[t].n := by omega
    rw [this]; exact hc
  · rintro S ⟨cat, hcat, hok, h8, hc, rfl⟩
    rw [List.take_length] at hcat
    rw [← hcat]
    simp [c37, Cd.inner, Cd.body, S37, EndsL]
    exact ⟨h8, hok⟩
end
end Go.Proofs.Ytmffcpiffkclgaa.ZJM.DC

set_option linter.unusedSimpArgs false
set_option linter.unusedVariables false
set_option maxRecDepth 4000
namespace Go.Proofs.Ytmffcpiffkclgaa.ZJM.DC
open Go.Proofs.Ytmffcpiffkclgaa.ZJM Go.RowKit

def packB (r : RD) (L : List Slot) : List Int := if checkA r L = 0 then catA r L else []
def packE (r : RD) (L : List Slot) : Int := if checkA r L = 0 then 0 else 14
theorem check_chk {r : RD} {L : List Slot} (h : checkA r L = 0) : L.length ≤ 8 ∧ chk r 0 L = 0 := by
  unfold checkA at h
  split at h
  · simp at h
  · exact ⟨by omega, h⟩
theorem firstList_bs (st : St) (d : Nat) (b : List Int) : firstList st false (some d) 1 5 (Bs b) = some { st with f := (d, Bl b.isEmpty b) :: st.f } := by
  cases b <;> rfl
section
variable {m : Mem} {lv a a' ver : Nat} {l : List Row} {c : Int} (hd : DA m lv a a' ver l c) {r : RD} (hs : Sim l c r) (nl : Bool) (L : List Slot)
include hd hs in
theorem app37 : (packB r L).length ≤ 8 ∧ OkB (packB r L) ∧ app E false (.fn 70 []) [.ptr lv a [] 0, Sl nl L] m = some (.tup [Bl (packB r L).isEmpty (packB r L), .int .i64 (packE r L)], emptyBag, m) := by
  have hlt := hd.lv_lt
  have hlv : lv ≠ m.length := by omega
  have h39 := fun own : Lvl => app39 (hd.cons own) hs nl L
  unfold packB packE
  by_cases hz : checkA r L = 0
  · obtain ⟨hL, hc0⟩ := check_chk hz
    obtain ⟨e, ⟨f', tops', own', dead', m'⟩, q1, q2, rfl, h8, hok, g6, g7, gm, go⟩ := @loop37 m lv a a' ver l c hd r hs nl L hL hc0 ⟨[(18, .int .i64 0), (17, .int .i64 L.length), (16, Sl nl L), (7, .int .i64 0), (6, .ptr m.length 6 [] 0), (15, .bool false), (14, .int .i64 0), (13, Sl nl L), (12, .ptr lv a [] 0), (5, .int .i64 0), (4, .lst none true 1 []), (0, .ptr lv a [] 0), (1, Sl nl L)], [], [(6, [.int .u8 0, .int .u8 0, .int .u8 0, .int .u8 0, .int .u8 0, .int .u8 0, .int .u8 0, .int .u8 0])], [], m⟩ (by simp [S37, hlv]; rfl)
    simp only at g6 g7 gm go
    subst gm; subst go
    simp only [if_pos hz]
    refine ⟨h8, hok, ?_⟩
    rw [app_fn E rfl h37 rfl]
    simp only [c37, Cd.inner, Cd.body] at q1
    rw [hz] at h39
    generalize catA r L = cat at *
    have h8i : (cat.length : Int) ≤ 8 := by omega
    have hl8 : (Bs (cat ++ zs (8 - cat.length))).length = 8 := by rw [bs_len, List.length_append, zs, List.length_replicate]; omega
    have htk : (Bs (cat ++ zs (8 - cat.length))).take cat.length = Bs cat := by rw [bs_app, List.take_append_of_le_length (by rw [bs_len]; omega)]; exact bs_take cat
    have hbo := fun a b c d => bs_out cat a b c d
    have hch := bs_chunks cat
    have hmb : cat.length ≤ maxBytes := by unfold maxBytes; omega
    have hfl := fun st d => firstList_bs st d cat
    generalize Bs (cat ++ zs (8 - cat.length)) = CS at *
    simp [-firstList, c37, h39, q1, g6, g7, h8, h8i, hl8, htk, hbo, hch, hmb, hfl]
  · simp only [if_neg hz]
    refine ⟨Nat.zero_le _, (fun x hx => absurd hx (by simp)), ?_⟩
    rw [app_fn E rfl h37 rfl]
    have hz' : (checkA r L != 0) = true := by simpa using hz
    simp [c37, h39, hz']
end
end Go.Proofs.Ytmffcpiffkclgaa.ZJM.DC

set_option linter.unusedSimpArgs false
set_option linter.unusedVariables false
set_option maxRecDepth 4000
namespace Go.Proofs.Ytmffcpiffkclgaa.ZJM.DC
open Go.Proofs.Ytmffcpiffkclgaa.ZJM Go.RowKit

theorem strOf_app (a b : List Int) : strOf a ++ strOf b = strOf (a ++ b) := by
  simp only [strOf, List.map_append]
  apply ByteArray.ext
  simp [ByteArray.data_append]
section
variable (r : RD) (hr : r.ok) (nl : Bool) (L : List Slot)
end
end Go.Proofs.Ytmffcpiffkclgaa.ZJM.DC

set_option linter.unusedSimpArgs false
set_option linter.unusedVariables false
set_option maxRecDepth 10000
namespace Go.Proofs.Ytmffcpiffkclgaa.ZJM.DC
open Go.Proofs.Ytmffcpiffkclgaa.ZJM Go.RowKit

theorem sz_chk {rows : List Row} {c : Int} {r : RD} (hs : Sim rows c r) (L : List Slot) : ∀ acc acc' : Int, chk r acc L = 0 → szA acc' L = acc' + ((catA r L).length : Int) := by
  induction L with
  | nil => intro acc acc' _; simp [szA, catA]
  | cons x L ih =>
    intro acc acc' h
    rw [chk] at h
    by_cases ho : oneA r x = true
    · rw [if_pos ho] at h
      by_cases hb : 64 < acc + x.n
      · rw [if_pos hb] at h; simp at h
      · rw [if_neg hb] at h
        obtain ⟨k1, k2, j, hj, hf, k3⟩ := hs.slot_ok x ho
        have hn : x.n = 8 ∨ x.n = 16 ∨ x.n = 32 := by
          simp only [oneA, hf, List.getElem?_eq_getElem hj, Bool.and_eq_true, decide_eq_true_eq, beq_iff_eq] at ho
          have h1 := ho.1.2
          have h2 := ho.2
          unfold ksz at h1 h2
          by_cases a1 : r.l[j].k = 1 ∨ r.l[j].k = 2 ∨ r.l[j].k = 5
          · rw [if_pos a1] at h2; omega
          · rw [if_neg a1] at h1 h2
            by_cases a2 : r.l[j].k = 3 ∨ r.l[j].k = 6
            · rw [if_pos a2] at h2; omega
            · rw [if_neg a2] at h1 h2
              by_cases a3 : r.l[j].k = 4 ∨ r.l[j].k = 7
              · rw [if_pos a3] at h2; omega
              · rw [if_neg a3] at h1; omega
        rw [szA, if_pos hn, ih _ _ h]
        have : catA r (x :: L) = slotB r x ++ catA r L := by simp [catA]
        rw [this, List.length_append]
        omega
    · rw [if_neg ho] at h; simp at h
theorem pack_size {rows : List Row} {c : Int} {r : RD} (hs : Sim rows c r) (L : List Slot) (h : packE r L = 0) : ((packB r L).length : Int) = sizeA L := by
  unfold packE at h
  by_cases hz : checkA r L = 0
  · obtain ⟨hL, hc0⟩ := check_chk hz
    rw [packB, if_pos hz, sizeA, if_neg (by omega), sz_chk hs L 0 0 hc0]; omega
  · rw [if_neg hz] at h; simp at h
end Go.Proofs.Ytmffcpiffkclgaa.ZJM.DC
