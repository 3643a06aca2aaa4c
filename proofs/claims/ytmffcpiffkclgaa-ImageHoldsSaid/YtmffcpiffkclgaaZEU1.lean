/- The document's Unpack; PmapUnpacks' function. -/
import Derived.Test.YtmffcpiffkclgaaZEM10
set_option linter.unusedSimpArgs false
set_option linter.unusedVariables false
set_option maxRecDepth 10000
namespace Go.Proofs.Ytmffcpiffkclgaa.ZJM.DC
open Go.Proofs.Ytmffcpiffkclgaa.ZJM Go.RowKit

theorem sim_put1 {l : List Row} {c : Int} {r : RD} (hs : Sim l c r) (i s : Int) (b : List Int) (hb : OkB b) : ∃ l' c', Sim l' c' (putR r i s b) := by
  by_cases hz : putC r i s b = 0
  · exact ⟨_, _, hs.put i s false b hb (by simp) (by rw [hs.putC]; exact hz)⟩
  · exact ⟨l, c, by rw [putR, if_neg hz]; exact hs⟩
theorem sim_puts {l : List Row} {c : Int} {r : RD} (hs : Sim l c r) (q : List (Slot × List Int)) (hq : ∀ x ∈ q, OkB x.2) : ∃ l' c', Sim l' c' (putsR r q) := by
  induction q generalizing l c r with
  | nil => exact ⟨l, c, hs⟩
  | cons x q ih =>
    obtain ⟨l1, c1, h1⟩ := sim_put1 hs x.1.i x.1.s x.2 (hq x (by simp))
    exact ih h1 fun y hy => hq y (by simp [hy])
theorem zip_ok {b : List Int} (hb : OkB b) (L : List Slot) : ∀ x ∈ L.zip (partsA b L), OkB x.2 := by
  intro x hx
  exact partsA_ok hb L _ (List.of_mem_zip hx).2
theorem bs_mid (b : List Int) (i n : Nat) (h : i + n ≤ b.length) : (List.drop i ((Bs b).take (i + n))) = Bs ((b.drop i).take n) := by
  rw [bs_takeN, bs_drop, List.drop_take]
  congr 2
  omega
theorem chk_len {rows : List Row} {c : Int} {r : RD} (hs : Sim rows c r) (L : List Slot) : ∀ acc : Int, acc ≤ 64 → chk r acc L = 0 → acc + 8 * ((catA r L).length : Int) ≤ 64 := by
  induction L with
  | nil => intro acc h _; simp [catA]; omega
  | cons x L ih =>
    intro acc h hc
    obtain ⟨ho, h2⟩ := chk_one hc
    have hb : acc + x.n ≤ 64 := by
      rw [chk, if_pos ho] at hc
      by_cases hb : 64 < acc + x.n
      · rw [if_pos hb] at hc; simp at hc
      · omega
    obtain ⟨k1, k2, _⟩ := hs.slot_ok x ho
    have := ih _ hb h2
    have hca : catA r (x :: L) = slotB r x ++ catA r L := rfl
    rw [hca, List.length_append]
    omega
section
variable (r : RD) (nb nl : Bool) (L : List Slot) (b : List Int)
def S12 (t at_ : Nat) (rt : RD) : St := ⟨[(1, Bl nb b), (2, Sl nl L), (3, .ptr 0 3 [] 0), (6, .ptr 0 6 [] 0), (8, .ptr 0 8 [] 0), (9, .int .i64 at_), (10, .int .i64 t)], [], [(3, [El r.nl r.l, .int .i64 r.c]), (6, [.lst none true 7 [], .int .i64 0]), (8, [El rt.nl rt.l, .int .i64 rt.c])], [], []⟩
set_option maxHeartbeats 1000000 in
theorem loop12 {rows : List Row} {c : Int} (hs : Sim rows c r) (hb : OkB b) (hL : L.length ≤ 8) (hc0 : chk r 0 L = 0) (hlen : b.length = (catA r L).length) {st : St} (h0 : maskSt [1, 2, 3, 6, 8, 9, 10] [3, 6, 8] [] [] st = some (S12 r nb nl L b 0 0 r)) :
    ∃ e st', loopW (maskSt [1, 2, 3, 6, 8, 9, 10] [3, 6, 8] [] []) (Cd.run (app E) cx12.body.inner.body) st = some (e, st') ∧ e ≠ .normal ∧
      ((e = .exit 0 ∧ partsOK r b L = true ∧ get st'.f 6 = some (.ptr 0 6 [] 0) ∧ get st'.f 8 = some (.ptr 0 8 [] 0) ∧ st'.m = [] ∧ st'.own = [(3, [El r.nl r.l, .int .i64 r.c]), (6, [.lst none true 7 [], .int .i64 0]), (8, [El (putsR r (L.zip (partsA b L))).nl (putsR r (L.zip (partsA b L))).l, .int .i64 (putsR r (L.zip (partsA b L))).c])]) ∨
       (e = .ret ∧ partsOK r b L = false ∧ get st'.f 6 = some (.ptr 0 6 [] 0) ∧ get st'.f 7 = some (.int .i64 4) ∧ st'.m = [] ∧ get st'.own 6 = some [El r.nl r.l, .int .i64 r.c])) := by
  have hc8 := chk_len hs L 0 (by omega) hc0
  refine loop_inv (fun t S => t ≤ L.length ∧ ∃ at_ acc, chk r acc (L.drop t) = 0 ∧ at_ ≤ b.length ∧ partsOK r b L = partsOK r (b.drop at_) (L.drop t) ∧ (partsA b L).drop t = partsA (b.drop at_) (L.drop t) ∧ (b.drop at_).length = (catA r (L.drop t)).length ∧ S = S12 r nb nl L b t at_ (putsR r ((L.zip (partsA b L)).take t))) L.length _ h0 ⟨Nat.zero_le _, 0, 0, hc0, Nat.zero_le _, rfl, rfl, hlen, rfl⟩ ?_ ?_
  · rintro t S ht ⟨_, at_, acc, hc, hat, hp1, hp2, hrl, rfl⟩
    have hti : (t : Int) < L.length := by omega
    have hw := wrap_succ t (by omega)
    have hdd : L.drop t = L[t] :: L.drop (t + 1) := List.drop_eq_getElem_cons ht
    rw [hdd] at hc hp1 hp2 hrl
    obtain ⟨ho, hc⟩ := chk_one hc
    obtain ⟨g1, g2⟩ := ss_get L t ht
    simp only [Slot.enc] at g1 g2
    have h3 := one_bits ho
    obtain ⟨k1, k2, j, hj, hf, k3⟩ := hs.slot_ok L[t] ho
    have hca : catA r (L[t] :: L.drop (t + 1)) = slotB r L[t] ++ catA r (L.drop (t + 1)) := rfl
    rw [hca, List.length_append] at hrl
    rw [partsOK] at hp1
    rw [partsA] at hp2
    obtain ⟨q, hq⟩ : ∃ q : Nat, L[t].n / 8 = q := ⟨(L[t].n / 8).toNat, by omega⟩
    rw [hq] at hp1 hp2
    rw [Int.toNat_natCast] at hp1 hp2
    have hdl : (b.drop at_).length = b.length - at_ := List.length_drop
    have hql : at_ + q ≤ b.length := by omega
    have hq4 : q ≤ 8 := by omega
    have hmid := bs_mid b at_ q hql
    have hPt : t < (partsA b L).length := by rw [partsA_len]; exact ht
    have hpt : (partsA b L)[t] = (b.drop at_).take q := by
      have h5 : (partsA b L).drop t = (partsA b L)[t] :: (partsA b L).drop (t + 1) := List.drop_eq_getElem_cons hPt
      rw [h5] at hp2
      exact (List.cons.inj hp2).1
    have hp3 : (partsA b L).drop (t + 1) = partsA (b.drop (at_ + q)) (L.drop (t + 1)) := by
      have h5 : (partsA b L).drop t = (partsA b L)[t] :: (partsA b L).drop (t + 1) := List.drop_eq_getElem_cons hPt
      rw [h5, List.drop_drop] at hp2
      exact (List.cons.inj hp2).2
    rw [List.drop_drop] at hp1
    have hzl : t < (L.zip (partsA b L)).length := by rw [List.length_zip]; omega
    have hz : (L.zip (partsA b L))[t] = (L[t], (partsA b L)[t]) := by rw [List.getElem_zip]
    have htk := take_succ' (L.zip (partsA b L)) t hzl
    rw [hz] at htk
    obtain ⟨l', c', hs'⟩ := sim_puts hs ((L.zip (partsA b L)).take t) fun x hx => zip_ok hb L x (List.mem_of_mem_take hx)
    have hpo : OkB ((b.drop at_).take q) := okB_take (okB_drop hb _) _
    have h85 := app85 (putsR r ((L.zip (partsA b L)).take t)) hs'.rok L[t].i L[t].s nb ((b.drop at_).take q) hpo
    have hsn := puts_snoc r ((L.zip (partsA b L)).take t) (L[t], (partsA b L)[t])
    rw [← htk] at hsn
    simp only at hsn
    rw [hpt] at hsn
    rw [← hsn] at h85
    have hat' := app33 r.nl r.l r.c L[t].i L[t].s hs.rok.1
    rw [atA_some hf] at hat'
    have hj' : (j : Int) < r.l.length := by omega
    have hj2 : ¬ (j : Int) < 0 := by omega
    have hgE : (Es r.l)[j]? = some r.l[j].enc := by rw [List.getElem?_eq_getElem (by rw [encs_len]; exact hj), es_getE]
    have hgg : ∀ h, (Es r.l)[j]'h = r.l[j].enc := fun h => encs_getE r.l j h
    have h27 := app27 r.l[j].k r.l[j].a r.l[j].l r.l[j].h nb ((b.drop at_).take q) hpo
    have hfit : fitB r L[t] ((b.drop at_).take q) = (fitsA r.l[j].k r.l[j].a r.l[j].l r.l[j].h ((b.drop at_).take q) == 0) := by
      simp only [fitB, hf, List.getElem?_eq_getElem hj]
    rw [hfit] at hp1
    have hquo : IntKind.i64.wrap (L[t].n.tdiv 8) = q := by
      rcases h3 with h | h | h <;> rw [h] at hq ⊢ <;> simp [wrap_id] <;> omega
    have hwq : IntKind.i64.wrap ((at_ : Int) + q) = ((at_ + q : Nat) : Int) := by rw [wrap_id _ (by omega) (by omega)]; omega
    have hwq' : IntKind.i64.wrap ((at_ : Int) + q) = (at_ : Int) + q := by rw [wrap_id _ (by omega) (by omega)]
    have b1 : (at_ : Int) ≤ (at_ : Int) + q := by omega
    have b2 : (at_ : Int) + q ≤ b.length := by omega
    have b3 : ((at_ : Int) + q).toNat = at_ + q := by omega
    have b4 : (0 : Int) ≤ at_ := by omega
    generalize hn : L[t].n = n at *
    simp only [RD.pv] at h85
    by_cases hfz : fitsA r.l[j].k r.l[j].a r.l[j].l r.l[j].h ((b.drop at_).take q) = 0
    · rw [hfz] at h27 hp1
      rw [show ((0 : Int) == 0) = true from rfl, Bool.true_and] at hp1
      refine .inl ?_
      have hG : Goes (maskSt [1, 2, 3, 6, 8, 9, 10] [3, 6, 8] [] []) (S12 r nb nl L b (t + 1) (at_ + q) (putsR r ((L.zip (partsA b L)).take (t + 1)))) (Cd.run (app E) cx12.body.inner.body (S12 r nb nl L b t at_ (putsR r ((L.zip (partsA b L)).take t)))) := by
        generalize putsR r ((L.zip (partsA b L)).take (t + 1)) = r2 at *
        generalize putsR r ((L.zip (partsA b L)).take t) = r1 at *
        generalize putC r1 L[t].i L[t].s ((b.drop at_).take q) = w2 at *
        simp [cx12, Cd.inner, Cd.body, S12, hti, ht, g1, g2, hn, hquo, hat', hj, hj', hj2, hgE, hgg, Ent.enc, Ent.cs, h27, h85, hwq, hwq', b1, b2, b3, b4, hmid, hw]
      obtain ⟨st2, q1, q2⟩ := hG.get
      exact ⟨st2, _, q1, q2, by omega, at_ + q, _, hc, hql, hp1, hp3, by rw [List.length_drop]; omega, rfl⟩
    · have hfz' : (fitsA r.l[j].k r.l[j].a r.l[j].l r.l[j].h ((b.drop at_).take q) == 0) = false := by simpa using hfz
      have hfz2 : (fitsA r.l[j].k r.l[j].a r.l[j].l r.l[j].h ((b.drop at_).take q) != 0) = true := by simpa using hfz
      rw [hfz', Bool.false_and] at hp1
      rw [hp1]
      refine .inr ?_
      generalize putsR r ((L.zip (partsA b L)).take t) = r1 at *
      simp [cx12, Cd.inner, Cd.body, S12, hti, ht, g1, g2, hn, hquo, hat', hj, hj', hj2, hgE, hgg, Ent.enc, Ent.cs, h27, hfz2, hwq, hwq', b1, b2, b3, b4, hmid, hw, EndsL]
  · rintro S ⟨_, at_, acc, hc, hat, hp1, hp2, hrl, rfl⟩
    have hzl : (L.zip (partsA b L)).take L.length = L.zip (partsA b L) := List.take_of_length_le (by rw [List.length_zip]; omega)
    rw [hzl]
    rw [List.drop_length] at hp1
    rw [hp1]
    generalize putsR r (L.zip (partsA b L)) = r1 at *
    simp [cx12, Cd.inner, Cd.body, S12, EndsL, partsOK]
theorem appx12 {rows : List Row} {c : Int} (hs : Sim rows c r) (hb : OkB b) : app E false (.fn 12 []) [r.pv, Bl nb b, Sl nl L] [] = some (.tup [(unpR r b L).pv, .int .i64 (unpC r b L)], emptyBag, []) := by
  have h40 := app40 r hs.rok nl L
  have h42' := app42 nl L
  have e3 := fun a b ρ => es_rens r.l a b ρ
  have e4 := fun a => es_deps r.l a
  have e5 := fun a b c => es_okns r.l a b c
  rw [app_fn E rfl hx12 rfl]
  unfold unpR
  unfold unpC
  by_cases hz : checkA r L = 0
  · obtain ⟨hL, hc0⟩ := check_chk hz
    simp only [if_pos hz]
    rw [hz] at h40
    by_cases hsz : (b.length : Int) = sizeA L
    · simp only [if_pos hsz]
      have hcl : b.length = (catA r L).length := by
        have h1 : sizeA L = szA 0 L := by rw [sizeA, if_neg (by omega)]
        rw [h1, sz_chk hs L 0 0 hc0] at hsz
        omega
      rw [← hsz] at h42'
      obtain ⟨e, ⟨f', tops', own', dead', m'⟩, q1, q2, q3⟩ := loop12 r nb nl L b hs hb hL hc0 hcl (st := ⟨[(10, .int .i64 0), (9, .int .i64 0), (8, .ptr 0 8 [] 0), (23, r.pv), (21, .bool false), (20, .int .i64 b.length), (19, Sl nl L), (18, .int .i64 b.length), (17, Bl nb b), (15, .bool false), (14, .int .i64 0), (13, Sl nl L), (12, r.pv), (7, .int .i64 0), (6, .ptr 0 6 [] 0), (3, .ptr 0 3 [] 0), (0, r.pv), (1, Bl nb b), (2, Sl nl L)], [], [(8, [El r.nl r.l, .int .i64 r.c]), (6, [.lst none true 7 [], .int .i64 0]), (3, [El r.nl r.l, .int .i64 r.c])], [], []⟩) (by simp [S12])
      simp only [cx12, Cd.inner, Cd.body, RD.pv] at q1
      rcases q3 with ⟨rfl, hp, g6, g8, gm, go⟩ | ⟨rfl, hp, g6, g7, gm, go⟩
      · simp only at g6 g8 gm go
        subst gm; subst go
        simp only [if_pos hp, if_true]
        generalize putsR r (L.zip (partsA b L)) = r1 at *
        have f4 := fun a => es_deps r1.l a
        have f5 := fun a b c => es_okns r1.l a b c
        simp only [RD.pv] at *
        simp [cx12, h40, h42', q1, g6, g8, e4, e5, f4, f5]
      · simp only at g6 g7 gm go
        subst gm
        have hpf : ¬ partsOK r b L = true := by rw [hp]; simp
        simp only [if_neg hpf]
        simp only [RD.pv] at *
        simp [cx12, h40, h42', q1, g6, g7, go, e4, e5]
    · simp only [if_neg hsz]
      have hsz' : ((b.length : Int) != sizeA L) = true := by simpa using hsz
      simp only [RD.pv] at *
      simp [cx12, h40, h42', hsz', e4, e5]
  · simp only [if_neg hz]
    have hz' : (checkA r L != 0) = true := by simpa using hz
    simp only [RD.pv] at *
    simp [cx12, h40, hz', e4, e5]
end
end Go.Proofs.Ytmffcpiffkclgaa.ZJM.DC
