/- Mappings: which fit, how long they are. -/
import Derived.Test.YtmffcpiffkclgaaZEA5
import Derived.Test.YtmffcpiffkclgaaZEA6
import Derived.Test.YtmffcpiffkclgaaZEP5
set_option linter.unusedSimpArgs false
set_option linter.unusedVariables false
set_option maxRecDepth 4000
namespace Go.Proofs.Ytmffcpiffkclgaa.ZJM.DC
open Go.Proofs.Ytmffcpiffkclgaa.ZJM Go.RowKit

structure Slot where
  (i s n : Int)
def Slot.enc (x : Slot) : PV := slt x.i x.s x.n
abbrev Ss (l : List Slot) : List PV := encs Slot.enc l
theorem ss_data (l : List Slot) : PV.datas (Ss l) = true := encs_data fun x _ => rfl
theorem ss_okns (l : List Slot) (a b c) : PV.okns a b c (Ss l) = true := PV.datas_okns _ _ _ _ (ss_data l)
theorem ss_deps (l : List Slot) (a) : PV.deps a (Ss l) = true := PV.datas_deps _ _ (ss_data l)
theorem ss_names (l : List Slot) (a) : PV.namess a (Ss l) = [] := PV.datas_namess _ _ (ss_data l)
theorem ss_rens (l : List Slot) (a b ρ) : PV.rens a b ρ (Ss l) = Ss l := PV.datas_rens _ _ _ _ (ss_data l)
theorem ss_get (l : List Slot) (i : Nat) (h : i < l.length) : (Ss l)[i]? = some l[i].enc ∧ ∀ h', (Ss l)[i]'h' = l[i].enc := ⟨by rw [List.getElem?_eq_getElem (by rw [encs_len]; exact h), encs_getE], fun h' => encs_getE l i h'⟩
attribute [simp] ss_okns ss_deps ss_names ss_rens
abbrev Sl (nl : Bool) (l : List Slot) : PV := .lst none nl 3 (Ss l)
def safeA (i : Int) : Bool := decide (4865 ≤ i) && decide (i ≤ 4928) || decide (4993 ≤ i) && decide (i ≤ 5056) || (i == 5119)
theorem app124 (i f : Int) (hf : 0 ≤ f ∧ f < 1000000) : app E false (.fn 81 []) [.int .i64 i, .int .i64 f] [] = some (.bool (decide (f ≤ i) && decide (i ≤ f + 63)), emptyBag, []) := by
  rw [app_fn E rfl h124 rfl]
  have w : IntKind.i64.wrap (f + 63) = f + 63 := wrap_id _ (by omega) (by omega)
  by_cases a : f ≤ i <;> simp [c124, a, w]
theorem app117 (i s : Int) : app E false (.fn 21 []) [ky i s] [] = some (.bool (safeA i), emptyBag, []) := by
  rw [app_fn E rfl h117 rfl]
  have h1 := app124 i 4865 (by decide)
  have h2 := app124 i 4993 (by decide)
  cases a : (decide (4865 ≤ i) && decide (i ≤ 4928)) <;> cases b : (decide (4993 ≤ i) && decide (i ≤ 5056)) <;> simp [c117, h1, h2, safeA, a, b]
theorem app118 (i s : Int) : app E false (.fn 22 []) [ky i s] [] = some (.bool (safeA i), emptyBag, []) := by
  rw [app_fn E rfl h118 rfl]
  by_cases a1 : 4865 ≤ i <;> by_cases a2 : i ≤ 4928 <;> by_cases b1 : 4993 ≤ i <;> by_cases b2 : i ≤ 5056 <;> simp [c118, safeA, a1, a2, b1, b2]
/-- May this entry be mapped? -/
def mapA (a i : Int) : Bool := !(a == 4 || safeA i || i == 5118)
def bitsA (o : Option Row) (i : Int) : Int := match o with
  | none => 0
  | some x => if mapA x.a i = true then 8 * ksz x.k else 0
def oneA (r : RD) (x : Slot) : Bool := match findIx r.l x.i x.s with
  | none => false
  | some j => match r.l[j]? with
    | none => false
    | some y => mapA y.a x.i && decide (0 < ksz y.k) && (x.n == 8 * ksz y.k)
theorem ksz8 (k : Int) : IntKind.i64.wrap (8 * ksz k) = 8 * ksz k := by have := ksz_le k; exact wrap_id _ (by omega) (by omega)
section
variable {m : Mem} {lv a a' ver : Nat} {l : List Row} {c : Int} (hd : DA m lv a a' ver l c) (hk : Dok l)
include hd hk in
theorem app86 (i s : Int) : app E false (.fn 137 []) [.ptr lv a [] 0, ky i s] m = some (.int .i64 (bitsA (getW l (knum i s)) i), emptyBag, m) := by
  have h := fun own : Lvl => app95 (.inr ⟨_, _, rfl⟩) (finds (hd.cons own) hk i s)
  have h117 := app117 i s
  rw [app_fn E rfl h86 rfl]
  cases hg : getW l (knum i s) with
  | none =>
    rw [hg] at h
    simp only [specP] at h
    simp [c86, h, bitsA]
  | some x =>
    rw [hg] at h
    simp only [specP] at h
    have w := ksz8 x.k
    by_cases a4 : x.a = 4
    · have hm : mapA x.a i = false := by simp [mapA, a4]
      have a4' : (x.a == 4) = true := by simpa using a4
      simp [c86, h, bitsA, a4', hm]
    · have a4' : (x.a == 4) = false := by simpa using a4
      cases hs : safeA i with
      | true =>
        have hm : mapA x.a i = false := by simp [mapA, hs]
        simp [c86, h, h117, bitsA, a4', hs, hm]
      | false =>
        cases hq : (i == 5118) with
        | true =>
          have hm : mapA x.a i = false := by simp [mapA, hq]
          simp [c86, h, h117, bitsA, a4', hs, hq, hm]
        | false =>
          have hm : mapA x.a i = true := by simp [mapA, hq, hs, a4']
          simp [c86, h, h117, bitsA, a4', hs, hq, hm, app100, w]
end
theorem app87 (r : RD) (hr : r.ok) (x : Slot) : app E false (.fn 131 []) [r.pv, x.enc] [] = some (.bool (oneA r x), emptyBag, []) := by
  have hat := app33 r.nl r.l r.c x.i x.s hr.1
  have h118 := app118 x.i x.s
  rw [app_fn E rfl h87 rfl]
  simp only [RD.pv] at *
  cases hf : findIx r.l x.i x.s with
  | none =>
    rw [atA_none hf] at hat
    simp [c87, Slot.enc, hat, oneA, hf]
  | some j =>
    rw [atA_some hf] at hat
    obtain ⟨hn, _⟩ := findIx_some hf
    have hn' : (j : Int) < r.l.length := by omega
    have hn2 : ¬ (j : Int) < 0 := by omega
    have h74 := app74 r.l[j].k
    have w := ksz8 r.l[j].k
    have ho : oneA r x = (mapA r.l[j].a x.i && decide (0 < ksz r.l[j].k) && (x.n == 8 * ksz r.l[j].k)) := by simp [oneA, hf, hn]
    rw [ho]
    cases a4 : (r.l[j].a == 4) with
    | true => simp [c87, Slot.enc, hat, hn, hn', hn2, es_getE, Ent.enc, Ent.cs, mapA, a4]
    | false =>
      cases hs : safeA x.i with
      | true => simp [c87, Slot.enc, hat, hn, hn', hn2, es_getE, Ent.enc, Ent.cs, mapA, a4, h118, hs]
      | false =>
        cases hq : (x.i == 5118) with
        | true => simp [c87, Slot.enc, hat, hn, hn', hn2, es_getE, Ent.enc, Ent.cs, mapA, a4, h118, hs, hq]
        | false =>
          by_cases hz : 0 < ksz r.l[j].k
          · simp [c87, Slot.enc, hat, hn, hn', hn2, es_getE, Ent.enc, Ent.cs, mapA, a4, h118, hs, hq, h74, hz, w]
          · simp [c87, Slot.enc, hat, hn, hn', hn2, es_getE, Ent.enc, Ent.cs, mapA, a4, h118, hs, hq, h74, hz]
/-- What is wrong with a mapping. -/
def chk (r : RD) : Int → List Slot → Int
  | _, [] => 0
  | acc, x :: L => if oneA r x = true then (if 64 < acc + x.n then 100925506 else chk r (acc + x.n) L) else 100925505
def checkA (r : RD) (L : List Slot) : Int := if 8 < L.length then 100925506 else chk r 0 L
theorem one_n {r : RD} {x : Slot} (h : oneA r x = true) : 8 ≤ x.n ∧ x.n ≤ 32 := by
  unfold oneA at h
  split at h
  · cases h
  · split at h
    · cases h
    · rename_i y _
      simp only [Bool.and_eq_true, decide_eq_true_eq, beq_iff_eq] at h
      have := ksz_le y.k
      omega
section
variable (r : RD) (hr : r.ok) (nl : Bool) (L : List Slot)
def S40 (t : Nat) (acc : Int) : St := ⟨[(1, Sl nl L), (2, .ptr 0 2 [] 0), (5, .int .i64 acc), (6, .int .i64 t)], [], [(2, [El r.nl r.l, .int .i64 r.c])], [], []⟩
include hr in
theorem loop40 (hL : L.length ≤ 8) {st : St} (h0 : maskSt [1, 2, 5, 6] [2] [] [] st = some (S40 r nl L 0 0)) :
    ∃ e st', loopW (maskSt [1, 2, 5, 6] [2] [] []) (Cd.run (app E) c40.body.inner.body) st = some (e, st') ∧ e ≠ .normal ∧
      ((e = .exit 0 ∧ chk r 0 L = 0 ∧ st'.m = []) ∨ (e = .ret ∧ get st'.f 4 = some (.int .i64 (chk r 0 L)) ∧ st'.m = [])) := by
  refine loop_inv (fun t S => ∃ acc, 0 ≤ acc ∧ acc ≤ 64 ∧ chk r 0 L = chk r acc (L.drop t) ∧ S = S40 r nl L t acc) L.length _ h0 ⟨0, by omega, by omega, rfl, rfl⟩ ?_ ?_
  · rintro t S ht ⟨acc, ha0, ha1, hc, rfl⟩
    have hti : (t : Int) < L.length := by omega
    have hw := wrap_succ t (by omega)
    have hd : L.drop t = L[t] :: L.drop (t + 1) := List.drop_eq_getElem_cons ht
    rw [hd, chk] at hc
    have h87 := app87 r hr L[t]
    obtain ⟨g1, g2⟩ := ss_get L t ht
    simp only [Slot.enc, RD.pv] at h87 g1 g2
    by_cases ho : oneA r L[t] = true
    · rw [if_pos ho] at hc
      rw [ho] at h87
      have hn := one_n ho
      have hwa : IntKind.i64.wrap (acc + L[t].n) = acc + L[t].n := wrap_id _ (by omega) (by omega)
      by_cases hb : 64 < acc + L[t].n
      · rw [if_pos hb] at hc
        rw [hc]
        refine .inr ?_
        simp [c40, Cd.inner, Cd.body, S40, hti, ht, g1, g2, h87, hwa, hb, EndsL]
      · rw [if_neg hb] at hc
        refine .inl ?_
        have hG : Goes (maskSt [1, 2, 5, 6] [2] [] []) (S40 r nl L (t + 1) (acc + L[t].n)) (Cd.run (app E) c40.body.inner.body (S40 r nl L t acc)) := by
          simp [c40, Cd.inner, Cd.body, S40, hti, ht, g1, g2, h87, hwa, hb, hw]
        obtain ⟨st2, q1, q2⟩ := hG.get
        exact ⟨st2, _, q1, q2, acc + L[t].n, by omega, by omega, hc, rfl⟩
    · rw [if_neg ho] at hc
      have ho' : oneA r L[t] = false := by simpa using ho
      rw [ho'] at h87
      rw [hc]
      refine .inr ?_
      simp [c40, Cd.inner, Cd.body, S40, hti, ht, g1, g2, h87, EndsL]
  · rintro S ⟨acc, ha0, ha1, hc, rfl⟩
    rw [List.drop_length, chk] at hc
    rw [hc]
    simp [c40, Cd.inner, Cd.body, S40, EndsL]
include hr in
theorem app40 : app E false (.fn 64 []) [r.pv, Sl nl L] [] = some (.int .i64 (checkA r L), emptyBag, []) := by
  rw [app_fn E rfl h40 rfl]
  by_cases h8 : 8 < L.length
  · have h8' : (8 : Int) < L.length := by omega
    simp [c40, checkA, h8, h8']
  · have h8' : ¬ (8 : Int) < L.length := by omega
    obtain ⟨e, ⟨f', tops', own', dead', m'⟩, q1, q2, q3⟩ := @loop40 r hr nl L (by omega) ⟨[(6, .int .i64 0), (5, .int .i64 0), (9, .bool false), (8, .int .i64 L.length), (7, Sl nl L), (4, .int .i64 0), (2, .ptr 0 2 [] 0), (0, r.pv), (1, Sl nl L)], [], [(2, [El r.nl r.l, .int .i64 r.c])], [], []⟩ (by simp [S40])
    simp only [c40, Cd.inner, Cd.body] at q1
    simp only [RD.pv] at q1 ⊢
    rw [checkA, if_neg h8]
    rcases q3 with ⟨rfl, hz, hm⟩ | ⟨rfl, hg, hm⟩
    · simp only at hm
      subst hm
      rw [hz]
      simp [c40, h8', q1]
    · simp only at hm hg
      subst hm
      generalize chk r 0 L = w at *
      simp [c40, h8', q1, hg]
end
end Go.Proofs.Ytmffcpiffkclgaa.ZJM.DC

set_option linter.unusedSimpArgs false
set_option linter.unusedVariables false
set_option maxRecDepth 4000
namespace Go.Proofs.Ytmffcpiffkclgaa.ZJM.DC
open Go.Proofs.Ytmffcpiffkclgaa.ZJM Go.RowKit

theorem Sim.one {l : List Row} {c : Int} {r : RD} (h : Sim l c r) (x : Slot) : oneA r x = (!(bitsA (getW l (knum x.i x.s)) x.i == 0) && (x.n == bitsA (getW l (knum x.i x.s)) x.i)) := by
  rcases h.at x.i x.s with ⟨h1, h2⟩ | ⟨y, j, hj, h1, h2, hre, e1, e2, hok⟩
  · rw [h1]; simp [oneA, h2, bitsA]
  · rw [h1]
    obtain ⟨r0, r1, r2, r3, r4, r5⟩ := hre
    have hz := ksz_le y.k
    simp only [oneA, h2, List.getElem?_eq_getElem hj, bitsA, ← r1, ← r2]
    by_cases hm : mapA y.a x.i = true
    · rw [if_pos hm, hm]
      by_cases hk : 0 < ksz y.k
      · have : ¬ 8 * ksz y.k = 0 := by omega
        have : ((8 * ksz y.k) == 0) = false := by simpa using this
        simp [hk, this]
      · have : 8 * ksz y.k = 0 := by omega
        have : ((8 * ksz y.k) == 0) = true := by simpa using this
        simp [hk, this]
    · rw [if_neg hm]; simp [hm]
section
variable {m : Mem} {lv a a' ver : Nat} {l : List Row} {c : Int} (hd : DA m lv a a' ver l c) {r : RD} (hs : Sim l c r) (nl : Bool) (L : List Slot)
def S39 (m : Mem) (lv a : Nat) (nl : Bool) (L : List Slot) (t : Nat) (acc : Int) : St := ⟨[(0, .ptr lv a [] 0), (5, .int .i64 (64 - acc)), (12, Sl nl L), (13, .int .i64 L.length), (14, .int .i64 t)], [], [], [], m⟩
include hd hs in
theorem loop39 (hL : L.length ≤ 8) {st : St} (h0 : maskSt [0, 5, 12, 13, 14] [] [] [] st = some (S39 m lv a nl L 0 0)) :
    ∃ e st', loopW (maskSt [0, 5, 12, 13, 14] [] [] []) (Cd.run (app E) c39.body.inner.body) st = some (e, st') ∧ e ≠ .normal ∧
      ((e = .exit 0 ∧ chk r 0 L = 0 ∧ st'.m = m) ∨ (e = .ret ∧ get st'.f 4 = some (.int .i64 (chk r 0 L)) ∧ st'.m = m)) := by
  have hlt := hd.lv_lt
  have hlv : lv ≠ m.length := by omega
  refine loop_inv (fun t S => ∃ acc, 0 ≤ acc ∧ acc ≤ 64 ∧ chk r 0 L = chk r acc (L.drop t) ∧ S = S39 m lv a nl L t acc) L.length _ h0 ⟨0, by omega, by omega, rfl, rfl⟩ ?_ ?_
  · rintro t S ht ⟨acc, ha0, ha1, hc, rfl⟩
    have hti : (t : Int) < L.length := by omega
    have hw := wrap_succ t (by omega)
    have hdd : L.drop t = L[t] :: L.drop (t + 1) := List.drop_eq_getElem_cons ht
    rw [hdd, chk] at hc
    have h86 := app86 (hd.cons [(7, [.int .i64 L[t].i, .int .i64 L[t].s, .int .i64 L[t].n])]) hs.dok L[t].i L[t].s
    have hone := hs.one L[t]
    obtain ⟨g1, g2⟩ := ss_get L t ht
    simp only [Slot.enc] at g1 g2
    by_cases ho : oneA r L[t] = true
    · rw [if_pos ho] at hc
      have hn := one_n ho
      rw [ho] at hone
      have hone' := hone.symm
      simp only [Bool.and_eq_true, Bool.not_eq_true', beq_iff_eq] at hone'
      obtain ⟨hz, he⟩ := hone'
      rw [← he] at h86 hz
      have hne : (L[t].n != L[t].n) = false := by simp
      have hwa : IntKind.i64.wrap (64 - acc - L[t].n) = 64 - (acc + L[t].n) := by rw [wrap_id _ (by omega) (by omega)]; omega
      by_cases hb : 64 < acc + L[t].n
      · rw [if_pos hb] at hc
        have hb' : 64 - acc < L[t].n := by omega
        rw [hc]
        refine .inr ?_
        simp [c39, Cd.inner, Cd.body, S39, hti, ht, g1, g2, h86, hz, hb', EndsL]
      · rw [if_neg hb] at hc
        have hb' : ¬ 64 - acc < L[t].n := by omega
        refine .inl ?_
        have hG : Goes (maskSt [0, 5, 12, 13, 14] [] [] []) (S39 m lv a nl L (t + 1) (acc + L[t].n)) (Cd.run (app E) c39.body.inner.body (S39 m lv a nl L t acc)) := by
          simp [c39, Cd.inner, Cd.body, S39, hti, ht, g1, g2, h86, hz, hb', hwa, hw, hlv]
        obtain ⟨st2, q1, q2⟩ := hG.get
        exact ⟨st2, _, q1, q2, acc + L[t].n, by omega, by omega, hc, rfl⟩
    · rw [if_neg ho] at hc
      have ho' : oneA r L[t] = false := by simpa using ho
      rw [ho'] at hone
      rw [hc]
      refine .inr ?_
      generalize bitsA (getW l (knum L[t].i L[t].s)) L[t].i = bn at *
      cases hz : (bn == 0) with
      | true => simp [c39, Cd.inner, Cd.body, S39, hti, ht, g1, g2, h86, hz, EndsL]
      | false =>
        rw [hz] at hone
        have hne : (L[t].n != bn) = true := by
          simp at hone
          simpa using hone
        simp [c39, Cd.inner, Cd.body, S39, hti, ht, g1, g2, h86, hz, hne, EndsL]
  · rintro S ⟨acc, ha0, ha1, hc, rfl⟩
    rw [List.drop_length, chk] at hc
    rw [hc]
    simp [c39, Cd.inner, Cd.body, S39, EndsL]
include hd hs in
theorem app39 : app E false (.fn 71 []) [.ptr lv a [] 0, Sl nl L] m = some (.int .i64 (checkA r L), emptyBag, m) := by
  have hlt := hd.lv_lt
  have hlv : lv ≠ m.length := by omega
  rw [app_fn E rfl h39 rfl]
  by_cases h8 : 8 < L.length
  · have h8' : (8 : Int) < L.length := by omega
    simp [c39, checkA, h8, h8']
  · have h8' : ¬ (8 : Int) < L.length := by omega
    obtain ⟨e, ⟨f', tops', own', dead', m'⟩, q1, q2, q3⟩ := loop39 hd hs nl L (by omega) (st := ⟨[(14, .int .i64 0), (13, .int .i64 L.length), (12, Sl nl L), (5, .int .i64 64), (11, .bool false), (10, .int .i64 L.length), (9, Sl nl L), (4, .int .i64 0), (0, .ptr lv a [] 0), (1, Sl nl L)], [], [], [], m⟩) (by simp [S39, hlv])
    simp only [c39, Cd.inner, Cd.body] at q1
    rw [checkA, if_neg h8]
    rcases q3 with ⟨rfl, hz, hm⟩ | ⟨rfl, hg, hm⟩
    · simp only at hm
      subst hm
      rw [hz]
      simp [c39, h8', q1]
    · simp only at hm hg
      subst hm
      generalize chk r 0 L = w at *
      simp [c39, h8', q1, hg]
end
/-! ### sizes -/
def szA : Int → List Slot → Int
  | acc, [] => acc
  | acc, x :: L => if x.n = 8 ∨ x.n = 16 ∨ x.n = 32 then szA (acc + x.n / 8) L else 0
def sizeA (L : List Slot) : Int := if 8 < L.length then 0 else szA 0 L
theorem bits3 (n : Int) : (n = 8 ∨ n = 16 ∨ n = 32) ∨ ((n == 8) = false ∧ (n == 16) = false ∧ (n == 32) = false ∧ (n != 8) = true ∧ (n != 16) = true ∧ (n != 32) = true ∧ ¬ (n = 8 ∨ n = 16 ∨ n = 32)) := by
  by_cases a : n = 8; · exact .inl (.inl a)
  by_cases b : n = 16; · exact .inl (.inr (.inl b))
  by_cases c : n = 32; · exact .inl (.inr (.inr c))
  refine .inr ⟨by simpa using a, by simpa using b, by simpa using c, by simpa using a, by simpa using b, by simpa using c, by omega⟩
section
variable (nl : Bool) (L : List Slot)
def S41 (t : Nat) (acc : Int) : St := ⟨[(3, .int .i64 acc), (9, Sl nl L), (10, .int .i64 L.length), (11, .int .i64 t)], [], [], [], []⟩
theorem loop41 (hL : L.length ≤ 8) {st : St} (h0 : maskSt [3, 9, 10, 11] [] [] [] st = some (S41 nl L 0 0)) :
    ∃ e st', loopW (maskSt [3, 9, 10, 11] [] [] []) (Cd.run (app E) c41.body.inner.body) st = some (e, st') ∧ e ≠ .normal ∧
      ((e = .exit 0 ∧ get st'.f 3 = some (.int .i64 (szA 0 L)) ∧ st'.m = []) ∨ (e = .ret ∧ szA 0 L = 0 ∧ get st'.f 2 = some (.int .i64 0) ∧ st'.m = [])) := by
  refine loop_inv (fun t S => ∃ acc : Int, 0 ≤ acc ∧ acc ≤ 4 * (t : Int) ∧ szA 0 L = szA acc (L.drop t) ∧ S = S41 nl L t acc) L.length _ h0 ⟨0, by omega, by omega, rfl, rfl⟩ ?_ ?_
  · rintro t S ht ⟨acc, ha0, ha1, hc, rfl⟩
    have hti : (t : Int) < L.length := by omega
    have hw := wrap_succ t (by omega)
    have hdd : L.drop t = L[t] :: L.drop (t + 1) := List.drop_eq_getElem_cons ht
    rw [hdd, szA] at hc
    obtain ⟨g1, g2⟩ := ss_get L t ht
    simp only [Slot.enc] at g1 g2
    generalize hn : L[t].n = n at *
    rcases bits3 n with h3 | ⟨b1, b2, b3, _, _, _, hno⟩
    · rw [if_pos h3] at hc
      refine .inl ?_
      have hG : Goes (maskSt [3, 9, 10, 11] [] [] []) (S41 nl L (t + 1) (acc + n / 8)) (Cd.run (app E) c41.body.inner.body (S41 nl L t acc)) := by
        have hwa : IntKind.i64.wrap (acc + n / 8) = acc + n / 8 := wrap_id _ (by omega) (by omega)
        rcases h3 with rfl | rfl | rfl <;> simp [c41, Cd.inner, Cd.body, S41, hti, ht, g1, g2, hw, wrap_id] <;> simpa using hwa
      obtain ⟨st2, q1, q2⟩ := hG.get
      exact ⟨st2, _, q1, q2, acc + n / 8, by omega, by omega, hc, rfl⟩
    · rw [if_neg hno] at hc
      refine .inr ?_
      rw [hc]
      simp [c41, Cd.inner, Cd.body, S41, hti, ht, g1, g2, b1, b2, b3, EndsL]
  · rintro S ⟨acc, ha0, ha1, hc, rfl⟩
    rw [List.drop_length, szA] at hc
    rw [hc]
    simp [c41, Cd.inner, Cd.body, S41, EndsL]
theorem app41 : app E false (.fn 72 []) [Sl nl L] [] = some (.int .i64 (sizeA L), emptyBag, []) := by
  rw [app_fn E rfl h41 rfl]
  by_cases h8 : 8 < L.length
  · have h8' : (8 : Int) < L.length := by omega
    simp [c41, sizeA, h8, h8']
  · have h8' : ¬ (8 : Int) < L.length := by omega
    obtain ⟨e, ⟨f', tops', own', dead', m'⟩, q1, q2, q3⟩ := @loop41 nl L (by omega) ⟨[(11, .int .i64 0), (10, .int .i64 L.length), (9, Sl nl L), (3, .int .i64 0), (8, .bool false), (7, .int .i64 L.length), (6, Sl nl L), (2, .int .i64 0), (0, Sl nl L)], [], [], [], []⟩ (by simp [S41])
    simp only [c41, Cd.inner, Cd.body] at q1
    rw [sizeA, if_neg h8]
    rcases q3 with ⟨rfl, hg, hm⟩ | ⟨rfl, hz, hg, hm⟩
    · simp only at hm hg
      subst hm
      simp [c41, h8', q1, hg]
    · simp only at hm hg
      subst hm
      rw [hz]
      simp [c41, h8', q1, hg]
def S42 (t : Nat) (acc : Int) : St := ⟨[(0, Sl nl L), (3, .int .i64 acc), (4, .int .i64 t)], [], [], [], []⟩
theorem loop42 (hL : L.length ≤ 8) {st : St} (h0 : maskSt [0, 3, 4] [] [] [] st = some (S42 nl L 0 0)) :
    ∃ e st', loopW (maskSt [0, 3, 4] [] [] []) (Cd.run (app E) c42.body.inner.body) st = some (e, st') ∧ e ≠ .normal ∧
      ((e = .exit 0 ∧ get st'.f 3 = some (.int .i64 (szA 0 L)) ∧ st'.m = []) ∨ (e = .ret ∧ szA 0 L = 0 ∧ get st'.f 2 = some (.int .i64 0) ∧ st'.m = [])) := by
  have h8' : ¬ (8 : Int) < L.length := by omega
  refine loop_inv (fun t S => ∃ acc : Int, 0 ≤ acc ∧ acc ≤ 4 * (t : Int) ∧ szA 0 L = szA acc (L.drop t) ∧ S = S42 nl L t acc) L.length _ h0 ⟨0, by omega, by omega, rfl, rfl⟩ ?_ ?_
  · rintro t S ht ⟨acc, ha0, ha1, hc, rfl⟩
    have hti : (t : Int) < L.length := by omega
    have hw := wrap_succ t (by omega)
    have hdd : L.drop t = L[t] :: L.drop (t + 1) := List.drop_eq_getElem_cons ht
    rw [hdd, szA] at hc
    obtain ⟨g1, g2⟩ := ss_get L t ht
    simp only [Slot.enc] at g1 g2
    generalize hn : L[t].n = n at *
    rcases bits3 n with h3 | ⟨_, _, _, b1, b2, b3, hno⟩
    · rw [if_pos h3] at hc
      refine .inl ?_
      have hG : Goes (maskSt [0, 3, 4] [] [] []) (S42 nl L (t + 1) (acc + n / 8)) (Cd.run (app E) c42.body.inner.body (S42 nl L t acc)) := by
        have hwa : IntKind.i64.wrap (acc + n / 8) = acc + n / 8 := wrap_id _ (by omega) (by omega)
        rcases h3 with rfl | rfl | rfl <;> simp [c42, Cd.inner, Cd.body, S42, hti, ht, g1, g2, hw, h8', wrap_id] <;> simpa using hwa
      obtain ⟨st2, q1, q2⟩ := hG.get
      exact ⟨st2, _, q1, q2, acc + n / 8, by omega, by omega, hc, rfl⟩
    · rw [if_neg hno] at hc
      refine .inr ?_
      rw [hc]
      simp [c42, Cd.inner, Cd.body, S42, hti, ht, g1, g2, b1, b2, b3, h8', EndsL]
  · rintro S ⟨acc, ha0, ha1, hc, rfl⟩
    rw [List.drop_length, szA] at hc
    rw [hc]
    simp [c42, Cd.inner, Cd.body, S42, EndsL]
theorem app42 : app E false (.fn 65 []) [Sl nl L] [] = some (.int .i64 (sizeA L), emptyBag, []) := by
  rw [app_fn E rfl h42 rfl]
  by_cases h8 : 8 < L.length
  · have h8' : (8 : Int) < L.length := by omega
    have hti : ((0 : Nat) : Int) < L.length := by omega
    have h0 : 0 < L.length := by omega
    have hlp : loopW (maskSt [0, 3, 4] [] [] []) (Cd.run (app E) c42.body.inner.body) ⟨[(4, .int .i64 0), (3, .int .i64 0), (2, .int .i64 0), (0, Sl nl L)], [], [], [], []⟩ = c42.body.inner.body.run (app E) (S42 nl L 0 0) := by
      refine loop_eq (fun _ => S42 nl L 0 0) 0 (fun i hi => by omega) ?_ (by simp [S42])
      simp [c42, Cd.inner, Cd.body, S42, h8', h0]
    simp only [c42, Cd.inner, Cd.body, S42] at hlp
    simp [c42, hlp, sizeA, h8, h8', h0]
  · have h8' : ¬ (8 : Int) < L.length := by omega
    obtain ⟨e, ⟨f', tops', own', dead', m'⟩, q1, q2, q3⟩ := @loop42 nl L (by omega) ⟨[(4, .int .i64 0), (3, .int .i64 0), (2, .int .i64 0), (0, Sl nl L)], [], [], [], []⟩ (by simp [S42])
    simp only [c42, Cd.inner, Cd.body] at q1
    rw [sizeA, if_neg h8]
    rcases q3 with ⟨rfl, hg, hm⟩ | ⟨rfl, hz, hg, hm⟩
    · simp only at hm hg
      subst hm
      simp [c42, q1, hg]
    · simp only at hm hg
      subst hm
      rw [hz]
      simp [c42, q1, hg]
end
end Go.Proofs.Ytmffcpiffkclgaa.ZJM.DC

set_option linter.unusedSimpArgs false
set_option linter.unusedVariables false
set_option maxRecDepth 10000
namespace Go.Proofs.Ytmffcpiffkclgaa.ZJM.DC
open Go.Proofs.Ytmffcpiffkclgaa.ZJM Go.RowKit

section
variable (m : Mem)
end
end Go.Proofs.Ytmffcpiffkclgaa.ZJM.DC
