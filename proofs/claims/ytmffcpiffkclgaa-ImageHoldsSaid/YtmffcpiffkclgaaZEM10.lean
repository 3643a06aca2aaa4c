/- Mappings: parts of some bytes. -/
import Derived.Test.YtmffcpiffkclgaaZEM4
set_option linter.unusedSimpArgs false
set_option linter.unusedVariables false
set_option maxRecDepth 4000
namespace Go.Proofs.Ytmffcpiffkclgaa.ZJM.DC
open Go.Proofs.Ytmffcpiffkclgaa.ZJM Go.RowKit

abbrev Ps (nb : Bool) (l : List (List Int)) : List PV := encs (Bl nb) l
theorem ps_data (nb : Bool) (l : List (List Int)) : PV.datas (Ps nb l) = true := encs_data fun x _ => by simp [PV.data, bs_data]
theorem ps_okns (nb : Bool) (l : List (List Int)) (a b c) : PV.okns a b c (Ps nb l) = true := PV.datas_okns _ _ _ _ (ps_data nb l)
theorem ps_deps (nb : Bool) (l : List (List Int)) (a) : PV.deps a (Ps nb l) = true := PV.datas_deps _ _ (ps_data nb l)
attribute [simp] ps_okns ps_deps
/-- Does a part fit its entry? -/
def fitB (r : RD) (x : Slot) (p : List Int) : Bool := match findIx r.l x.i x.s with
  | none => fitsA 0 0 0 0 p == 0
  | some j => match r.l[j]? with
    | none => false
    | some y => fitsA y.k y.a y.l y.h p == 0
def partsA : List Int → List Slot → List (List Int)
  | _, [] => []
  | b, x :: L => b.take (x.n / 8).toNat :: partsA (b.drop (x.n / 8).toNat) L
def partsOK (r : RD) : List Int → List Slot → Bool
  | _, [] => true
  | b, x :: L => fitB r x (b.take (x.n / 8).toNat) && partsOK r (b.drop (x.n / 8).toNat) L
theorem partsA_len (b : List Int) (L : List Slot) : (partsA b L).length = L.length := by
  induction L generalizing b with
  | nil => rfl
  | cons x L ih => simp [partsA, ih]
theorem partsA_ok {b : List Int} (hb : OkB b) (L : List Slot) : ∀ p ∈ partsA b L, OkB p := by
  induction L generalizing b with
  | nil => intro p hp; cases hp
  | cons x L ih =>
    intro p hp
    rcases List.mem_cons.1 hp with rfl | hp
    · exact okB_take hb _
    · exact ih (okB_drop hb _) p hp
theorem one_bits {r : RD} {x : Slot} (ho : oneA r x = true) : x.n = 8 ∨ x.n = 16 ∨ x.n = 32 := by
  unfold oneA at ho
  split at ho
  · cases ho
  · split at ho
    · cases ho
    · rename_i y _
      simp only [Bool.and_eq_true, decide_eq_true_eq, beq_iff_eq] at ho
      have h1 := ho.1.2
      have h2 := ho.2
      unfold ksz at h1 h2
      by_cases a1 : y.k = 1 ∨ y.k = 2 ∨ y.k = 5
      · rw [if_pos a1] at h2; omega
      · rw [if_neg a1] at h1 h2
        by_cases a2 : y.k = 3 ∨ y.k = 6
        · rw [if_pos a2] at h2; omega
        · rw [if_neg a2] at h1 h2
          by_cases a3 : y.k = 4 ∨ y.k = 7
          · rw [if_pos a3] at h2; omega
          · rw [if_neg a3] at h1; omega
theorem chk_one {r : RD} {acc : Int} {x : Slot} {L : List Slot} (h : chk r acc (x :: L) = 0) : oneA r x = true ∧ chk r (acc + x.n) L = 0 := by
  rw [chk] at h
  by_cases ho : oneA r x = true
  · rw [if_pos ho] at h
    by_cases hb : 64 < acc + x.n
    · rw [if_pos hb] at h; simp at h
    · rw [if_neg hb] at h; exact ⟨ho, h⟩
  · rw [if_neg ho] at h; simp at h
section
variable {m : Mem} {lv a a' ver : Nat} {l : List Row} {c : Int} (hd : DA m lv a a' ver l c) {r : RD} (hs : Sim l c r) (nb : Bool) (nl : Bool) (L : List Slot)
theorem fit_spec {l : List Row} {c : Int} {r : RD} (hs : Sim l c r) (x : Slot) (p : List Int) (hp : OkB p) (ho : oneA r x = true) : ∃ k a l2 h, specP (getW l (knum x.i x.s)) = sp k a l2 h ∧ (getW l (knum x.i x.s)).isSome = true ∧ (fitsA k a l2 h p == 0) = fitB r x p := by
  rcases hs.at x.i x.s with ⟨h1, h2⟩ | ⟨y, j, hj, h1, h2, hre, e1, e2, hok⟩
  · simp [oneA, h2] at ho
  · rw [h1]
    refine ⟨y.k, y.a, y.l, y.h, rfl, rfl, ?_⟩
    obtain ⟨r0, r1, r2, r3, r4, r5⟩ := hre
    simp only [fitB, h2, List.getElem?_eq_getElem hj, r1, r2, r3, r4]
def S96 (m : Mem) (lv a : Nat) (nb nl : Bool) (L : List Slot) (t : Nat) (rest : List Int) (ps : List (List Int)) : St := ⟨[(0, .ptr lv a [] 0), (1, Bl nb rest), (8, .lst (some 8) (decide (t = 0)) 1 (Ps nb ps)), (14, Sl nl L), (15, .int .i64 L.length), (16, .int .i64 t)], [(8, t, 22)], [], [], m⟩
include hd hs in
theorem loop96 (hL : L.length ≤ 8) (b : List Int) (hb : OkB b) (hn : nb = true → b = []) (hc0 : chk r 0 L = 0) (hlen : b.length = (catA r L).length) {st : St} (h0 : maskSt [0, 1, 8, 14, 15, 16] [] [8] [] st = some (S96 m lv a nb nl L 0 b [])) :
    ∃ e st', loopW (maskSt [0, 1, 8, 14, 15, 16] [] [8] []) (Cd.run (app E) c96.body.inner.body) st = some (e, st') ∧ e ≠ .normal ∧
      ((e = .exit 0 ∧ partsOK r b L = true ∧ get st'.f 8 = some (.lst (some 8) (decide (L.length = 0)) 1 (Ps nb (partsA b L))) ∧ st'.m = m ∧ st'.own = []) ∨ (e = .ret ∧ partsOK r b L = false ∧ get st'.f 6 = some (.lst none true 1 []) ∧ get st'.f 7 = some (.bool false) ∧ st'.m = m)) := by
  have hlt := hd.lv_lt
  have hlv : lv ≠ m.length := by omega
  refine loop_inv (fun t S => t ≤ L.length ∧ ∃ acc rest ps, chk r acc (L.drop t) = 0 ∧ partsOK r b L = partsOK r rest (L.drop t) ∧ partsA b L = ps ++ partsA rest (L.drop t) ∧ ps.length = t ∧ OkB rest ∧ rest.length = (catA r (L.drop t)).length ∧ S = S96 m lv a nb nl L t rest ps) L.length _ h0 ⟨Nat.zero_le _, 0, b, [], hc0, rfl, rfl, rfl, hb, hlen, rfl⟩ ?_ ?_
  · rintro t S ht ⟨_, acc, rest, ps, hc, hp1, hp2, hpl, hok, hrl, rfl⟩
    have hti : (t : Int) < L.length := by omega
    have hw := wrap_succ t (by omega)
    have hdd : L.drop t = L[t] :: L.drop (t + 1) := List.drop_eq_getElem_cons ht
    rw [hdd] at hc hp1 hp2 hrl
    obtain ⟨ho, hc⟩ := chk_one hc
    obtain ⟨g1, g2⟩ := ss_get L t ht
    simp only [Slot.enc] at g1 g2
    have h3 := one_bits ho
    obtain ⟨k1, k2, _⟩ := hs.slot_ok L[t] ho
    have hca : catA r (L[t] :: L.drop (t + 1)) = slotB r L[t] ++ catA r (L.drop (t + 1)) := rfl
    rw [hca, List.length_append] at hrl
    rw [partsOK] at hp1
    rw [partsA] at hp2
    obtain ⟨q, hq⟩ : ∃ q : Nat, L[t].n / 8 = q := ⟨(L[t].n / 8).toNat, by omega⟩
    rw [hq] at hp1 hp2
    rw [Int.toNat_natCast] at hp1 hp2
    have hql : q ≤ rest.length := by omega
    have hqi : (q : Int) ≤ rest.length := by omega
    obtain ⟨sk, sa, sl, sh, e1, e2, e3⟩ := fit_spec hs L[t] (rest.take q) (okB_take hok q) ho
    have h95 := fun own : Lvl => app95 (.inr ⟨_, _, rfl⟩) (finds (hd.cons own) hs.dok L[t].i L[t].s)
    rw [e1, e2] at h95
    have h57' := app57 sk sa sl sh nb (rest.take q) (okB_take hok q)
    have htk : (Bs rest).take q = Bs (rest.take q) := bs_takeN rest q
    have hdk : (Bs rest).drop q = Bs (rest.drop q) := bs_drop rest q
    have htk0 := bs_take rest
    have hnb : nb = false := by
      cases hnb : nb with
      | false => rfl
      | true =>
        have := hn hnb
        subst this
        have h0 : (catA r L).length = 0 := hlen.symm
        have h1 : (catA r L).length = (catA r (L.take t)).length + (catA r (L.drop t)).length := by
          have : catA r L = catA r (L.take t) ++ catA r (L.drop t) := by
            simp only [catA]; rw [← List.flatMap_append, List.take_append_drop]
          rw [this, List.length_append]
        rw [hdd, hca, List.length_append] at h1
        omega
    subst hnb
    have hquo : IntKind.i64.wrap (L[t].n.tdiv 8) = q := by
      rcases h3 with h | h | h <;> rw [h] at hq ⊢ <;> simp [wrap_id] <;> omega
    have hmb : (t + 1) * 24 ≤ maxBytes := by unfold maxBytes; omega
    have hlap : Ps false (ps ++ [rest.take q]) = Ps false ps ++ [Bl false (rest.take q)] := by simp [encs]
    generalize hn : L[t].n = n at *
    by_cases hf : fitsA sk sa sl sh (rest.take q) = 0
    · rw [hf] at e3 h57'
      have e3' : fitB r L[t] (rest.take q) = true := by rw [← e3]; rfl
      rw [e3', Bool.true_and] at hp1
      refine .inl ?_
      have hG : Goes (maskSt [0, 1, 8, 14, 15, 16] [] [8] []) (S96 m lv a false nl L (t + 1) (rest.drop q) (ps ++ [rest.take q])) (Cd.run (app E) c96.body.inner.body (S96 m lv a false nl L t rest ps)) := by
        unfold S96
        rw [hlap]
        simp [c96, Cd.inner, Cd.body, hti, ht, g1, g2, hn, hquo, h95, h57', htk0, htk, hdk, hqi, hql, hlv, hpl, hw, hmb]
      obtain ⟨st2, q1, q2⟩ := hG.get
      exact ⟨st2, _, q1, q2, by omega, _, rest.drop q, ps ++ [rest.take q], hc, hp1, by rw [hp2]; simp, by simp [hpl], okB_drop hok q, by rw [List.length_drop]; omega, rfl⟩
    · have e3' : fitB r L[t] (rest.take q) = false := by rw [← e3]; simpa using hf
      rw [e3', Bool.false_and] at hp1
      have hf' : (fitsA sk sa sl sh (rest.take q) != 0) = true := by simpa using hf
      refine .inr ?_
      rw [hp1]
      simp [c96, Cd.inner, Cd.body, S96, hti, ht, g1, g2, hn, hquo, h95, h57', htk0, htk, hdk, hqi, hql, hlv, hf', EndsL]
  · rintro S ⟨_, acc, rest, ps, hc, hp1, hp2, hpl, hok, hrl, rfl⟩
    rw [List.drop_length] at hp1 hp2
    rw [hp1, hp2]
    simp [c96, Cd.inner, Cd.body, S96, EndsL, partsOK, partsA]
end
end Go.Proofs.Ytmffcpiffkclgaa.ZJM.DC

set_option linter.unusedSimpArgs false
set_option linter.unusedVariables false
set_option maxRecDepth 4000
namespace Go.Proofs.Ytmffcpiffkclgaa.ZJM.DC
open Go.Proofs.Ytmffcpiffkclgaa.ZJM Go.RowKit

theorem skel_find {r r' : RD} (h : skel r = skel r') (i s : Int) : findIx r.l i s = findIx r'.l i s := by
  have e : ∀ l : List Ent, findIx l i s = (l.map skE).findIdx? (fun k => decide (k.1 = i) && decide (k.2.1 = s)) := fun l => by
    rw [List.findIdx?_map]
    unfold findIx
    congr 1
  rw [e, e]
  exact congrArg _ h
theorem skel_get {r r' : RD} (h : skel r = skel r') (j : Nat) : (r.l[j]?).map skE = (r'.l[j]?).map skE := by
  rw [← List.getElem?_map, ← List.getElem?_map]
  exact congrArg (fun l : List (Int × Int × Int × Int × Int × Int) => l[j]?) h
theorem skel_one {r r' : RD} (h : skel r = skel r') (x : Slot) : oneA r x = oneA r' x := by
  unfold oneA
  rw [skel_find h]
  cases findIx r'.l x.i x.s with
  | none => rfl
  | some j =>
    have hj := skel_get h j
    cases h1 : r.l[j]? <;> cases h2 : r'.l[j]? <;> rw [h1, h2] at hj
    · simp only [h1, h2]
    · cases hj
    · cases hj
    · simp only [Option.map_some, Option.some.injEq, skE, Prod.mk.injEq] at hj
      obtain ⟨_, _, e1, e2, _⟩ := hj
      simp only [h1, h2, e1, e2]
theorem skel_fit {r r' : RD} (h : skel r = skel r') (x : Slot) (p : List Int) : fitB r x p = fitB r' x p := by
  unfold fitB
  rw [skel_find h]
  cases findIx r'.l x.i x.s with
  | none => rfl
  | some j =>
    have hj := skel_get h j
    cases h1 : r.l[j]? <;> cases h2 : r'.l[j]? <;> rw [h1, h2] at hj
    · simp only [h1, h2]
    · cases hj
    · cases hj
    · simp only [Option.map_some, Option.some.injEq, skE, Prod.mk.injEq] at hj
      obtain ⟨_, _, e1, e2, e3, e4⟩ := hj
      simp only [h1, h2, e1, e2, e3, e4]
theorem skel_chk {r r' : RD} (h : skel r = skel r') (L : List Slot) (acc : Int) : chk r acc L = chk r' acc L := by
  induction L generalizing acc with
  | nil => rfl
  | cons x L ih => simp only [chk, skel_one h, ih]
theorem skel_check {r r' : RD} (h : skel r = skel r') (L : List Slot) : checkA r L = checkA r' L := by
  simp only [checkA, skel_chk h]
theorem one_put {r : RD} {x : Slot} {p : List Int} (ho : oneA r x = true) (hf : fitB r x p = true) : putC r x.i x.s p = 0 := by
  unfold oneA at ho
  unfold fitB at hf
  unfold putC
  cases hq : findIx r.l x.i x.s with
  | none => rw [hq] at ho; cases ho
  | some j =>
    rw [hq] at ho hf
    simp only at ho hf ⊢
    cases h1 : r.l[j]? with
    | none => rfl
    | some y =>
      rw [h1] at ho hf
      simp only [Bool.and_eq_true, decide_eq_true_eq, beq_iff_eq] at ho hf ⊢
      have h4 : ¬ y.a = 4 := by
        intro h4
        have := ho.1.1
        simp [mapA, h4] at this
      rw [if_neg h4, if_pos hf]
def putsR (r : RD) (l : List (Slot × List Int)) : RD := l.foldl (fun r q => putR r q.1.i q.1.s q.2) r
theorem skel_puts (r : RD) (l : List (Slot × List Int)) : skel (putsR r l) = skel r := by
  induction l generalizing r with
  | nil => rfl
  | cons q l ih =>
    have := ih (putR r q.1.i q.1.s q.2)
    rw [skel_put] at this
    exact this
theorem puts_snoc (r : RD) (l : List (Slot × List Int)) (q : Slot × List Int) : putsR r (l ++ [q]) = putR (putsR r l) q.1.i q.1.s q.2 := by
  simp [putsR, List.foldl_append]
theorem parts_fit {r : RD} {b : List Int} {L : List Slot} (h : partsOK r b L = true) : ∀ t (h1 : t < L.length) (h2 : t < (partsA b L).length), fitB r L[t] (partsA b L)[t] = true := by
  induction L generalizing b with
  | nil => intro t h1; simp at h1
  | cons x L ih =>
    intro t h1 h2
    simp only [partsOK, Bool.and_eq_true] at h
    cases t with
    | zero => exact h.1
    | succ t => exact ih h.2 t (by simpa using h1) (by simpa [partsA] using h2)
theorem chk_all {r : RD} {L : List Slot} {acc : Int} (h : chk r acc L = 0) : ∀ t (h1 : t < L.length), oneA r L[t] = true := by
  induction L generalizing acc with
  | nil => intro t h1; simp at h1
  | cons x L ih =>
    intro t h1
    obtain ⟨ho, h2⟩ := chk_one h
    cases t with
    | zero => exact ho
    | succ t => exact ih h2 t (by simpa using h1)
section
variable {m : Mem} {lv a a' ver : Nat} {l : List Row} {c : Int} (hd : DA m lv a a' ver l c) {r : RD} (hs : Sim l c r) (nb : Bool) (nl : Bool) (L : List Slot)
include hd hs in
theorem app96 (hL : L.length ≤ 8) (b : List Int) (hb : OkB b) (hn : nb = true → b = []) (hc0 : chk r 0 L = 0) (hlen : b.length = (catA r L).length) :
    app E false (.fn 73 []) [.ptr lv a [] 0, Bl nb b, Sl nl L] m = some (.tup [if partsOK r b L = true then .lst none (decide (L.length = 0)) 1 (Ps nb (partsA b L)) else .lst none true 1 [], .bool (partsOK r b L)], emptyBag, m) := by
  have hlt := hd.lv_lt
  have hlv : lv ≠ m.length := by omega
  obtain ⟨e, ⟨f', tops', own', dead', m'⟩, q1, q2, q3⟩ := loop96 hd hs nb nl L hL b hb hn hc0 hlen (st := ⟨[(16, .int .i64 0), (15, .int .i64 L.length), (14, Sl nl L), (8, .lst (some 8) true 1 []), (7, .bool false), (6, .lst none true 1 []), (0, .ptr lv a [] 0), (1, Bl nb b), (2, Sl nl L)], [(8, 0, 22)], [], [], m⟩) (by simp [S96, hlv])
  rw [app_fn E rfl h96 rfl]
  simp only [c96, Cd.inner, Cd.body] at q1
  rcases q3 with ⟨rfl, hp, g8, gm, go⟩ | ⟨rfl, hp, g6, g7, gm⟩
  · simp only at g8 gm go
    subst gm; subst go
    rw [hp]
    simp [c96, q1, g8]
  · simp only at g6 g7 gm
    subst gm
    rw [hp]
    simp [c96, q1, g6, g7]
end
end Go.Proofs.Ytmffcpiffkclgaa.ZJM.DC

set_option linter.unusedSimpArgs false
set_option linter.unusedVariables false
set_option maxRecDepth 4000
namespace Go.Proofs.Ytmffcpiffkclgaa.ZJM.DC
open Go.Proofs.Ytmffcpiffkclgaa.ZJM Go.RowKit

def unpC (r : RD) (b : List Int) (L : List Slot) : Int := if checkA r L = 0 then (if (b.length : Int) = sizeA L then (if partsOK r b L = true then 0 else 4) else 11) else 14
def unpR (r : RD) (b : List Int) (L : List Slot) : RD := if unpC r b L = 0 then putsR r (L.zip (partsA b L)) else r
section
variable {m : Mem} {lv a a' ver : Nat} {l : List Row} {c : Int} (hd : DA m lv a a' ver l c) {r : RD} (hs : Sim l c r) (nb : Bool) (nl : Bool) (L : List Slot)
def S51 (m : Mem) (lv a : Nat) (nb nl : Bool) (L : List Slot) (P : List (List Int)) (t : Nat) : St := ⟨[(0, .ptr lv a [] 0), (7, .lst none (decide (L.length = 0)) 1 (Ps nb P)), (32, Sl nl L), (33, .int .i64 L.length), (34, .int .i64 t)], [], [], [], m⟩
include hd hs in
theorem loop51 (hL : L.length ≤ 8) (b : List Int) (hb : OkB b) (hnb : nb = true → L = []) (hc0 : chk r 0 L = 0) (hok : partsOK r b L = true) {st : St} (h0 : maskSt [0, 7, 32, 33, 34] [] [] [] st = some (S51 m lv a nb nl L (partsA b L) 0)) :
    ∃ e st', loopW (maskSt [0, 7, 32, 33, 34] [] [] []) (Cd.run (app E) c51.body.inner.body) st = some (e, st') ∧ e ≠ .normal ∧
      (e = .exit 1 ∧ Does m lv a a' ver l c (putsR r (L.zip (partsA b L))) st'.m) := by
  have hlt := hd.lv_lt
  have hPl := partsA_len b L
  refine loop_inv (fun t S => t ≤ L.length ∧ ∃ ver1 l1 c1, Sim l1 c1 (putsR r ((L.zip (partsA b L)).take t)) ∧ S = S51 (dset m lv a a' ver1 l1 c1) lv a nb nl L (partsA b L) t) L.length _ h0 ⟨Nat.zero_le _, ver, l, c, hs, by rw [dset_same hd]⟩ ?_ ?_
  · rintro t S ht ⟨_, ver1, l1, c1, hs1, rfl⟩
    have hti : (t : Int) < L.length := by omega
    have hw := wrap_succ t (by omega)
    have hln := dset_len hd ver1 l1 c1
    have hd1 := dset_da hd ver1 l1 c1
    have hlv : lv ≠ (dset m lv a a' ver1 l1 c1).length := by rw [hln]; omega
    obtain ⟨g1, g2⟩ := ss_get L t ht
    simp only [Slot.enc] at g1 g2
    have hzl : t < (L.zip (partsA b L)).length := by rw [List.length_zip]; omega
    have hPt : t < (partsA b L).length := by omega
    have hz : (L.zip (partsA b L))[t] = (L[t], (partsA b L)[t]) := by rw [List.getElem_zip]
    have htk := take_succ' (L.zip (partsA b L)) t hzl
    rw [hz] at htk
    have hnbf : nb = false := by
      cases hq : nb with
      | false => rfl
      | true => have := hnb hq; subst this; simp at ht
    subst hnbf
    have hpo := partsA_ok hb L _ (List.getElem_mem hPt)
    obtain ⟨m2, e1, e2⟩ := do_put (hd1.cons [(10, [.int .i64 L[t].i, .int .i64 L[t].s, .int .i64 L[t].n])]) hs1 L[t].i L[t].s false (partsA b L)[t] hpo (by simp)
    obtain ⟨m3, rfl, e3⟩ := e2.cons hd1
    obtain ⟨v2, l2, c2, rfl, hs2⟩ := e3
    rw [← puts_snoc r ((L.zip (partsA b L)).take t) (L[t], (partsA b L)[t]), ← htk] at hs2
    have hsk := skel_puts r ((L.zip (partsA b L)).take t)
    have hpc : putC (putsR r ((L.zip (partsA b L)).take t)) L[t].i L[t].s (partsA b L)[t] = 0 := by
      refine one_put ?_ ?_
      · rw [skel_one hsk]; exact chk_all hc0 t ht
      · rw [skel_fit hsk]; exact parts_fit hok t ht hPt
    rw [hpc] at e1
    rw [dset_dset hd] at e1
    have hgP : (Ps false (partsA b L))[t]? = some (Bl false (partsA b L)[t]) := by rw [List.getElem?_eq_getElem (by rw [encs_len]; exact hPt), encs_getE]
    have hgP2 : ∀ h, (Ps false (partsA b L))[t]'h = Bl false (partsA b L)[t] := fun h => encs_getE (partsA b L) t h
    have hln2 := dset_len hd v2 l2 c2
    have hlv2 : lv ≠ (dset m lv a a' v2 l2 c2).length := by rw [hln2]; omega
    have hPli : ((partsA b L).length : Int) = L.length := by rw [hPl]
    refine .inl ?_
    generalize (partsA b L)[t] = pt at *
    have hG : Goes (maskSt [0, 7, 32, 33, 34] [] [] []) (S51 (dset m lv a a' v2 l2 c2) lv a false nl L (partsA b L) (t + 1)) (Cd.run (app E) c51.body.inner.body (S51 (dset m lv a a' ver1 l1 c1) lv a false nl L (partsA b L) t)) := by
      generalize partsA b L = P at *
      generalize dset m lv a a' ver1 l1 c1 = M1 at *
      generalize dset m lv a a' v2 l2 c2 = M2 at *
      simp [c51, Cd.inner, Cd.body, S51, hti, ht, hPt, hPl, g1, g2, hgP, hgP2, e1, hw, hlv, hlv2]
    obtain ⟨st2, q1, q2⟩ := hG.get
    exact ⟨st2, _, q1, q2, by omega, v2, l2, c2, hs2, rfl⟩
  · rintro S ⟨_, ver1, l1, c1, hs1, rfl⟩
    have hzl : (L.zip (partsA b L)).take L.length = L.zip (partsA b L) := List.take_of_length_le (by rw [List.length_zip]; omega)
    rw [hzl] at hs1
    have hdo : Does m lv a a' ver l c (putsR r (L.zip (partsA b L))) (dset m lv a a' ver1 l1 c1) := ⟨ver1, l1, c1, rfl, hs1⟩
    generalize partsA b L = P at *
    generalize dset m lv a a' ver1 l1 c1 = M1 at *
    simp [c51, Cd.inner, Cd.body, S51, EndsL]
    exact hdo
include hd hs in
theorem app51 (b : List Int) (hb : OkB b) (hn : nb = true → b = []) :
    ∃ m', app E false (.fn 14 []) [.ptr lv a [] 0, Bl nb b, Sl nl L] m = some (.int .i64 (unpC r b L), emptyBag, m') ∧ Does m lv a a' ver l c (unpR r b L) m' := by
  have hlt := hd.lv_lt
  have hlv : lv ≠ m.length := by omega
  have h39' := app39 (hd.cons []) hs nl L
  have h41' := app41 nl L
  unfold unpR
  unfold unpC
  by_cases hz : checkA r L = 0
  · obtain ⟨hL, hc0⟩ := check_chk hz
    simp only [if_pos hz]
    rw [hz] at h39'
    by_cases hsz : (b.length : Int) = sizeA L
    · simp only [if_pos hsz]
      have hcl : b.length = (catA r L).length := by
        have h1 : sizeA L = szA 0 L := by rw [sizeA, if_neg (by omega)]
        rw [h1, sz_chk hs L 0 0 hc0] at hsz
        omega
      have h96' := app96 (hd.cons []) hs nb nl L hL b hb hn hc0 hcl
      have hszn : ((b.length : Int) != sizeA L) = false := by simpa using hsz
      rw [← hsz] at h41'
      by_cases hp : partsOK r b L = true
      · have hnb : nb = true → L = [] := by
          intro hq
          have hb0 := hn hq
          subst hb0
          cases L with
          | nil => rfl
          | cons x L =>
            obtain ⟨ho, _⟩ := chk_one hc0
            obtain ⟨k1, k2, _⟩ := hs.slot_ok x ho
            have hca : catA r (x :: L) = slotB r x ++ catA r L := rfl
            rw [hca, List.length_append] at hcl
            have := one_n ho
            rw [List.length_nil] at hcl
            omega
        obtain ⟨e, ⟨f', tops', own', dead', m'⟩, q1, q2, rfl, hdo⟩ := loop51 hd hs nb nl L hL b hb hnb hc0 hp (st := ⟨[(34, .int .i64 0), (33, .int .i64 L.length), (32, Sl nl L), (31, .bool false), (30, .bool true), (8, .bool true), (7, .lst none (decide (L.length = 0)) 1 (Ps nb (partsA b L))), (29, .bool true), (28, .lst none (decide (L.length = 0)) 1 (Ps nb (partsA b L))), (23, .tup [.lst none (decide (L.length = 0)) 1 (Ps nb (partsA b L)), .bool true]), (27, .tup [.lst none (decide (L.length = 0)) 1 (Ps nb (partsA b L)), .bool true]), (26, Sl nl L), (25, Bl nb b), (24, .ptr lv a [] 0), (17, .bool false), (22, .bool false), (21, .int .i64 b.length), (20, Sl nl L), (19, .int .i64 b.length), (18, Bl nb b), (12, .bool false), (16, .bool false), (15, .int .i64 0), (14, Sl nl L), (13, .ptr lv a [] 0), (6, .int .i64 0), (0, .ptr lv a [] 0), (1, Bl nb b), (2, Sl nl L)], [], [], [], m⟩) (by simp [S51, hlv])
        simp only at hdo
        simp only [if_pos hp]
        rw [if_pos hp, hp] at h96'
        refine ⟨m', ?_, hdo⟩
        rw [app_fn E rfl h51 rfl]
        simp only [c51, Cd.inner, Cd.body] at q1
        generalize partsA b L = P at *
        generalize decide (L.length = 0) = dl at *
        simp [c51, h39', h41', h96', q1]
      · simp only [if_neg hp]
        refine ⟨m, ?_, does_none hd hs⟩
        rw [app_fn E rfl h51 rfl]
        have hp' : partsOK r b L = false := by simpa using hp
        rw [if_neg hp, hp'] at h96'
        simp [c51, h39', h41', h96']
    · simp only [if_neg hsz]
      refine ⟨m, ?_, does_none hd hs⟩
      rw [app_fn E rfl h51 rfl]
      have hsz' : ((b.length : Int) != sizeA L) = true := by simpa using hsz
      simp [c51, h39', h41', hsz']
  · simp only [if_neg hz]
    refine ⟨m, ?_, does_none hd hs⟩
    rw [app_fn E rfl h51 rfl]
    have hz' : (checkA r L != 0) = true := by simpa using hz
    simp [c51, h39', hz']
end
end Go.Proofs.Ytmffcpiffkclgaa.ZJM.DC

set_option linter.unusedSimpArgs false
set_option linter.unusedVariables false
set_option maxRecDepth 4000
namespace Go.Proofs.Ytmffcpiffkclgaa.ZJM.DC
open Go.Proofs.Ytmffcpiffkclgaa.ZJM Go.RowKit

theorem slotB_put {r : RD} {x : Slot} {b : List Int} {n : Nat} (hz : putC r x.i x.s b = 0) (hf : findIx r.l x.i x.s = some n) (y : Slot) : slotB (putR r x.i x.s b) y = if y.i = x.i ∧ y.s = x.s then b else slotB r y := by
  obtain ⟨hn, k1, k2⟩ := findIx_some hf
  have e : putR r x.i x.s b = holdR r n b := by rw [putR, if_pos hz, holdAt, hf]
  rw [e]
  have hk := skel_find (skel_hold r n b) y.i y.s
  unfold slotB
  rw [hk]
  cases hj : findIx r.l y.i y.s with
  | none =>
    rw [if_neg]
    rintro ⟨h1, h2⟩
    rw [h1, h2, hf] at hj; cases hj
  | some j =>
    obtain ⟨hjl, j1, j2⟩ := findIx_some hj
    by_cases h : y.i = x.i ∧ y.s = x.s
    · rw [if_pos h]
      rw [h.1, h.2, hf] at hj
      cases hj
      simp [holdR, upE, hn]
    · rw [if_neg h]
      have hne : n ≠ j := by
        rintro rfl
        exact h ⟨by rw [← j1, k1], by rw [← j2, k2]⟩
      simp [holdR, upE, hjl, hne]
def hasK (L : List Slot) (i s : Int) : Bool := L.any fun x => x.i == i && x.s == s
theorem one_find {r : RD} {x : Slot} (h : oneA r x = true) : ∃ n, findIx r.l x.i x.s = some n := by
  cases hq : findIx r.l x.i x.s with
  | none => simp [oneA, hq] at h
  | some n => exact ⟨n, rfl⟩
end Go.Proofs.Ytmffcpiffkclgaa.ZJM.DC
