/- All channels that do something: the program's range. -/
import Derived.Test.YtmffcpiffkclgaaZEW8
set_option linter.unusedSimpArgs false
set_option linter.unusedVariables false
set_option maxRecDepth 10000
namespace Go.Proofs.Ytmffcpiffkclgaa.ZJM.DC
open Go.Proofs.Ytmffcpiffkclgaa.ZJM Go.RowKit

def chF (r : RD) (k : Nat) : Nat → Int := loadT r (k : Int) 8
section
variable {σ : Type} (M : σ → Mem) (N : Nat) (hN : ∀ s, (M s).length = N) {lv a a' ver : Nat} {l : List Row} {c : Int} (hd : ∀ s, DA (M s) lv a a' ver l c) {r : RD} (hs : Sim l c r) (hk : skel r = skel rAll) (f0 : FuncId) (i0 : Nat) (fs0 : List Nat) (cap0 : List PV) (lv0 j0 : Nat) (hlv0 : lv0 < N) (hcap : ∀ n ks ts, N ≤ n → PV.okns n ks ts cap0 = true)
  (J : Nat → σ → Prop) (Stop : σ → Prop)
  (hyld : ∀ (k : Nat), k < 4 → ∀ (s : σ) (o1 : Lvl), chF r k 0 ≠ 0 → J k s → ∃ b s', app E false (.rnd f0 i0 fs0 cap0 lv0 j0) [.int .i64 (k : Int), .agg (CF (chF r k) 30)] (o1 :: M s) = some (.bool b, emptyBag, o1 :: M s') ∧ (if b = true then J (k + 1) s' else Stop s'))
  (hskip : ∀ (k : Nat), k < 4 → ∀ (s : σ), chF r k 0 = 0 → J k s → J (k + 1) s)
def S89 (f0 : FuncId) (i0 : Nat) (fs0 : List Nat) (cap0 : List PV) (lv0 j0 lvb sb : Nat) (t : Nat) (m : Mem) : St := ⟨[(0, .rnd f0 i0 fs0 cap0 lv0 j0), (1, .ptr lvb sb [] 0), (6, .int .i64 t)], [], [], [], m⟩
include hN hd hs hk hlv0 hcap hyld hskip in
theorem appx89 (s : σ) (hJ : J 0 s) (lvb sb : Nat) (hb : ∀ s, mget (M s) lvb sb [] = some [.ptr lv a [] 0]) :
    ∃ s', (J 4 s' ∨ Stop s') ∧ app E false (.fn 89 [.ptr lvb sb [] 0]) [.rnd f0 i0 fs0 cap0 lv0 j0] (M s) = some (.tup [], emptyBag, M s') := by
  have q1 : lvb ≠ N := by have := mget_lt (hb s); rw [hN] at this; omega
  have q2 : lv < N := by have := (hd s).lv_lt; rw [hN] at this; omega
  have q3 : lv ≠ N := by omega
  have q4 : lv0 ≠ N := by omega
  have z := CF_zero30
  have hS0 : maskSt [0, 1, 6] [] [] [] (S89 f0 i0 fs0 cap0 lv0 j0 lvb sb 0 (M s)) = some (S89 f0 i0 fs0 cap0 lv0 j0 lvb sb 0 (M s)) := by
    have := hN s
    have h1 := hcap N [] [] (Nat.le_refl _)
    simp [S89, this, q1, q4, h1]
  have hloop : ∃ e st', loopW (maskSt [0, 1, 6] [] [] []) (Cd.run (app E) cx89.body.inner.body) (S89 f0 i0 fs0 cap0 lv0 j0 lvb sb 0 (M s)) = some (e, st') ∧ e ≠ .normal ∧ ((e = .exit 0 ∧ ∃ s', J 4 s' ∧ st'.m = M s') ∨ (e = .ret ∧ ∃ s', Stop s' ∧ st'.m = M s')) := by
    refine loop_inv (fun t S => ∃ s', J t s' ∧ S = S89 f0 i0 fs0 cap0 lv0 j0 lvb sb t (M s')) 4 _ hS0 ⟨s, hJ, rfl⟩ ?_ ?_
    · rintro t S ht ⟨s1, hJ1, rfl⟩
      have htI : (t : Int) < 4 := by omega
      have hw := wrap_succ t (by omega)
      have hNs := hN s1
      have hb1 := hb s1
      have h31 := appx31 ((hd s1).cons []) hs (t : Int) (by omega) (by omega)
      rw [load_ok hk hs.rok (by omega) (by omega), if_pos rfl, eOf_t] at h31
      have hok1 := hcap N [] [] (Nat.le_refl _)
      by_cases hz : chF r t 0 = 0
      · have hG : Goes (maskSt [0, 1, 6] [] [] []) (S89 f0 i0 fs0 cap0 lv0 j0 lvb sb (t + 1) (M s1)) (Cd.run (app E) cx89.body.inner.body (S89 f0 i0 fs0 cap0 lv0 j0 lvb sb t (M s1))) := by
          unfold chF at hz
          generalize loadT r (t : Int) 8 = g at *
          simp [-isPlace, -moves, cx89, Cd.inner, Cd.body, S89, ← z, htI, hw, hNs, hb1, h31, hz, q1, q3, q4, hok1]
        obtain ⟨st2, p1, p2⟩ := hG.get
        exact .inl ⟨st2, _, p1, p2, s1, hskip t ht s1 hz hJ1, rfl⟩
      · obtain ⟨b, s2, e1, e2⟩ := hyld t ht s1 [(4, CF (chF r t) 30)] hz hJ1
        have hNs2 := hN s2
        have hz' : (chF r t 0 != 0) = true := by simpa using hz
        cases b with
        | true =>
          have hG : Goes (maskSt [0, 1, 6] [] [] []) (S89 f0 i0 fs0 cap0 lv0 j0 lvb sb (t + 1) (M s2)) (Cd.run (app E) cx89.body.inner.body (S89 f0 i0 fs0 cap0 lv0 j0 lvb sb t (M s1))) := by
            unfold chF at e1 hz'
            generalize loadT r (t : Int) 8 = g at *
            simp [-isPlace, -moves, cx89, Cd.inner, Cd.body, S89, ← z, htI, hw, hNs, hNs2, hb1, h31, hz', e1, q1, q3, q4, hok1]
          obtain ⟨st2, p1, p2⟩ := hG.get
          exact .inl ⟨st2, _, p1, p2, s2, by simpa using e2, rfl⟩
        | false =>
          refine .inr ?_
          unfold chF at e1 hz'
          generalize loadT r (t : Int) 8 = g at *
          simp [-isPlace, -moves, cx89, Cd.inner, Cd.body, S89, ← z, htI, hw, hNs, hNs2, hb1, h31, hz', e1, q1, q3, q4, EndsL]
          exact ⟨s2, by simpa using e2, rfl⟩
    · rintro S ⟨s1, hJ1, rfl⟩
      simp [cx89, Cd.inner, Cd.body, S89, EndsL]
      exact ⟨s1, hJ1, rfl⟩
  obtain ⟨e, ⟨f', tops', own', dead', m'⟩, p1, p2, p3⟩ := hloop
  have hl := loop_at hS0 p1
  simp only [cx89, Cd.inner, Cd.body, S89] at hl
  have hNs := hN s
  have hok1 := hcap N [] [] (Nat.le_refl _)
  rcases p3 with ⟨rfl, s', hJ', hm⟩ | ⟨rfl, s', hJ', hm⟩
  · simp only at hm
    subst hm
    refine ⟨s', .inl hJ', ?_⟩
    rw [app_fn E rfl hx89 rfl]
    simp [cx89, hNs, q1, q4, hok1, hl]
  · simp only at hm
    subst hm
    refine ⟨s', .inr hJ', ?_⟩
    rw [app_fn E rfl hx89 rfl]
    simp [cx89, hNs, q1, q4, hok1, hl]
end
theorem appx27 (m : Mem) (lv a : Nat) (hlv : lv < m.length) : app E false (.fn 27 []) [.ptr lv a [] 0] m = some (.fn 89 [.ptr m.length 0 [] 0], ⟨[(0, [.ptr lv a [] 0])], []⟩, m) := by
  have h : lv ≠ m.length := by omega
  rw [app_fn E rfl hx27 rfl]
  simp [cx27, h, frzV, frzR, bagEv, bagOf, bagChk, renB, obsB, topsB, nameIn, isRec, noTagB, nodupB, tagsOf, tagOf, PV.retag, PV.retag1]
theorem appx27_nil (m : Mem) : app E false (.fn 27 []) [.nilp] m = some (.fn 89 [.ptr m.length 0 [] 0], ⟨[(0, [.nilp])], []⟩, m) := by
  rw [app_fn E rfl hx27 rfl]
  simp [cx27, frzV, frzR, bagEv, bagOf, bagChk, renB, obsB, topsB, nameIn, isRec, noTagB, nodupB, tagsOf, tagOf, PV.retag, PV.retag1]
end Go.Proofs.Ytmffcpiffkclgaa.ZJM.DC

set_option linter.unusedSimpArgs false
set_option linter.unusedVariables false
set_option maxRecDepth 10000
namespace Go.Proofs.Ytmffcpiffkclgaa.ZJM.DC
open Go.Proofs.Ytmffcpiffkclgaa.ZJM Go.RowKit

theorem app65_nil (m : Mem) : app E false (.fn 16 []) [.nilp] m = some (.bool false, emptyBag, m) := by
  have h := app31 (m := [] :: m) (.inl rfl) (finds_nil ([] :: m) 5118 0) (fun x hx => by cases hx)
  rw [app_fn E rfl h65 rfl]
  simp only [numO] at h
  simp [c65, h]
section
variable (m : Mem) (lvb sb : Nat) (hb : mget m lvb sb [] = some [.nilp]) (f0 : FuncId) (i0 : Nat) (fs0 : List Nat) (cap0 : List PV) (lv0 j0 : Nat) (hlv0 : lv0 < m.length) (hcap : ∀ n ks ts, m.length ≤ n → PV.okns n ks ts cap0 = true)
include hb hlv0 hcap in
theorem appx89_nil : app E false (.fn 89 [.ptr lvb sb [] 0]) [.rnd f0 i0 fs0 cap0 lv0 j0] m = some (.tup [], emptyBag, m) := by
  have q1 : lvb ≠ m.length := by have := mget_lt hb; omega
  have q4 : lv0 ≠ m.length := by omega
  have z := CF_zero30
  have hok1 := hcap m.length [] [] (Nat.le_refl _)
  have hS0 : maskSt [0, 1, 6] [] [] [] (S89 f0 i0 fs0 cap0 lv0 j0 lvb sb 0 m) = some (S89 f0 i0 fs0 cap0 lv0 j0 lvb sb 0 m) := by
    simp [S89, q1, q4, hok1]
  have hl := loop_eq (mask := maskSt [0, 1, 6] [] [] []) (body := Cd.run (app E) cx89.body.inner.body) (fun t => S89 f0 i0 fs0 cap0 lv0 j0 lvb sb t m) 4 (fun t ht => by
    have htI : (t : Int) < 4 := by omega
    have hw := wrap_succ t (by omega)
    have h31 := appx31_nil ([] :: m) (t : Int)
    simp [-isPlace, -moves, cx89, Cd.inner, Cd.body, S89, ← z, htI, hw, hb, h31, q1, q4, hok1]) (by simp [cx89, Cd.inner, Cd.body, S89]) hS0
  have hl2 := loop_at hS0 hl
  simp only [cx89, Cd.inner, Cd.body, S89] at hl2
  rw [app_fn E rfl hx89 rfl]
  simp [cx89, q1, q4, hok1, hl2]
end
/-! ### the round -/
def own5 (r : RD) (ver : Nat) (rows : List Row) (c : Int) (sp : Int) (at' : Nat) (n : Nat) (q : Nat) (b : Bool) : Lvl := [(500000000, [.lrec q]), (53000, [.ptr 0 1000000000 [] 0]), (9, [.int .i64 at']), (8, [.int .i64 n]), (3, [.int .u8 sp]), (4, [.bool b]), (6, [El r.nl r.l, .int .i64 r.c]), (1000000000, [.ptr 0 1000000001 [] 0, .int .i64 c]), (1000000001, [shC ver rows])]
def caps5 : List PV := [.ptr 0 3 [] 0, .ptr 0 4 [] 0, .ptr 0 6 [] 0, .ptr 0 8 [] 0, .ptr 0 9 [] 0]
def rd5 : Rd := (cx5.rds[0]?).getD ⟨[], [], .skip, .skip⟩
section
variable {r : RD} (hr : r.ok) (hk : skel r = skel rAll) (ver : Nat) (rows : List Row) (c : Int) (sp : Int) (hsp : 0 ≤ sp ∧ sp ≤ 255)
include hr hk in
theorem load_c (k : Nat) (h : k < 4) : app E false (.fn 28 []) [r.pv, .int .i64 (k : Int)] [] = some (.tup [.agg (CF (chF r k) 30), .int .i64 0], emptyBag, []) := by
  have := appx28 hr (k : Int) (by omega) (by omega) (load_bd hk hr (by omega) (by omega))
  rw [load_ok hk hr (by omega) (by omega), if_pos rfl, eOf_t] at this
  exact this
def S5i (r : RD) (ver : Nat) (rows : List Row) (c : Int) (sp : Int) (n k : Nat) (o1 : Lvl) (at' : Nat) : St := ⟨[(4, .ptr 0 4 [] 0), (6, .ptr 0 6 [] 0), (8, .ptr 0 8 [] 0), (9, .ptr 0 9 [] 0), (11, .int .i64 (k : Int)), (12, .ptr 2 12 [] 0)], [], [(12, CF (chF r k) 30)], [], o1 :: [own5 r ver rows c sp at' n 1 false]⟩
include hr hk in
theorem loop5i (n k : Nat) (hk4 : k < 4) (o1 : Lvl) (at' : Nat) (hat : at' ≤ k) (hz : ∀ j, at' ≤ j → j < k → chF r j 0 = 0) {st : St} (h0 : maskSt [4, 6, 8, 9, 11, 12] [12] [] [] st = some (S5i r ver rows c sp n k o1 at')) :
    loopW (maskSt [4, 6, 8, 9, 11, 12] [12] [] []) (Cd.run (app E) rd5.body.inner.body) st = rd5.body.inner.body.run (app E) (S5i r ver rows c sp n k o1 k) := by
  have z := CF_zero30
  have e : at' + (k - at') = k := by omega
  have key := loop_eq (mask := maskSt [4, 6, 8, 9, 11, 12] [12] [] []) (body := Cd.run (app E) rd5.body.inner.body) (fun t => S5i r ver rows c sp n k o1 (at' + t)) (k - at') (fun t ht => by
    generalize hj : at' + t = j
    have hj2 : at' + (t + 1) = j + 1 := by omega
    rw [hj2]
    have hjk : (j : Int) < k := by omega
    have hw := wrap_succ j (by omega)
    have hc := load_c hr hk j (by omega)
    have g4 := fun a => es_deps r.l a
    have g5 := fun a b c => es_okns r.l a b c
    have hz0 := hz j (by omega) (by omega)
    generalize chF r k = gk at *
    generalize chF r j = gj at *
    simp only [S5i, own5, RD.pv, El, rd] at *
    generalize Es r.l = L0 at *
    generalize shC ver rows = SS at *
    simp [-isPlace, -moves, rd5, cx5, Cd.inner, Cd.body, ← z, hjk, hw, hc, hz0, g4, g5]) (by
    simp only [e]
    generalize chF r k = gk at *
    simp only [S5i, own5, RD.pv, El, rd] at *
    generalize Es r.l = L0 at *
    generalize shC ver rows = SS at *
    simp [-isPlace, -moves, rd5, cx5, Cd.inner, Cd.body]) h0
  simp only [e] at key
  exact key
include hr hk hsp in
set_option maxHeartbeats 1000000 in
theorem rnd5 (n k : Nat) (hk4 : k < 4) (hn4 : n ≤ k) (o1 : Lvl) (at' : Nat) (hat : at' ≤ k) (hz : ∀ j, at' ≤ j → j < k → chF r j 0 = 0) (hne : chF r k 0 ≠ 0) :
    app E false (.rnd 5 0 [3, 4, 6, 8, 9] caps5 0 500000000) [.int .i64 (k : Int), .agg (CF (chF r k) 30)] (o1 :: [own5 r ver rows c sp at' n 0 false]) = some (.bool (!((n : Int) == sp)), emptyBag, o1 :: [if (n : Int) = sp then own5 r ver rows c sp at' n 2 true else own5 r ver rows c sp (k + 1) (n + 1) 0 false]) := by
  have z := CF_zero30
  have h24 := live15
  have hwsp : IntKind.i64.wrap sp = sp := wrap_id _ (by omega) (by omega)
  have hwk := wrap_succ k (by omega)
  have hwn := wrap_succ n (by omega)
  have hc := load_c hr hk k hk4
  have hlt : ¬ (k : Int) < at' := by omega
  have hk3 : ¬ (3 : Int) < k := by omega
  have g4 := fun a => es_deps r.l a
  have g5 := fun a b c => es_okns r.l a b c
  have hne' : (chF r k 0 == 0) = false := by simpa using hne
  have hl := fun st h => @loop5i r hr hk ver rows c sp n k hk4 o1 at' hat hz st h
  simp only [rd5, cx5, Cd.inner, Cd.body, List.getElem?_cons_zero, Option.getD_some, ← z] at hl
  rw [app_rnd E hx5 (rd := rd5) rfl (by simp [rd5, cx5, own5, caps5])]
  simp only [S5i, own5, caps5, RD.pv, El, rd] at *
  generalize chF r k = gk at *
  generalize Es r.l = L0 at *
  generalize shC ver rows = SS at *
  by_cases hs : (n : Int) = sp
  · have hs' : ((n : Int) == sp) = true := by simpa using hs
    rw [if_pos hs, hs']
    simp [-isPlace, -moves, rd5, cx5, ← z, hwsp, hs', h24]
  · have hs' : ((n : Int) == sp) = false := by simpa using hs
    rw [if_neg hs, hs']
    simp [-isPlace, -moves, rd5, cx5, ← z, hwsp, hs', hlt, hk3, hl, hc, hne', hwk, hwn, g4, g5]
end
end Go.Proofs.Ytmffcpiffkclgaa.ZJM.DC

set_option linter.unusedSimpArgs false
set_option linter.unusedVariables false
set_option maxRecDepth 10000
namespace Go.Proofs.Ytmffcpiffkclgaa.ZJM.DC
open Go.Proofs.Ytmffcpiffkclgaa.ZJM Go.RowKit

abbrev Cs (l : List (Nat → Int)) : List PV := encs (fun f => PV.agg (CF f 30)) l
theorem cs_data (l : List (Nat → Int)) : PV.datas (Cs l) = true := encs_data fun f _ => by simp [PV.data, CF_data]
theorem cs_okns (l : List (Nat → Int)) (a b c) : PV.okns a b c (Cs l) = true := PV.datas_okns _ _ _ _ (cs_data l)
theorem cs_rens (l : List (Nat → Int)) (a b ρ) : PV.rens a b ρ (Cs l) = Cs l := PV.datas_rens _ _ _ _ (cs_data l)
theorem cs_deps (l : List (Nat → Int)) (a) : PV.deps a (Cs l) = true := PV.datas_deps _ _ (cs_data l)
section
variable (nl : Bool) (L : List (Nat → Int)) (sp : Int) (hsp : 0 ≤ sp ∧ sp ≤ 255)
def own5s (r : RD) (ver : Nat) (rows : List Row) (c : Int) (sp : Int) : Lvl := [(3, [.int .u8 sp]), (4, [.bool false]), (6, [El r.nl r.l, .int .i64 r.c]), (1000000000, [.ptr 0 1000000001 [] 0, .int .i64 c]), (1000000001, [shC ver rows])]
theorem own5s_da (r : RD) (ver : Nat) (rows : List Row) (c : Int) (sp : Int) : DA [own5s r ver rows c sp] 0 1000000000 1000000001 ver rows c := ⟨by simp [own5s], by simp [own5s], by decide⟩
theorem own5s_set (r : RD) (ver : Nat) (rows : List Row) (c : Int) (sp : Int) (v : Nat) (l' : List Row) (c' : Int) : dset [own5s r ver rows c sp] 0 1000000000 1000000001 v l' c' = [own5s r v l' c' sp] := by simp [dset, wr, own5s]
def S5 (nl : Bool) (L : List (Nat → Int)) (sp : Int) (t : Nat) (r : RD) (ver : Nat) (rows : List Row) (c : Int) : St := ⟨[(0, .lst none nl 30 (Cs L)), (3, .ptr 0 3 [] 0), (4, .ptr 0 4 [] 0), (5, .ptr 0 1000000000 [] 0), (6, .ptr 0 6 [] 0), (7, .int .i64 t)], [], own5s r ver rows c sp, [], []⟩
set_option maxHeartbeats 1000000 in
theorem loop5 (ver0 : Nat) (rows0 : List Row) (c0 : Int) (hs0 : Sim rows0 c0 rAll) {st : St} (h0 : maskSt [0, 3, 4, 5, 6, 7] [3, 4, 6] [] [5] st = some (S5 nl L sp 0 rAll ver0 rows0 c0)) :
    ∃ e st', loopW (maskSt [0, 3, 4, 5, 6, 7] [3, 4, 6] [] [5]) (Cd.run (app E) cx5.body.inner.body) st = some (e, st') ∧ e ≠ .normal ∧ (e = .exit 0 ∧ st'.m = [] ∧ st'.dead = [] ∧ st'.tops = [] ∧ get st'.f 3 = some (.ptr 0 3 [] 0) ∧ get st'.f 4 = some (.ptr 0 4 [] 0) ∧ get st'.f 5 = some (.ptr 0 1000000000 [] 0) ∧ get st'.f 6 = some (.ptr 0 6 [] 0) ∧ ∃ r ver rows c, Sim rows c r ∧ skel r = skel rAll ∧ st'.own = own5s r ver rows c sp) := by
  have hle : (Cs L).length = L.length := encs_len L
  have k1 := fun a b c => cs_okns L a b c
  have k2 := fun a b ρ => cs_rens L a b ρ
  refine loop_inv (fun t S => ∃ r ver rows c, Sim rows c r ∧ skel r = skel rAll ∧ S = S5 nl L sp t r ver rows c) (min L.length 4) _ h0 ⟨rAll, ver0, rows0, c0, hs0, rfl, rfl⟩ ?_ ?_
  · rintro t S ht ⟨r, ver, rows, c, hs, hk, rfl⟩
    have htL : t < L.length := by omega
    have hti : (t : Int) < L.length := by omega
    have ht4 : (t : Int) < 4 := by omega
    have hw := wrap_succ t (by omega)
    have gE : (Cs L)[t]? = some (.agg (CF (L[t]'htL) 30)) := by simp [encs, htL]
    have gE2 : ∀ h, (Cs L)[t]'h = .agg (CF (L[t]'htL) 30) := fun h => (List.getElem?_eq_some_iff.1 gE).2
    obtain ⟨m1, e25, v1, l1, c1, rfl, hs1⟩ := appx25 (own5s_da r ver rows c sp) hs (t : Int) (L[t]'htL)
    rw [own5s_set] at e25
    have h26 := appx26 (t : Int) (L[t]'htL) r hs
    have hk1 : skel (storeA r (t : Int) (L[t]'htL)).1 = skel rAll := by rw [skel_store, hk]
    generalize (storeA r (t : Int) (L[t]'htL)).2 = w at *
    generalize (storeA r (t : Int) (L[t]'htL)).1 = r1 at *
    generalize L[t]'htL = f at *
    have hG : Goes (maskSt [0, 3, 4, 5, 6, 7] [3, 4, 6] [] [5]) (S5 nl L sp (t + 1) r1 v1 l1 c1) (Cd.run (app E) cx5.body.inner.body (S5 nl L sp t r ver rows c)) := by
      have f4 := fun a => es_deps r1.l a
      have f5 := fun a b c => es_okns r1.l a b c
      have hrn := fun a b ρ => es_rens r1.l a b ρ
      have g4 := fun a => es_deps r.l a
      have g5 := fun a b c => es_okns r.l a b c
      have s1 := fun lv => shC_names lv v1 l1
      have s2 := fun a b ρ => shC_ren a b ρ v1 l1
      have s3 := fun a ks ts => shC_okn a ks ts v1 l1
      have s4 := shC_rec v1 l1
      simp only [S5, own5s, RD.pv, El, rd] at *
      generalize Cs L = CL at *
      generalize Es r1.l = L1 at *
      generalize Es r.l = L0 at *
      generalize shC ver rows = SS0 at *
      generalize shC v1 l1 = SS1 at *
      simp [-isPlace, -moves, cx5, Cd.inner, Cd.body, hle, hti, ht4, htL, gE, gE2, e25, h26, hw, f4, f5, hrn, g4, g5, s1, s2, s3, s4, k1, k2]
    obtain ⟨st2, q1, q2⟩ := hG.get
    exact .inl ⟨st2, _, q1, q2, r1, v1, l1, c1, hs1, hk1, rfl⟩
  · rintro S ⟨r, ver, rows, c, hs, hk, rfl⟩
    by_cases h : L.length ≤ 4
    · have e : min L.length 4 = L.length := by omega
      rw [e]
      by_cases h4 : L.length < 4
      · have hh : ¬ ((L.length : Int) < L.length) := by omega
        simp only [S5]
        generalize Cs L = CL at *
        simp [cx5, Cd.inner, Cd.body, EndsL, hle]
        exact ⟨r, ver, rows, c, hs, hk, rfl⟩
      · simp only [S5]
        generalize Cs L = CL at *
        simp [cx5, Cd.inner, Cd.body, EndsL, hle]
        exact ⟨r, ver, rows, c, hs, hk, rfl⟩
    · have e : min L.length 4 = 4 := by omega
      rw [e]
      have h1 : (4 : Int) < L.length := by omega
      simp only [S5]
      generalize Cs L = CL at *
      simp [cx5, Cd.inner, Cd.body, EndsL, hle, h1]
      exact ⟨r, ver, rows, c, hs, hk, rfl⟩
end
section
variable {r : RD} (hr : r.ok) (hk : skel r = skel rAll)
def S5f (r : RD) (at' : Nat) : St := ⟨[(4, .ptr 0 4 [] 0), (6, .ptr 0 6 [] 0), (9, .ptr 0 9 [] 0)], [], [(4, [.bool false]), (6, [El r.nl r.l, .int .i64 r.c]), (9, [.int .i64 at'])], [], []⟩
include hr hk in
theorem loop5f (at' : Nat) (hat : at' ≤ 4) (hz : ∀ j, at' ≤ j → j < 4 → chF r j 0 = 0) {st : St} (h0 : maskSt [4, 6, 9] [4, 6, 9] [] [] st = some (S5f r at')) :
    loopW (maskSt [4, 6, 9] [4, 6, 9] [] []) (Cd.run (app E) (cx5.body.nth 1)) st = (cx5.body.nth 1).run (app E) (S5f r 4) := by
  have z := CF_zero30
  have e : at' + (4 - at') = 4 := by omega
  have key := loop_eq (mask := maskSt [4, 6, 9] [4, 6, 9] [] []) (body := Cd.run (app E) (cx5.body.nth 1)) (fun t => S5f r (at' + t)) (4 - at') (fun t ht => by
    generalize hj : at' + t = j
    have hj2 : at' + (t + 1) = j + 1 := by omega
    rw [hj2]
    have hjk : (j : Int) < 4 := by omega
    have hw := wrap_succ j (by omega)
    have hc := load_c hr hk j (by omega)
    have g4 := fun a => es_deps r.l a
    have g5 := fun a b c => es_okns r.l a b c
    have hrn := fun a b ρ => es_rens r.l a b ρ
    have hz0 := hz j (by omega) (by omega)
    generalize chF r j = gj at *
    simp only [S5f, RD.pv, El, rd] at *
    generalize Es r.l = L0 at *
    simp [-isPlace, -moves, cx5, Cd.nth, Cd.loops, Cd.body, ← z, hjk, hw, hc, hz0, g4, g5, hrn]) (by
    simp only [e]
    simp only [S5f, RD.pv, El, rd] at *
    generalize Es r.l = L0 at *
    simp [-isPlace, -moves, cx5, Cd.nth, Cd.loops, Cd.body]) h0
  simp only [e] at key
  exact key
end
end Go.Proofs.Ytmffcpiffkclgaa.ZJM.DC

set_option linter.unusedSimpArgs false
set_option linter.unusedVariables false
set_option maxRecDepth 10000
namespace Go.Proofs.Ytmffcpiffkclgaa.ZJM.DC
open Go.Proofs.Ytmffcpiffkclgaa.ZJM Go.RowKit

theorem range_nil (rest : Lvl) : app E false (.fn 89 [.ptr 0 120000 [] 0]) [.rnd 5 1 [4] [.ptr 0 4 [] 0] 0 500000001] [(500000001, [.lrec 0]) :: (120000, [.nilp]) :: rest] = some (.tup [], emptyBag, [(500000001, [.lrec 0]) :: (120000, [.nilp]) :: rest]) :=
  appx89_nil _ 0 120000 (by simp) 5 1 [4] [.ptr 0 4 [] 0] 0 500000001 (by simp) (fun n ks ts h => by
    have : 0 ≠ n := by simp at h; omega
    simp [this])
set_option maxHeartbeats 4000000 in
theorem appx5 (nl : Bool) (L : List (Nat → Int)) (sp : Int) (hsp : 0 ≤ sp ∧ sp ≤ 255) : app E false (.fn 5 []) [.lst none nl 30 (Cs L), .int .u8 sp] [] = some (.bool true, emptyBag, []) := by
  obtain ⟨v0, l0, c0, hs0, h11⟩ := app84 [[(4, [.bool false]), (3, [.int .u8 sp])]]
  have u2 := fun a b ρ => es_rens rAll.l a b ρ
  have u3 := fun a => es_deps rAll.l a
  have u4 := fun a b c => es_okns rAll.l a b c
  have u5 := fun a => es_names rAll.l a
  have k1 := fun a b c => cs_okns L a b c
  have k2 := fun a b ρ => cs_rens L a b ρ
  have k3 := fun a => cs_deps L a
  have s1 := fun lv => shC_names lv v0 l0
  have s2 := fun a b ρ => shC_ren a b ρ v0 l0
  have s3 := fun a ks ts => shC_okn a ks ts v0 l0
  have s4 := shC_rec v0 l0
  have hS0 : maskSt [0, 3, 4, 5, 6, 7] [3, 4, 6] [] [5] (S5 nl L sp 0 rAll v0 l0 c0) = some (S5 nl L sp 0 rAll v0 l0 c0) := by
    simp only [S5, own5s, El]
    generalize Cs L = CL at *
    generalize Es rAll.l = LA at *
    generalize shC v0 l0 = SS0 at *
    simp [-isPlace, -moves, u2, u3, u4, k1, k2, s1, s2, s3, s4]
  obtain ⟨e, ⟨f', tops', own', dead', m'⟩, q1, q2, rfl, gm, gd, gt, j3, j4, j5, j6, r, ver, rows, c, hs, hk, go⟩ := loop5 nl L sp v0 l0 c0 hs0 hS0
  simp only at gm gd gt j3 j4 j5 j6 go
  subst gm gd gt go
  have hl1 := loop_at hS0 q1
  have h27 := appx27 [(9, [.int .i64 0]) :: (8, [.int .i64 0]) :: own5s r ver rows c sp] 0 1000000000 (by simp)
  have h27n := appx27_nil
  have hrn := range_nil
  have h24 := live15
  have h16 := app65_nil
  have g4 := fun a => es_deps r.l a
  have g5 := fun a b c => es_okns r.l a b c
  have g6 := fun a b ρ => es_rens r.l a b ρ
  obtain ⟨⟨at', n, q, b⟩, g1, g2⟩ := @appx89 (Nat × Nat × Nat × Bool) (fun p => [own5 r ver rows c sp p.1 p.2.1 p.2.2.1 p.2.2.2]) 1 (fun p => rfl) 0 1000000000 1000000001 ver rows c (fun p => ⟨by simp [own5], by simp [own5], by decide⟩) r hs hk 5 0 [3, 4, 6, 8, 9] caps5 0 500000000 (by omega)
    (fun n ks ts h => by
      have : 0 ≠ n := by omega
      simp [caps5, this])
    (fun k p => p.2.2.1 = 0 ∧ p.2.2.2 = false ∧ p.2.1 ≤ k ∧ p.1 ≤ k ∧ ∀ j, p.1 ≤ j → j < k → chF r j 0 = 0) (fun p => p.2.2.1 = 2 ∧ p.2.2.2 = true)
    (fun k hk4 p o1 hne hJ => by
      obtain ⟨at', n, q, b⟩ := p
      obtain ⟨e1, e2, e3, e4, e5⟩ := hJ
      simp only at e1 e2 e3 e4 e5
      subst e1 e2
      have hR := rnd5 hs.rok hk ver rows c sp hsp n k hk4 e3 o1 at' e4 e5 hne
      by_cases hsn : (n : Int) = sp
      · rw [if_pos hsn] at hR
        have : ((n : Int) == sp) = true := by simpa using hsn
        rw [this] at hR
        exact ⟨false, (at', n, 2, true), hR, by simp⟩
      · rw [if_neg hsn] at hR
        have : ((n : Int) == sp) = false := by simpa using hsn
        rw [this] at hR
        refine ⟨true, (k + 1, n + 1, 0, false), hR, ?_⟩
        rw [if_pos rfl]
        exact ⟨rfl, rfl, by simp; omega, by simp, fun j h1 h2 => by simp only at h1; omega⟩)
    (fun k hk4 p hz hJ => by
      obtain ⟨at', n, q, b⟩ := p
      obtain ⟨e1, e2, e3, e4, e5⟩ := hJ
      simp only at e1 e2 e3 e4 e5
      refine ⟨e1, e2, by simp only; omega, by simp only; omega, fun j h1 h2 => ?_⟩
      by_cases hj : j = k
      · rw [hj]; exact hz
      · exact e5 j h1 (by omega))
    (0, 0, 0, false) ⟨rfl, rfl, Nat.le_refl _, Nat.le_refl _, fun j h1 h2 => by omega⟩ 0 53000 (fun p => by simp [own5])
  simp only [cx5, Cd.inner, Cd.body, S5] at hl1
  rcases g1 with ⟨e1, e2, e3, e4, e5⟩ | ⟨e1, e2⟩
  · simp only at e1 e2 e3 e4 e5
    subst e1 e2
    have hl2 := fun st h => @loop5f r hs.rok hk at' e4 e5 st h
    have z := CF_zero30
    simp only [cx5, Cd.body, Cd.nth, Cd.loops, S5f, List.nil_append, List.append_nil, List.cons_append, List.getElem?_cons_succ, List.getElem?_cons_zero, Option.getD_some, ← z] at hl2
    simp only [own5, own5s, caps5, RD.pv, El, rd] at *
    rw [show ((0 : Nat) : Int) = 0 from rfl] at g2
    generalize Cs L = CL at *
    generalize Es rAll.l = LA at *
    generalize Es r.l = L0 at *
    generalize shC v0 l0 = SS0 at *
    generalize shC ver rows = SS1 at *
    rw [app_fn E rfl hx5 rfl]
    simp [-isPlace, -moves, cx5, ← z, h11, hl1, j3, j4, j5, j6, h27, g2, hl2, h27n, hrn, h24, h16, u2, u3, u4, u5, g4, g5, g6, k1, k2, k3, s1, s2, s3, s4, bagName, PV.retag, PV.retag1]
  · simp only at e1 e2
    subst e1 e2
    have z := CF_zero30
    simp only [own5, own5s, caps5, RD.pv, El, rd] at *
    rw [show ((0 : Nat) : Int) = 0 from rfl] at g2
    generalize Cs L = CL at *
    generalize Es rAll.l = LA at *
    generalize Es r.l = L0 at *
    generalize shC v0 l0 = SS0 at *
    generalize shC ver rows = SS1 at *
    rw [app_fn E rfl hx5 rfl]
    simp [-isPlace, -moves, cx5, ← z, h11, hl1, j3, j4, j5, j6, h27, g2, u2, u3, u4, u5, g4, g5, g6, k1, k2, k3, s1, s2, s3, s4, bagName, PV.retag, PV.retag1]
theorem chans_of {xs : List PV} (h : ∀ x ∈ xs, CT.val true chanT x) : ∃ l : List (Nat → Int), xs = Cs l := by
  induction xs with
  | nil => exact ⟨[], rfl⟩
  | cons x r ih =>
    obtain ⟨f, rfl⟩ := chan_of (h x (by simp))
    obtain ⟨l, rfl⟩ := ih fun y hy => h y (by simp [hy])
    exact ⟨f :: l, rfl⟩
theorem byte1 {x : PV} (h : CT.val false [.int .u8] x) : ∃ n : Int, x = .int .u8 n ∧ 0 ≤ n ∧ n ≤ 255 := by
  simp only [CT.val, CT.hass] at h
  obtain ⟨_, _, hx, h0, rfl⟩ := h
  simp only [List.cons.injEq, and_true] at hx
  subst hx
  simp only [CT.has] at h0
  obtain ⟨n, rfl, hw⟩ := h0
  refine ⟨n, rfl, ?_⟩
  simp [Lit.wf, IntKind.min, IntKind.max, IntKind.bits, IntKind.signed] at hw
  omega
theorem lawx5 {x0 x1 : PV} (h0 : CT.val false [.lst true 240 chanT] x0) (h1 : CT.val false [.int .u8] x1) : app E false (.fn 5 []) [x0, x1] [] = some (.bool true, emptyBag, []) := by
  simp only [CT.val, CT.hass] at h0
  obtain ⟨_, _, hx, h, rfl⟩ := h0
  simp only [List.cons.injEq, and_true] at hx
  subst hx
  obtain ⟨nl, xs, rfl, _, hn, hx⟩ := CT.has_lst.1 h
  obtain ⟨l, rfl⟩ := chans_of hx
  obtain ⟨n, rfl, hn⟩ := byte1 h1
  exact appx5 nl l n hn
end Go.Proofs.Ytmffcpiffkclgaa.ZJM.DC
