/- The flag of the safety section; writes from outside: the plain law, and the small functions. -/
import Derived.Test.YtmffcpiffkclgaaZEM10
import Derived.Test.YtmffcpiffkclgaaZEQ7
set_option linter.unusedSimpArgs false
set_option linter.unusedVariables false
set_option maxRecDepth 10000
namespace Go.Proofs.Ytmffcpiffkclgaa.ZJM.DC
open Go.Proofs.Ytmffcpiffkclgaa.ZJM Go.RowKit

section
variable {m : Mem} {lv a a' ver : Nat} {l : List Row} {c : Int} (hd : DA m lv a a' ver l c) {r : RD} (hs : Sim l c r)
include hd hs
end
end Go.Proofs.Ytmffcpiffkclgaa.ZJM.DC

set_option linter.unusedSimpArgs false
set_option linter.unusedVariables false
set_option maxRecDepth 10000
namespace Go.Proofs.Ytmffcpiffkclgaa.ZJM.DC
open Go.Proofs.Ytmffcpiffkclgaa.ZJM Go.RowKit

theorem appx19 {i s : Int} {b : List Int} (r : RD) (hr : r.ok) (hr2 : (writeR r i s b).ok) (nb : Bool) (hb : OkB b) : app E false (.fn 19 []) [r.pv, ky i s, Bl nb b] [] = some (.tup [(writeA r i s b).pv, .int .i64 (writeC r i s b)], emptyBag, []) := by
  have h93 := app93 r hr i s nb b hb
  have h118 := app118 i s
  have hx := appx17 (writeR r i s b) hr2 false
  rw [app_fn E rfl hx19 rfl]
  unfold writeA
  generalize setC (writeR r i s b) 5118 0 (onN false) = w2 at *
  generalize setfA (writeR r i s b) false = r3 at *
  generalize writeR r i s b = r2 at *
  generalize writeC r i s b = w at *
  have f4 := fun a => es_deps r2.l a
  have f5 := fun a b c => es_okns r2.l a b c
  have g4 := fun a => es_deps r3.l a
  have g5 := fun a b c => es_okns r3.l a b c
  simp only [RD.pv] at *
  by_cases hw : w = 0
  · subst hw
    cases hs : safeA i with
    | true => simp [cx19, h93, h118, hx, hs, f4, f5, g4, g5]
    | false => simp [cx19, h93, h118, hx, hs, f4, f5, g4, g5]
  · have hw' : (w == 0) = false := by simpa using hw
    simp [cx19, h93, h118, hx, hw, hw', f4, f5, g4, g5]
section
variable {m : Mem} {lv a a' ver : Nat} {l : List Row} {c : Int} (hd : DA m lv a a' ver l c) {r : RD} (hs : Sim l c r)
include hd hs
theorem appx20 (i s : Int) (nb : Bool) (b : List Int) (hb : OkB b) (hn : nb = true → b = []) :
    ∃ m', app E false (.fn 20 []) [.ptr lv a [] 0, ky i s, Bl nb b] m = some (.int .i64 (writeC r i s b), emptyBag, m') ∧ Does m lv a a' ver l c (writeA r i s b) m' := by
  obtain ⟨m1, e1, e2⟩ := do_write (hd.cons [(4, [.int .i64 i, .int .i64 s])]) hs i s nb b hb hn
  obtain ⟨m2, rfl, v2, l2, c2, rfl, hs2⟩ := e2.cons hd
  have h117 := app117 i s
  have hd2 := dset_da hd v2 l2 c2
  obtain ⟨m3, f1, f2⟩ := app64g (hd2.cons [(4, [.int .i64 i, .int .i64 s])]) hs2 false
  obtain ⟨m4, rfl, v4, l4, c4, rfl, hs4⟩ := f2.cons hd2
  rw [dset_dset hd] at f1
  have hlt := hd.lv_lt
  have hlv : lv ≠ m.length := by omega
  have hl2 := dset_len hd v2 l2 c2
  have hl4 := dset_len hd v4 l4 c4
  by_cases hw : writeC r i s b = 0
  · rw [hw] at e1 ⊢
    cases hsf : safeA i with
    | true =>
      refine ⟨dset m lv a a' v4 l4 c4, ?_, v4, l4, c4, rfl, ?_⟩
      · rw [app_fn E rfl hx20 rfl]
        generalize dset m lv a a' v2 l2 c2 = M2 at *
        generalize dset m lv a a' v4 l4 c4 = M4 at *
        generalize setC (writeR r i s b) 5118 0 (onN false) = w2 at *
        simp [cx20, e1, f1, h117, hsf, hl2, hl4]
      · rw [writeA, if_pos ⟨hw, hsf⟩]; exact hs4
    | false =>
      refine ⟨dset m lv a a' v2 l2 c2, ?_, v2, l2, c2, rfl, ?_⟩
      · rw [app_fn E rfl hx20 rfl]
        generalize dset m lv a a' v2 l2 c2 = M2 at *
        simp [cx20, e1, h117, hsf, hl2]
      · rw [writeA, if_neg (by rw [hsf]; simp)]; exact hs2
  · refine ⟨dset m lv a a' v2 l2 c2, ?_, v2, l2, c2, rfl, ?_⟩
    · rw [app_fn E rfl hx20 rfl]
      have hw' : (writeC r i s b == 0) = false := by simpa using hw
      generalize dset m lv a a' v2 l2 c2 = M2 at *
      generalize writeC r i s b = w at *
      simp [cx20, e1, hw', hl2]
    · rw [writeA, if_neg (fun hh => hw hh.1)]; exact hs2
end
/-! ### deeds -/
structure Wri where
  (i s : Int) (nb : Bool) (b : List Int) (fl on : Bool)
def Wri.cs (x : Wri) : List PV := [.int .i64 x.i, .int .i64 x.s, Bl x.nb x.b, .bool x.fl, .bool x.on]
def Wri.enc (x : Wri) : PV := .agg x.cs
def Wri.ok (x : Wri) : Prop := OkB x.b ∧ (x.nb = true → x.b = [])
abbrev Wr (l : List Wri) : List PV := encs Wri.enc l
theorem wr_data (l : List Wri) : PV.datas (Wr l) = true := encs_data fun x _ => by simp [Wri.enc, Wri.cs, PV.datas, PV.data, bs_data]
theorem wr_okns (l : List Wri) (a b c) : PV.okns a b c (Wr l) = true := PV.datas_okns _ _ _ _ (wr_data l)
theorem wr_deps (l : List Wri) (a) : PV.deps a (Wr l) = true := PV.datas_deps _ _ (wr_data l)
theorem wr_names (l : List Wri) (a) : PV.namess a (Wr l) = [] := PV.datas_namess _ _ (wr_data l)
theorem wr_rens (l : List Wri) (a b ρ) : PV.rens a b ρ (Wr l) = Wr l := PV.datas_rens _ _ _ _ (wr_data l)
attribute [simp] wr_okns wr_deps wr_names wr_rens
def ownV (r : RD) (ver : Nat) (rows : List Row) (c : Int) : Lvl := [(4, [El r.nl r.l, .int .i64 r.c]), (1000000000, [.ptr 0 1000000001 [] 0, .int .i64 c]), (1000000001, [shC ver rows])]
def S4 (nl : Bool) (W : List Wri) (t : Nat) (r : RD) (ver : Nat) (rows : List Row) (c : Int) : St := ⟨[(0, .lst none nl 5 (Wr W)), (3, .ptr 0 1000000000 [] 0), (4, .ptr 0 4 [] 0), (5, .int .i64 t)], [], ownV r ver rows c, [], []⟩
def ownVx (x : Wri) (r : RD) (ver : Nat) (rows : List Row) (c : Int) : Lvl := (6, x.cs) :: ownV r ver rows c
theorem ownVx_da (x : Wri) (r : RD) (ver : Nat) (rows : List Row) (c : Int) : DA [ownVx x r ver rows c] 0 1000000000 1000000001 ver rows c := ⟨by simp [ownVx, ownV], by simp [ownVx, ownV], by decide⟩
theorem ownVx_set (x : Wri) (r : RD) (ver : Nat) (rows : List Row) (c : Int) (v : Nat) (l' : List Row) (c' : Int) : dset [ownVx x r ver rows c] 0 1000000000 1000000001 v l' c' = [ownVx x r v l' c'] := by simp [dset, wr, ownVx, ownV]
def wriR (r : RD) (x : Wri) : RD := if x.fl = true then setfA r x.on else writeA r x.i x.s x.b
theorem sim_write1 {l : List Row} {c : Int} {r : RD} (hs : Sim l c r) (i s : Int) (b : List Int) (hb : OkB b) : ∃ l' c', Sim l' c' (writeR r i s b) := by
  by_cases hz : writeC r i s b = 0
  · exact ⟨_, _, hs.write i s false b hb (by simp) (by rw [hs.writeC]; exact hz)⟩
  · exact ⟨l, c, by rw [writeR, if_neg hz]; exact hs⟩
set_option maxHeartbeats 1000000 in
theorem round4 (nl : Bool) (W : List Wri) (x : Wri) (hx : x.ok) (t : Nat) (ht : t < W.length) (ht2 : t < 20) (hgE : (Wr W)[t]? = some x.enc) {r : RD} {rows : List Row} {c : Int} (hs : Sim rows c r) (hk : skel r = skel rAll) (ver : Nat) :
    ∃ ver' rows' c', Sim rows' c' (wriR r x) ∧ skel (wriR r x) = skel rAll ∧ Goes (maskSt [0, 3, 4, 5] [4] [] [3]) (S4 nl W (t + 1) (wriR r x) ver' rows' c') (Cd.run (app E) cx4.body.inner.body (S4 nl W t r ver rows c)) := by
  have hti : (t : Int) < W.length := by omega
  have hti2 : (t : Int) < 20 := by omega
  have hw := wrap_succ t (by omega)
  have hgg : ∀ h, (Wr W)[t]'h = x.enc := fun h => (List.getElem?_eq_some_iff.1 hgE).2
  have h16a := app65f (ownVx_da x r ver rows c) hs
  by_cases hf : x.fl = true
  · have e : wriR r x = setfA r x.on := by rw [wriR, if_pos hf]
    obtain ⟨k1, k2, k3⟩ := setf_ok hk x.on
    have h17 := appx17 r hs.rok x.on
    rw [k1] at h17
    obtain ⟨m1, e1, v1, l1, c1, rfl, hs1⟩ := app64g (ownVx_da x (setfA r x.on) ver rows c) hs x.on
    rw [ownVx_set, k1] at e1
    have h16b := app65f (ownVx_da x (setfA r x.on) v1 l1 c1) hs1
    rw [k2] at h16b
    have h15 := app17 (ownVx_da x (setfA r x.on) v1 l1 c1) hs1
    have h23 := appx23 (setfA r x.on) hs1.rok
    rw [k2] at h23
    rw [e]
    refine ⟨v1, l1, c1, hs1, k3, ?_⟩
    obtain ⟨i, s, nb, b, fl, on⟩ := x
    simp only at hf
    subst hf
    simp only [Wri.enc, Wri.cs] at *
    generalize setfA r on = r1 at *
    have f4 := fun a => es_deps r1.l a
    have f5 := fun a b c => es_okns r1.l a b c
    have g4 := fun a => es_deps r.l a
    have g5 := fun a b c => es_okns r.l a b c
    have s1 := fun lv => shC_names lv v1 l1
    have s2 := fun a b ρ => shC_ren a b ρ v1 l1
    have s3 := fun a ks ts => shC_okn a ks ts v1 l1
    have s4 := shC_rec v1 l1
    have hrn := fun a b ρ => es_rens r1.l a b ρ
    have hnm := fun a => es_names r1.l a
    generalize flagA r = q at *
    simp only [ownVx, ownV, Wri.cs, RD.pv, El, rd, S4] at *
    generalize Es r1.l = L1 at *
    generalize Es r.l = L0 at *
    generalize shC ver rows = SS0 at *
    generalize shC v1 l1 = SS1 at *
    cases on <;> simp [cx4, Cd.inner, Cd.body, hti, hti2, ht, hgE, hgg, h16a, h17, e1, h16b, h15, h23, hw, f4, f5, g4, g5, s1, s2, s3, s4, hrn, hnm]
  · have hf' : x.fl = false := by simpa using hf
    have e : wriR r x = writeA r x.i x.s x.b := by rw [wriR, if_neg hf]
    obtain ⟨lw, cw, hsw⟩ := sim_write1 hs x.i x.s x.b hx.1
    have h19 := appx19 r hs.rok hsw.rok x.nb hx.1 (i := x.i) (s := x.s)
    obtain ⟨m1, e1, v1, l1, c1, rfl, hs1⟩ := appx20 (ownVx_da x (writeA r x.i x.s x.b) ver rows c) hs x.i x.s x.nb x.b hx.1 hx.2
    rw [ownVx_set] at e1
    have h16b := app65f (ownVx_da x (writeA r x.i x.s x.b) v1 l1 c1) hs1
    have h15 := app17 (ownVx_da x (writeA r x.i x.s x.b) v1 l1 c1) hs1
    have h23 := appx23 (writeA r x.i x.s x.b) hs1.rok
    have h117 := app117 x.i x.s
    have h118 := app118 x.i x.s
    have w1 := fun h1 h2 => writeA_safe hk (i := x.i) (s := x.s) (b := x.b) h1 h2
    have w2 := fun h => writeA_other (r := r) (i := x.i) (s := x.s) (b := x.b) h
    have hsk := skel_writeA hk x.i x.s x.b
    rw [e]
    refine ⟨v1, l1, c1, hs1, hsk, ?_⟩
    obtain ⟨i, s, nb, b, fl, on⟩ := x
    simp only at hf'
    subst hf'
    simp only [Wri.enc, Wri.cs] at *
    generalize writeA r i s b = r1 at *
    generalize writeC r i s b = w at *
    have f4 := fun a => es_deps r1.l a
    have f5 := fun a b c => es_okns r1.l a b c
    have g4 := fun a => es_deps r.l a
    have g5 := fun a b c => es_okns r.l a b c
    have s1 := fun lv => shC_names lv v1 l1
    have s2 := fun a b ρ => shC_ren a b ρ v1 l1
    have s3 := fun a ks ts => shC_okn a ks ts v1 l1
    have s4 := shC_rec v1 l1
    have hrn := fun a b ρ => es_rens r1.l a b ρ
    have hnm := fun a => es_names r1.l a
    have hFF := w2
    generalize flagA r1 = q1 at *
    generalize flagA r = q at *
    generalize safeA i = sf at *
    simp only [ownVx, ownV, Wri.cs, RD.pv, El, rd, S4] at *
    generalize Es r1.l = L1 at *
    generalize Es r.l = L0 at *
    generalize shC ver rows = SS0 at *
    generalize shC v1 l1 = SS1 at *
    by_cases hw0 : w = 0
    · subst hw0
      cases sf with
      | true =>
        have : q1 = false := w1 rfl rfl
        subst this
        simp [cx4, Cd.inner, Cd.body, hti, hti2, ht, hgE, hgg, h16a, h19, e1, h16b, h15, h23, h117, h118, hw, f4, f5, g4, g5, s1, s2, s3, s4, hrn, hnm]
      | false =>
        by_cases hi : i = 5118
        · have hi' : (i != 5118) = false := by simpa using hi
          simp [cx4, Cd.inner, Cd.body, hti, hti2, ht, hgE, hgg, h16a, h19, e1, h16b, h15, h23, h117, h118, hi', hw, f4, f5, g4, g5, s1, s2, s3, s4, hrn, hnm]
        · have hi' : (i != 5118) = true := by simpa using hi
          have : q1 = q := w2 (.inr ⟨rfl, hi⟩)
          subst this
          simp [cx4, Cd.inner, Cd.body, hti, hti2, ht, hgE, hgg, h16a, h19, e1, h16b, h15, h23, h117, h118, hi', hw, f4, f5, g4, g5, s1, s2, s3, s4, hrn, hnm]
    · have hw1 : (w == 0) = false := by simpa using hw0
      have hw2 : (w != 0) = true := by simpa using hw0
      have : q1 = q := w2 (.inl hw0)
      subst this
      cases sf <;> cases hi' : (i != 5118) <;> simp [cx4, Cd.inner, Cd.body, hti, hti2, ht, hgE, hgg, h16a, h19, e1, h16b, h15, h23, h117, h118, hi', hw1, hw2, hw, f4, f5, g4, g5, s1, s2, s3, s4, hrn, hnm]
end Go.Proofs.Ytmffcpiffkclgaa.ZJM.DC

set_option linter.unusedSimpArgs false
set_option linter.unusedVariables false
set_option maxRecDepth 10000
namespace Go.Proofs.Ytmffcpiffkclgaa.ZJM.DC
open Go.Proofs.Ytmffcpiffkclgaa.ZJM Go.RowKit

theorem loop4 (nl : Bool) (W : List Wri) (hW : ∀ x ∈ W, x.ok) (ver0 : Nat) (rows0 : List Row) (c0 : Int) (hs0 : Sim rows0 c0 rAll) {st : St} (h0 : maskSt [0, 3, 4, 5] [4] [] [3] st = some (S4 nl W 0 rAll ver0 rows0 c0)) :
    ∃ e st', loopW (maskSt [0, 3, 4, 5] [4] [] [3]) (Cd.run (app E) cx4.body.inner.body) st = some (e, st') ∧ e ≠ .normal ∧ (e = .exit 0 ∧ st'.m = []) := by
  refine loop_inv (fun t S => ∃ r ver rows c, Sim rows c r ∧ skel r = skel rAll ∧ S = S4 nl W t r ver rows c) (min W.length 20) _ h0 ⟨rAll, ver0, rows0, c0, hs0, rfl, rfl⟩ ?_ ?_
  · rintro t S ht ⟨r, ver, rows, c, hs, hk, rfl⟩
    have htW : t < W.length := by omega
    have hgE : (Wr W)[t]? = some W[t].enc := by rw [List.getElem?_eq_getElem (by rw [encs_len]; exact htW), encs_getE]
    obtain ⟨v', l', c', hs', hk', hG⟩ := round4 nl W W[t] (hW _ (List.getElem_mem htW)) t htW (by omega) hgE hs hk ver
    obtain ⟨st2, q1, q2⟩ := hG.get
    exact .inl ⟨st2, _, q1, q2, _, v', l', c', hs', hk', rfl⟩
  · rintro S ⟨r, ver, rows, c, hs, hk, rfl⟩
    by_cases h : W.length ≤ 20
    · have e : min W.length 20 = W.length := by omega
      rw [e]
      simp [cx4, Cd.inner, Cd.body, S4, EndsL]
    · have e : min W.length 20 = 20 := by omega
      rw [e]
      have h1 : (20 : Int) < W.length := by omega
      simp [cx4, Cd.inner, Cd.body, S4, EndsL, h1]
theorem appx4 (nl : Bool) (W : List Wri) (hW : ∀ x ∈ W, x.ok) : app E false (.fn 4 []) [.lst none nl 5 (Wr W)] [] = some (.bool true, emptyBag, []) := by
  obtain ⟨ver, rows, c, hs, h84'⟩ := app84 [[]]
  have s1 := fun lv => shC_names lv ver rows
  have s2 := fun a b ρ => shC_ren a b ρ ver rows
  have s3 := fun a ks ts => shC_okn a ks ts ver rows
  have s4 := shC_rec ver rows
  have hrn1 := fun a b ρ => es_rens rAll.l a b ρ
  have hdp1 := fun a => es_deps rAll.l a
  have hok1 := fun a b c => es_okns rAll.l a b c
  have hnm1 := fun a => es_names rAll.l a
  obtain ⟨e, ⟨f', tops', own', dead', m'⟩, q1, q2, rfl, gm⟩ := @loop4 nl W hW ver rows c hs ⟨[(5, .int .i64 0), (3, .ptr 0 13000 [] 0), (4, .ptr 0 4 [] 0), (14, rAll.pv), (13, .ptr 0 13000 [] 0), (11, .tup [.ptr 0 13000 [] 0, rAll.pv]), (12, .tup [.ptr 0 13000 [] 0, rAll.pv]), (2, .bool false), (0, .lst none nl 5 (Wr W))], [], [(4, [El rAll.nl rAll.l, .int .i64 rAll.c]), (13000, [.ptr 0 13001 [] 0, .int .i64 c]), (13001, [shC ver rows])], [], []⟩ (by simp [S4, ownV])
  simp only at gm
  subst gm
  rw [app_fn E rfl hx4 rfl]
  simp only [cx4, Cd.inner, Cd.body] at q1
  simp only [List.length_singleton, List.length_cons, List.length_nil, RD.pv, El, rd] at *
  generalize Es rAll.l = LA at *
  generalize shC ver rows = SS at *
  simp [cx4, h84', q1, hrn1, hdp1, hok1, hnm1, s1, s2, s3, s4, live15, bagName, PV.retag, PV.retag1]
theorem bool_of {x : PV} (h : CT.has .bool x) : ∃ q : Bool, x = .bool q := by
  obtain ⟨q, rfl⟩ := h
  exact ⟨q, rfl⟩
abbrev wriT : List CT := [.int .i64, .int .i64, .lst false 1 [.int .u8], .bool, .bool]
theorem wri_of {x : PV} (h : CT.val true wriT x) : ∃ d : Wri, d.ok ∧ x = d.enc := by
  obtain ⟨ys, rfl, h⟩ := h
  simp only [CT.hass] at h
  obtain ⟨_, _, rfl, h0, _, _, rfl, h1, _, _, rfl, h2, _, _, rfl, h3, _, _, rfl, h4, rfl⟩ := h
  obtain ⟨i, rfl, _⟩ := h0
  obtain ⟨s, rfl, _⟩ := h1
  obtain ⟨nb, b, hb, hn, rfl⟩ := bl_of h2
  obtain ⟨fl, rfl⟩ := bool_of h3
  obtain ⟨on, rfl⟩ := bool_of h4
  exact ⟨⟨i, s, nb, b, fl, on⟩, ⟨hb, hn⟩, rfl⟩
theorem wris_of {xs : List PV} (h : ∀ x ∈ xs, CT.val true wriT x) : ∃ l : List Wri, (∀ d ∈ l, d.ok) ∧ xs = Wr l := by
  induction xs with
  | nil => exact ⟨[], fun x hx => by simp at hx, rfl⟩
  | cons x r ih =>
    obtain ⟨d, hd, rfl⟩ := wri_of (h x (by simp))
    obtain ⟨l, hl, rfl⟩ := ih fun y hy => h y (by simp [hy])
    exact ⟨d :: l, fun y hy => by rcases List.mem_cons.1 hy with rfl | hy; exact hd; exact hl y hy, rfl⟩
theorem lawx4 {x0 : PV} (h0 : CT.val false [.lst true 48 wriT] x0) : app E false (.fn 4 []) [x0] [] = some (.bool true, emptyBag, []) := by
  simp only [CT.val, CT.hass] at h0
  obtain ⟨_, _, hx, h, rfl⟩ := h0
  simp only [List.cons.injEq, and_true] at hx
  subst hx
  obtain ⟨nl, xs, rfl, _, hn, hx⟩ := CT.has_lst.1 h
  obtain ⟨l, hl, rfl⟩ := wris_of hx
  exact appx4 nl l hl
end Go.Proofs.Ytmffcpiffkclgaa.ZJM.DC
