/- The image: what must be whatever is asked. -/
import Derived.Test.YtmffcpiffkclgaaZE1
import Derived.Test.YtmffcpiffkclgaaZEM10
set_option linter.unusedSimpArgs false
set_option linter.unusedVariables false
set_option maxRecDepth 100000
namespace Go.Proofs.Ytmffcpiffkclgaa.ZJM.DC
open Go.Proofs.Ytmffcpiffkclgaa.ZJM Go.RowKit
theorem live32_ap : apply E 100 false (.fn 41 []) [] [] = some (.bool true, emptyBag, []) := by kernel_rfl
theorem live32 : app E false (.fn 41 []) [] [] = some (.bool true, emptyBag, []) := app_some.2 ⟨100, live32_ap⟩
end Go.Proofs.Ytmffcpiffkclgaa.ZJM.DC

set_option linter.unusedSimpArgs false
set_option linter.unusedVariables false
set_option maxRecDepth 10000
namespace Go.Proofs.Ytmffcpiffkclgaa.ZJM.DC
open Go.Proofs.Ytmffcpiffkclgaa.ZJM Go.RowKit

def kndL : List Int := [2, 3, 4, 6, 1, 5]
abbrev Ks (l : List Int) : List PV := encs (PV.int .i64) l
theorem ks_okns (l : List Int) (a b c) : PV.okns a b c (Ks l) = true := PV.datas_okns _ _ _ _ (encs_data fun x _ => rfl)
theorem ks_deps (l : List Int) (a) : PV.deps a (Ks l) = true := PV.datas_deps _ _ (encs_data fun x _ => rfl)
attribute [simp] ks_okns ks_deps
theorem appk : app E false (.fn 106 []) [] [] = some (.lst none false 1 (Ks kndL), emptyBag, []) := by
  rw [app_fn E rfl hx106 rfl]; simp [cx106, kndL]
theorem appk' : app E false (.fn 147 []) [] [] = some (.lst none false 1 (Ks kndL), emptyBag, []) := by
  rw [app_fn E rfl hx147 rfl]; simp [cx147, kndL]
/-- A slot of an object. -/
def slotA (i s : Int) : Slot × Bool := if s = 1 then (⟨i, 1, 8⟩, true) else if s = 2 then (⟨i, 2, 16⟩, true) else if s = 3 then (⟨i, 3, 32⟩, true) else if s = 4 then (⟨i, 4, 16⟩, true) else if s = 5 then (⟨i, 5, 8⟩, true) else if s = 6 then (⟨i, 6, 8⟩, true) else (⟨0, 0, 0⟩, false)
theorem slotA_no {i s : Int} (h : s < 1 ∨ 6 < s) : slotA i s = (⟨0, 0, 0⟩, false) := by
  unfold slotA
  rw [if_neg (by omega), if_neg (by omega), if_neg (by omega), if_neg (by omega), if_neg (by omega), if_neg (by omega)]
theorem appx105 (i s : Int) : app E false (.fn 105 []) [.int .i64 i, .int .i64 s] [] = some (.tup [(slotA i s).1.enc, .bool (slotA i s).2], emptyBag, []) := by
  have h1 := appk'
  have h100 := app100
  rw [app_fn E rfl hx105 rfl]
  by_cases h : s < 1 ∨ 6 < s
  · rw [slotA_no h]
    rcases h with h | h
    · simp [cx105, h1, h100, kndL, Slot.enc, h]
    · have h' : ¬ s < 1 := by omega
      simp [cx105, h1, h100, kndL, Slot.enc, h, h']
  · rcases (by omega : s = 1 ∨ s = 2 ∨ s = 3 ∨ s = 4 ∨ s = 5 ∨ s = 6) with rfl | rfl | rfl | rfl | rfl | rfl <;> simp [cx105, h1, h100, kndL, slotA, Slot.enc, ksz, wrap_id]
theorem appx43 (i s : Int) : app E false (.fn 43 []) [.int .i64 i, .int .i64 s] [] = some (.tup [(slotA i s).1.enc, .bool (slotA i s).2], emptyBag, []) := by
  have h1 := appk
  have h74 := app74
  rw [app_fn E rfl hx43 rfl]
  by_cases h : s < 1 ∨ 6 < s
  · rw [slotA_no h]
    rcases h with h | h
    · simp [cx43, h1, h74, kndL, Slot.enc, h]
    · have h' : ¬ s < 1 := by omega
      simp [cx43, h1, h74, kndL, Slot.enc, h, h']
  · rcases (by omega : s = 1 ∨ s = 2 ∨ s = 3 ∨ s = 4 ∨ s = 5 ∨ s = 6) with rfl | rfl | rfl | rfl | rfl | rfl <;> simp [cx43, h1, h74, kndL, slotA, Slot.enc, ksz, klo, khi, wrap_id]
theorem appx42 (s : Int) : app E false (.fn 42 []) [.int .i64 s] [] = some (.tup [(slotA 8192 s).1.enc, .bool (slotA 8192 s).2], emptyBag, []) := by
  have h1 := appx105 8192 s
  rw [app_fn E rfl hx42 rfl]
  generalize slotA 8192 s = x at *
  obtain ⟨x1, x2⟩ := x
  simp only [Slot.enc] at *
  simp [cx42, h1]
def progA (i s : Int) : Bool := (slotA 8192 s).2 && ((slotA 8192 s).1.i == i && (slotA 8192 s).1.s == s)
theorem appx45 (i s : Int) : app E false (.fn 45 []) [ky i s] [] = some (.bool (progA i s), emptyBag, []) := by
  have h1 := appx42 s
  rw [app_fn E rfl hx45 rfl]
  unfold progA
  generalize slotA 8192 s = x at *
  obtain ⟨x1, x2⟩ := x
  simp only [Slot.enc] at *
  cases x2 <;> simp [cx45, h1]
/-! ### entries -/
def imgO (i a : Int) : List Ent := [⟨i, 1, 2, a, 0, 255, []⟩, ⟨i, 2, 3, a, 0, 65535, []⟩, ⟨i, 3, 4, a, 0, 4294967295, []⟩, ⟨i, 4, 6, a, -32768, 32767, []⟩, ⟨i, 5, 1, a, 0, 1, []⟩, ⟨i, 6, 5, a, -128, 127, []⟩]
def imgN : List Ent := imgO 8192 3 ++ ([⟨8192, 7, 8, 3, 0, 40, []⟩] ++ (imgO 8448 1 ++ imgO 8704 3))
def imgR : List Ent := imgN.map fun e => { e with b := zs (ksz e.k).toNat }
theorem appx48_ap : apply E 60 false (.fn 48 []) [] [] = some (El false imgR, emptyBag, []) := by kernel_rfl
theorem appx48 : app E false (.fn 48 []) [] [] = some (El false imgR, emptyBag, []) := app_some.2 ⟨_, appx48_ap⟩
section
variable {m : Mem} {lv a a' ver : Nat} {l : List Row} {c : Int} (hd : DA m lv a a' ver l c) {r : RD} (hs : Sim l c r) (i ac : Int)
def S119 (lv a : Nat) (i ac : Int) (t : Nat) (m' : Mem) : St := ⟨[(0, .ptr lv a [] 0), (1, .int .i64 i), (2, .int .i64 ac), (11, .lst none false 1 (Ks kndL)), (12, .int .i64 6), (13, .int .i64 t)], [], [], [], m'⟩
theorem imgO_get (i a : Int) (t : Nat) (ht : t < 6) : ∃ k, kndL[t]? = some k ∧ (imgO i a)[t]? = some ⟨i, (t : Int) + 1, k, a, klo k, khi k, []⟩ := by
  rcases (by omega : t = 0 ∨ t = 1 ∨ t = 2 ∨ t = 3 ∨ t = 4 ∨ t = 5) with rfl | rfl | rfl | rfl | rfl | rfl <;> exact ⟨_, rfl, rfl⟩
include hd hs in
theorem loop119 {st : St} (h0 : maskSt [0, 1, 2, 11, 12, 13] [] [] [] st = some (S119 lv a i ac 0 m)) :
    ∃ e st', loopW (maskSt [0, 1, 2, 11, 12, 13] [] [] []) (Cd.run (app E) cx119.body.inner.body) st = some (e, st') ∧ e ≠ .normal ∧
      ((e = .exit 0 ∧ (runE r (imgO i ac)).2 = 0 ∧ st'.own = [] ∧ Does m lv a a' ver l c (runE r (imgO i ac)).1 st'.m) ∨ (e = .ret ∧ get st'.f 6 = some (.int .i64 (runE r (imgO i ac)).2) ∧ Does m lv a a' ver l c (runE r (imgO i ac)).1 st'.m)) := by
  refine loop_inv (fun t S => t ≤ 6 ∧ (runE r ((imgO i ac).take t)).2 = 0 ∧ ∃ m', Does m lv a a' ver l c (runE r ((imgO i ac).take t)).1 m' ∧ S = S119 lv a i ac t m') 6 _ h0 ⟨Nat.zero_le _, rfl, m, does_none hd hs, rfl⟩ ?_ ?_
  · rintro t S ht ⟨_, hz, m', hD, rfl⟩
    have hti : (t : Int) < 6 := by omega
    have hwp := wrap_succ t (by omega)
    obtain ⟨v', l', c', hd', hs', hlen, hm'⟩ := hD.da hd
    have hlt := hd'.lv_lt
    have hlv : lv ≠ m'.length := by omega
    obtain ⟨k, gk, gE⟩ := imgO_get i ac t ht
    have hl6 : (imgO i ac).length = 6 := rfl
    have htE : t < (imgO i ac).length := by omega
    have gE' : ((imgO i ac)[t]'htE) = ⟨i, (t : Int) + 1, k, ac, klo k, khi k, []⟩ := (List.getElem?_eq_some_iff.1 gE).2
    have gK : (Ks kndL)[t]? = some (.int .i64 k) := by simp [encs, gk]
    have gK2 : ∀ h, (Ks kndL)[t]'h = .int .i64 k := fun h => (List.getElem?_eq_some_iff.1 gK).2
    have htK : t < (Ks kndL).length := by rw [encs_len]; exact ht
    have htK' : t < kndL.length := ht
    obtain ⟨m1, e1, e2⟩ := do_add (hd'.cons [(9, [.int .i64 k, .int .i64 ac, .int .i64 (klo k), .int .i64 (khi k)])]) hs' i ((t : Int) + 1) k ac (klo k) (khi k) true [] (fun x hx => by cases hx) (fun _ => rfl)
    obtain ⟨m2, rfl, e3⟩ := e2.cons hd'
    have hlen2 : m2.length = m'.length := by obtain ⟨_, _, _, _, _, q, _⟩ := e3.da hd'; exact q
    have hlv2 : lv ≠ m2.length := by omega
    have hstep := runE_snoc r ((imgO i ac).take t) ((imgO i ac)[t]'htE) hz
    have hts := take_succ' (imgO i ac) t htE
    rw [← hts] at hstep
    have hce : codeE (runE r ((imgO i ac).take t)).1 ((imgO i ac)[t]'htE) = addRC (runE r ((imgO i ac).take t)).1 i ((t : Int) + 1) k ac (klo k) (khi k) [] := by rw [gE']; rfl
    have hae : addE (runE r ((imgO i ac).take t)).1 ((imgO i ac)[t]'htE) = addR (runE r ((imgO i ac).take t)).1 i ((t : Int) + 1) k ac (klo k) (khi k) [] := by rw [gE']; rfl
    rw [← hce, show Bl true [] = .lst none true 1 [] from rfl] at e1
    rw [← hae] at e3
    have h109 := app109 k
    have h108 := app108 k
    have hw1 : IntKind.i64.wrap ((t : Int) + 1) = (t : Int) + 1 := wrap_id _ (by omega) (by omega)
    by_cases hc : codeE (runE r ((imgO i ac).take t)).1 ((imgO i ac)[t]'htE) = 0
    · rw [if_pos hc] at hstep
      rw [hc] at e1
      have hG : Goes (maskSt [0, 1, 2, 11, 12, 13] [] [] []) (S119 lv a i ac (t + 1) m2) (Cd.run (app E) cx119.body.inner.body (S119 lv a i ac t m')) := by
        simp [cx119, Cd.inner, Cd.body, S119, hti, htK, htK', gK, gK2, h109, h108, e1, hw1, hlv, hlv2]
      obtain ⟨st2, q1, q2⟩ := hG.get
      refine .inl ⟨st2, _, q1, q2, by omega, by rw [hstep], m2, ?_, rfl⟩
      rw [hstep]
      exact Does.trans hd (r1 := r) (c1 := c') hm' e3
    · rw [if_neg hc] at hstep
      have hc' : (codeE (runE r ((imgO i ac).take t)).1 ((imgO i ac)[t]'htE) != 0) = true := by simpa using hc
      refine .inr ?_
      have hfull : runE r (imgO i ac) = runE r ((imgO i ac).take (t + 1)) := by
        conv => lhs; rw [← List.take_append_drop (t + 1) (imgO i ac), runE_append, hstep]
        simp only
        rw [if_neg hc, hstep]
      rw [addE_no hc] at e3
      have e4 : Does m lv a a' ver l c (runE r ((imgO i ac).take t)).1 m2 := Does.trans hd (r1 := r) (c1 := c') hm' e3
      rw [hfull, hstep]
      generalize codeE (runE r ((imgO i ac).take t)).1 ((imgO i ac)[t]'htE) = cc at *
      simp [cx119, Cd.inner, Cd.body, S119, hti, htK, htK', gK, gK2, h109, h108, e1, hw1, hc', EndsL, hlv, hlv2]
      simpa using e4
  · rintro S ⟨_, hz, m', hD, rfl⟩
    have h6 : (imgO i ac).take 6 = imgO i ac := rfl
    rw [h6] at hz hD
    simp [cx119, Cd.inner, Cd.body, S119, EndsL]
    exact ⟨hz, hD⟩
include hd hs in
theorem appx119 : ∃ m', app E false (.fn 119 []) [.ptr lv a [] 0, .int .i64 i, .int .i64 ac] m = some (.int .i64 (runE r (imgO i ac)).2, emptyBag, m') ∧ Does m lv a a' ver l c (runE r (imgO i ac)).1 m' := by
  have hlt := hd.lv_lt
  have hlv : lv ≠ m.length := by omega
  have h1 := appk'
  obtain ⟨e, ⟨f', tops', own', dead', m'⟩, q1, q2, q3⟩ := loop119 hd hs i ac (st := ⟨[(13, .int .i64 0), (12, .int .i64 6), (11, .lst none false 1 (Ks kndL)), (6, .int .i64 0), (0, .ptr lv a [] 0), (1, .int .i64 i), (2, .int .i64 ac)], [], [], [], m⟩) (by simp [S119, hlv])
  simp only [cx119, Cd.inner, Cd.body] at q1
  have hl6 : (Ks kndL).length = 6 := rfl
  have hl6' : kndL.length = 6 := rfl
  rcases q3 with ⟨rfl, hz, ho, hD⟩ | ⟨rfl, hg, hD⟩
  · simp only at ho hD
    subst ho
    refine ⟨m', ?_, hD⟩
    rw [app_fn E rfl hx119 rfl]
    rw [hz]
    simp [cx119, h1, hl6, hl6', q1]
  · simp only at hg hD
    refine ⟨m', ?_, hD⟩
    rw [app_fn E rfl hx119 rfl]
    generalize (runE r (imgO i ac)).2 = w at *
    simp [cx119, h1, hl6, hl6', q1, hg]
end
end Go.Proofs.Ytmffcpiffkclgaa.ZJM.DC

set_option linter.unusedSimpArgs false
set_option linter.unusedVariables false
set_option maxRecDepth 10000
namespace Go.Proofs.Ytmffcpiffkclgaa.ZJM.DC
open Go.Proofs.Ytmffcpiffkclgaa.ZJM Go.RowKit

def imgT : Ent := ⟨8192, 7, 8, 3, 0, 40, []⟩
theorem imgN_eq : imgN = imgO 8192 3 ++ ([imgT] ++ (imgO 8448 1 ++ imgO 8704 3)) := rfl
theorem runE_one (r : RD) (e : Ent) : runE r [e] = (addE r e, codeE r e) := by
  by_cases h : codeE r e = 0
  · rw [runE_ok h, h]; rfl
  · rw [runE_no h, addE_no h]
section
variable {m : Mem} {lv a a' ver : Nat} {l : List Row} {c : Int} (hd : DA m lv a a' ver l c) {r : RD} (hs : Sim l c r)
include hd hs
theorem appx49 : ∃ m', app E false (.fn 49 []) [.ptr lv a [] 0] m = some (.int .i64 (runE r imgN).2, emptyBag, m') ∧ Does m lv a a' ver l c (runE r imgN).1 m' := by
  have hnil : Bl true [] = .lst none true 1 [] := rfl
  rw [imgN_eq]
  obtain ⟨m1, e1, e2⟩ := appx119 (hd.cons []) hs 8192 3
  obtain ⟨m2, rfl, hD1⟩ := e2.cons hd
  by_cases hc1 : (runE r (imgO 8192 3)).2 = 0
  case neg =>
    have hc1' : ((runE r (imgO 8192 3)).2 != 0) = true := by simpa using hc1
    rw [runE_bad hc1]
    refine ⟨m2, ?_, hD1⟩
    rw [app_fn E rfl hx49 rfl]
    generalize (runE r (imgO 8192 3)).2 = w at *
    simp [cx49, e1, hc1']
  rw [hc1] at e1
  rw [runE_good hc1]
  generalize (runE r (imgO 8192 3)).1 = r1 at *
  obtain ⟨v1, l1, c1, hd1, hs1, hl1, hm1⟩ := hD1.da hd
  obtain ⟨m3, f1, f2⟩ := do_add (hd1.cons []) hs1 8192 7 8 3 0 40 true [] (fun x hx => by cases hx) (fun _ => rfl)
  obtain ⟨m4, rfl, f3⟩ := f2.cons hd1
  have hD2 := Does.trans hd (r1 := r1) (c1 := c1) hm1 f3
  have hcT : codeE r1 imgT = addRC r1 8192 7 8 3 0 40 [] := rfl
  have haT : addE r1 imgT = addR r1 8192 7 8 3 0 40 [] := rfl
  rw [← hcT, hnil] at f1
  rw [← haT] at hD2
  by_cases hc2 : codeE r1 imgT = 0
  case neg =>
    have hc2' : (codeE r1 imgT != 0) = true := by simpa using hc2
    have : (runE r1 [imgT]).2 ≠ 0 := by rw [runE_one]; exact hc2
    rw [runE_bad this, runE_one]
    refine ⟨m4, ?_, hD2⟩
    rw [app_fn E rfl hx49 rfl]
    generalize codeE r1 imgT = w at *
    simp [cx49, e1, f1, hc2']
  rw [hc2] at f1
  rw [runE_good (by rw [runE_one]; exact hc2), runE_one]
  generalize addE r1 imgT = r2 at *
  obtain ⟨v2, l2, c2, hd2, hs2, hl2, hm2⟩ := hD2.da hd
  obtain ⟨m5, g1, g2⟩ := appx119 (hd2.cons []) hs2 8448 1
  obtain ⟨m6, rfl, g3⟩ := g2.cons hd2
  have hD3 := Does.trans hd (r1 := r2) (c1 := c2) hm2 g3
  by_cases hc3 : (runE r2 (imgO 8448 1)).2 = 0
  case neg =>
    have hc3' : ((runE r2 (imgO 8448 1)).2 != 0) = true := by simpa using hc3
    rw [runE_bad hc3]
    refine ⟨m6, ?_, hD3⟩
    rw [app_fn E rfl hx49 rfl]
    generalize (runE r2 (imgO 8448 1)).2 = w at *
    simp [cx49, e1, f1, g1, hc3']
  rw [hc3] at g1
  rw [runE_good hc3]
  generalize (runE r2 (imgO 8448 1)).1 = r3 at *
  obtain ⟨v3, l3, c3, hd3, hs3, hl3, hm3⟩ := hD3.da hd
  obtain ⟨m7, k1, k2⟩ := appx119 (hd3.cons []) hs3 8704 3
  obtain ⟨m8, rfl, k3⟩ := k2.cons hd3
  refine ⟨m8, ?_, Does.trans hd (r1 := r3) (c1 := c3) hm3 k3⟩
  rw [app_fn E rfl hx49 rfl]
  generalize (runE r3 (imgO 8704 3)).2 = w at *
  simp [cx49, e1, f1, g1, k1]
end
def rImg : RD := ⟨false, imgR, 0⟩
theorem run_img : runE ⟨true, [], 0⟩ imgN = (rImg, 0) := by kernel_rfl
/-! ### ImageSlots -/
section
variable (i s s2 : Int) (LR : List Ent) (hLR : LR.length = 19) (hget : ∀ t, t < 19 → ∃ e : Ent, imgN[t]? = some e ∧ e.b = [] ∧ LR[t]? = some { e with b := zs (ksz e.k).toNat })
end
end Go.Proofs.Ytmffcpiffkclgaa.ZJM.DC
