/- The image: what must be whatever is asked. -/
import Derived.Test.YtmffcpiffkclgaaZE1
import Derived.Test.YtmffcpiffkclgaaZEM10
set_option linter.unusedSimpArgs false
set_option linter.unusedVariables false
set_option maxRecDepth 100000
namespace Go.Proofs.Ytmffcpiffkclgaa.ZJM.DC
open Go.Proofs.Ytmffcpiffkclgaa.ZJM Go.RowKit
theorem live32_ap : apply E 100 false (.fn 41 []) [] [] = some (.bool true, emptyBag, []) := by kernel_rfl
theorem live32 : app E false (.fn 41 []) [] [] = some (.bool true, emptyBag, []) := app_some.2 ⟨100, live32_ap⟩
end Go.Proofs.Ytmffcpiffkclgaa.ZJM.DC

set_option linter.unusedSimpArgs false
set_option linter.unusedVariables false
set_option maxRecDepth 10000
namespace Go.Proofs.Ytmffcpiffkclgaa.ZJM.DC
open Go.Proofs.Ytmffcpiffkclgaa.ZJM Go.RowKit

def kndL : List Int := [2, 3, 4, 6, 1, 5]
abbrev Ks (l : List Int) : List PV := encs (PV.int .i64) l
theorem ks_okns (l : List Int) (a b c) : PV.okns a b c (Ks l) = true := PV.datas_okns _ _ _ _ (encs_data fun x _ => rfl)
theorem ks_deps (l : List Int) (a) : PV.deps a (Ks l) = true := PV.datas_deps _ _ (encs_data fun x _ => rfl)
attribute [simp] ks_okns ks_deps
theorem appk : app E false (.fn 106 []) [] [] = some (.lst none false 1 (Ks kndL), emptyBag, []) := by
  rw [app_fn E rfl hx106 rfl]; simp [cx106, kndL]
theorem appk' : app E false (.fn 147 []) [] [] = some (.lst none false 1 (Ks kndL), emptyBag, []) := by
  rw [app_fn E rfl hx147 rfl]; simp [cx147, kndL]
/-- A slot of an object. -/
def slotA (i s : Int) : Slot × Bool := if s = 1 then (⟨i, 1, 8⟩, true) else if s = 2 then (⟨i, 2, 16⟩, true) else if s = 3 then (⟨i, 3, 32⟩, true) else if s = 4 then (⟨i, 4, 16⟩, true) else if s = 5 then (⟨i, 5, 8⟩, true) else if s = 6 then (⟨i, 6, 8⟩, true) else (⟨0, 0, 0⟩, false)
theorem slotA_no {i s : Int} (h : s < 1 ∨ 6 < s) : slotA i s = (⟨0, 0, 0⟩, false) := by
  unfold slotA
  rw [if_neg (by omega), if_neg (by omega), if_neg (by omega), if_neg (by omega), if_neg (by omega), if_neg (by omega)]
theorem appx105 (i s : Int) : app E false (.fn 105 []) [.int .i64 i, .int .i64 s] [] = some (.tup [(slotA i s).1.enc, .bool (slotA i s).2], emptyBag, []) := by
  have h1 := appk'
  have h100 := app100
  rw [app_fn E rfl hx105 rfl]
  by_cases h : s < 1 ∨ 6 < s
  · rw [slotA_no h]
    rcases h with h | h
    · simp [cx105, h1, h100, kndL, Slot.enc, h]
    · have h' : ¬ s < 1 := by omega
      simp [cx105, h1, h100, kndL, Slot.enc, h, h']
  · rcases (by omega : s = 1 ∨ s = 2 ∨ s = 3 ∨ s = 4 ∨ s = 5 ∨ s = 6) with rfl | rfl | rfl | rfl | rfl | rfl <;> simp [cx105, h1, h100, kndL, slotA, Slot.enc, ksz, wrap_id]
theorem appx43 (i s : Int) : app E false (.fn 43 []) [.int .i64 i, .int .i64 s] [] = some (.tup [(slotA i s).1.enc, .bool (slotA i s).2], emptyBag, []) := by
  have h1 := appk
  have h74 := app74
  rw [app_fn E rfl hx43 rfl]
  by_cases h : s < 1 ∨ 6 < s
  · rw [slotA_no h]
    rcases h with h | h
    · simp [cx43, h1, h74, kndL, Slot.enc, h]
    · have h' : ¬ s < 1 := by omega
      simp [cx43, h1, h74, kndL, Slot.enc, h, h']
  · rcases (by omega : s = 1 ∨ s = 2 ∨ s = 3 ∨ s = 4 ∨ s = 5 ∨ s = 6) with rfl | rfl | rfl | rfl | rfl | rfl <;> simp [cx43, h1, h74, kndL, slotA, Slot.enc, ksz, klo, khi, wrap_id]
theorem appx42 (s : Int) : app E false (.fn 42 []) [.int .i64 s] [] = some (.tup [(slotA 8192 s).1.enc, .bool (slotA 8192 s).2], emptyBag, []) := by
  have h1 := appx105 8192 s
  rw [app_fn E rfl hx42 rfl]
  generalize slotA 8192 s = x at *
  obtain ⟨x1, x2⟩ := x
  simp only [Slot.enc] at *
  simp [cx42, h1]
theorem appx44 (s : Int) : app E false (.fn 44 []) [.int .i64 s] [] = some (.tup [(slotA 8448 s).1.enc, .bool (slotA 8448 s).2], emptyBag, []) := by
  have h1 := appx105 8448 s
  rw [app_fn E rfl hx44 rfl]
  generalize slotA 8448 s = x at *
  obtain ⟨x1, x2⟩ := x
  simp only [Slot.enc] at *
  simp [cx44, h1]
def progA (i s : Int) : Bool := (slotA 8192 s).2 && ((slotA 8192 s).1.i == i && (slotA 8192 s).1.s == s)
theorem appx45 (i s : Int) : app E false (.fn 45 []) [ky i s] [] = some (.bool (progA i s), emptyBag, []) := by
  have h1 := appx42 s
  rw [app_fn E rfl hx45 rfl]
  unfold progA
  generalize slotA 8192 s = x at *
  obtain ⟨x1, x2⟩ := x
  simp only [Slot.enc] at *
  cases x2 <;> simp [cx45, h1]
/-! ### entries -/
def imgO (i a : Int) : List Ent := [⟨i, 1, 2, a, 0, 255, []⟩, ⟨i, 2, 3, a, 0, 65535, []⟩, ⟨i, 3, 4, a, 0, 4294967295, []⟩, ⟨i, 4, 6, a, -32768, 32767, []⟩, ⟨i, 5, 1, a, 0, 1, []⟩, ⟨i, 6, 5, a, -128, 127, []⟩]
def imgN : List Ent := imgO 8192 3 ++ ([⟨8192, 7, 8, 3, 0, 40, []⟩] ++ (imgO 8448 1 ++ imgO 8704 3))
def imgR : List Ent := imgN.map fun e => { e with b := zs (ksz e.k).toNat }
theorem appx48_ap : apply E 60 false (.fn 48 []) [] [] = some (El false imgR, emptyBag, []) := by kernel_rfl
theorem appx48 : app E false (.fn 48 []) [] [] = some (El false imgR, emptyBag, []) := app_some.2 ⟨_, appx48_ap⟩
section
variable {m : Mem} {lv a a' ver : Nat} {l : List Row} {c : Int} (hd : DA m lv a a' ver l c) {r : RD} (hs : Sim l c r) (i ac : Int)
def S119 (lv a : Nat) (i ac : Int) (t : Nat) (m' : Mem) : St := ⟨[(0, .ptr lv a [] 0), (1, .int .i64 i), (2, .int .i64 ac), (11, .lst none false 1 (Ks kndL)), (12, .int .i64 6), (13, .int .i64 t)], [], [], [], m'⟩
theorem imgO_get (i a : Int) (t : Nat) (ht : t < 6) : ∃ k, kndL[t]? = some k ∧ (imgO i a)[t]? = some ⟨i, (t : Int) + 1, k, a, klo k, khi k, []⟩ := by
  rcases (by omega : t = 0 ∨ t = 1 ∨ t = 2 ∨ t = 3 ∨ t = 4 ∨ t = 5) with rfl | rfl | rfl | rfl | rfl | rfl <;> exact ⟨_, rfl, rfl⟩
include hd hs in
theorem loop119 {st : St} (h0 : maskSt [0, 1, 2, 11, 12, 13] [] [] [] st = some (S119 lv a i ac 0 m)) :
    ∃ e st', loopW (maskSt [0, 1, 2, 11, 12, 13] [] [] []) (Cd.run (app E) cx119.body.inner.body) st = some (e, st') ∧ e ≠ .normal ∧
      ((e = .exit 0 ∧ (runE r (imgO i ac)).2 = 0 ∧ st'.own = [] ∧ Does m lv a a' ver l c (runE r (imgO i ac)).1 st'.m) ∨ (e = .ret ∧ get st'.f 6 = some (.int .i64 (runE r (imgO i ac)).2) ∧ Does m lv a a' ver l c (runE r (imgO i ac)).1 st'.m)) := by
  refine loop_inv (fun t S => t ≤ 6 ∧ (runE r ((imgO i ac).take t)).2 = 0 ∧ ∃ m', Does m lv a a' ver l c (runE r ((imgO i ac).take t)).1 m' ∧ S = S119 lv a i ac t m') 6 _ h0 ⟨Nat.zero_le _, rfl, m, does_none hd hs, rfl⟩ ?_ ?_
  · rintro t S ht ⟨_, hz, m', hD, rfl⟩
    have hti : (t : Int) < 6 := by omega
    have hwp := wrap_succ t (by omega)
    obtain ⟨v', l', c', hd', hs', hlen, hm'⟩ := hD.da hd
    have hlt := hd'.lv_lt
    have hlv : lv ≠ m'.length := by omega
    obtain ⟨k, gk, gE⟩ := imgO_get i ac t ht
    have hl6 : (imgO i ac).length = 6 := rfl
    have htE : t < (imgO i ac).length := by omega
    have gE' : ((imgO i ac)[t]'htE) = ⟨i, (t : Int) + 1, k, ac, klo k, khi k, []⟩ := (List.getElem?_eq_some_iff.1 gE).2
    have gK : (Ks kndL)[t]? = some (.int .i64 k) := by simp [encs, gk]
    have gK2 : ∀ h, (Ks kndL)[t]'h = .int .i64 k := fun h => (List.getElem?_eq_some_iff.1 gK).2
    have htK : t < (Ks kndL).length := by rw [encs_len]; exact ht
    have htK' : t < kndL.length := ht
    obtain ⟨m1, e1, e2⟩ := do_add (hd'.cons [(9, [.int .i64 k, .int .i64 ac, .int .i64 (klo k), .int .i64 (khi k)])]) hs' i ((t : Int) + 1) k ac (klo k) (khi k) true [] (fun x hx => by cases hx) (fun _ => rfl)
    obtain ⟨m2, rfl, e3⟩ := e2.cons hd'
    have hlen2 : m2.length = m'.length := by obtain ⟨_, _, _, _, _, q, _⟩ := e3.da hd'; exact q
    have hlv2 : lv ≠ m2.length := by omega
    have hstep := runE_snoc r ((imgO i ac).take t) ((imgO i ac)[t]'htE) hz
    have hts := take_succ' (imgO i ac) t htE
    rw [← hts] at hstep
    have hce : codeE (runE r ((imgO i ac).take t)).1 ((imgO i ac)[t]'htE) = addRC (runE r ((imgO i ac).take t)).1 i ((t : Int) + 1) k ac (klo k) (khi k) [] := by rw [gE']; rfl
    have hae : addE (runE r ((imgO i ac).take t)).1 ((imgO i ac)[t]'htE) = addR (runE r ((imgO i ac).take t)).1 i ((t : Int) + 1) k ac (klo k) (khi k) [] := by rw [gE']; rfl
    rw [← hce, show Bl true [] = .lst none true 1 [] from rfl] at e1
    rw [← hae] at e3
    have h109 := app109 k
    have h108 := app108 k
    have hw1 : IntKind.i64.wrap ((t : Int) + 1) = (t : Int) + 1 := wrap_id _ (by omega) (by omega)
    by_cases hc : codeE (runE r ((imgO i ac).take t)).1 ((imgO i ac)[t]'htE) = 0
    · rw [if_pos hc] at hstep
      rw [hc] at e1
      have hG : Goes (maskSt [0, 1, 2, 11, 12, 13] [] [] []) (S119 lv a i ac (t + 1) m2) (Cd.run (app E) cx119.body.inner.body (S119 lv a i ac t m')) := by
        simp [cx119, Cd.inner, Cd.body, S119, hti, htK, htK', gK, gK2, h109, h108, e1, hw1, hlv, hlv2]
      obtain ⟨st2, q1, q2⟩ := hG.get
      refine .inl ⟨st2, _, q1, q2, by omega, by rw [hstep], m2, ?_, rfl⟩
      rw [hstep]
      exact Does.trans hd (r1 := r) (c1 := c') hm' e3
    · rw [if_neg hc] at hstep
      have hc' : (codeE (runE r ((imgO i ac).take t)).1 ((imgO i ac)[t]'htE) != 0) = true := by simpa using hc
      refine .inr ?_
      have hfull : runE r (imgO i ac) = runE r ((imgO i ac).take (t + 1)) := by
        conv => lhs; rw [← List.take_append_drop (t + 1) (imgO i ac), runE_append, hstep]
        simp only
        rw [if_neg hc, hstep]
      rw [addE_no hc] at e3
      have e4 : Does m lv a a' ver l c (runE r ((imgO i ac).take t)).1 m2 := Does.trans hd (r1 := r) (c1 := c') hm' e3
      rw [hfull, hstep]
      generalize codeE (runE r ((imgO i ac).take t)).1 ((imgO i ac)[t]'htE) = cc at *
      simp [cx119, Cd.inner, Cd.body, S119, hti, htK, htK', gK, gK2, h109, h108, e1, hw1, hc', EndsL, hlv, hlv2]
      simpa using e4
  · rintro S ⟨_, hz, m', hD, rfl⟩
    have h6 : (imgO i ac).take 6 = imgO i ac := rfl
    rw [h6] at hz hD
    simp [cx119, Cd.inner, Cd.body, S119, EndsL]
    exact ⟨hz, hD⟩
include hd hs in
theorem appx119 : ∃ m', app E false (.fn 119 []) [.ptr lv a [] 0, .int .i64 i, .int .i64 ac] m = some (.int .i64 (runE r (imgO i ac)).2, emptyBag, m') ∧ Does m lv a a' ver l c (runE r (imgO i ac)).1 m' := by
  have hlt := hd.lv_lt
  have hlv : lv ≠ m.length := by omega
  have h1 := appk'
  obtain ⟨e, ⟨f', tops', own', dead', m'⟩, q1, q2, q3⟩ := loop119 hd hs i ac (st := ⟨[(13, .int .i64 0), (12, .int .i64 6), (11, .lst none false 1 (Ks kndL)), (6, .int .i64 0), (0, .ptr lv a [] 0), (1, .int .i64 i), (2, .int .i64 ac)], [], [], [], m⟩) (by simp [S119, hlv])
  simp only [cx119, Cd.inner, Cd.body] at q1
  have hl6 : (Ks kndL).length = 6 := rfl
  have hl6' : kndL.length = 6 := rfl
  rcases q3 with ⟨rfl, hz, ho, hD⟩ | ⟨rfl, hg, hD⟩
  · simp only at ho hD
    subst ho
    refine ⟨m', ?_, hD⟩
    rw [app_fn E rfl hx119 rfl]
    rw [hz]
    simp [cx119, h1, hl6, hl6', q1]
  · simp only at hg hD
    refine ⟨m', ?_, hD⟩
    rw [app_fn E rfl hx119 rfl]
    generalize (runE r (imgO i ac)).2 = w at *
    simp [cx119, h1, hl6, hl6', q1, hg]
end
end Go.Proofs.Ytmffcpiffkclgaa.ZJM.DC

set_option linter.unusedSimpArgs false
set_option linter.unusedVariables false
set_option maxRecDepth 10000
namespace Go.Proofs.Ytmffcpiffkclgaa.ZJM.DC
open Go.Proofs.Ytmffcpiffkclgaa.ZJM Go.RowKit

def imgT : Ent := ⟨8192, 7, 8, 3, 0, 40, []⟩
theorem imgN_eq : imgN = imgO 8192 3 ++ ([imgT] ++ (imgO 8448 1 ++ imgO 8704 3)) := rfl
theorem runE_one (r : RD) (e : Ent) : runE r [e] = (addE r e, codeE r e) := by
  by_cases h : codeE r e = 0
  · rw [runE_ok h, h]; rfl
  · rw [runE_no h, addE_no h]
section
variable {m : Mem} {lv a a' ver : Nat} {l : List Row} {c : Int} (hd : DA m lv a a' ver l c) {r : RD} (hs : Sim l c r)
include hd hs
theorem appx49 : ∃ m', app E false (.fn 49 []) [.ptr lv a [] 0] m = some (.int .i64 (runE r imgN).2, emptyBag, m') ∧ Does m lv a a' ver l c (runE r imgN).1 m' := by
  have hnil : Bl true [] = .lst none true 1 [] := rfl
  rw [imgN_eq]
  obtain ⟨m1, e1, e2⟩ := appx119 (hd.cons []) hs 8192 3
  obtain ⟨m2, rfl, hD1⟩ := e2.cons hd
  by_cases hc1 : (runE r (imgO 8192 3)).2 = 0
  case neg =>
    have hc1' : ((runE r (imgO 8192 3)).2 != 0) = true := by simpa using hc1
    rw [runE_bad hc1]
    refine ⟨m2, ?_, hD1⟩
    rw [app_fn E rfl hx49 rfl]
    generalize (runE r (imgO 8192 3)).2 = w at *
    simp [cx49, e1, hc1']
  rw [hc1] at e1
  rw [runE_good hc1]
  generalize (runE r (imgO 8192 3)).1 = r1 at *
  obtain ⟨v1, l1, c1, hd1, hs1, hl1, hm1⟩ := hD1.da hd
  obtain ⟨m3, f1, f2⟩ := do_add (hd1.cons []) hs1 8192 7 8 3 0 40 true [] (fun x hx => by cases hx) (fun _ => rfl)
  obtain ⟨m4, rfl, f3⟩ := f2.cons hd1
  have hD2 := Does.trans hd (r1 := r1) (c1 := c1) hm1 f3
  have hcT : codeE r1 imgT = addRC r1 8192 7 8 3 0 40 [] := rfl
  have haT : addE r1 imgT = addR r1 8192 7 8 3 0 40 [] := rfl
  rw [← hcT, hnil] at f1
  rw [← haT] at hD2
  by_cases hc2 : codeE r1 imgT = 0
  case neg =>
    have hc2' : (codeE r1 imgT != 0) = true := by simpa using hc2
    have : (runE r1 [imgT]).2 ≠ 0 := by rw [runE_one]; exact hc2
    rw [runE_bad this, runE_one]
    refine ⟨m4, ?_, hD2⟩
    rw [app_fn E rfl hx49 rfl]
    generalize codeE r1 imgT = w at *
    simp [cx49, e1, f1, hc2']
  rw [hc2] at f1
  rw [runE_good (by rw [runE_one]; exact hc2), runE_one]
  generalize addE r1 imgT = r2 at *
  obtain ⟨v2, l2, c2, hd2, hs2, hl2, hm2⟩ := hD2.da hd
  obtain ⟨m5, g1, g2⟩ := appx119 (hd2.cons []) hs2 8448 1
  obtain ⟨m6, rfl, g3⟩ := g2.cons hd2
  have hD3 := Does.trans hd (r1 := r2) (c1 := c2) hm2 g3
  by_cases hc3 : (runE r2 (imgO 8448 1)).2 = 0
  case neg =>
    have hc3' : ((runE r2 (imgO 8448 1)).2 != 0) = true := by simpa using hc3
    rw [runE_bad hc3]
    refine ⟨m6, ?_, hD3⟩
    rw [app_fn E rfl hx49 rfl]
    generalize (runE r2 (imgO 8448 1)).2 = w at *
    simp [cx49, e1, f1, g1, hc3']
  rw [hc3] at g1
  rw [runE_good hc3]
  generalize (runE r2 (imgO 8448 1)).1 = r3 at *
  obtain ⟨v3, l3, c3, hd3, hs3, hl3, hm3⟩ := hD3.da hd
  obtain ⟨m7, k1, k2⟩ := appx119 (hd3.cons []) hs3 8704 3
  obtain ⟨m8, rfl, k3⟩ := k2.cons hd3
  refine ⟨m8, ?_, Does.trans hd (r1 := r3) (c1 := c3) hm3 k3⟩
  rw [app_fn E rfl hx49 rfl]
  generalize (runE r3 (imgO 8704 3)).2 = w at *
  simp [cx49, e1, f1, g1, k1]
end
theorem appx49_nil (m : Mem) : app E false (.fn 49 []) [.nilp] m = some (.int .i64 1, emptyBag, m) := by
  rw [app_fn E rfl hx49 rfl]; simp [cx49]
theorem appx50_nil (m : Mem) (i s n : Int) : app E false (.fn 50 []) [.nilp, ky i s, .int .i64 n] m = some (.int .i64 1, emptyBag, m) := by
  rw [app_fn E rfl hx50 rfl]; simp [cx50]
theorem imgR_len : imgR.length = 19 := by kernel_rfl
theorem imgN_len : imgN.length = 19 := by kernel_rfl
theorem imgR_get (t : Nat) (ht : t < 19) : ∃ e : Ent, imgN[t]? = some e ∧ e.b = [] ∧ imgR[t]? = some { e with b := zs (ksz e.k).toNat } := by
  have h1 : t < imgN.length := by rw [imgN_len]; exact ht
  refine ⟨imgN[t], List.getElem?_eq_getElem h1, ?_, by rw [imgR, List.getElem?_map, List.getElem?_eq_getElem h1]; rfl⟩
  have hall : ∀ e ∈ imgN, e.b = [] := by
    have : (imgN.all fun e => e.b == []) = true := by kernel_rfl
    intro e he
    simpa using List.all_eq_true.1 this e he
  exact hall _ (List.getElem_mem h1)
/-! ### ImageSlots -/
section
variable (i s s2 : Int) (LR : List Ent) (hLR : LR.length = 19) (hget : ∀ t, t < 19 → ∃ e : Ent, imgN[t]? = some e ∧ e.b = [] ∧ LR[t]? = some { e with b := zs (ksz e.k).toNat })
def own8 (i s : Int) (r : RD) (ver : Nat) (rows : List Row) (c : Int) : Lvl := [(5, [.int .i64 i, .int .i64 s]), (20, [El r.nl r.l, .int .i64 r.c]), (1000000000, [.ptr 0 1000000001 [] 0, .int .i64 c]), (1000000001, [shC ver rows])]
def S8 (i s n : Int) (LR : List Ent) (t : Nat) (w : RD × Int) (ver : Nat) (rows : List Row) (c : Int) : St := ⟨[(3, .int .i64 n), (5, .ptr 0 5 [] 0), (19, .ptr 0 1000000000 [] 0), (20, .ptr 0 20 [] 0), (21, .int .i64 w.2), (22, El false LR), (23, .int .i64 t)], [], own8 i s w.1 ver rows c, [], []⟩
set_option maxHeartbeats 1000000 in
include hLR hget in
theorem loop8 (n : Int) (ver : Nat) (rows : List Row) (c : Int) (r1 : RD) (hr1 : r1.l.length ≤ 1) {st : St} (h0 : maskSt [3, 5, 19, 20, 21, 22, 23] [5, 20] [] [19] st = some (S8 i s n LR 0 (r1, 0) ver rows c)) :
    ∃ e st', loopW (maskSt [3, 5, 19, 20, 21, 22, 23] [5, 20] [] [19]) (Cd.run (app E) cx8.body.inner.body) st = some (e, st') ∧ e ≠ .normal ∧
      (e = .exit 0 ∧ get st'.f 3 = some (.int .i64 n) ∧ get st'.f 5 = some (.ptr 0 5 [] 0) ∧ get st'.f 19 = some (.ptr 0 1000000000 [] 0) ∧ get st'.f 20 = some (.ptr 0 20 [] 0) ∧ get st'.f 21 = some (.int .i64 (runE r1 imgN).2) ∧ st'.m = [] ∧ st'.tops = [] ∧ st'.dead = [] ∧ st'.own = own8 i s (runE r1 imgN).1 ver rows c) := by
  have hNl := imgN_len
  have s1 := fun lv => shC_names lv ver rows
  have s2 := fun a b ρ => shC_ren a b ρ ver rows
  have s3 := fun a ks ts => shC_okn a ks ts ver rows
  have s4 := shC_rec ver rows
  refine loop_inv (fun t S => t ≤ 19 ∧ S = S8 i s n LR t (runE r1 (imgN.take t)) ver rows c) 19 _ h0 ⟨Nat.zero_le _, rfl⟩ ?_ ?_
  · rintro t S ht ⟨_, rfl⟩
    have hti : (t : Int) < LR.length := by omega
    have htN : t < LR.length := by omega
    have hw := wrap_succ t (by omega)
    obtain ⟨e, gN, hb, gR⟩ := hget t ht
    have htI : t < imgN.length := by omega
    by_cases hz : (runE r1 (imgN.take t)).2 = 0
    · have hst := runE_snoc r1 (imgN.take t) e hz
      have hts : imgN.take (t + 1) = imgN.take t ++ [e] := by
        rw [take_succ' imgN t htI]
        congr 2
        exact (List.getElem?_eq_some_iff.1 gN).2
      rw [← hts] at hst
      have hlen := runE_len r1 (imgN.take t)
      rw [List.length_take] at hlen
      have hst2 : runE r1 (imgN.take (t + 1)) = (addE (runE r1 (imgN.take t)).1 e, codeE (runE r1 (imgN.take t)).1 e) := by
        rw [hst]
        by_cases q : codeE (runE r1 (imgN.take t)).1 e = 0
        · rw [if_pos q, q]
        · rw [if_neg q, addE_no q]
      have hw0 : runE r1 (imgN.take t) = ((runE r1 (imgN.take t)).1, 0) := Prod.ext rfl hz
      have h12 : app E false (.fn 47 []) [(runE r1 (imgN.take t)).1.pv, ky e.i e.s, sp e.k e.a e.l e.h, Bl true []] [] = some (.tup [(addE (runE r1 (imgN.take t)).1 e).pv, .int .i64 (codeE (runE r1 (imgN.take t)).1 e)], emptyBag, []) := by
        have := app12 (runE r1 (imgN.take t)).1 (by omega) e.i e.s e.k e.a e.l e.h true [] (fun x hx => by cases hx)
        rw [← hb] at this
        rw [addE, codeE]
        have hbb : Bl true e.b = Bl true [] := by rw [hb]
        rw [hbb] at this
        exact this
      have gE : (Es LR)[t]? = some (Ent.enc { e with b := zs (ksz e.k).toNat }) := by
        rw [List.getElem?_eq_getElem (by rw [encs_len]; exact htN), es_getE]
        rw [List.getElem?_eq_getElem htN] at gR
        rw [Option.some.inj gR]
      have gE2 : ∀ h, (Es LR)[t]'h = Ent.enc { e with b := zs (ksz e.k).toNat } := fun h => (List.getElem?_eq_some_iff.1 gE).2
      refine .inl ?_
      have hG : Goes (maskSt [3, 5, 19, 20, 21, 22, 23] [5, 20] [] [19]) (S8 i s n LR (t + 1) (runE r1 (imgN.take (t + 1))) ver rows c) (Cd.run (app E) cx8.body.inner.body (S8 i s n LR t (runE r1 (imgN.take t)) ver rows c)) := by
        rw [hst2, hw0]
        rw [show Bl true [] = .lst none true 1 [] from rfl] at h12
        generalize (runE r1 (imgN.take t)).1 = r0 at *
        by_cases q : codeE r0 e = 0
        · rw [q] at h12 ⊢
          generalize addE r0 e = r2 at *
          have hrn := fun a b ρ => es_rens r2.l a b ρ
          have hrn0 := fun a b ρ => es_rens r0.l a b ρ
          simp only [RD.pv] at h12
          simp only [S8, own8]
          generalize shC ver rows = SS at *
          simp [cx8, Cd.inner, Cd.body, hti, htN, gE, gE2, Ent.enc, Ent.cs, h12, hw, s1, s2, s3, s4]
        · have q' : (codeE r0 e == 0) = false := by simpa using q
          have hsame := addE_no q
          rw [hsame] at h12 ⊢
          generalize codeE r0 e = cc at *
          simp only [RD.pv] at h12
          simp only [S8, own8]
          generalize shC ver rows = SS at *
          simp [cx8, Cd.inner, Cd.body, hti, htN, gE, gE2, Ent.enc, Ent.cs, h12, q', hw, s1, s2, s3, s4]
      obtain ⟨st2, q1, q2⟩ := hG.get
      exact ⟨st2, _, q1, q2, by omega, rfl⟩
    · have hz' : ((runE r1 (imgN.take t)).2 == 0) = false := by simpa using hz
      have hfull : runE r1 imgN = runE r1 (imgN.take t) := by
        conv => lhs; rw [← List.take_append_drop t imgN]
        rw [runE_bad hz]
      rw [hfull]
      refine .inr ?_
      generalize runE r1 (imgN.take t) = w at *
      simp [cx8, Cd.inner, Cd.body, S8, hti, hz', EndsL]
  · rintro S ⟨_, rfl⟩
    have h19 : imgN.take 19 = imgN := rfl
    rw [h19]
    generalize runE r1 imgN = w at *
    simp [cx8, Cd.inner, Cd.body, S8, hLR, EndsL]
end
end Go.Proofs.Ytmffcpiffkclgaa.ZJM.DC
