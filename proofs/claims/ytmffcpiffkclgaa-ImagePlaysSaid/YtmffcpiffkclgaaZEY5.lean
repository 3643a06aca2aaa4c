/- The image: Release, Fall, IsSafe, Write; the document's Release; Laid; one deed. -/
import Derived.Test.YtmffcpiffkclgaaZEY1
import Derived.Test.YtmffcpiffkclgaaZEU1
set_option linter.unusedSimpArgs false
set_option linter.unusedVariables false
set_option maxRecDepth 10000
namespace Go.Proofs.Ytmffcpiffkclgaa.ZJM.DC
open Go.Proofs.Ytmffcpiffkclgaa.ZJM Go.RowKit

def relC (r : RD) (f : Nat → Int) (b : List Int) : Int := if fitsI r f = true then unpC r b (LF f) else 14
def relR (r : RD) (f : Nat → Int) (b : List Int) : RD := if fitsI r f = true then unpR r b (LF f) else r
section
variable {m : Mem} {lv a a' ver : Nat} {l : List Row} {c : Int} (hd : DA m lv a a' ver l c) {r : RD} (hs : Sim l c r) (f : Nat → Int)
def own52 (f : Nat → Int) (lv a : Nat) (nb : Bool) (b : List Int) : Lvl := [(5, [Bl nb b]), (4, CF f 30), (3, [.ptr lv a [] 0])]
include hd hs in
theorem appx52 (nb : Bool) (b : List Int) (hb : OkB b) (hn : nb = true → b = []) : ∃ m', app E false (.fn 52 []) [.ptr lv a [] 0, .agg (CF f 30), Bl nb b] m = some (.int .i64 (relC r f b), emptyBag, m') ∧ Does m lv a a' ver l c (relR r f b) m' := by
  have hlt := hd.lv_lt
  have hlv : lv ≠ m.length := by omega
  have hlv1 : lv ≠ m.length + 1 := by omega
  have hlv2 : lv ≠ m.length + 2 := by omega
  have hn2 : ¬ m.length = m.length + 1 + 1 := by omega
  have hd2 := hd.cons (own52 f lv a nb b)
  have hob := fun a b' c => bs_okns b a b' c
  have hdb := fun a => bs_deps b a
  cases hf : fitsI r f with
  | false =>
    have e := appx100_no hd2 hs f hf 121 m.length 3 m.length 5 (by simp) (by simp)
    have h1 : relC r f b = 14 := by rw [relC, hf]; rfl
    have h2 : relR r f b = r := by rw [relR, hf]; rfl
    rw [h1, h2]
    refine ⟨m, ?_, does_none hd hs⟩
    rw [app_fn E rfl hx52 rfl]
    simp only [own52, Bl] at *
    generalize Bs b = BB at *
    simp [-isPlace, -moves, cx52, e, hlv, hob, hdb]
  | true =>
    obtain ⟨m1, e1, e2⟩ := app51 ((hd2.cons [(4, CF f 30)]).cons []) hs nb false (LF f) b hb hn
    obtain ⟨m2, rfl, e3⟩ := e2.cons (hd2.cons _)
    obtain ⟨m3, rfl, e4⟩ := e3.cons hd2
    obtain ⟨m4, rfl, e5⟩ := e4.cons hd
    have hlen : m4.length = m.length := by obtain ⟨_, _, _, _, _, q, _⟩ := e5.da hd; exact q
    have h1 : relC r f b = unpC r b (LF f) := by rw [relC, if_pos hf]
    have h2 : relR r f b = unpR r b (LF f) := by rw [relR, if_pos hf]
    have hok := fun a b c => ss_okns (LF f) a b c
    have e121 : app E false (.fn 121 [.ptr m.length 3 [] 0, .ptr m.length 5 [] 0]) [Sl false (LF f)] ([(4, CF f 30)] :: own52 f lv a nb b :: m) = some (.int .i64 (unpC r b (LF f)), emptyBag, [(4, CF f 30)] :: own52 f lv a nb b :: m4) := by
      rw [app_fn E rfl hx121 rfl]
      generalize unpC r b (LF f) = w at *
      simp only [own52, Bl, Sl] at *
      generalize Ss (LF f) = SL at *
      generalize Bs b = BB at *
      simp [-isPlace, -moves, cx121, e1, hn2, hlv, hlv1, hlv2, hlen, hok, hob, hdb]
    have e := appx100 hd2 hs f hf 121 m.length 3 m.length 5 (by simp) (by simp) (m' := own52 f lv a nb b :: m4) (by simp [hlen]) e121
    rw [h1, h2]
    refine ⟨m4, ?_, e5⟩
    rw [app_fn E rfl hx52 rfl]
    generalize unpC r b (LF f) = w at *
    simp only [own52, Bl] at *
    generalize Bs b = BB at *
    simp [-isPlace, -moves, cx52, e, hlv, hlen, hob, hdb]
theorem sfB_byte (hs : Sim l c r) : OkB (sfB r f) := by
  unfold sfB
  split
  · exact safB_byte hs _
  · intro x hx; cases hx
include hd hs in
theorem valB_byte : OkB (valB r f) := by
  have := app37 hd hs false (LF f)
  cases hf : fitsI r f with
  | false => rw [valB, hf]; intro x hx; cases hx
  | true => rw [← (fits_pack hf).1]; exact this.2.1
include hd hs in
theorem appx54 : ∃ m', app E false (.fn 54 []) [.ptr lv a [] 0, .agg (CF f 30)] m = some (.int .i64 (relC r f (sfB r f)), emptyBag, m') ∧ Does m lv a a' ver l c (relR r f (sfB r f)) m' := by
  have hlt := hd.lv_lt
  have hlv : lv ≠ m.length := by omega
  have e1 := appx36 (hd.cons [(3, CF f 30)]) hs f
  have hob := fun a b' c => bs_okns (sfB r f) a b' c
  have hdb := fun a => bs_deps (sfB r f) a
  cases hf : fitsI r f with
  | false =>
    have h1 : relC r f (sfB r f) = 14 := by rw [relC, hf]; rfl
    have h2 : relR r f (sfB r f) = r := by rw [relR, hf]; rfl
    have h3 : valE r f = 14 := by rw [valE, hf]; rfl
    rw [h1, h2]
    rw [h3] at e1
    refine ⟨m, ?_, does_none hd hs⟩
    rw [app_fn E rfl hx54 rfl]
    simp only [Bl] at *
    generalize (sfB r f).isEmpty = em at *
    generalize Bs (sfB r f) = BB at *
    simp [-isPlace, -moves, cx54, e1, hlv, hob, hdb]
  | true =>
    obtain ⟨m1, e2, e3⟩ := appx52 (hd.cons [(3, CF f 30)]) hs f (sfB r f).isEmpty (sfB r f) (sfB_byte f hs) (fun h => List.isEmpty_iff.1 h)
    obtain ⟨m2, rfl, e4⟩ := e3.cons hd
    have hlen : m2.length = m.length := by obtain ⟨_, _, _, _, _, q, _⟩ := e4.da hd; exact q
    have h3 : valE r f = 0 := by rw [valE, hf]; rfl
    rw [h3] at e1
    refine ⟨m2, ?_, e4⟩
    rw [app_fn E rfl hx54 rfl]
    generalize relC r f (sfB r f) = w at *
    simp only [Bl] at *
    generalize (sfB r f).isEmpty = em at *
    generalize Bs (sfB r f) = BB at *
    simp [-isPlace, -moves, cx54, e1, e2, hlv, hlen, hob, hdb]
def isS (r : RD) (f : Nat → Int) : Bool := fitsI r f && decide (valB r f = sfB r f)
include hd hs in
theorem appx38 : app E false (.fn 38 []) [.ptr lv a [] 0, .agg (CF f 30)] m = some (.bool (isS r f), emptyBag, m) := by
  have hlt := hd.lv_lt
  have hlv : lv ≠ m.length := by omega
  have e1 := appx35 (hd.cons [(3, CF f 30)]) hs f
  have e2 := appx36 (hd.cons [(3, CF f 30)]) hs f
  have e3 := app111 (valB r f).isEmpty (sfB r f).isEmpty (valB r f) (sfB r f) (valB_byte hd hs f) (sfB_byte f hs)
  have hob := fun a b' c => bs_okns (sfB r f) a b' c
  have hdb := fun a => bs_deps (sfB r f) a
  have hov := fun a b' c => bs_okns (valB r f) a b' c
  have hdv := fun a => bs_deps (valB r f) a
  unfold isS
  rw [app_fn E rfl hx38 rfl]
  generalize decide (valB r f = sfB r f) = dq at *
  simp only [Bl] at *
  generalize (sfB r f).isEmpty = em at *
  generalize Bs (sfB r f) = BB at *
  generalize (valB r f).isEmpty = em2 at *
  generalize Bs (valB r f) = VV at *
  cases hf : fitsI r f with
  | false =>
    have h3 : valE r f = 14 := by rw [valE, hf]; rfl
    rw [h3] at e1 e2
    simp [-isPlace, -moves, cx38, e1, e2, e3, hlv, hob, hdb, hov, hdv]
  | true =>
    have h3 : valE r f = 0 := by rw [valE, hf]; rfl
    rw [h3] at e1 e2
    simp [-isPlace, -moves, cx38, e1, e2, e3, hlv, hob, hdb, hov, hdv]
def wrtC (r : RD) (i s n : Int) : Int := if progA i s = true then setC r i s n else 2
def wrtR (r : RD) (i s n : Int) : RD := if progA i s = true then setR r i s n else r
include hd hs in
theorem appx50 (i s n : Int) : ∃ m', app E false (.fn 50 []) [.ptr lv a [] 0, ky i s, .int .i64 n] m = some (.int .i64 (wrtC r i s n), emptyBag, m') ∧ Does m lv a a' ver l c (wrtR r i s n) m' := by
  have hlt := hd.lv_lt
  have hlv : lv ≠ m.length := by omega
  have h45 := appx45 i s
  cases hp : progA i s with
  | false =>
    rw [hp] at h45
    have h1 : wrtC r i s n = 2 := by rw [wrtC, hp]; rfl
    have h2 : wrtR r i s n = r := by rw [wrtR, hp]; rfl
    rw [h1, h2]
    refine ⟨m, ?_, does_none hd hs⟩
    rw [app_fn E rfl hx50 rfl]
    simp [cx50, h45, hlv]
  | true =>
    rw [hp] at h45
    have h1 : wrtC r i s n = setC r i s n := by rw [wrtC, if_pos hp]
    have h2 : wrtR r i s n = setR r i s n := by rw [wrtR, if_pos hp]
    rw [h1, h2]
    obtain ⟨m1, e1, e2⟩ := do_set (hd.cons [(4, [.int .i64 i, .int .i64 s])]) hs i s n
    obtain ⟨m2, rfl, e3⟩ := e2.cons hd
    have hlen : m2.length = m.length := by obtain ⟨_, _, _, _, _, q, _⟩ := e3.da hd; exact q
    refine ⟨m2, ?_, e3⟩
    rw [app_fn E rfl hx50 rfl]
    generalize setC r i s n = w at *
    simp [cx50, h45, hlv, e1, hlen]
end
theorem appx99 {rows : List Row} {ct : Int} {r : RD} (hs : Sim rows ct r) (f : Nat → Int) (nb : Bool) (b : List Int) (hb : OkB b) : app E false (.fn 99 []) [r.pv, .agg (CF f 30), Bl nb b] [] = some (.tup [(relR r f b).pv, .int .i64 (relC r f b)], emptyBag, []) := by
  have h37 := appx37 r hs.rok f
  have k5 := CF_get f 30 (k := 5) (by omega)
  have g4 := fun a => es_deps r.l a
  have g5 := fun a b c => es_okns r.l a b c
  have hob := fun a b' c => bs_okns b a b' c
  have hdb := fun a => bs_deps b a
  cases hf : fitsI r f with
  | false =>
    have h1 : relC r f b = 14 := by rw [relC, hf]; rfl
    have h2 : relR r f b = r := by rw [relR, hf]; rfl
    rw [h1, h2, app_fn E rfl hx99 rfl]
    rw [hf] at h37
    simp only [RD.pv, El, rd, Bl] at *
    generalize Es r.l = L0 at *
    generalize Bs b = BB at *
    simp [-isPlace, -moves, cx99, h37, g4, g5, hob, hdb]
  | true =>
    obtain ⟨hf0, hf8, _⟩ := fitsI_check hf
    have h12 := appx12 (r := r) (nb := nb) (b := b) (nl := false) (L := LF f) hs hb
    have h1 : relC r f b = unpC r b (LF f) := by rw [relC, if_pos hf]
    have h2 : relR r f b = unpR r b (LF f) := by rw [relR, if_pos hf]
    rw [h1, h2, app_fn E rfl hx99 rfl]
    rw [hf] at h37
    have hch := CF_LF f hf8
    have hdL := fun a => ss_deps (LF f) a
    generalize unpC r b (LF f) = w at *
    generalize unpR r b (LF f) = r2 at *
    have w4 := fun a => es_deps r2.l a
    have w5 := fun a b c => es_okns r2.l a b c
    simp only [RD.pv, El, rd, Bl, Sl] at *
    generalize Es r.l = L0 at *
    generalize Es r2.l = L2 at *
    generalize Bs b = BB at *
    generalize Ss (LF f) = SL at *
    simp [-isPlace, -moves, cx99, h37, h12, k5, hf0, hf8, hch, hdL, g4, g5, w4, w5, hob, hdb]
end Go.Proofs.Ytmffcpiffkclgaa.ZJM.DC

set_option linter.unusedSimpArgs false
set_option linter.unusedVariables false
set_option maxRecDepth 10000
namespace Go.Proofs.Ytmffcpiffkclgaa.ZJM.DC
open Go.Proofs.Ytmffcpiffkclgaa.ZJM Go.RowKit

def own33 (lv ver : Nat) (rows : List Row) (c : Int) : Lvl := [(4000, [.ptr lv 4001 [] 0, .int .i64 c]), (4001, [shC ver rows]), (1, [.lst none true 7 [], .int .i64 0])]
theorem own33_da (m : Mem) (ver : Nat) (rows : List Row) (c : Int) : DA (own33 m.length ver rows c :: m) m.length 4000 4001 ver rows c := ⟨by simp [own33], by simp [own33], by decide⟩
theorem own33_set (m : Mem) (ver : Nat) (rows : List Row) (c : Int) (v : Nat) (l' : List Row) (c' : Int) : dset (own33 m.length ver rows c :: m) m.length 4000 4001 v l' c' = own33 m.length v l' c' :: m := by simp [dset, wr, own33]
theorem appx33 (m : Mem) : ∃ ver rows c, Sim rows c rImg ∧ app E false (.fn 33 []) [] m = some (.tup [.ptr m.length 0 [] 0, rImg.pv], ⟨[(0, [.ptr m.length 1 [] 0, .int .i64 c]), (1, [shC ver rows])], []⟩, m) := by
  have h11 := app11 ([(1, [.lst none true 7 [], .int .i64 0])] :: m)
  obtain ⟨m2, e1, v2, l2, c2, rfl, hs2⟩ := appx49 (own33_da m 0 [] 0) sim_rNil
  rw [own33_set] at e1
  have hrun : runE rNil imgN = (rImg, 0) := run_img
  rw [hrun] at e1 hs2
  refine ⟨v2, l2, c2, hs2, ?_⟩
  have h48 := appx48
  have s1 := fun lv => shC_names lv v2 l2
  have s2 := fun a b ρ => shC_ren a b ρ v2 l2
  have s3 := fun a ks ts => shC_okn a ks ts v2 l2
  have s4 := shC_rec v2 l2
  have t1 : ∀ a b p o, isRec (.ptr a b p o) = false := fun _ _ _ _ => rfl
  have t2 : ∀ k n, isRec (.int k n) = false := fun _ _ => rfl
  have hsh : shC 0 [] = .lst none true 6 [] := rfl
  have hrI : rImg.pv = .agg [El false imgR, .int .i64 0] := rfl
  have hok1 := fun a b c => es_okns imgR a b c
  have hr8 := fun a b ρ => es_rens imgR a b ρ
  have hdp1 := fun a => es_deps imgR a
  have hnm1 := fun a => es_names imgR a
  rw [hrI, app_fn E rfl hx33 rfl]
  simp only [own33, El, hsh] at *
  generalize Es imgR = LI at *
  generalize shC v2 l2 = SS at *
  simp [cx33, h11, e1, h48, bagName, PV.retag, PV.retag1, hr8, hdp1, hnm1, hok1, s1, s2, s3, s4, t1, t2, frzV, frzR, bagEv, bagOf, bagChk, renB, obsB, topsB, nameIn, noTagB, nodupB, tagsOf, tagOf]
/-! ### one deed -/
structure Dd where
  (o i s n : Int) (nb : Bool) (b : List Int)
def Dd.cs (x : Dd) : List PV := [.int .i64 x.o, .int .i64 x.i, .int .i64 x.s, .int .i64 x.n, Bl x.nb x.b]
def Dd.enc (x : Dd) : PV := .agg x.cs
def Dd.ok (x : Dd) : Prop := OkB x.b ∧ (x.nb = true → x.b = [])
def ddR (r : RD) (f : Nat → Int) (x : Dd) : RD :=
  if x.o = 0 then wrtR r x.i x.s x.n else if x.o = 1 then putR r x.i x.s x.b else if x.o = 2 then relR r f x.b else if x.o = 3 then relR r f (sfB r f) else r
section
variable {m : Mem} {lv a a' ver : Nat} {l : List Row} {c : Int} (hd : DA m lv a a' ver l c) {r : RD} (hs : Sim l c r) (f : Nat → Int)
def own34 (r : RD) (f : Nat → Int) (x : Dd) : Lvl := [(8, [.lst none true 7 [], .int .i64 0]), (7, x.cs), (6, CF f 30), (5, [El r.nl r.l, .int .i64 r.c])]
include hd hs in
set_option maxHeartbeats 2000000 in
theorem appx34 (x : Dd) (hx : x.ok) : ∃ m', app E false (.fn 34 []) [.ptr lv a [] 0, r.pv, .agg (CF f 30), x.enc] m = some (.tup [(ddR r f x).pv, .bool true], emptyBag, m') ∧ Does m lv a a' ver l c (ddR r f x) m' := by
  have hlt := hd.lv_lt
  have hlv : lv ≠ m.length := by omega
  have hd2 := hd.cons (own34 r f x)
  have g4 := fun a => es_deps r.l a
  have g5 := fun a b c => es_okns r.l a b c
  have hob := fun a b' c => bs_okns x.b a b' c
  have hdb := fun a => bs_deps x.b a
  by_cases o0 : x.o = 0
  · obtain ⟨m1, e1, e2⟩ := appx50 hd2 hs x.i x.s x.n
    obtain ⟨m2, rfl, e3⟩ := e2.cons hd
    have hlen : m2.length = m.length := by obtain ⟨_, _, _, _, _, q, _⟩ := e3.da hd; exact q
    have hR : ddR r f x = wrtR r x.i x.s x.n := by rw [ddR, if_pos o0]
    rw [hR]
    refine ⟨m2, ?_, e3⟩
    have h43 := appx43 8192 x.s
    have h94 := app94 r hs.rok x.i x.s x.n
    have hpA : progA x.i x.s = ((slotA 8192 x.s).2 && ((slotA 8192 x.s).1.i == x.i && (slotA 8192 x.s).1.s == x.s)) := rfl
    obtain ⟨o, i, s, n, nb, b⟩ := x
    simp only at o0
    subst o0
    cases hp : progA i s with
    | false =>
      have h1 : wrtC r i s n = 2 := by rw [wrtC, hp]; rfl
      have h2 : wrtR r i s n = r := by rw [wrtR, hp]; rfl
      simp only at e1
      rw [h1] at e1
      rw [h2]
      rw [hp] at hpA
      rw [app_fn E rfl hx34 rfl]
      simp only [own34, Dd.enc, Dd.cs, RD.pv, El, rd, Bl, Slot.enc] at *
      generalize slotA 8192 s = sa at *
      obtain ⟨⟨si, ss, sn⟩, sb⟩ := sa
      generalize Es r.l = L0 at *
      generalize Bs b = BB at *
      simp only at hpA
      cases sb with
      | false => simp [-isPlace, -moves, cx34, e1, h43, hlv, hlen, g4, g5, hob, hdb]
      | true =>
        simp only [Bool.true_and] at hpA
        cases q1 : (si == i) with
        | false => simp [-isPlace, -moves, cx34, e1, h43, q1, hlv, hlen, g4, g5, hob, hdb]
        | true =>
          rw [q1, Bool.true_and] at hpA
          have q2 : (ss == s) = false := hpA.symm
          simp [-isPlace, -moves, cx34, e1, h43, q1, q2, hlv, hlen, g4, g5, hob, hdb]
    | true =>
      have h1 : wrtC r i s n = setC r i s n := by rw [wrtC, if_pos hp]
      have h2 : wrtR r i s n = setR r i s n := by rw [wrtR, if_pos hp]
      simp only at e1
      rw [h1] at e1
      rw [h2]
      rw [hp] at hpA
      rw [app_fn E rfl hx34 rfl]
      simp only at h94 h43 hpA
      generalize setC r i s n = w at *
      generalize setR r i s n = r2 at *
      have w4 := fun a => es_deps r2.l a
      have w5 := fun a b c => es_okns r2.l a b c
      simp only [own34, Dd.enc, Dd.cs, RD.pv, El, rd, Bl, Slot.enc] at *
      generalize slotA 8192 s = sa at *
      obtain ⟨⟨si, ss, sn⟩, sb⟩ := sa
      generalize Es r.l = L0 at *
      generalize Es r2.l = L2 at *
      generalize Bs b = BB at *
      simp only at hpA
      have hpA' := hpA.symm
      simp only [Bool.and_eq_true] at hpA'
      obtain ⟨rfl, q1, q2⟩ := hpA'
      simp [-isPlace, -moves, cx34, e1, h43, h94, q1, q2, hlv, hlen, g4, g5, w4, w5, hob, hdb]
  have o0' : (x.o == 0) = false := by simpa using o0
  by_cases o1 : x.o = 1
  · obtain ⟨m1, e1, e2⟩ := do_put hd2 hs x.i x.s x.nb x.b hx.1 hx.2
    obtain ⟨m2, rfl, e3⟩ := e2.cons hd
    have hlen : m2.length = m.length := by obtain ⟨_, _, _, _, _, q, _⟩ := e3.da hd; exact q
    have hR : ddR r f x = putR r x.i x.s x.b := by rw [ddR, if_neg o0, if_pos o1]
    rw [hR]
    refine ⟨m2, ?_, e3⟩
    have h85 := app85 r hs.rok x.i x.s x.nb x.b hx.1
    obtain ⟨o, i, s, n, nb, b⟩ := x
    simp only at o1
    subst o1
    rw [app_fn E rfl hx34 rfl]
    simp only at e1 h85
    generalize putC r i s b = w at *
    generalize putR r i s b = r2 at *
    have w4 := fun a => es_deps r2.l a
    have w5 := fun a b c => es_okns r2.l a b c
    simp only [own34, Dd.enc, Dd.cs, RD.pv, El, rd, Bl] at *
    generalize Es r.l = L0 at *
    generalize Es r2.l = L2 at *
    generalize Bs b = BB at *
    simp [-isPlace, -moves, cx34, e1, h85, hlv, hlen, g4, g5, w4, w5, hob, hdb]
  have o1' : (x.o == 1) = false := by simpa using o1
  by_cases o2 : x.o = 2
  · obtain ⟨m1, e1, e2⟩ := appx52 hd2 hs f x.nb x.b hx.1 hx.2
    obtain ⟨m2, rfl, e3⟩ := e2.cons hd
    have hlen : m2.length = m.length := by obtain ⟨_, _, _, _, _, q, _⟩ := e3.da hd; exact q
    have hR : ddR r f x = relR r f x.b := by rw [ddR, if_neg o0, if_neg o1, if_pos o2]
    rw [hR]
    refine ⟨m2, ?_, e3⟩
    have h99 := appx99 hs f x.nb x.b hx.1
    obtain ⟨o, i, s, n, nb, b⟩ := x
    simp only at o2
    subst o2
    rw [app_fn E rfl hx34 rfl]
    simp only at e1 h99
    generalize relC r f b = w at *
    generalize relR r f b = r2 at *
    have w4 := fun a => es_deps r2.l a
    have w5 := fun a b c => es_okns r2.l a b c
    simp only [own34, Dd.enc, Dd.cs, RD.pv, El, rd, Bl] at *
    generalize Es r.l = L0 at *
    generalize Es r2.l = L2 at *
    generalize Bs b = BB at *
    simp [-isPlace, -moves, cx34, e1, h99, hlv, hlen, g4, g5, w4, w5, hob, hdb]
  have o2' : (x.o == 2) = false := by simpa using o2
  by_cases o3 : x.o = 3
  · obtain ⟨m1, e1, e2⟩ := appx54 hd2 hs f
    obtain ⟨m2, rfl, e3⟩ := e2.cons hd
    have hlen : m2.length = m.length := by obtain ⟨_, _, _, _, _, q, _⟩ := e3.da hd; exact q
    have hR : ddR r f x = relR r f (sfB r f) := by rw [ddR, if_neg o0, if_neg o1, if_neg o2, if_pos o3]
    rw [hR]
    refine ⟨m2, ?_, e3⟩
    have h37 := appx37 r hs.rok f
    obtain ⟨o, i, s, n, nb, b⟩ := x
    simp only at o3
    subst o3
    rw [app_fn E rfl hx34 rfl]
    cases hf : fitsI r f with
    | false =>
      have h1 : relC r f (sfB r f) = 14 := by rw [relC, hf]; rfl
      have h2 : relR r f (sfB r f) = r := by rw [relR, hf]; rfl
      rw [h1] at e1
      rw [h2]
      rw [hf] at h37
      simp only [own34, Dd.enc, Dd.cs, RD.pv, El, rd, Bl] at *
      generalize Es r.l = L0 at *
      generalize Bs b = BB at *
      simp [-isPlace, -moves, cx34, e1, h37, hlv, hlen, g4, g5, hob, hdb]
    | true =>
      have h40 := appx40 hs.rok f hf
      have hsf : sfB r f = safB r (LF f) := by rw [sfB, if_pos hf]
      have hby := safB_byte hs (LF f)
      have hsb := strBytes_strOf hby
      have h99 := appx99 hs f false (safB r (LF f)) hby
      have hsz : (strOf (safB r (LF f))).size ≤ maxBytes := by
        rw [strOf_size]
        have := safB_len (r := r) (L := LF f) (fits_ok hs.rok hf)
        have := LF_len f
        have := (fitsI_check hf).2.1
        unfold maxBytes; omega
      rw [hsf] at e1 ⊢
      rw [hf] at h37
      have hdS := fun a => bs_deps (safB r (LF f)) a
      have hoS := fun a b c => bs_okns (safB r (LF f)) a b c
      generalize relC r f (safB r (LF f)) = w at *
      generalize relR r f (safB r (LF f)) = r2 at *
      have w4 := fun a => es_deps r2.l a
      have w5 := fun a b c => es_okns r2.l a b c
      simp only [own34, Dd.enc, Dd.cs, RD.pv, El, rd, Bl] at *
      generalize strOf (safB r (LF f)) = SO at *
      generalize Bs (safB r (LF f)) = BS at *
      generalize Es r.l = L0 at *
      generalize Es r2.l = L2 at *
      generalize Bs b = BB at *
      simp [-isPlace, -moves, cx34, e1, h37, h40, h99, hsb, hsz, hdS, hoS, hlv, hlen, g4, g5, w4, w5, hob, hdb]
  have o3' : (x.o == 3) = false := by simpa using o3
  have hR : ddR r f x = r := by rw [ddR, if_neg o0, if_neg o1, if_neg o2, if_neg o3]
  rw [hR]
  refine ⟨m, ?_, does_none hd hs⟩
  obtain ⟨o, i, s, n, nb, b⟩ := x
  rw [app_fn E rfl hx34 rfl]
  simp only at o0' o1' o2' o3'
  simp only [own34, Dd.enc, Dd.cs, RD.pv, El, rd, Bl] at *
  generalize Es r.l = L0 at *
  generalize Bs b = BB at *
  simp [-isPlace, -moves, cx34, o0', o1', o2', o3', hlv, g4, g5, hob, hdb]
end
end Go.Proofs.Ytmffcpiffkclgaa.ZJM.DC
