/- PmapBack's function. -/
import Derived.Test.YtnagbdodcjlbjaaZDM10
set_option linter.unusedSimpArgs false
set_option linter.unusedVariables false
set_option maxRecDepth 10000
namespace Go.Proofs.Ytnagbdodcjlbjaa.ZJM.DC
open Go.Proofs.Ytnagbdodcjlbjaa.ZJM Go.RowKit

theorem hasK_snoc (L : List Slot) (n : Nat) (hn : n < L.length) (i s : Int) : hasK (L.take (n + 1)) i s = (hasK (L.take n) i s || (L[n].i == i && L[n].s == s)) := by
  rw [hasK, hasK, take_succ' L n hn, List.any_append]
  simp only [List.any_cons, List.any_nil, Bool.or_false]
section
variable (nl : Bool) (L : List Slot) (r2 : RD) (v1 : Nat) (R1 : List Row) (c1 : Int) (v2 : Nat) (R2 : List Row) (c2 : Int)
def dic2 (v1 : Nat) (R1 : List Row) (c1 : Int) (v2 : Nat) (R2 : List Row) (c2 : Int) : Lvl := [(1000000000, [.ptr 0 1000000002 [] 0, .int .i64 c1]), (1000000001, [.ptr 0 1000000003 [] 0, .int .i64 c2]), (1000000002, [shC v1 R1]), (1000000003, [shC v2 R2])]
def S10 (t : Nat) : St := ⟨[(2, Sl nl L), (7, .ptr 0 1000000000 [] 0), (9, .ptr 0 1000000001 [] 0), (10, .ptr 0 10 [] 0), (13, .int .i64 t)], [], (10, [El r2.nl r2.l, .int .i64 r2.c]) :: dic2 v1 R1 c1 v2 R2 c2, [], []⟩
def S10i (t : Nat) (ki ks : Int) (n : Nat) : St := ⟨[(2, Sl nl L), (7, .ptr 0 1000000000 [] 0), (9, .ptr 0 1000000001 [] 0), (10, .ptr 0 10 [] 0), (13, .int .i64 t), (14, .ptr 0 14 [] 0), (15, .bool (hasK (L.take n) ki ks)), (16, .int .i64 n)], [], (10, [El r2.nl r2.l, .int .i64 r2.c]) :: (14, [.int .i64 ki, .int .i64 ks]) :: dic2 v1 R1 c1 v2 R2 c2, [], []⟩
theorem loop10i (hL : L.length ≤ 12) (t : Nat) (ki ks : Int) {st : St} (h0 : maskSt [2, 7, 9, 10, 13, 14, 15, 16] [10, 14] [] [7, 9] st = some (S10i nl L r2 v1 R1 c1 v2 R2 c2 t ki ks 0)) :
    loopW (maskSt [2, 7, 9, 10, 13, 14, 15, 16] [10, 14] [] [7, 9]) (Cd.run (app E) c10.body.in2) st = c10.body.in2.run (app E) (S10i nl L r2 v1 R1 c1 v2 R2 c2 t ki ks L.length) := by
  refine loop_eq (S10i nl L r2 v1 R1 c1 v2 R2 c2 t ki ks) L.length (fun n hn => ?_) ?_ h0
  · have hni : (n : Int) < L.length := by omega
    have hw := wrap_succ n (by omega)
    obtain ⟨g1, g2⟩ := ss_get L n hn
    simp only [Slot.enc] at g1 g2
    have hk := hasK_snoc L n hn ki ks
    unfold S10i
    rw [hk]
    generalize hasK (L.take n) ki ks = q at *
    have s1 := fun lv => shC_names lv v1 R1
    have s2 := fun a b ρ => shC_ren a b ρ v1 R1
    have s3 := fun a ks ts => shC_okn a ks ts v1 R1
    have s4 := shC_rec v1 R1
    have s1' := fun lv => shC_names lv v2 R2
    have s2' := fun a b ρ => shC_ren a b ρ v2 R2
    have s3' := fun a ks ts => shC_okn a ks ts v2 R2
    have s4' := shC_rec v2 R2
    simp only [dic2]
    generalize shC v1 R1 = SS1 at *
    generalize shC v2 R2 = SS2 at *
    cases q <;> simp [c10, Cd.in2, Cd.inner, Cd.body, hni, hn, g1, g2, hw, s1, s2, s3, s4, s1', s2', s3', s4']
  · simp [c10, Cd.in2, Cd.inner, Cd.body, S10i]
end
end Go.Proofs.Ytnagbdodcjlbjaa.ZJM.DC

set_option linter.unusedSimpArgs false
set_option linter.unusedVariables false
set_option maxRecDepth 10000
namespace Go.Proofs.Ytnagbdodcjlbjaa.ZJM.DC
open Go.Proofs.Ytnagbdodcjlbjaa.ZJM Go.RowKit

section
variable (nl : Bool) (L : List Slot) (r1 r2 r3 : RD) (v1 : Nat) (R1 : List Row) (c1 : Int) (v2 : Nat) (R2 : List Row) (c2 : Int)
theorem round10 (hs1 : Sim R1 c1 r1) (hs3 : Sim R2 c2 r3) (hlen : r2.l.length ≤ 512) (hL : L.length ≤ 12)
    (hwant : ∀ t (ht : t < r2.l.length), slotB r3 ⟨r2.l[t].i, r2.l[t].s, 0⟩ = if hasK L r2.l[t].i r2.l[t].s = true then slotB r1 ⟨r2.l[t].i, r2.l[t].s, 0⟩ else r2.l[t].b)
    (t : Nat) (ht : t < r2.l.length) :
    Goes (maskSt [2, 7, 9, 10, 13] [10] [] [7, 9]) (S10 nl L r2 v1 R1 c1 v2 R2 c2 (t + 1)) (Cd.run (app E) c10.body.inner.body (S10 nl L r2 v1 R1 c1 v2 R2 c2 t)) := by
  have hti : (t : Int) < r2.l.length := by omega
  have hw := wrap_succ t (by omega)
  have hwt := hwant t ht
  have hgE : (Es r2.l)[t]? = some r2.l[t].enc := by rw [List.getElem?_eq_getElem (by rw [encs_len]; exact ht), es_getE]
  have hgg : ∀ h, (Es r2.l)[t]'h = r2.l[t].enc := fun h => encs_getE r2.l t h
  generalize hy : r2.l[t] = y at *
  have hd1 : DA [(10, [El r2.nl r2.l, .int .i64 r2.c]) :: (14, [.int .i64 y.i, .int .i64 y.s]) :: dic2 v1 R1 c1 v2 R2 c2] 0 1000000000 1000000002 v1 R1 c1 := ⟨by simp [dic2], by simp [dic2], by decide⟩
  have hd2 : DA [(10, [El r2.nl r2.l, .int .i64 r2.c]) :: (14, [.int .i64 y.i, .int .i64 y.s]) :: dic2 v1 R1 c1 v2 R2 c2] 0 1000000001 1000000003 v2 R2 c2 := ⟨by simp [dic2], by simp [dic2], by decide⟩
  have h26a := app26 (.inr ⟨_, _, rfl⟩) (finds hd1 hs1.dok y.i y.s) (okO_get hs1.dok _)
  have h26b := app26 (.inr ⟨_, _, rfl⟩) (finds hd2 hs3.dok y.i y.s) (okO_get hs3.dok _)
  have hsl1 := hs1.slotB ⟨y.i, y.s, 0⟩
  have hsl3 := hs3.slotB ⟨y.i, y.s, 0⟩
  simp only at hsl1 hsl3
  rw [hsl1] at h26a
  rw [hsl3] at h26b
  have hlp := @loop10i nl L r2 v1 R1 c1 v2 R2 c2 hL t y.i y.s
  have hfull : L.take L.length = L := List.take_length
  have hwl := wrap_succ L.length (by omega)
  have s1 := fun lv => shC_names lv v1 R1
  have s2 := fun a b ρ => shC_ren a b ρ v1 R1
  have s3 := fun a ks ts => shC_okn a ks ts v1 R1
  have s4 := shC_rec v1 R1
  have s1' := fun lv => shC_names lv v2 R2
  have s2' := fun a b ρ => shC_ren a b ρ v2 R2
  have s3' := fun a ks ts => shC_okn a ks ts v2 R2
  have s4' := shC_rec v2 R2
  have bb : ∀ z : List Int, ((strOf z).toList == (strOf z).toList) = true := fun z => by simp
  simp only [c10, Cd.in2, Cd.inner, Cd.body, S10i, hfull, dic2, List.take_zero] at hlp
  have hk0 : hasK [] y.i y.s = false := rfl
  rw [hk0] at hlp
  simp only [dic2] at h26a h26b
  rw [hwt] at h26b
  generalize slotB r1 ⟨y.i, y.s, 0⟩ = B1 at *
  generalize (rawB (getW R1 (knum y.i y.s))).1 = n1 at *
  generalize (rawB (getW R2 (knum y.i y.s))).1 = n2 at *
  generalize hasK L y.i y.s = q at *
  unfold S10
  simp only [dic2]
  generalize shC v1 R1 = SS1 at *
  generalize shC v2 R2 = SS2 at *
  simp [c10, Cd.inner, Cd.body, hti, ht, hgE, hgg, hy, Ent.enc, Ent.cs, s1, s2, s3, s4, s1', s2', s3', s4']
  rw [hlp (by simp [s1, s2, s3, s4, s1', s2', s3', s4'])]
  cases q <;> simp [hti, ht, hgE, hgg, hy, Ent.enc, Ent.cs, h26a, h26b, bytesP_bs, bb, hw, s1, s2, s3, s4, s1', s2', s3', s4']
end
end Go.Proofs.Ytnagbdodcjlbjaa.ZJM.DC

set_option linter.unusedSimpArgs false
set_option linter.unusedVariables false
set_option maxRecDepth 10000
namespace Go.Proofs.Ytnagbdodcjlbjaa.ZJM.DC
open Go.Proofs.Ytnagbdodcjlbjaa.ZJM Go.RowKit

def own10 (r1 : RD) (v1 : Nat) (R1 : List Row) (c1 : Int) (r2 : RD) (v2 : Nat) (R2 : List Row) (c2 : Int) : Lvl :=
  [(10, [El r2.nl r2.l, .int .i64 r2.c]), (35000, [.ptr 0 35001 [] 0, .int .i64 c2]), (35001, [shC v2 R2]), (8, [El r1.nl r1.l, .int .i64 r1.c]), (30000, [.ptr 0 30001 [] 0, .int .i64 c1]), (30001, [shC v1 R1])]
theorem own10_da1 (r1 v1 R1 c1 r2 v2 R2 c2) : DA [own10 r1 v1 R1 c1 r2 v2 R2 c2] 0 30000 30001 v1 R1 c1 := ⟨by simp [own10], by simp [own10], by decide⟩
theorem own10_da2 (r1 v1 R1 c1 r2 v2 R2 c2) : DA [own10 r1 v1 R1 c1 r2 v2 R2 c2] 0 35000 35001 v2 R2 c2 := ⟨by simp [own10], by simp [own10], by decide⟩
theorem own10_set (r1 v1 R1 c1 r2 v2 R2 c2 v l' c') : dset [own10 r1 v1 R1 c1 r2 v2 R2 c2] 0 35000 35001 v l' c' = [own10 r1 v1 R1 c1 r2 v l' c'] := by simp [dset, wr, own10]
theorem app10 (nl1 : Bool) (Y1 : List Byt) (hY1 : ∀ y ∈ Y1, y.ok) (nl2 : Bool) (Y2 : List Byt) (hY2 : ∀ y ∈ Y2, y.ok) (nl' : Bool) (L : List Slot) : app E false (.fn 10 []) [.lst none nl1 1 (Ys Y1), .lst none nl2 1 (Ys Y2), Sl nl' L] [] = some (.bool true, emptyBag, []) := by
  obtain ⟨r1, v1, R1, c1, hs1, hk1, h36a⟩ := app36 [[]] nl1 Y1 hY1
  obtain ⟨r2, v2, R2, c2, hs2, hk2, h36b⟩ := app36 [[(8, [El r1.nl r1.l, .int .i64 r1.c]), (30000, [.ptr 0 30001 [] 0, .int .i64 c1]), (30001, [shC v1 R1])]] nl2 Y2 hY2
  have hd1 := own10_da1 r1 v1 R1 c1 r2 v2 R2 c2
  have hd2 := own10_da2 r1 v1 R1 c1 r2 v2 R2 c2
  obtain ⟨hpl, hpo, h37'⟩ := app37 hd1 hs1 nl' (L.take 12)
  have hnp : (packB r1 (L.take 12)).isEmpty = true → packB r1 (L.take 12) = [] := fun h => by simpa using h
  obtain ⟨m2, h51', v3, R3, c3, rfl, hs3⟩ := app51 hd2 hs2 (packB r1 (L.take 12)).isEmpty nl' (L.take 12) (packB r1 (L.take 12)) hpo hnp
  rw [own10_set] at h51'
  obtain ⟨k12, hmin, hk12, htk2⟩ := cut12 L
  have hL : (L.take 12).length ≤ 12 := by rw [List.length_take]; omega
  have hkk : skel r2 = skel r1 := by rw [hk2, hk1]
  have hr2 := hs2.rok.1
  have s1 := fun lv => shC_names lv v1 R1
  have s2 := fun a b ρ => shC_ren a b ρ v1 R1
  have s3 := fun a ks ts => shC_okn a ks ts v1 R1
  have s4 := shC_rec v1 R1
  have s1' := fun lv => shC_names lv v2 R2
  have s2' := fun a b ρ => shC_ren a b ρ v2 R2
  have s1'' := fun lv => shC_names lv v3 R3
  have s2'' := fun a b ρ => shC_ren a b ρ v3 R3
  have s3'' := fun a ks ts => shC_okn a ks ts v3 R3
  have s4'' := shC_rec v3 R3
  have hA1 := fun a b ρ => es_rens r1.l a b ρ
  have hA2 := fun a => es_deps r1.l a
  have hA3 := fun a b c => es_okns r1.l a b c
  have hB1 := fun a b ρ => es_rens r2.l a b ρ
  have hB2 := fun a => es_deps r2.l a
  have hB3 := fun a b c => es_okns r2.l a b c
  have hB4 := fun a => es_names r2.l a
  have hA4 := fun a => es_names r1.l a
  have hdpL := fun a => ss_deps (L.take 12) a
  have hokL := fun a b c => ss_okns (L.take 12) a b c
  have hrnL := fun a b ρ => ss_rens (L.take 12) a b ρ
  rw [app_fn E rfl h10 rfl]
  by_cases hz : checkA r1 (L.take 12) = 0
  · obtain ⟨hu, hwant⟩ := back_slot hs1 hs2 hkk (L.take 12) hz
    have hpe : packE r1 (L.take 12) = 0 := by rw [packE, if_pos hz]
    rw [hpe] at h37'
    rw [hu] at h51'
    have hloop : ∀ st, maskSt [2, 7, 9, 10, 13] [10] [] [7, 9] st = some (S10 nl' (L.take 12) r2 v1 R1 c1 v3 R3 c3 0) → loopW (maskSt [2, 7, 9, 10, 13] [10] [] [7, 9]) (Cd.run (app E) c10.body.inner.body) st = c10.body.inner.body.run (app E) (S10 nl' (L.take 12) r2 v1 R1 c1 v3 R3 c3 r2.l.length) := fun st h0 => by
      refine loop_eq (S10 nl' (L.take 12) r2 v1 R1 c1 v3 R3 c3) r2.l.length (fun t ht => round10 nl' (L.take 12) r1 r2 _ v1 R1 c1 v3 R3 c3 hs1 hs3 hr2 hL hwant t ht) ?_ h0
      simp [c10, Cd.inner, Cd.body, S10]
    simp only [c10, Cd.inner, Cd.body, S10, dic2] at hloop
    simp only [own10, List.length_singleton, List.length_cons, List.length_nil, RD.pv, El, rd, Sl] at *
    have hlen : (Es r2.l).length = r2.l.length := encs_len _
    generalize packB r1 (L.take 12) = PB at *
    generalize Ss (L.take 12) = LT at *
    generalize Es r1.l = LA at *
    generalize Es r2.l = LB at *
    generalize shC v1 R1 = SS1 at *
    generalize shC v2 R2 = SS2 at *
    generalize shC v3 R3 = SS3 at *
    simp [c10, hmin, hk12, htk2, h36a, h36b, h37', h51', hdpL, hokL, hrnL, hA1, hA2, hA3, hA4, hB1, hB2, hB3, hB4, s1, s2, s3, s4, s1', s2', bagName, PV.retag, PV.retag1]
    rw [hloop _ (by simp [hdpL, hokL, hrnL, hA1, hA2, hA3, hA4, hB1, hB2, hB3, hB4, s1, s2, s3, s4, s1'', s2'', s3'', s4''])]
    simp [hlen, live25, hdpL, hokL, hrnL, hA1, hA2, hA3, hA4, hB1, hB2, hB3, hB4, s1, s2, s3, s4, s1'', s2'', s3'', s4'']
  · have hpe : packE r1 (L.take 12) = 14 := by rw [packE, if_neg hz]
    have hu : unpC r2 (packB r1 (L.take 12)) (L.take 12) = 14 := by rw [unpC, if_neg (by rw [skel_check hkk]; exact hz)]
    rw [hpe] at h37'
    rw [hu] at h51'
    simp only [own10, List.length_singleton, List.length_cons, List.length_nil, RD.pv, El, rd, Sl] at *
    generalize packB r1 (L.take 12) = PB at *
    generalize Ss (L.take 12) = LT at *
    generalize Es r1.l = LA at *
    generalize Es r2.l = LB at *
    generalize shC v1 R1 = SS1 at *
    generalize shC v2 R2 = SS2 at *
    simp [c10, hmin, hk12, htk2, h36a, h36b, h37', h51', live25, hdpL, hokL, hrnL, hA1, hA2, hA3, hA4, hB1, hB2, hB3, hB4, s1, s2, s3, s4, s1', s2', bagName, PV.retag, PV.retag1]
end Go.Proofs.Ytnagbdodcjlbjaa.ZJM.DC
