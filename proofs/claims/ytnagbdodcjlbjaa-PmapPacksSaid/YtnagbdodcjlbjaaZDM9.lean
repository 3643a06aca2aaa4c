/- PmapPacks' function. -/
import Derived.Test.YtnagbdodcjlbjaaZDM6
set_option linter.unusedSimpArgs false
set_option linter.unusedVariables false
set_option maxRecDepth 10000
namespace Go.Proofs.Ytnagbdodcjlbjaa.ZJM.DC
open Go.Proofs.Ytnagbdodcjlbjaa.ZJM Go.RowKit

theorem app37_nil (m : Mem) (x : Slot) : app E false (.fn 37 []) [.nilp, Sl false [x]] m = some (.tup [Bl true [], .int .i64 14], emptyBag, m) := by
  have h39 := fun own : Lvl => app39_nil (own :: m) x
  rw [app_fn E rfl h37 rfl]
  have e : Ss [x] = [x.enc] := rfl
  simp only [Sl, e] at *
  simp [c37, h39]
theorem sz_chk {rows : List Row} {c : Int} {r : RD} (hs : Sim rows c r) (L : List Slot) : ∀ acc acc' : Int, chk r acc L = 0 → szA acc' L = acc' + ((catA r L).length : Int) := by
  induction L with
  | nil => intro acc acc' _; simp [szA, catA]
  | cons x L ih =>
    intro acc acc' h
    rw [chk] at h
    by_cases ho : oneA r x = true
    · rw [if_pos ho] at h
      by_cases hb : 64 < acc + x.n
      · rw [if_pos hb] at h; simp at h
      · rw [if_neg hb] at h
        obtain ⟨k1, k2, j, hj, hf, k3⟩ := hs.slot_ok x ho
        have hn : x.n = 8 ∨ x.n = 16 ∨ x.n = 32 := by
          simp only [oneA, hf, List.getElem?_eq_getElem hj, Bool.and_eq_true, decide_eq_true_eq, beq_iff_eq] at ho
          have h1 := ho.1.2
          have h2 := ho.2
          unfold ksz at h1 h2
          by_cases a1 : r.l[j].k = 1 ∨ r.l[j].k = 2 ∨ r.l[j].k = 5
          · rw [if_pos a1] at h2; omega
          · rw [if_neg a1] at h1 h2
            by_cases a2 : r.l[j].k = 3 ∨ r.l[j].k = 6
            · rw [if_pos a2] at h2; omega
            · rw [if_neg a2] at h1 h2
              by_cases a3 : r.l[j].k = 4 ∨ r.l[j].k = 7
              · rw [if_pos a3] at h2; omega
              · rw [if_neg a3] at h1; omega
        rw [szA, if_pos hn, ih _ _ h]
        have : catA r (x :: L) = slotB r x ++ catA r L := by simp [catA]
        rw [this, List.length_append]
        omega
    · rw [if_neg ho] at h; simp at h
theorem pack_size {rows : List Row} {c : Int} {r : RD} (hs : Sim rows c r) (L : List Slot) (h : packE r L = 0) : ((packB r L).length : Int) = sizeA L := by
  unfold packE at h
  by_cases hz : checkA r L = 0
  · obtain ⟨hL, hc0⟩ := check_chk hz
    rw [packB, if_pos hz, sizeA, if_neg (by omega), sz_chk hs L 0 0 hc0]; omega
  · rw [if_neg hz] at h; simp at h
def own7 (r : RD) (ver : Nat) (rows : List Row) (c : Int) : Lvl := [(6, [El r.nl r.l, .int .i64 r.c]), (21000, [.ptr 0 21001 [] 0, .int .i64 c]), (21001, [shC ver rows])]
theorem own7_da (r : RD) (ver : Nat) (rows : List Row) (c : Int) : DA [own7 r ver rows c] 0 21000 21001 ver rows c := ⟨by simp [own7], by simp [own7], by decide⟩
theorem cut12 (L : List Slot) : ∃ k : Nat, (if (12 : Int) < L.length then (12 : Int) else L.length) = k ∧ (k : Int) ≤ L.length ∧ (Ss L).take k = Ss (L.take 12) := by
  by_cases h : 12 < L.length
  · exact ⟨12, by rw [if_pos (by omega)]; rfl, by omega, by simp [encs, List.map_take]⟩
  · exact ⟨L.length, by rw [if_neg (by omega)], by omega, by rw [List.take_of_length_le (by omega : L.length ≤ 12)]; exact List.take_of_length_le (by simp)⟩
theorem app7 (nl : Bool) (Y : List Byt) (hY : ∀ y ∈ Y, y.ok) (nl' : Bool) (L : List Slot) : app E false (.fn 7 []) [.lst none nl 1 (Ys Y), Sl nl' L] [] = some (.bool true, emptyBag, []) := by
  obtain ⟨r, ver, rows, c, hs, hk, h36'⟩ := app36 [[]] nl Y hY
  have hd := own7_da r ver rows c
  obtain ⟨_, _, h37'⟩ := app37 hd hs nl' (L.take 12)
  have h38' := app38 r hs.rok nl' (L.take 12) hs
  have h39' := app39 hd hs nl' (L.take 12)
  have h40' := app40 r hs.rok nl' (L.take 12)
  have h41' := app41 nl' (L.take 12)
  have h42' := app42 nl' (L.take 12)
  have hnil := app37_nil [own7 r ver rows c] ⟨0, 0, 0⟩
  have hps := pack_size hs (L.take 12)
  obtain ⟨k12, hmin, hk12, htk2⟩ := cut12 L
  have s1 := fun lv => shC_names lv ver rows
  have s2 := fun a b ρ => shC_ren a b ρ ver rows
  have hrn1 := fun a b ρ => es_rens r.l a b ρ
  have hdp1 := fun a => es_deps r.l a
  have hok1 := fun a b c => es_okns r.l a b c
  have hdpL := fun a => ss_deps (L.take 12) a
  have hokL := fun a b c => ss_okns (L.take 12) a b c
  have hrnL := fun a b ρ => ss_rens (L.take 12) a b ρ
  have bb : ∀ z : List Int, ((strOf z).toList == (strOf z).toList) = true := fun z => by simp
  have e0 : Ss [⟨0, 0, 0⟩] = [.agg [.int .i64 0, .int .i64 0, .int .i64 0]] := rfl
  have hbp := bytesP_bs (packB r (L.take 12))
  rw [app_fn E rfl h7 rfl]
  simp only [own7, List.length_singleton, List.length_cons, List.length_nil, RD.pv, El, rd, Sl, e0] at *
  generalize packB r (L.take 12) = PB at *
  generalize packE r (L.take 12) = PE at *
  generalize checkA r (L.take 12) = CA at *
  generalize sizeA (L.take 12) = SA at *
  generalize Ss (L.take 12) = LT at *
  generalize Es r.l = LA at *
  generalize shC ver rows = SS at *
  by_cases hp : PE = 0
  · have hps' := hps hp
    subst hp
    simp [c7, hmin, hk12, htk2, h36', h37', h38', h39', h40', h41', h42', hnil, hdpL, hokL, hrnL, hrn1, hdp1, hok1, s1, s2, bb, hbp, hps', live25, bagName, PV.retag, PV.retag1]
  · have hp' : (PE != 0) = true := by simpa using hp
    simp [c7, hmin, hk12, htk2, h36', h37', h38', h39', h40', h41', h42', hnil, hdpL, hokL, hrnL, hrn1, hdp1, hok1, s1, s2, bb, hbp, hp', live25, bagName, PV.retag, PV.retag1]
end Go.Proofs.Ytnagbdodcjlbjaa.ZJM.DC
