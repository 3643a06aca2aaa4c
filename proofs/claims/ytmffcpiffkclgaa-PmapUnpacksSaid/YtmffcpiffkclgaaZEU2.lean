/- PmapUnpacks' function; the law. -/
import Derived.Test.YtmffcpiffkclgaaZEU1
import Derived.Test.YtmffcpiffkclgaaZEQ7
set_option linter.unusedSimpArgs false
set_option linter.unusedVariables false
set_option maxRecDepth 10000
namespace Go.Proofs.Ytmffcpiffkclgaa.ZJM.DC
open Go.Proofs.Ytmffcpiffkclgaa.ZJM Go.RowKit

def ownU (r : RD) (ver : Nat) (rows : List Row) (c : Int) : Lvl := [(6, [El r.nl r.l, .int .i64 r.c]), (15000, [.ptr 0 15001 [] 0, .int .i64 c]), (15001, [shC ver rows])]
theorem ownU_da (r : RD) (ver : Nat) (rows : List Row) (c : Int) : DA [ownU r ver rows c] 0 15000 15001 ver rows c := ⟨by simp [ownU], by simp [ownU], by decide⟩
theorem ownU_set (r : RD) (ver : Nat) (rows : List Row) (c : Int) (v : Nat) (l' : List Row) (c' : Int) : dset [ownU r ver rows c] 0 15000 15001 v l' c' = [ownU r v l' c'] := by simp [dset, wr, ownU]
theorem appx3 (nb : Bool) (b : List Int) (hb : OkB b) (hn : nb = true → b = []) (nl' : Bool) (L : List Slot) : app E false (.fn 3 []) [Bl nb b, Sl nl' L] [] = some (.bool true, emptyBag, []) := by
  obtain ⟨ver, rows, c, hs, h84'⟩ := app84 [[]]
  have h12' := appx12 rAll nb nl' (L.take 12) b hs hb
  obtain ⟨m2, h51', v2, l2, c2, rfl, hs2⟩ := app51 (ownU_da (unpR rAll b (L.take 12)) ver rows c) hs nb nl' (L.take 12) b hb hn
  rw [ownU_set] at h51'
  have h17' := app17 (ownU_da (unpR rAll b (L.take 12)) v2 l2 c2) hs2
  obtain ⟨k12, hmin, hk12, htk2⟩ := cut12 L
  have s1 := fun lv => shC_names lv ver rows
  have s2 := fun a b ρ => shC_ren a b ρ ver rows
  have hrn1 := fun a b ρ => es_rens rAll.l a b ρ
  have hdp1 := fun a => es_deps rAll.l a
  have hok1 := fun a b c => es_okns rAll.l a b c
  have hdpL := fun a => ss_deps (L.take 12) a
  have hokL := fun a b c => ss_okns (L.take 12) a b c
  rw [app_fn E rfl hx3 rfl]
  generalize unpC rAll b (L.take 12) = w at *
  generalize unpR rAll b (L.take 12) = r1 at *
  have f4 := fun a => es_deps r1.l a
  have f5 := fun a b c => es_okns r1.l a b c
  simp only [ownU, List.length_singleton, List.length_cons, List.length_nil, RD.pv, El, rd, Sl] at *
  generalize Ss (L.take 12) = LT at *
  generalize Es rAll.l = LA at *
  generalize Es r1.l = LB at *
  generalize shC ver rows = SS at *
  simp [cx3, hmin, hk12, htk2, h84', h12', h51', h17', hdpL, hokL, hrn1, hdp1, hok1, f4, f5, s1, s2, live25, bagName, PV.retag, PV.retag1]
theorem lawx3 {x0 x1 : PV} (h0 : CT.val false [.lst false 1 [.int .u8]] x0) (h1 : CT.val false [.lst true 24 [.int .i64, .int .i64, .int .i64]] x1) : app E false (.fn 3 []) [x0, x1] [] = some (.bool true, emptyBag, []) := by
  obtain ⟨nb, b, hb, hn, rfl⟩ := bytes_val h0
  obtain ⟨nl', L, rfl⟩ := slots_val h1
  exact appx3 nb b hb hn nl' L
end Go.Proofs.Ytmffcpiffkclgaa.ZJM.DC
