/- Load: LoadWindows' law. -/
import Derived.Test.YtbbpkkeaddbcnaaDoorZL16
set_option linter.unusedSimpArgs false
set_option linter.unusedVariables false
namespace Go.Proofs.YtbbpkkeaddbcnaaDoor.ZJM.LD
open Go.Proofs.YtbbpkkeaddbcnaaDoor.ZJM Go.RowKit
set_option maxRecDepth 100000 in
set_option maxHeartbeats 2000000 in
theorem app5 (n : Int) (nl : Bool) (l0 : List Rnd) (hl0 : ∀ r ∈ l0, I64 r.waits) (stop : Int) (hs0 : 0 ≤ stop) (hs1 : stop ≤ 255) :
    app E false (.fn 5 []) [.int .i64 n, .lst none nl 6 (Rs l0), .int .u8 stop] [] = some (.bool true, emptyBag, []) := by
  have kf := few_fine l0 hl0
  have kl := few_len l0
  have a7 := app7 nl l0
  have a18 := fun M => app18 n false (few l0) M
  have a20 := app20 false (few l0) (by omega) (fun r hr => fine_of (kf r hr))
  have a10 := app10 false (few l0) (by omega) (fun r hr => fine_of (kf r hr))
  rw [← of_ref] at a10
  have hw : IntKind.i64.wrap stop = stop := W_id (by omega) (by omega)
  rw [app_fn E rfl h5 rfl]
  by_cases hn : n < 1
  · have x0 := app28n (mem0 n (few l0) stop (0, zeroF, 0, 0)) n hn y0 22000 22001 (by simp [mem0]) rfl
    have x1 := app28n (mem1 n (few l0) stop 0 0 zeroF (0, 0)) n hn y1 63000 63001 (by simp [mem1]) rfl
    simp [mem0, y0] at x0
    simp [mem1, y1] at x1
    simp [-isPlace, -moves, isPlace_int, isPlace_bool, isPlace_str, isPlace_lst, moves_int, moves_bool, moves_str, moves_lst, LC_placeI, LC_placeI', LC_movesI, LC_cellI, LC_getE, LC_add, LC_add0, LC_put31, LC_place0, LC_place1, frzV, frzR, ss_okns, es_okns, cs_okns, mk_okns, rs_okns, ss_deps, es_deps, cs_deps, mk_deps, rs_deps, c5, ← LC_zero, a7, a18, app8, bagName, PV.ren, PV.rens, PV.retag, PV.retag1, rs_rens, x0, x1, hn]
  · obtain ⟨⟨a, F, c, q⟩, hJ, x0⟩ := all0 n (few l0) stop (by omega) kl kf
    obtain ⟨j1, j2, j3, j4, j5, j6, j7⟩ := hJ
    simp only at j1 j2 j3 j4 j5 j7
    subst j1; subst j2
    obtain ⟨⟨q, k⟩, hK, x1⟩ := all1 n (few l0) stop (few l0).length c F (by omega) kl kf hs0 hs1
    simp [mem0, y0] at x0
    simp [mem1, y1] at x1
    have hfin : (k : Int) = if stop < (c : Int) then stop else (c : Int) := by
      rcases hK with ⟨_, k2, k3, k4, k5⟩ | ⟨_, k2, k3⟩
      · simp only at k2 k3 k4 k5
        have e : k = c := by
          rcases Nat.lt_trichotomy k c with h | h | h
          · have := j5 k h; omega
          · exact h
          · have := k5 c h; omega
        subst e
        split <;> omega
      · simp only at k2 k3
        have : k < c := by
          rcases Nat.lt_or_ge k c with h | h
          · exact h
          · have := k3 c h; omega
        split <;> omega
    have hq : q = 0 ∨ q = 5 := by
      rcases hK with ⟨k1, _⟩ | ⟨k1, _⟩
      · exact .inl k1
      · exact .inr k1
    clear hK
    cases hh : hugeB (few l0)
    · have j8 := j7 hh
      rw [List.take_of_length_le (Nat.le_refl _)] at j8
      rw [hh] at a20
      rw [j8] at x0 x1
      rcases hq with rfl | rfl <;>
        simp [-isPlace, -moves, isPlace_int, isPlace_bool, isPlace_str, isPlace_lst, moves_int, moves_bool, moves_str, moves_lst, LC_placeI, LC_placeI', LC_movesI, LC_cellI, LC_getE, LC_add, LC_add0, LC_put31, LC_place0, LC_place1, frzV, frzR, ss_okns, es_okns, cs_okns, mk_okns, rs_okns, ss_deps, es_deps, cs_deps, mk_deps, rs_deps, c5, ← LC_zero, a7, a18, app8, bagName, PV.ren, PV.rens, PV.retag, PV.retag1, rs_rens, x0, x1, hn, hw, ← hfin, a20, a10]
    · rw [hh] at a20
      rcases hq with rfl | rfl <;>
        simp [-isPlace, -moves, isPlace_int, isPlace_bool, isPlace_str, isPlace_lst, moves_int, moves_bool, moves_str, moves_lst, LC_placeI, LC_placeI', LC_movesI, LC_cellI, LC_getE, LC_add, LC_add0, LC_put31, LC_place0, LC_place1, frzV, frzR, ss_okns, es_okns, cs_okns, mk_okns, rs_okns, ss_deps, es_deps, cs_deps, mk_deps, rs_deps, c5, ← LC_zero, a7, a18, app8, bagName, PV.ren, PV.rens, PV.retag, PV.retag1, rs_rens, x0, x1, hn, hw, ← hfin, a20, a10]
theorem law5 {e1 e2 e3 e4 : Nat} {x0 x1 x2 : PV} (c0 : CT.val false [.int .i64] x0) (c1 : CT.val false [.lst true 112 (rndT e1 e2 e3 e4)] x1) (c2 : CT.val false [.int .u8] x2) : app E false (.fn 5 []) [x0, x1, x2] [] = some (.bool true, emptyBag, []) := by
  obtain ⟨n, rfl, _⟩ := int_of c0
  obtain ⟨nl, l, _, hl, rfl⟩ := rnds_of c1
  obtain ⟨s, rfl, h1, h2⟩ := byte_of c2
  exact app5 n nl l hl s h1 h2
end Go.Proofs.YtbbpkkeaddbcnaaDoor.ZJM.LD
