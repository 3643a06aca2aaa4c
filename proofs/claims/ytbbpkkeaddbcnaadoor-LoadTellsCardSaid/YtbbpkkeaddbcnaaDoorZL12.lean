/- Load: the table of powers, wherever it is read; LoadCounts' law. -/
import Derived.Test.YtbbpkkeaddbcnaaDoorZL11
import Derived.Stop.LaidErr
import Derived.Lib.LaidTab
set_option linter.unusedSimpArgs false
set_option linter.unusedVariables false
namespace Go.Proofs.YtbbpkkeaddbcnaaDoor.ZJM.LD
open Go.Proofs.YtbbpkkeaddbcnaaDoor.ZJM Go.RowKit
theorem tab_stays {okP : OkP} {W : World} (h : Lib.TabIs Tryd.prog W "internal/strconv.uint64pow10" .u64 Lib.pow10Tab) : ∀ g w, OkG (okP, tabOf W) g w → (∃ m, Rel g m w) → Lib.TabIs Tryd.prog w "internal/strconv.uint64pow10" .u64 Lib.pow10Tab := by
  intro g w hok _
  unfold Lib.TabIs World.var? at *
  cases hg : Tryd.prog.globalNamed "internal/strconv.uint64pow10" with
  | none => rw [hg] at h; exact h
  | some b =>
    rw [hg] at h
    simp only [Option.bind_some] at h ⊢
    have hb : b < W.heap.size := by
      rcases Nat.lt_or_ge b W.heap.size with hlt | hge
      · exact hlt
      · rw [Array.getElem?_eq_none hge] at h; cases h
    have e : w.heap[b]? = W.heap[b]? := (hok.2.2 b hb).2
    rw [e]; exact h
theorem prims_tab {W : World} {okP : OkP} (h : Lib.TabIs Tryd.prog W "internal/strconv.uint64pow10" .u64 Lib.pow10Tab) : Prims Tryd.prog (okP, tabOf W) E.prim := prims_of (tab_stays h)
theorem tab_of_laid {W : World} {a b : String × DataW Unit} (h : laidMet Tryd.prog (a :: b :: [("internal/strconv.uint64pow10", Lib.tabData .u64 Lib.pow10Tab)]) W) : Lib.TabIs Tryd.prog W "internal/strconv.uint64pow10" .u64 Lib.pow10Tab :=
  Lib.tabIs_of_head (g := 0) (t := 99) (e := 77) (n := 20) (by kernel_rfl) (by kernel_rfl) (by kernel_rfl) (by kernel_rfl) (by kernel_rfl) (by kernel_rfl) (laidMet.tail (laidMet.tail h))
/-- LoadCounts. -/
theorem law3 {e1 e2 e3 e4 : Nat} {x0 x1 : PV} (c0 : CT.val false [.lst true 112 (rndT e1 e2 e3 e4)] x0) (c1 : CT.val false [.int .i64] x1) : app E false (.fn 3 []) [x0, x1] [] = some (.bool true, emptyBag, []) := by
  obtain ⟨nl, l, _, hl, rfl⟩ := rnds_of c0
  obtain ⟨id, rfl, _⟩ := int_of c1
  exact app3 nl l hl id
end Go.Proofs.YtbbpkkeaddbcnaaDoor.ZJM.LD
