/- Load: a mark, a round. -/
import Derived.Test.YtbbpkkeaddbcnaaDoorZL3
set_option linter.unusedSimpArgs false
set_option linter.unusedVariables false
namespace Go.Proofs.YtbbpkkeaddbcnaaDoor.ZJM.LD
open Go.Proofs.YtbbpkkeaddbcnaaDoor.ZJM Go.RowKit
/-- A mark counts. -/
def markF (f : Nat → Int) (k : Mrk) : Nat → Int :=
  if (k.kind == 3) = true then addAt f 28 1 else if (k.kind == 2) = true then addAt f 29 1 else if (k.kind == 6) = true then (if 1 ≤ k.n ∧ k.n ≤ 2147483647 then addAt f 30 k.n else f) else f
theorem LC_add (f : Nat → Int) {k : Nat} (h : k < 32) (v : Int) : List.take k (LC f) ++ PV.int .i64 (W (W (f k) + v)) :: List.drop (k + 1) (LC f) = LC (addAt f k v) := by
  rw [LC_put f h, addAt]
  exact LC_ext _ fun j _ => by unfold setAt; split <;> simp [W_add]
theorem LC_add0 (f : Nat → Int) (v : Int) : PV.int .i64 (W (W (f 0) + v)) :: (LC f).tail = LC (addAt f 0 v) := by simpa using LC_add f (k := 0) (by omega) v
theorem LC_put31 (f : Nat → Int) {n : Int} (h : W n = n) : List.take 31 (LC f) ++ [PV.int .i64 n] = LC (setAt f 31 n) := by
  have := LC_put f (k := 31) (by omega) n
  rw [h] at this
  simpa using this
theorem LC_place0 (f : Nat → Int) (a : Nat) : (∀ x, x ∈ List.take a (LC f) → isPlace x = false) ↔ True := by simpa using LC_placeI f a 0
theorem LC_place1 (f : Nat → Int) (a : Nat) : (∀ x, x ∈ List.take a (LC f).tail → isPlace x = false) ↔ True := by simpa using LC_placeI f a 1
theorem app32 (f : Nat → Int) (k : Mrk) (rc : List PV) (own : Lvl) (z : List PV) (rest : Lvl) :
    app E false (.fn 32 []) [.ptr 0 3 [] 0, k.enc] [own, (5, rc) :: (2, z) :: (3, LC f) :: rest] = some (.tup [], emptyBag, [own, (5, rc) :: (2, z) :: (3, LC (markF f k)) :: rest]) := by
  rw [app_fn E rfl h32 rfl]
  unfold markF
  cases a0 : (k.kind == 3)
  case true => simp [-isPlace, -moves, isPlace_int, isPlace_bool, isPlace_str, isPlace_lst, moves_int, moves_bool, moves_str, moves_lst, LC_placeI, LC_placeI', LC_movesI, LC_cellI, LC_getE, LC_add, frzV, frzR, c32, Mrk.enc, a0]
  cases a1 : (k.kind == 2)
  case true => simp [-isPlace, -moves, isPlace_int, isPlace_bool, isPlace_str, isPlace_lst, moves_int, moves_bool, moves_str, moves_lst, LC_placeI, LC_placeI', LC_movesI, LC_cellI, LC_getE, LC_add, frzV, frzR, c32, Mrk.enc, a0, a1]
  cases a2 : (k.kind == 6)
  case false => simp [-isPlace, -moves, isPlace_int, isPlace_bool, isPlace_str, isPlace_lst, moves_int, moves_bool, moves_str, moves_lst, LC_placeI, LC_placeI', LC_movesI, LC_cellI, LC_getE, LC_add, frzV, frzR, c32, Mrk.enc, a0, a1, a2]
  by_cases a3 : 1 ≤ k.n
  case neg => simp [-isPlace, -moves, isPlace_int, isPlace_bool, isPlace_str, isPlace_lst, moves_int, moves_bool, moves_str, moves_lst, LC_placeI, LC_placeI', LC_movesI, LC_cellI, LC_getE, LC_add, frzV, frzR, c32, Mrk.enc, a0, a1, a2, a3]
  by_cases a4 : k.n ≤ 2147483647
  case neg => simp [-isPlace, -moves, isPlace_int, isPlace_bool, isPlace_str, isPlace_lst, moves_int, moves_bool, moves_str, moves_lst, LC_placeI, LC_placeI', LC_movesI, LC_cellI, LC_getE, LC_add, frzV, frzR, c32, Mrk.enc, a0, a1, a2, a3, a4]
  simp [-isPlace, -moves, isPlace_int, isPlace_bool, isPlace_str, isPlace_lst, moves_int, moves_bool, moves_str, moves_lst, LC_placeI, LC_placeI', LC_movesI, LC_cellI, LC_getE, LC_add, frzV, frzR, c32, Mrk.enc, a0, a1, a2, a3, a4]
end Go.Proofs.YtbbpkkeaddbcnaaDoor.ZJM.LD
