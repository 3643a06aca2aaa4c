/- Load: numbers as text, lines. -/
import Derived.Test.YtbbpkkeaddbcnaaDoorZL12
import Derived.Lib.ItoaLen
import Derived.Lib.Join
set_option linter.unusedSimpArgs false
set_option linter.unusedVariables false
namespace Go.Proofs.YtbbpkkeaddbcnaaDoor.ZJM.LD
open Go.Proofs.YtbbpkkeaddbcnaaDoor.ZJM Go.RowKit
/-- Bytes as a text. -/
def B (l : List UInt8) : ByteArray := ⟨l.toArray⟩
theorem mk_B (l : List UInt8) : ByteArray.mk l.toArray = B l := rfl
theorem B_size (l : List UInt8) : (B l).size = l.length := by simp [B, ByteArray.size]
theorem B_list (l : List UInt8) : (B l).data.toList = l := by simp [B]
theorem B_app (a b : List UInt8) : B a ++ B b = B (a ++ b) := by
  have h : ∀ x y : ByteArray, x.data = y.data → x = y := fun x y h => by cases x; cases y; simp only at h; rw [h]
  apply h
  simp [B]
def dig (d : Nat) : UInt8 := UInt8.ofNat (48 + d)
theorem app40 (d : Nat) (h : d < 10) : app E false (.fn 40 []) [.int .i64 d] [] = some (.str (B [dig d]), emptyBag, []) := by
  rcases (by omega : d = 0 ∨ d = 1 ∨ d = 2 ∨ d = 3 ∨ d = 4 ∨ d = 5 ∨ d = 6 ∨ d = 7 ∨ d = 8 ∨ d = 9) with rfl | rfl | rfl | rfl | rfl | rfl | rfl | rfl | rfl | rfl <;> exact app_some.2 ⟨6, by kernel_rfl⟩
theorem U_def (n : Int) : IntKind.u64.wrap n = n % 18446744073709551616 := by
  unfold IntKind.wrap; simp [IntKind.bits, IntKind.signed]
theorem app35 : ∀ u : Nat, u < 18446744073709551616 → app E false (.fn 35 []) [.int .u64 u] [] = some (.str (B (Lib.decDigits u)), emptyBag, []) := by
  intro u
  induction u using Nat.strongRecOn with
  | _ u ih =>
    intro hu
    rw [app_fn E rfl h35 rfl]
    by_cases h : u < 10
    · have h' : (u : Int) < 10 := by omega
      have hw : IntKind.i64.wrap (u : Int) = u := W_id (by omega) (by omega)
      have h40 := app40 u h
      rw [Lib.decDigits_one h]
      show _ = some (PV.str (B [dig u]), emptyBag, [])
      simp [-isPlace, -moves, isPlace_int, isPlace_bool, isPlace_str, isPlace_lst, moves_int, moves_bool, moves_str, moves_lst, LC_placeI, LC_placeI', LC_movesI, LC_cellI, LC_getE, LC_add, LC_add0, LC_put31, LC_place0, LC_place1, frzV, frzR, ss_okns, es_okns, cs_okns, mk_okns, rs_okns, ss_deps, es_deps, cs_deps, mk_deps, rs_deps, c35, h', hw, h40, h]
    · have h' : ¬ (u : Int) < 10 := by omega
      obtain ⟨q, hqd⟩ : ∃ q, q = u / 10 := ⟨_, rfl⟩
      obtain ⟨r, hrd⟩ : ∃ r, r = u % 10 := ⟨_, rfl⟩
      have hq1 : IntKind.u64.wrap ((u : Int).tdiv 10) = (q : Int) := by
        rw [U_def, show (u : Int).tdiv 10 = ((u / 10 : Nat) : Int) from rfl]; omega
      have hq2 : IntKind.u64.wrap ((u : Int) / 10) = (q : Int) := by rw [U_def]; omega
      have hr1 : IntKind.i64.wrap ((u : Int).tmod 10) = (r : Int) := by
        rw [show (u : Int).tmod 10 = ((u % 10 : Nat) : Int) from rfl, ← hrd]; exact W_id (by omega) (by omega)
      have hr2 : IntKind.i64.wrap ((u : Int) % 10) = (r : Int) := by
        rw [show (u : Int) % 10 = (r : Int) by omega]; exact W_id (by omega) (by omega)
      have h35' := ih q (by omega) (by omega)
      have h40 := app40 r (by omega)
      have hd : Lib.decDigits u = Lib.decDigits q ++ [dig r] := by rw [Lib.decDigits, dif_neg h, ← hqd, ← hrd]; rfl
      have hl : (B (Lib.decDigits q)).size + (B [dig r]).size ≤ maxBytes := by
        have := Lib.nDigits_le20 q (by omega)
        rw [B_size, B_size, Lib.decDigits_length]
        unfold maxBytes
        simp; omega
      rw [hd, ← B_app]
      clear hd hqd hrd
      simp [-isPlace, -moves, isPlace_int, isPlace_bool, isPlace_str, isPlace_lst, moves_int, moves_bool, moves_str, moves_lst, LC_placeI, LC_placeI', LC_movesI, LC_cellI, LC_getE, LC_add, LC_add0, LC_put31, LC_place0, LC_place1, frzV, frzR, ss_okns, es_okns, cs_okns, mk_okns, rs_okns, ss_deps, es_deps, cs_deps, mk_deps, rs_deps, c35, h', h, hq1, hq2, hr1, hr2, h35', h40, hl]
theorem app27 (n : Int) (hn : I64 n) : app E false (.fn 27 []) [.int .i64 n] [] = some (.str (B (Lib.itoa n)), emptyBag, []) := by
  rw [app_fn E rfl h27 rfl]
  obtain ⟨h1, h2⟩ := hn
  by_cases h : n < 0
  · have e1 : IntKind.u64.wrap (0 - IntKind.u64.wrap n) = ((n.natAbs : Nat) : Int) := by rw [U_def, U_def]; omega
    have a35 := app35 n.natAbs (by omega)
    have hi : Lib.itoa n = [45] ++ Lib.decDigits n.natAbs := by unfold Lib.itoa; rw [if_pos h]; rfl
    have hl : (B [45]).size + (B (Lib.decDigits n.natAbs)).size ≤ maxBytes := by
      have := Lib.nDigits_le20 n.natAbs (by omega)
      rw [B_size, B_size, Lib.decDigits_length]
      unfold maxBytes
      simp; omega
    rw [hi, ← B_app]
    generalize hQ : IntKind.u64.wrap (0 - IntKind.u64.wrap n) = q at e1
    subst e1
    have hQ' : IntKind.u64.wrap (-IntKind.u64.wrap n) = (n.natAbs : Int) := by rw [← hQ, Int.zero_sub]
    generalize n.natAbs = k at *
    simp [-isPlace, -moves, isPlace_int, isPlace_bool, isPlace_str, isPlace_lst, moves_int, moves_bool, moves_str, moves_lst, LC_placeI, LC_placeI', LC_movesI, LC_cellI, LC_getE, LC_add, LC_add0, LC_put31, LC_place0, LC_place1, frzV, frzR, ss_okns, es_okns, cs_okns, mk_okns, rs_okns, ss_deps, es_deps, cs_deps, mk_deps, rs_deps, c27, h, hQ', a35, mk_B, hl]
  · have e1 : IntKind.u64.wrap n = ((n.toNat : Nat) : Int) := by rw [U_def]; omega
    have a35 := app35 n.toNat (by omega)
    have hi : Lib.itoa n = Lib.decDigits n.toNat := by unfold Lib.itoa; rw [if_neg h]
    rw [hi]
    generalize n.toNat = k at *
    simp [-isPlace, -moves, isPlace_int, isPlace_bool, isPlace_str, isPlace_lst, moves_int, moves_bool, moves_str, moves_lst, LC_placeI, LC_placeI', LC_movesI, LC_cellI, LC_getE, LC_add, LC_add0, LC_put31, LC_place0, LC_place1, frzV, frzR, ss_okns, es_okns, cs_okns, mk_okns, rs_okns, ss_deps, es_deps, cs_deps, mk_deps, rs_deps, c27, h, e1, a35]
/-- Texts, as the machine has them. -/
abbrev Ws (l : List (List UInt8)) : List PV := encs (fun x => PV.str (B x)) l
theorem ws_okns (l : List (List UInt8)) (a b c) : PV.okns a b c (Ws l) = true := encs_okns (fun x _ => rfl) a b c
theorem ws_deps (l : List (List UInt8)) (a) : PV.deps a (Ws l) = true := encs_deps (fun x _ => rfl) a
theorem ws_strs : ∀ l : List (List UInt8), strsOf (Ws l) = some (l.map B)
  | [] => rfl
  | x :: l => by
    show strsOf (PV.str (B x) :: Ws l) = _
    rw [strsOf, ws_strs l]; rfl
theorem app33 (n : Int) (h : I64 n) : app E false (.fn 33 []) [.int .i64 n] [] = some (.str (B (Lib.itoa n)), emptyBag, []) := by
  rw [app_prim E (F := itoaF) rfl]
  unfold I64 at h
  simp only [itoaF, if_pos h]; rfl
theorem app34 (l : List (List UInt8)) (h1 : l.length ≤ 140737488355328) (h2 : (Lib.join l [32]).length ≤ 140737488355328) : app E false (.fn 34 []) [.lst none false 1 (Ws l), .str (B [32])] [] = some (.str (B (Lib.join l [32])), emptyBag, []) := by
  rw [app_prim E (F := joinF) rfl]
  have e : joined (l.map B) (B [32]) = Lib.join l [32] := by
    unfold joined
    rw [List.map_map, B_list]
    congr 1
    rw [show (fun x : ByteArray => x.data.toList) ∘ B = id from funext B_list, List.map_id]
  simp only [joinF, ws_strs, e, List.length_map]
  rw [if_pos ⟨h1, h2⟩]; rfl
/-- A line. -/
def lineS (w : List UInt8) (ns : List Int) : List UInt8 := Lib.join (w :: ns.map Lib.itoa) [32]
theorem lens_itoa : ∀ ns : List Int, (∀ n ∈ ns, I64 n) → Lib.lens (ns.map Lib.itoa) ≤ 21 * ns.length
  | [], _ => by simp [Lib.lens]
  | n :: ns, h => by
    have h1 := Lib.itoa_length_le n (h n List.mem_cons_self).1 (h n List.mem_cons_self).2
    have h2 := lens_itoa ns fun x hx => h x (List.mem_cons_of_mem _ hx)
    simp only [Lib.lens, List.map_cons, List.sum_cons, List.length_cons] at h2 ⊢
    omega
theorem lineS_len (w : List UInt8) (ns : List Int) (hw : w.length ≤ 100) (hn : ∀ n ∈ ns, I64 n) (hl : ns.length ≤ 2) : (lineS w ns).length ≤ 200 := by
  have := lens_itoa ns hn
  unfold lineS
  rw [Lib.join_length]
  simp only [Lib.lens, List.map_cons, List.sum_cons, List.length_map, List.length_singleton] at this ⊢
  omega
section
variable (w : List UInt8) (ns : List Int) (hw : w.length ≤ 100) (hn : ∀ n ∈ ns, I64 n) (hl : ns.length ≤ 2)
def S26 (k : Nat) : St := ⟨[(5, .lst (some 9) false 1 (Ws (w :: (ns.take k).map Lib.itoa))), (10, .lst none false 1 (Es ns)), (11, .int .i64 ns.length), (12, .int .i64 k)], [(9, k + 1, 9)], [], [], []⟩
include hn hl in
theorem loop26 {st : St} (h0 : maskSt [5, 10, 11, 12] [] [9] [] st = some (S26 w ns 0)) :
    loopW (maskSt [5, 10, 11, 12] [] [9] []) (Cd.run (app E) (c26.body.nth 0)) st = (c26.body.nth 0).run (app E) (S26 w ns ns.length) := by
  refine loop_eq (S26 w ns) ns.length (fun k hk => ?_) ?_ h0
  · have hk' : (k : Int) < ns.length := by omega
    have hwr := wrap_succ k (by omega)
    have h33 := app33 ns[k] (hn _ (List.getElem_mem hk))
    have hA : (w :: (ns.take k).map Lib.itoa).length = k + 1 := by simp; omega
    have hb : (k + 1 + 1) * 16 ≤ maxBytes := by unfold maxBytes; omega
    unfold S26
    rw [take_succ' ns k hk, List.map_append, List.map_cons, List.map_nil, ← List.cons_append]
    generalize w :: (ns.take k).map Lib.itoa = A at hA
    simp [-isPlace, -moves, isPlace_int, isPlace_bool, isPlace_str, isPlace_lst, moves_int, moves_bool, moves_str, moves_lst, LC_placeI, LC_placeI', LC_movesI, LC_cellI, LC_getE, LC_add, LC_add0, LC_put31, LC_place0, LC_place1, frzV, frzR, ss_okns, es_okns, cs_okns, mk_okns, rs_okns, ss_deps, es_deps, cs_deps, mk_deps, rs_deps, ws_okns, ws_deps, c26, Cd.nth, Cd.loops, Cd.body, hk, hk', encs_getE, h33, hA, hb, hwr, okns_append]
  · simp [c26, Cd.nth, Cd.loops, Cd.body, S26]
include hw hn hl in
theorem app26 : app E false (.fn 26 []) [.str (B w), .lst none false 1 (Es ns)] [] = some (.str (B (lineS w ns)), emptyBag, []) := by
  rw [app_fn E rfl h26 rfl]
  have h := @loop26 w ns hn hl
  have hj := lineS_len w ns hw hn hl
  unfold lineS at hj ⊢
  have h34 := app34 (w :: ns.map Lib.itoa) (by simp; omega) (by omega)
  simp only [S26, c26, Cd.nth, Cd.loops, Cd.body, List.nil_append, List.append_nil, List.cons_append, List.getElem?_cons_succ, List.getElem?_cons_zero, Option.getD_some, List.take_length] at h
  generalize hL : w :: ns.map Lib.itoa = L at *
  simp [-encs_cons, -isPlace, -moves, isPlace_int, isPlace_bool, isPlace_str, isPlace_lst, moves_int, moves_bool, moves_str, moves_lst, LC_placeI, LC_placeI', LC_movesI, LC_cellI, LC_getE, LC_add, LC_add0, LC_put31, LC_place0, LC_place1, frzV, frzR, ss_okns, es_okns, cs_okns, mk_okns, rs_okns, ss_deps, es_deps, cs_deps, mk_deps, rs_deps, c26]
  rw [h (by simp [-isPlace, -moves, isPlace_int, isPlace_bool, isPlace_str, isPlace_lst, moves_int, moves_bool, moves_str, moves_lst, LC_placeI, LC_placeI', LC_movesI, LC_cellI, LC_getE, LC_add, LC_add0, LC_put31, LC_place0, LC_place1, frzV, frzR, ss_okns, es_okns, cs_okns, mk_okns, rs_okns, ss_deps, es_deps, cs_deps, mk_deps, rs_deps, ws_okns, ws_deps])]
  simp [-encs_cons, -isPlace, -moves, isPlace_int, isPlace_bool, isPlace_str, isPlace_lst, moves_int, moves_bool, moves_str, moves_lst, LC_placeI, LC_placeI', LC_movesI, LC_cellI, LC_getE, LC_add, LC_add0, LC_put31, LC_place0, LC_place1, frzV, frzR, ss_okns, es_okns, cs_okns, mk_okns, rs_okns, ss_deps, es_deps, cs_deps, mk_deps, rs_deps, ws_okns, ws_deps, h34, mk_B]
end
theorem lineS_one (w : List UInt8) (n : Int) : lineS w [n] = w ++ [32] ++ Lib.itoa n := by
  simp [lineS, Lib.join, List.intercalate]
theorem lineS_two (w : List UInt8) (n m : Int) : lineS w [n, m] = w ++ [32] ++ Lib.itoa n ++ [32] ++ Lib.itoa m := by
  simp [lineS, Lib.join, List.intercalate]
end Go.Proofs.YtbbpkkeaddbcnaaDoor.ZJM.LD
