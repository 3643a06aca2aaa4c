/- Load: a load as text, twice. -/
import Derived.Test.YtbbpkkeaddbcnaaDoorZL18
set_option linter.unusedSimpArgs false
set_option linter.unusedVariables false
namespace Go.Proofs.YtbbpkkeaddbcnaaDoor.ZJM.LD
open Go.Proofs.YtbbpkkeaddbcnaaDoor.ZJM Go.RowKit
theorem wrap_one : IntKind.i64.wrap 1 = 1 := W_id (by omega) (by omega)
section
variable (f : Nat → Int)
theorem LC_subs {x : PV} {a b : Nat} (h : x ∈ List.take a (List.drop b (LC f))) : ∃ n, x = .int .i64 n := LC_sub f h
theorem LC_outS (lv sl : Nat) (p : Path) (j a b : Nat) : outCs lv sl p j (List.take a (List.drop b (LC f))) = some (List.take a (List.drop b (LC f))) := by
  have key : ∀ (l : List PV) (j : Nat), (∀ x ∈ l, ∃ n, x = PV.int .i64 n) → outCs lv sl p j l = some l := by
    intro l
    induction l with
    | nil => intro j _; rfl
    | cons x l ih =>
      intro j hl
      obtain ⟨n, rfl⟩ := hl x (by simp)
      simp only [outCs, outC, ih (j + 1) fun y hy => hl y (by simp [hy])]
  exact key _ j fun x hx => LC_sub f hx
theorem LC_cellS (a b : Nat) : (List.take a (List.drop b (LC f))).all PV.isCell = true := List.all_eq_true.2 fun x hx => by obtain ⟨n, rfl⟩ := LC_sub f hx; rfl
theorem LC_oknsS (x y z) (a b : Nat) : PV.okns x y z (List.take a (List.drop b (LC f))) = true := PV.datas_okns _ _ _ _ (PV.datas_mem fun x hx => by obtain ⟨n, rfl⟩ := LC_sub f hx; rfl)
def clsW : List UInt8 := [99, 108, 97, 115, 115]
def nodW : List UInt8 := [110, 111, 100, 101]
def clsW32 : List UInt8 := [99, 108, 97, 115, 115, 32]
def nodW32 : List UInt8 := [110, 111, 100, 101, 32]
def sp : List UInt8 := [32]
theorem cls_w : ByteArray.mk #[99, 108, 97, 115, 115] = B clsW := rfl
theorem nod_w : ByteArray.mk #[110, 111, 100, 101] = B nodW := rfl
theorem cls_w32 : ByteArray.mk #[99, 108, 97, 115, 115, 32] = B clsW32 := rfl
theorem nod_w32 : ByteArray.mk #[110, 111, 100, 101, 32] = B nodW32 := rfl
theorem sp_w : ByteArray.mk #[32] = B sp := rfl
/-- The words; the numbers; the lines. -/
def ws7 : List (List UInt8) := [[116, 105, 99, 107, 115], [98, 117, 115, 121], [115, 112, 111, 105, 108, 116], [111, 117, 116, 115], [116, 114, 105, 112, 115], [108, 111, 115, 116], [109, 111, 115, 116]]
def ns7 : List Int := [W (f 0), W (f 1), W (f 27), W (f 28), W (f 29), W (f 30), W (f 31)]
def base : List (List UInt8) := [lineS [116, 105, 99, 107, 115] [W (f 0)], lineS [98, 117, 115, 121] [W (f 1)], lineS [115, 112, 111, 105, 108, 116] [W (f 27)], lineS [111, 117, 116, 115] [W (f 28)], lineS [116, 114, 105, 112, 115] [W (f 29)], lineS [108, 111, 115, 116] [W (f 30)], lineS [109, 111, 115, 116] [W (f 31)]]
def clsL : Nat → List (List UInt8)
  | 0 => []
  | k + 1 => clsL k ++ (if 0 < k ∧ 0 < W (f (2 + k)) then [lineS clsW [(k : Int), W (f (2 + k))]] else [])
def nodL : Nat → List (List UInt8)
  | 0 => []
  | k + 1 => nodL k ++ (if 0 < k ∧ 0 < W (f (10 + k)) then [lineS nodW [(k : Int), W (f (10 + k))]] else [])
theorem clsL_len : ∀ k, (clsL f k).length ≤ k
  | 0 => by simp [clsL]
  | k + 1 => by
    have := clsL_len k
    unfold clsL
    rw [List.length_append]
    split <;> simp <;> omega
theorem nodL_len : ∀ k, (nodL f k).length ≤ k
  | 0 => by simp [nodL]
  | k + 1 => by
    have := nodL_len k
    unfold nodL
    rw [List.length_append]
    split <;> simp <;> omega
def allL : List (List UInt8) := base f ++ clsL f 8 ++ nodL f 17
variable (A : List (List UInt8))
def S15a (k : Nat) : St := ⟨[(1, .ptr 0 1 [] 0), (3, .lst (some 36) false 1 (Ws (A ++ clsL f k))), (38, .agg (List.take 8 (List.drop 2 (LC f)))), (39, .int .i64 k)], [(36, (A ++ clsL f k).length, 9)], [(1, LC f)], [], []⟩
theorem loop15a (hA : A.length ≤ 40) {st : St} (h0 : maskSt [1, 3, 38, 39] [1] [36] [] st = some (S15a f A 0)) :
    loopW (maskSt [1, 3, 38, 39] [1] [36] []) (Cd.run (app E) (c15.body.nth 0)) st = (c15.body.nth 0).run (app E) (S15a f A 8) := by
  refine loop_eq (S15a f A) 8 (fun k hk => ?_) ?_ h0
  · have hk' : (k : Int) < 8 := by omega
    have hk0 : (0 : Int) ≤ k := by omega
    have hw := wrap_succ k (by omega)
    have hl := clsL_len f k
    have h26 := app26 clsW [(k : Int), W (f (2 + k))] (by decide) (fun n hn => by
      simp only [List.mem_cons, List.not_mem_nil, or_false] at hn
      rcases hn with rfl | rfl
      · unfold I64; omega
      · exact W_I64 _) (by simp)
    simp only [Es, encs_cons, encs_nil] at h26
    have hlen : (A ++ clsL f k).length ≤ 40 + k := by simp; omega
    have hb : ((A ++ clsL f k).length + 1) * 16 ≤ maxBytes := by unfold maxBytes; omega
    simp only [S15a, clsL]
    by_cases a0 : 0 < k
    · have a0' : (0 : Int) < (k : Int) := by omega
      by_cases a1 : 0 < W (f (2 + k))
      · rw [if_pos ⟨a0, a1⟩, ← List.append_assoc]
        generalize A ++ clsL f k = X at hlen hb
        simp [-isPlace, -moves, isPlace_int, isPlace_bool, isPlace_str, isPlace_lst, moves_int, moves_bool, moves_str, moves_lst, LC_placeI, LC_placeI', LC_movesI, LC_cellI, LC_getE, LC_add, LC_add0, LC_put31, LC_place0, LC_place1, frzV, frzR, ss_okns, es_okns, cs_okns, mk_okns, rs_okns, ss_deps, es_deps, cs_deps, mk_deps, rs_deps, ws_okns, ws_deps, c15, Cd.nth, Cd.loops, Cd.body, hk, hk', hk0, hw, a0, a0', a1, h26, hb, cls_w, nod_w, okns_append, LC_outS, LC_cellS, LC_oknsS]
      · rw [if_neg (fun h => a1 h.2), List.append_nil]
        generalize A ++ clsL f k = X at hlen hb
        simp [-isPlace, -moves, isPlace_int, isPlace_bool, isPlace_str, isPlace_lst, moves_int, moves_bool, moves_str, moves_lst, LC_placeI, LC_placeI', LC_movesI, LC_cellI, LC_getE, LC_add, LC_add0, LC_put31, LC_place0, LC_place1, frzV, frzR, ss_okns, es_okns, cs_okns, mk_okns, rs_okns, ss_deps, es_deps, cs_deps, mk_deps, rs_deps, ws_okns, ws_deps, c15, Cd.nth, Cd.loops, Cd.body, hk, hk', hk0, hw, a0, a0', a1, h26, hb, cls_w, nod_w, okns_append, LC_outS, LC_cellS, LC_oknsS]
    · have e : k = 0 := by omega
      subst e
      rw [if_neg (fun h => a0 h.1), List.append_nil]
      generalize A ++ clsL f 0 = X at hlen hb
      simp [-isPlace, -moves, isPlace_int, isPlace_bool, isPlace_str, isPlace_lst, moves_int, moves_bool, moves_str, moves_lst, LC_placeI, LC_placeI', LC_movesI, LC_cellI, LC_getE, LC_add, LC_add0, LC_put31, LC_place0, LC_place1, frzV, frzR, ss_okns, es_okns, cs_okns, mk_okns, rs_okns, ss_deps, es_deps, cs_deps, mk_deps, rs_deps, ws_okns, ws_deps, c15, Cd.nth, Cd.loops, Cd.body, cls_w, nod_w, okns_append, LC_outS, LC_cellS, LC_oknsS, wrap_one]
  · simp [c15, Cd.nth, Cd.loops, Cd.body, S15a]
def S15b (k : Nat) : St := ⟨[(3, .lst (some 36) false 1 (Ws (A ++ nodL f k))), (58, .agg (List.take 17 (List.drop 10 (LC f)))), (59, .int .i64 k)], [(36, (A ++ nodL f k).length, 9)], [], [], []⟩
theorem loop15b (hA : A.length ≤ 40) {st : St} (h0 : maskSt [3, 58, 59] [] [36] [] st = some (S15b f A 0)) :
    loopW (maskSt [3, 58, 59] [] [36] []) (Cd.run (app E) (c15.body.nth 1)) st = (c15.body.nth 1).run (app E) (S15b f A 17) := by
  refine loop_eq (S15b f A) 17 (fun k hk => ?_) ?_ h0
  · have hk' : (k : Int) < 17 := by omega
    have hk0 : (0 : Int) ≤ k := by omega
    have hw := wrap_succ k (by omega)
    have hl := nodL_len f k
    have h26 := app26 nodW [(k : Int), W (f (10 + k))] (by decide) (fun n hn => by
      simp only [List.mem_cons, List.not_mem_nil, or_false] at hn
      rcases hn with rfl | rfl
      · unfold I64; omega
      · exact W_I64 _) (by simp)
    simp only [Es, encs_cons, encs_nil] at h26
    have hlen : (A ++ nodL f k).length ≤ 40 + k := by simp; omega
    have hb : ((A ++ nodL f k).length + 1) * 16 ≤ maxBytes := by unfold maxBytes; omega
    simp only [S15b, nodL]
    by_cases a0 : 0 < k
    · have a0' : (0 : Int) < (k : Int) := by omega
      by_cases a1 : 0 < W (f (10 + k))
      · rw [if_pos ⟨a0, a1⟩, ← List.append_assoc]
        generalize A ++ nodL f k = X at hlen hb
        simp [-isPlace, -moves, isPlace_int, isPlace_bool, isPlace_str, isPlace_lst, moves_int, moves_bool, moves_str, moves_lst, LC_placeI, LC_placeI', LC_movesI, LC_cellI, LC_getE, LC_add, LC_add0, LC_put31, LC_place0, LC_place1, frzV, frzR, ss_okns, es_okns, cs_okns, mk_okns, rs_okns, ss_deps, es_deps, cs_deps, mk_deps, rs_deps, ws_okns, ws_deps, c15, Cd.nth, Cd.loops, Cd.body, hk, hk', hk0, hw, a0, a0', a1, h26, hb, cls_w, nod_w, okns_append, LC_outS, LC_cellS, LC_oknsS]
      · rw [if_neg (fun h => a1 h.2), List.append_nil]
        generalize A ++ nodL f k = X at hlen hb
        simp [-isPlace, -moves, isPlace_int, isPlace_bool, isPlace_str, isPlace_lst, moves_int, moves_bool, moves_str, moves_lst, LC_placeI, LC_placeI', LC_movesI, LC_cellI, LC_getE, LC_add, LC_add0, LC_put31, LC_place0, LC_place1, frzV, frzR, ss_okns, es_okns, cs_okns, mk_okns, rs_okns, ss_deps, es_deps, cs_deps, mk_deps, rs_deps, ws_okns, ws_deps, c15, Cd.nth, Cd.loops, Cd.body, hk, hk', hk0, hw, a0, a0', a1, h26, hb, cls_w, nod_w, okns_append, LC_outS, LC_cellS, LC_oknsS]
    · have e : k = 0 := by omega
      subst e
      rw [if_neg (fun h => a0 h.1), List.append_nil]
      generalize A ++ nodL f 0 = X at hlen hb
      simp [-isPlace, -moves, isPlace_int, isPlace_bool, isPlace_str, isPlace_lst, moves_int, moves_bool, moves_str, moves_lst, LC_placeI, LC_placeI', LC_movesI, LC_cellI, LC_getE, LC_add, LC_add0, LC_put31, LC_place0, LC_place1, frzV, frzR, ss_okns, es_okns, cs_okns, mk_okns, rs_okns, ss_deps, es_deps, cs_deps, mk_deps, rs_deps, ws_okns, ws_deps, c15, Cd.nth, Cd.loops, Cd.body, cls_w, nod_w, okns_append, LC_outS, LC_cellS, LC_oknsS, wrap_one]
  · simp [c15, Cd.nth, Cd.loops, Cd.body, S15b]
theorem app15 : app E false (.fn 15 []) [.agg (LC f)] [] = some (.lst none false 1 (Ws (allL f)), emptyBag, []) := by
  rw [app_fn E rfl h15 rfl]
  have hA := @loop15a f (base f) (by simp [base])
  have hcl := clsL_len f 8
  have hB := @loop15b f (base f ++ clsL f 8) (by simp [base]; omega)
  have ln : ∀ (w : List UInt8) (n : Int), w.length ≤ 100 → app E false (.fn 26 []) [.str (B w), .lst none false 1 [.int .i64 (W n)]] [] = some (.str (B (lineS w [W n])), emptyBag, []) := fun w n hw =>
    app26 w [W n] hw (fun x hx => by simp only [List.mem_cons, List.not_mem_nil, or_false] at hx; subst hx; exact W_I64 _) (by simp)
  have l0 := ln [116, 105, 99, 107, 115] (f 0) (by simp)
  have l1 := ln [98, 117, 115, 121] (f 1) (by simp)
  have l27 := ln [115, 112, 111, 105, 108, 116] (f 27) (by simp)
  have l28 := ln [111, 117, 116, 115] (f 28) (by simp)
  have l29 := ln [116, 114, 105, 112, 115] (f 29) (by simp)
  have l30 := ln [108, 111, 115, 116] (f 30) (by simp)
  have l31 := ln [109, 111, 115, 116] (f 31) (by simp)
  have hb : [PV.str (B (lineS [116, 105, 99, 107, 115] [W (f 0)])), PV.str (B (lineS [98, 117, 115, 121] [W (f 1)])), PV.str (B (lineS [115, 112, 111, 105, 108, 116] [W (f 27)])), PV.str (B (lineS [111, 117, 116, 115] [W (f 28)])), PV.str (B (lineS [116, 114, 105, 112, 115] [W (f 29)])), PV.str (B (lineS [108, 111, 115, 116] [W (f 30)])), PV.str (B (lineS [109, 111, 115, 116] [W (f 31)]))] = Ws (base f) := rfl
  simp only [S15a, c15, Cd.nth, Cd.loops, Cd.body, List.nil_append, List.append_nil, List.cons_append, List.getElem?_cons_succ, List.getElem?_cons_zero, Option.getD_some, show clsL f 0 = [] from rfl, List.append_nil, mk_B] at hA
  simp only [S15b, c15, Cd.nth, Cd.loops, Cd.body, List.nil_append, List.append_nil, List.cons_append, List.getElem?_cons_succ, List.getElem?_cons_zero, Option.getD_some, show nodL f 0 = [] from rfl, List.append_nil, mk_B] at hB
  simp [-encs_cons, -isPlace, -moves, isPlace_int, isPlace_bool, isPlace_str, isPlace_lst, moves_int, moves_bool, moves_str, moves_lst, LC_placeI, LC_placeI', LC_movesI, LC_cellI, LC_getE, LC_add, LC_add0, LC_put31, LC_place0, LC_place1, frzV, frzR, ss_okns, es_okns, cs_okns, mk_okns, rs_okns, ss_deps, es_deps, cs_deps, mk_deps, rs_deps, ws_okns, ws_deps, c15, mk_B, l0, l1, l27, l28, l29, l30, l31, LC_outS, LC_cellS, LC_oknsS]
  simp only [hb]
  have hlb : (base f).length = 7 := rfl
  rw [hA (by simp [-encs_cons, -encs_append, -isPlace, -moves, isPlace_int, isPlace_bool, isPlace_str, isPlace_lst, moves_int, moves_bool, moves_str, moves_lst, LC_placeI, LC_placeI', LC_movesI, LC_cellI, LC_getE, LC_add, LC_add0, LC_put31, LC_place0, LC_place1, frzV, frzR, ss_okns, es_okns, cs_okns, mk_okns, rs_okns, ss_deps, es_deps, cs_deps, mk_deps, rs_deps, ws_okns, ws_deps, hlb, LC_outS, LC_cellS, LC_oknsS])]
  simp [-encs_cons, -encs_append, -isPlace, -moves, isPlace_int, isPlace_bool, isPlace_str, isPlace_lst, moves_int, moves_bool, moves_str, moves_lst, LC_placeI, LC_placeI', LC_movesI, LC_cellI, LC_getE, LC_add, LC_add0, LC_put31, LC_place0, LC_place1, frzV, frzR, ss_okns, es_okns, cs_okns, mk_okns, rs_okns, ss_deps, es_deps, cs_deps, mk_deps, rs_deps, ws_okns, ws_deps, LC_outS, LC_cellS, LC_oknsS]
  rw [hB (by simp [-encs_cons, -encs_append, -isPlace, -moves, isPlace_int, isPlace_bool, isPlace_str, isPlace_lst, moves_int, moves_bool, moves_str, moves_lst, LC_placeI, LC_placeI', LC_movesI, LC_cellI, LC_getE, LC_add, LC_add0, LC_put31, LC_place0, LC_place1, frzV, frzR, ss_okns, es_okns, cs_okns, mk_okns, rs_okns, ss_deps, es_deps, cs_deps, mk_deps, rs_deps, ws_okns, ws_deps, LC_outS, LC_cellS, LC_oknsS])]
  simp [-encs_cons, -encs_append, -isPlace, -moves, isPlace_int, isPlace_bool, isPlace_str, isPlace_lst, moves_int, moves_bool, moves_str, moves_lst, LC_placeI, LC_placeI', LC_movesI, LC_cellI, LC_getE, LC_add, LC_add0, LC_put31, LC_place0, LC_place1, frzV, frzR, ss_okns, es_okns, cs_okns, mk_okns, rs_okns, ss_deps, es_deps, cs_deps, mk_deps, rs_deps, ws_okns, ws_deps, allL]
def S16 (k : Nat) : St := ⟨[(1, .ptr 0 1 [] 0), (3, .lst none false 1 (Ws ws7)), (4, .lst none false 1 (Es (ns7 f))), (5, .lst (some 25) false 1 (Ws ((base f).take k))), (6, .int .i64 k)], [(25, ((base f).take k).length, 9)], [(1, LC f)], [], []⟩
theorem loop16 {st : St} (h0 : maskSt [1, 3, 4, 5, 6] [1] [25] [] st = some (S16 f 0)) :
    loopW (maskSt [1, 3, 4, 5, 6] [1] [25] []) (Cd.run (app E) (c16.body.nth 0)) st = (c16.body.nth 0).run (app E) (S16 f 7) := by
  refine loop_eq (S16 f) 7 (fun k hk => ?_) ?_ h0
  · have hk' : (k : Int) < 7 := by omega
    have hw := wrap_succ k (by omega)
    have hlw : ws7.length = 7 := rfl
    have hln : (ns7 f).length = 7 := rfl
    have hlb : (base f).length = 7 := rfl
    have hkw : k < ws7.length := by omega
    have hkn : k < (ns7 f).length := by omega
    have hkb : k < (base f).length := by omega
    have hrow : (base f)[k] = lineS ws7[k] [(ns7 f)[k]] ∧ ws7[k].length ≤ 100 ∧ I64 (ns7 f)[k] := by
      rcases (by omega : k = 0 ∨ k = 1 ∨ k = 2 ∨ k = 3 ∨ k = 4 ∨ k = 5 ∨ k = 6) with rfl | rfl | rfl | rfl | rfl | rfl | rfl <;> exact ⟨rfl, by simp [ws7], W_I64 _⟩
    obtain ⟨r1, r2, r3⟩ := hrow
    have h27 := app27 (ns7 f)[k] r3
    have l1 : (Lib.itoa (ns7 f)[k]).length ≤ 21 := Lib.itoa_length_le _ r3.1 r3.2
    have ls : sp.length = 1 := rfl
    have ls1 : ∀ w n, lineS w [n] = w ++ sp ++ Lib.itoa n := lineS_one
    rw [ls1] at r1
    have hA : ((base f).take k).length = k := by simp; omega
    have hb : (k + 1) * 16 ≤ maxBytes := by unfold maxBytes; omega
    unfold S16
    rw [take_succ' (base f) k hkb, r1]
    generalize (base f).take k = X at hA
    obtain ⟨w, hwd⟩ : ∃ w, w = ws7[k] := ⟨_, rfl⟩
    obtain ⟨n, hnd⟩ : ∃ n, n = (ns7 f)[k] := ⟨_, rfl⟩
    rw [← hwd] at r2 ⊢
    rw [← hnd] at h27 l1 ⊢
    have m1 : (B w).size + (B sp).size ≤ maxBytes := by rw [B_size, B_size, ls]; unfold maxBytes; omega
    have m2 : (B (w ++ sp)).size + (B (Lib.itoa n)).size ≤ maxBytes := by rw [B_size, B_size, List.length_append, ls]; unfold maxBytes; omega
    have hwd' : ∀ h, ws7[k]'h = w := fun _ => hwd.symm
    have hnd' : ∀ h, (ns7 f)[k]'h = n := fun _ => hnd.symm
    simp [-List.append_assoc, -isPlace, -moves, isPlace_int, isPlace_bool, isPlace_str, isPlace_lst, moves_int, moves_bool, moves_str, moves_lst, LC_placeI, LC_placeI', LC_movesI, LC_cellI, LC_getE, LC_add, LC_add0, LC_put31, LC_place0, LC_place1, frzV, frzR, ss_okns, es_okns, cs_okns, mk_okns, rs_okns, ss_deps, es_deps, cs_deps, mk_deps, rs_deps, ws_okns, ws_deps, c16, Cd.nth, Cd.loops, Cd.body, hk, hk', hlw, hln, hkw, hkn, encs_getE, hwd', hnd', h27, sp_w, B_app, m1, m2, hA, hb, hw, okns_append]
  · have hlw : ws7.length = 7 := rfl
    simp [c16, Cd.nth, Cd.loops, Cd.body, S16, hlw]
def S16a (t : Nat) : St := ⟨[(1, .ptr 0 1 [] 0), (5, .lst (some 25) false 1 (Ws (A ++ clsL f (t + 1)))), (7, .int .i64 ((t + 1 : Nat) : Int))], [(25, (A ++ clsL f (t + 1)).length, 9)], [(1, LC f)], [], []⟩
theorem loop16a (hA : A.length ≤ 40) {st : St} (h0 : maskSt [1, 5, 7] [1] [25] [] st = some (S16a f A 0)) :
    loopW (maskSt [1, 5, 7] [1] [25] []) (Cd.run (app E) (c16.body.nth 1)) st = (c16.body.nth 1).run (app E) (S16a f A (8 - 1)) := by
  refine loop_eq (S16a f A) (8 - 1) (fun t ht => ?_) ?_ h0
  · obtain ⟨k, hkt⟩ : ∃ k, k = t + 1 := ⟨_, rfl⟩
    have hk : k < 8 := by omega
    have hk' : (k : Int) < 8 := by omega
    have hk0 : (0 : Int) ≤ k := by omega
    have hk1 : 2 + k < 32 := by omega
    have a0 : 0 < k := by omega
    have hw := wrap_succ k (by omega)
    have hl := clsL_len f k
    have h27a := app27 k (by unfold I64; omega)
    have h27b := app27 (W (f (2 + k))) (W_I64 _)
    have l1 : (Lib.itoa (k : Int)).length ≤ 21 := Lib.itoa_length_le _ (by omega) (by omega)
    have l2 : (Lib.itoa (W (f (2 + k)))).length ≤ 21 := Lib.itoa_length_le _ (W_I64 _).1 (W_I64 _).2
    have hlen : (A ++ clsL f k).length ≤ 40 + k := by simp; omega
    have hb : ((A ++ clsL f k).length + 1) * 16 ≤ maxBytes := by unfold maxBytes; omega
    have lw : clsW32.length ≤ 10 := by decide
    have ls : sp.length = 1 := rfl
    have m1 : (B clsW32).size + (B (Lib.itoa (k : Int))).size ≤ maxBytes := by rw [B_size, B_size]; unfold maxBytes; omega
    have m2 : (B (clsW32 ++ Lib.itoa (k : Int))).size + (B sp).size ≤ maxBytes := by rw [B_size, B_size, List.length_append]; unfold maxBytes; omega
    have m3 : (B (clsW32 ++ Lib.itoa (k : Int) ++ sp)).size + (B (Lib.itoa (W (f (2 + k))))).size ≤ maxBytes := by rw [B_size, B_size, List.length_append, List.length_append]; unfold maxBytes; omega
    have hl2 : lineS clsW [(k : Int), W (f (2 + k))] = clsW32 ++ Lib.itoa (k : Int) ++ sp ++ Lib.itoa (W (f (2 + k))) := lineS_two clsW k (W (f (2 + k)))
    have hst : S16a f A (t + 1) = ⟨[(1, .ptr 0 1 [] 0), (5, .lst (some 25) false 1 (Ws (A ++ clsL f (k + 1)))), (7, .int .i64 ((k + 1 : Nat) : Int))], [(25, (A ++ clsL f (k + 1)).length, 9)], [(1, LC f)], [], []⟩ := by subst hkt; rfl
    have hst0 : S16a f A t = ⟨[(1, .ptr 0 1 [] 0), (5, .lst (some 25) false 1 (Ws (A ++ clsL f k))), (7, .int .i64 ((k : Nat) : Int))], [(25, (A ++ clsL f k).length, 9)], [(1, LC f)], [], []⟩ := by subst hkt; rfl
    rw [hst, hst0]
    clear hst hst0 hkt ht
    simp only [clsL]
    by_cases a1 : 0 < W (f (2 + k))
    · rw [if_pos ⟨a0, a1⟩, ← List.append_assoc, hl2]
      generalize A ++ clsL f k = X at hlen hb
      simp [-List.append_assoc, -isPlace, -moves, isPlace_int, isPlace_bool, isPlace_str, isPlace_lst, moves_int, moves_bool, moves_str, moves_lst, LC_placeI, LC_placeI', LC_movesI, LC_cellI, LC_getE, LC_add, LC_add0, LC_put31, LC_place0, LC_place1, frzV, frzR, ss_okns, es_okns, cs_okns, mk_okns, rs_okns, ss_deps, es_deps, cs_deps, mk_deps, rs_deps, ws_okns, ws_deps, c16, Cd.nth, Cd.loops, Cd.body, hk, hk', hk0, hk1, hw, a1, h27a, h27b, hb, cls_w32, nod_w32, sp_w, B_app, m1, m2, m3, okns_append]
    · rw [if_neg (fun h => a1 h.2), List.append_nil]
      generalize A ++ clsL f k = X at hlen hb
      simp [-isPlace, -moves, isPlace_int, isPlace_bool, isPlace_str, isPlace_lst, moves_int, moves_bool, moves_str, moves_lst, LC_placeI, LC_placeI', LC_movesI, LC_cellI, LC_getE, LC_add, LC_add0, LC_put31, LC_place0, LC_place1, frzV, frzR, ss_okns, es_okns, cs_okns, mk_okns, rs_okns, ss_deps, es_deps, cs_deps, mk_deps, rs_deps, ws_okns, ws_deps, c16, Cd.nth, Cd.loops, Cd.body, hk, hk', hk0, hk1, hw, a1, okns_append]
  · simp [c16, Cd.nth, Cd.loops, Cd.body, S16a]
def S16b (t : Nat) : St := ⟨[(1, .ptr 0 1 [] 0), (5, .lst (some 25) false 1 (Ws (A ++ nodL f (t + 1)))), (8, .int .i64 ((t + 1 : Nat) : Int))], [(25, (A ++ nodL f (t + 1)).length, 9)], [(1, LC f)], [], []⟩
theorem loop16b (hA : A.length ≤ 40) {st : St} (h0 : maskSt [1, 5, 8] [1] [25] [] st = some (S16b f A 0)) :
    loopW (maskSt [1, 5, 8] [1] [25] []) (Cd.run (app E) (c16.body.nth 2)) st = (c16.body.nth 2).run (app E) (S16b f A (17 - 1)) := by
  refine loop_eq (S16b f A) (17 - 1) (fun t ht => ?_) ?_ h0
  · obtain ⟨k, hkt⟩ : ∃ k, k = t + 1 := ⟨_, rfl⟩
    have hk : k < 17 := by omega
    have hk' : (k : Int) < 17 := by omega
    have hk0 : (0 : Int) ≤ k := by omega
    have hk1 : 10 + k < 32 := by omega
    have a0 : 0 < k := by omega
    have hw := wrap_succ k (by omega)
    have hl := nodL_len f k
    have h27a := app27 k (by unfold I64; omega)
    have h27b := app27 (W (f (10 + k))) (W_I64 _)
    have l1 : (Lib.itoa (k : Int)).length ≤ 21 := Lib.itoa_length_le _ (by omega) (by omega)
    have l2 : (Lib.itoa (W (f (10 + k)))).length ≤ 21 := Lib.itoa_length_le _ (W_I64 _).1 (W_I64 _).2
    have hlen : (A ++ nodL f k).length ≤ 40 + k := by simp; omega
    have hb : ((A ++ nodL f k).length + 1) * 16 ≤ maxBytes := by unfold maxBytes; omega
    have lw : nodW32.length ≤ 10 := by decide
    have ls : sp.length = 1 := rfl
    have m1 : (B nodW32).size + (B (Lib.itoa (k : Int))).size ≤ maxBytes := by rw [B_size, B_size]; unfold maxBytes; omega
    have m2 : (B (nodW32 ++ Lib.itoa (k : Int))).size + (B sp).size ≤ maxBytes := by rw [B_size, B_size, List.length_append]; unfold maxBytes; omega
    have m3 : (B (nodW32 ++ Lib.itoa (k : Int) ++ sp)).size + (B (Lib.itoa (W (f (10 + k))))).size ≤ maxBytes := by rw [B_size, B_size, List.length_append, List.length_append]; unfold maxBytes; omega
    have hl2 : lineS nodW [(k : Int), W (f (10 + k))] = nodW32 ++ Lib.itoa (k : Int) ++ sp ++ Lib.itoa (W (f (10 + k))) := lineS_two nodW k (W (f (10 + k)))
    have hst : S16b f A (t + 1) = ⟨[(1, .ptr 0 1 [] 0), (5, .lst (some 25) false 1 (Ws (A ++ nodL f (k + 1)))), (8, .int .i64 ((k + 1 : Nat) : Int))], [(25, (A ++ nodL f (k + 1)).length, 9)], [(1, LC f)], [], []⟩ := by subst hkt; rfl
    have hst0 : S16b f A t = ⟨[(1, .ptr 0 1 [] 0), (5, .lst (some 25) false 1 (Ws (A ++ nodL f k))), (8, .int .i64 ((k : Nat) : Int))], [(25, (A ++ nodL f k).length, 9)], [(1, LC f)], [], []⟩ := by subst hkt; rfl
    rw [hst, hst0]
    clear hst hst0 hkt ht
    simp only [nodL]
    by_cases a1 : 0 < W (f (10 + k))
    · rw [if_pos ⟨a0, a1⟩, ← List.append_assoc, hl2]
      generalize A ++ nodL f k = X at hlen hb
      simp [-List.append_assoc, -isPlace, -moves, isPlace_int, isPlace_bool, isPlace_str, isPlace_lst, moves_int, moves_bool, moves_str, moves_lst, LC_placeI, LC_placeI', LC_movesI, LC_cellI, LC_getE, LC_add, LC_add0, LC_put31, LC_place0, LC_place1, frzV, frzR, ss_okns, es_okns, cs_okns, mk_okns, rs_okns, ss_deps, es_deps, cs_deps, mk_deps, rs_deps, ws_okns, ws_deps, c16, Cd.nth, Cd.loops, Cd.body, hk, hk', hk0, hk1, hw, a1, h27a, h27b, hb, cls_w32, nod_w32, sp_w, B_app, m1, m2, m3, okns_append]
    · rw [if_neg (fun h => a1 h.2), List.append_nil]
      generalize A ++ nodL f k = X at hlen hb
      simp [-isPlace, -moves, isPlace_int, isPlace_bool, isPlace_str, isPlace_lst, moves_int, moves_bool, moves_str, moves_lst, LC_placeI, LC_placeI', LC_movesI, LC_cellI, LC_getE, LC_add, LC_add0, LC_put31, LC_place0, LC_place1, frzV, frzR, ss_okns, es_okns, cs_okns, mk_okns, rs_okns, ss_deps, es_deps, cs_deps, mk_deps, rs_deps, ws_okns, ws_deps, c16, Cd.nth, Cd.loops, Cd.body, hk, hk', hk0, hk1, hw, a1, okns_append]
  · simp [c16, Cd.nth, Cd.loops, Cd.body, S16b]
theorem app16 : app E false (.fn 16 []) [.agg (LC f)] [] = some (.lst none false 1 (Ws (allL f)), emptyBag, []) := by
  rw [app_fn E rfl h16 rfl]
  have h1 := @loop16 f
  have hlb : (base f).length = 7 := rfl
  have hA := @loop16a f (base f) (by omega)
  have hcl := clsL_len f 8
  have hB := @loop16b f (base f ++ clsL f 8) (by simp [hlb]; omega)
  have hw7 : [PV.str (B [116, 105, 99, 107, 115]), PV.str (B [98, 117, 115, 121]), PV.str (B [115, 112, 111, 105, 108, 116]), PV.str (B [111, 117, 116, 115]), PV.str (B [116, 114, 105, 112, 115]), PV.str (B [108, 111, 115, 116]), PV.str (B [109, 111, 115, 116])] = Ws ws7 := rfl
  have hn7 : [PV.int .i64 (W (f 0)), PV.int .i64 (W (f 1)), PV.int .i64 (W (f 27)), PV.int .i64 (W (f 28)), PV.int .i64 (W (f 29)), PV.int .i64 (W (f 30)), PV.int .i64 (W (f 31))] = Es (ns7 f) := rfl
  have ht7 : (base f).take 7 = base f := List.take_of_length_le (by omega)
  have c1 : clsL f 1 = [] := rfl
  have n1 : nodL f 1 = [] := rfl
  simp only [S16, c16, Cd.nth, Cd.loops, Cd.body, List.nil_append, List.append_nil, List.cons_append, List.getElem?_cons_succ, List.getElem?_cons_zero, Option.getD_some, List.take_zero, ht7, mk_B] at h1
  simp only [S16a, c16, Cd.nth, Cd.loops, Cd.body, List.nil_append, List.append_nil, List.cons_append, List.getElem?_cons_succ, List.getElem?_cons_zero, Option.getD_some, Nat.zero_add, c1, List.append_nil, mk_B] at hA
  simp only [S16b, c16, Cd.nth, Cd.loops, Cd.body, List.nil_append, List.append_nil, List.cons_append, List.getElem?_cons_succ, List.getElem?_cons_zero, Option.getD_some, Nat.zero_add, n1, List.append_nil, mk_B] at hB
  simp [-encs_cons, -isPlace, -moves, isPlace_int, isPlace_bool, isPlace_str, isPlace_lst, moves_int, moves_bool, moves_str, moves_lst, LC_placeI, LC_placeI', LC_movesI, LC_cellI, LC_getE, LC_add, LC_add0, LC_put31, LC_place0, LC_place1, frzV, frzR, ss_okns, es_okns, cs_okns, mk_okns, rs_okns, ss_deps, es_deps, cs_deps, mk_deps, rs_deps, ws_okns, ws_deps, c16, mk_B]
  simp only [hw7, hn7]
  rw [h1 (by simp [-encs_cons, -isPlace, -moves, isPlace_int, isPlace_bool, isPlace_str, isPlace_lst, moves_int, moves_bool, moves_str, moves_lst, LC_placeI, LC_placeI', LC_movesI, LC_cellI, LC_getE, LC_add, LC_add0, LC_put31, LC_place0, LC_place1, frzV, frzR, ss_okns, es_okns, cs_okns, mk_okns, rs_okns, ss_deps, es_deps, cs_deps, mk_deps, rs_deps, ws_okns, ws_deps])]
  have hlw : ws7.length = 7 := rfl
  simp [-encs_cons, -encs_append, -isPlace, -moves, isPlace_int, isPlace_bool, isPlace_str, isPlace_lst, moves_int, moves_bool, moves_str, moves_lst, LC_placeI, LC_placeI', LC_movesI, LC_cellI, LC_getE, LC_add, LC_add0, LC_put31, LC_place0, LC_place1, frzV, frzR, ss_okns, es_okns, cs_okns, mk_okns, rs_okns, ss_deps, es_deps, cs_deps, mk_deps, rs_deps, ws_okns, ws_deps, hlw]
  rw [hA (by simp [-encs_cons, -encs_append, -isPlace, -moves, isPlace_int, isPlace_bool, isPlace_str, isPlace_lst, moves_int, moves_bool, moves_str, moves_lst, LC_placeI, LC_placeI', LC_movesI, LC_cellI, LC_getE, LC_add, LC_add0, LC_put31, LC_place0, LC_place1, frzV, frzR, ss_okns, es_okns, cs_okns, mk_okns, rs_okns, ss_deps, es_deps, cs_deps, mk_deps, rs_deps, ws_okns, ws_deps])]
  simp [-encs_cons, -encs_append, -isPlace, -moves, isPlace_int, isPlace_bool, isPlace_str, isPlace_lst, moves_int, moves_bool, moves_str, moves_lst, LC_placeI, LC_placeI', LC_movesI, LC_cellI, LC_getE, LC_add, LC_add0, LC_put31, LC_place0, LC_place1, frzV, frzR, ss_okns, es_okns, cs_okns, mk_okns, rs_okns, ss_deps, es_deps, cs_deps, mk_deps, rs_deps, ws_okns, ws_deps]
  rw [hB (by simp [-encs_cons, -encs_append, -isPlace, -moves, isPlace_int, isPlace_bool, isPlace_str, isPlace_lst, moves_int, moves_bool, moves_str, moves_lst, LC_placeI, LC_placeI', LC_movesI, LC_cellI, LC_getE, LC_add, LC_add0, LC_put31, LC_place0, LC_place1, frzV, frzR, ss_okns, es_okns, cs_okns, mk_okns, rs_okns, ss_deps, es_deps, cs_deps, mk_deps, rs_deps, ws_okns, ws_deps])]
  simp [-encs_cons, -encs_append, -isPlace, -moves, isPlace_int, isPlace_bool, isPlace_str, isPlace_lst, moves_int, moves_bool, moves_str, moves_lst, LC_placeI, LC_placeI', LC_movesI, LC_cellI, LC_getE, LC_add, LC_add0, LC_put31, LC_place0, LC_place1, frzV, frzR, ss_okns, es_okns, cs_okns, mk_okns, rs_okns, ss_deps, es_deps, cs_deps, mk_deps, rs_deps, ws_okns, ws_deps, allL]
end
end Go.Proofs.YtbbpkkeaddbcnaaDoor.ZJM.LD
