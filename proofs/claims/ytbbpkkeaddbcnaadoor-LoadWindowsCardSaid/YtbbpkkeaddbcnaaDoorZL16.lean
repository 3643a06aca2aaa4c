/- Load: LoadWindows answers true. -/
import Derived.Test.YtbbpkkeaddbcnaaDoorZL15
set_option linter.unusedSimpArgs false
set_option linter.unusedVariables false
namespace Go.Proofs.YtbbpkkeaddbcnaaDoor.ZJM.LD
open Go.Proofs.YtbbpkkeaddbcnaaDoor.ZJM Go.RowKit
def rd0 : Rd := (c5.rds[0]?).getD ⟨[], [], .skip, .skip⟩
def rd1 : Rd := (c5.rds[1]?).getD ⟨[], [], .skip, .skip⟩
theorem few_app (a b : List Rnd) (h : ∀ r ∈ a ++ b, r.few) : (∀ r ∈ a, r.few) ∧ ∀ r ∈ b, r.few := ⟨fun r hr => h r (List.mem_append_left _ hr), fun r hr => h r (List.mem_append_right _ hr)⟩
theorem huge_app (a b : List Rnd) (hl : (a ++ b).length ≤ 40) (h : ∀ r ∈ a ++ b, r.few) (hh : hugeB (a ++ b) = false) : hugeB a = false ∧ hugeB b = false := by
  obtain ⟨fa, fb⟩ := few_app a b h
  have la : a.length ≤ 40 := by simp at hl; omega
  have lb : b.length ≤ 40 := by simp at hl; omega
  have t1 := tot_le 30 a la fa
  have t2 := tot_le 30 b lb fb
  have t3 := tot_append 30 a b
  have t4 := tot_le 30 (a ++ b) hl h
  obtain ⟨m1, i1⟩ := ofF_31 a fa
  obtain ⟨m2, i2⟩ := ofF_31 b fb
  obtain ⟨m3, i3⟩ := ofF_31 (a ++ b) h
  have m4 := most_append a b
  unfold hugeB at hh ⊢
  simp only [Bool.or_eq_false_iff, decide_eq_false_iff_not] at hh ⊢
  rw [ofF_at (by omega), W_id (by omega) (by omega), m3, i3.w] at hh
  rw [ofF_at (by omega), W_id (by omega) (by omega), m1, i1.w, ofF_at (by omega), W_id (by omega) (by omega), m2, i2.w]
  omega
theorem addF_congr {f f' : Nat → Int} (g : Nat → Int) (h : LC f = LC f') : LC (addF f g) = LC (addF f' g) := by
  refine LC_ext _ fun j hj => ?_
  have hk : ∀ k, k < 32 → W (f k) = W (f' k) := fun k hk => by
    have e := congrArg (·[k]?) h
    simp only [LC_get _ hk, Option.some.injEq, PV.int.injEq, true_and] at e
    exact e
  congr 1
  unfold addF mxN sumN
  rw [hk j hj, hk 31 (by omega)]
/-- The windows' places. -/
def pos (N len : Nat) : Nat → Nat
  | 0 => 0
  | c + 1 => pos N len c + wlen N len (pos N len c)
section
variable (n : Int) (l0 l : List Rnd) (stop : Int)
/-- The law's variables while it goes through the windows. -/
def mem0 (s : Nat × (Nat → Int) × Nat × Nat) : Lvl := [(500000000, [.lrec s.2.2.2]), (22000, [.int .i64 n]), (22001, [.lst none false 6 (Rs l)]), (9, [.int .i64 s.2.2.1]), (8, LC s.2.1), (7, [.int .i64 s.1]), (6, [.bool false]), (5, [.int .u8 stop]), (4, [.lst none false 6 (Rs l)]), (3, [.int .i64 n])]
def y0 : PV := .rnd 5 0 [3, 4, 6, 7, 8, 9] [.ptr 0 3 [] 0, .ptr 0 4 [] 0, .ptr 0 6 [] 0, .ptr 0 7 [] 0, .ptr 0 8 [] 0, .ptr 0 9 [] 0] 0 500000000
def J0 (a : Nat) (s : Nat × (Nat → Int) × Nat × Nat) : Prop := s.1 = a ∧ s.2.2.2 = 0 ∧ s.2.2.1 ≤ a ∧ a = pos n.toNat l.length s.2.2.1 ∧ (∀ d, d < s.2.2.1 → pos n.toNat l.length d < l.length) ∧ a ≤ l.length ∧ (hugeB l = false → LC s.2.1 = LC (ofF (l.take a)))
theorem app0 (hn : 1 ≤ n) (hl : l.length ≤ 20) (hf : ∀ r ∈ l, r.few) (a : Nat) (ha : a < l.length) (s : Nat × (Nat → Int) × Nat × Nat) (hJ : J0 n l a s) :
    ∃ s', app E false y0 [.int .i64 a, .agg (LC (ofF (win n.toNat l a)))] ([] :: [mem0 n l stop s]) = some (.bool true, emptyBag, [] :: [mem0 n l stop s']) ∧ J0 n l (a + wlen n.toNat l.length a) s' := by
  obtain ⟨s1, F, c, q⟩ := s
  obtain ⟨h1, h2, h3, h4, h5, h6, h7⟩ := hJ
  simp only at h1 h2 h3 h4 h5 h7
  subst h1; subst h2
  have ha' : (s1 : Int) < l.length := by omega
  have hN : 1 ≤ n.toNat := by omega
  have hn1 : ¬ n < 1 := by omega
  obtain ⟨w, hwd⟩ : ∃ w, w = wlen n.toNat l.length s1 := ⟨_, rfl⟩
  have hw1 : 1 ≤ w ∧ s1 + w ≤ l.length := by rw [hwd]; unfold wlen; omega
  have hsub : IntKind.i64.wrap ((l.length : Int) - s1) = (l.length : Int) - s1 := W_id (by omega) (by omega)
  have hmn : mnP (.int .i64 n) (.int .i64 ((l.length : Int) - s1)) = some (.int .i64 w) := by
    have : (if (l.length : Int) - s1 < n then (l.length : Int) - s1 else n) = (w : Int) := by rw [hwd]; unfold wlen; split <;> omega
    simp [this]
  have hadd : IntKind.i64.wrap ((s1 : Int) + w) = (s1 : Int) + w := W_id (by omega) (by omega)
  have hle : ¬ ((s1 : Int) + w ≤ s1) := by omega
  have hw0 : ¬ ((w : Int) ≤ 0) := by omega
  have hwz : ¬ (w = 0) := by omega
  have hsl : slclP 6 (.lst none false 6 (Rs l)) (some (.int .i64 s1)) (some (.int .i64 ((s1 : Int) + w))) = some (.lst none false 6 (Rs (win n.toNat l s1))) := by
    have e1 : (s1 : Int) ≤ (s1 : Int) + w ∧ (s1 : Int) + w ≤ l.length := by omega
    have e2 : ((s1 : Int) + w).toNat = s1 + w := by omega
    simp [e1, e2, win, ← hwd, encs_take, encs_drop]
  have hwm : ∀ r ∈ win n.toNat l s1, r ∈ l := fun r hr => List.mem_of_mem_take (List.mem_of_mem_drop hr)
  have hwf : ∀ r ∈ win n.toNat l s1, r.fine := fun r hr => fine_of (hf r (hwm r hr))
  have hwl : (win n.toNat l s1).length < 1000000 := by simp [win]; omega
  have a10 := app10 false (win n.toNat l s1) hwl hwf
  rw [← of_ref] at a10
  have a19 := app19 F (ofF (win n.toNat l s1))
  have hcc := wrap_succ c (by omega)
  rw [← hwd]
  refine ⟨(s1 + w, addF F (ofF (win n.toNat l s1)), c + 1, 0), ?_, rfl, rfl, by simp only; omega, ?_, ?_, hw1.2, ?_⟩
  · unfold y0
    rw [app_rnd E LD.h5 (rd := rd0) rfl (by simp [rd0, c5, mem0])]
    simp [-slclP, -mnP, -isPlace, -moves, isPlace_int, isPlace_bool, isPlace_str, isPlace_lst, moves_int, moves_bool, moves_str, moves_lst, LC_placeI, LC_placeI', LC_movesI, LC_cellI, LC_getE, LC_add, LC_add0, LC_put31, LC_place0, LC_place1, frzV, frzR, ss_okns, es_okns, cs_okns, mk_okns, rs_okns, ss_deps, es_deps, cs_deps, mk_deps, rs_deps, rd0, c5, mem0, hn1, hsub, hmn, hadd, hle, hw0, hwz, hsl, a10, a19, hcc]
  · simp only [pos, ← h4, hwd]
  · intro d hd
    simp only at hd
    by_cases hdc : d = c
    · subst hdc; omega
    · exact h5 d (by omega)
  · intro hh
    have e : l.take (s1 + w) = l.take s1 ++ win n.toNat l s1 := by
      unfold win
      rw [← hwd]
      have h8 := (List.take_append_drop s1 (l.take (s1 + w))).symm
      rw [List.take_take, Nat.min_eq_left (by omega)] at h8
      exact h8
    have e2 : l = l.take (s1 + w) ++ l.drop (s1 + w) := (List.take_append_drop _ _).symm
    have hh1 := (huge_app (l.take (s1 + w)) (l.drop (s1 + w)) (by rw [← e2]; omega) (by rw [← e2]; exact hf) (by rw [← e2]; exact hh)).1
    rw [e] at hh1
    have ff : ∀ r ∈ l.take s1 ++ win n.toNat l s1, r.few := fun r hr => by
      rcases List.mem_append.1 hr with h | h
      · exact hf r (List.mem_of_mem_take h)
      · exact hf r (hwm r h)
    obtain ⟨g1, g2⟩ := huge_app (l.take s1) (win n.toNat l s1) (by simp [win]; omega) ff hh1
    have h7' : LC F = LC (ofF (l.take s1)) := h7 hh
    show LC (addF F (ofF (win n.toNat l s1))) = LC (ofF (l.take (s1 + w)))
    rw [addF_congr _ h7', add_of _ _ (by simp; omega) (by simp [win]; omega) (fun r hr => ff r (List.mem_append_left _ hr)) (fun r hr => ff r (List.mem_append_right _ hr)) g1 g2, e]
theorem all0 (hn : 1 ≤ n) (hl : l.length ≤ 20) (hf : ∀ r ∈ l, r.few) : ∃ s', J0 n l l.length s' ∧ app E false (.fn 28 [.ptr 0 22000 [] 0, .ptr 0 22001 [] 0]) [y0] [mem0 n l stop (0, zeroF, 0, 0)] = some (.tup [], emptyBag, [mem0 n l stop s']) := by
  obtain ⟨s', h1, h2⟩ := @app28 (Nat × (Nat → Int) × Nat × Nat) (mem0 n l stop) n hn false l (by omega) (fun r hr => fine_of (hf r hr)) y0 (fun ks ts => by simp [y0]) 22000 22001 (fun s => by simp [mem0]) (fun s => by simp [mem0]) (J0 n l) (fun _ => False)
    (fun a ha s hJ => by
      obtain ⟨s', a1, a2⟩ := app0 n l stop hn hl hf a ha s hJ
      exact ⟨true, s', a1, by simpa using a2⟩) rfl (0, zeroF, 0, 0) ⟨rfl, rfl, Nat.le_refl _, rfl, fun d hd => by simp at hd, Nat.zero_le _, fun _ => by simp [ofF]⟩
  exact ⟨s', h1.resolve_right id, h2⟩
variable (a c : Int) (F : Nat → Int)
/-- The law's variables while it counts. -/
def mem1 (s : Nat × Nat) : Lvl := [(500000001, [.lrec s.1]), (63000, [.int .i64 n]), (63001, [.lst none false 6 (Rs l)]), (14, [.int .i64 s.2]), (22000, [.int .i64 n]), (22001, [.lst none false 6 (Rs l)]), (9, [.int .i64 c]), (8, LC F), (7, [.int .i64 a]), (6, [.bool false]), (5, [.int .u8 stop]), (4, [.lst none false 6 (Rs l)]), (3, [.int .i64 n])]
def y1 : PV := .rnd 5 1 [5, 14] [.ptr 0 5 [] 0, .ptr 0 14 [] 0] 0 500000001
def J1 (b : Nat) (s : Nat × Nat) : Prop := s.1 = 0 ∧ (s.2 : Int) ≤ stop ∧ s.2 ≤ b ∧ b = pos n.toNat l.length s.2 ∧ ∀ d, d < s.2 → pos n.toNat l.length d < l.length
def Stop1 (s : Nat × Nat) : Prop := s.1 = 5 ∧ (s.2 : Int) = stop ∧ ∀ d, d ≤ s.2 → pos n.toNat l.length d < l.length
theorem app1 (hn : 1 ≤ n) (hs0 : 0 ≤ stop) (hs1 : stop ≤ 255) (b : Nat) (hb : b < l.length) (G : Nat → Int) (s : Nat × Nat) (hJ : J1 n l stop b s) :
    ∃ x s', app E false y1 [.int .i64 b, .agg (LC G)] ([] :: [mem1 n l stop a c F s]) = some (.bool x, emptyBag, [] :: [mem1 n l stop a c F s']) ∧ (if x = true then J1 n l stop (b + wlen n.toNat l.length b) s' else Stop1 n l stop s') := by
  obtain ⟨q, k⟩ := s
  obtain ⟨h1, h2, h3, h4, h5⟩ := hJ
  simp only at h1 h2 h3 h4 h5
  subst h1
  have hw : IntKind.i64.wrap stop = stop := W_id (by omega) (by omega)
  have hw1 := wrap_succ k (by omega)
  have hwl : 1 ≤ wlen n.toNat l.length b := by unfold wlen; omega
  by_cases he : (k : Int) = stop
  · refine ⟨false, (5, k), ?_, ?_⟩
    · unfold y1
      rw [app_rnd E LD.h5 (rd := rd1) rfl (by simp [rd1, c5, mem1])]
      simp [-isPlace, -moves, isPlace_int, isPlace_bool, isPlace_str, isPlace_lst, moves_int, moves_bool, moves_str, moves_lst, LC_placeI, LC_placeI', LC_movesI, LC_cellI, LC_getE, LC_add, LC_add0, LC_put31, LC_place0, LC_place1, frzV, frzR, ss_okns, es_okns, cs_okns, mk_okns, rs_okns, ss_deps, es_deps, cs_deps, mk_deps, rs_deps, rd1, c5, mem1, hw, he]
    · simp only [Bool.false_eq_true, if_false]
      refine ⟨rfl, he, fun d hd => ?_⟩
      simp only at hd
      by_cases hdk : d = k
      · subst hdk; rw [← h4]; exact hb
      · exact h5 d (by omega)
  · refine ⟨true, (0, k + 1), ?_, ?_⟩
    · unfold y1
      rw [app_rnd E LD.h5 (rd := rd1) rfl (by simp [rd1, c5, mem1])]
      have he' : ((k : Int) == stop) = false := by simpa using he
      simp [-isPlace, -moves, isPlace_int, isPlace_bool, isPlace_str, isPlace_lst, moves_int, moves_bool, moves_str, moves_lst, LC_placeI, LC_placeI', LC_movesI, LC_cellI, LC_getE, LC_add, LC_add0, LC_put31, LC_place0, LC_place1, frzV, frzR, ss_okns, es_okns, cs_okns, mk_okns, rs_okns, ss_deps, es_deps, cs_deps, mk_deps, rs_deps, rd1, c5, mem1, hw, hw1, he']
    · simp only [if_true]
      refine ⟨rfl, by simp only; omega, by simp only; omega, by simp only [pos, ← h4], fun d hd => ?_⟩
      simp only at hd
      by_cases hdk : d = k
      · subst hdk; rw [← h4]; exact hb
      · exact h5 d (by omega)
theorem all1 (hn : 1 ≤ n) (hl : l.length ≤ 20) (hf : ∀ r ∈ l, r.few) (hs0 : 0 ≤ stop) (hs1 : stop ≤ 255) : ∃ s' : Nat × Nat, (J1 n l stop l.length s' ∨ Stop1 n l stop s') ∧ app E false (.fn 28 [.ptr 0 63000 [] 0, .ptr 0 63001 [] 0]) [y1] [mem1 n l stop a c F (0, 0)] = some (.tup [], emptyBag, [mem1 n l stop a c F s']) := by
  obtain ⟨s', h1, h2⟩ := @app28 (Nat × Nat) (mem1 n l stop a c F) n hn false l (by omega) (fun r hr => fine_of (hf r hr)) y1 (fun ks ts => by simp [y1]) 63000 63001 (fun s => by simp [mem1]) (fun s => by simp [mem1]) (J1 n l stop) (Stop1 n l stop)
    (fun b hb s hJ => app1 n l stop a c F hn hs0 hs1 b hb _ s hJ) rfl (0, 0) ⟨rfl, by simpa using hs0, Nat.le_refl _, rfl, fun d hd => by simp at hd⟩
  exact ⟨s', h1, h2⟩
end
end Go.Proofs.YtbbpkkeaddbcnaaDoor.ZJM.LD
