/- Load: the two loads of rounds are the same. -/
import Derived.Test.YtbbpkkeaddbcnaaDoorZL9
set_option linter.unusedSimpArgs false
set_option linter.unusedVariables false
namespace Go.Proofs.YtbbpkkeaddbcnaaDoor.ZJM.LD
open Go.Proofs.YtbbpkkeaddbcnaaDoor.ZJM Go.RowKit
theorem fold_at {α : Type} {g : (Nat → Int) → α → (Nat → Int)} {h : α → Int} {j : Nat} (H : ∀ f x, g f x j = f j + h x) : ∀ (l : List α) (f : Nat → Int), (l.foldl g f) j = f j + (l.map h).sum
  | [], f => by simp
  | x :: l, f => by rw [List.foldl_cons, fold_at H l, H]; simp; omega
theorem sum_zero {α : Type} {h : α → Int} : ∀ {l : List α}, (∀ x ∈ l, h x = 0) → (l.map h).sum = 0
  | [], _ => rfl
  | x :: l, H => by rw [List.map_cons, List.sum_cons, H x List.mem_cons_self, sum_zero fun y hy => H y (List.mem_cons_of_mem _ hy)]; rfl
theorem sum_same {α : Type} {h k : α → Int} {l : List α} (H : ∀ x ∈ l, h x = k x) : (l.map h).sum = (l.map k).sum := by rw [List.map_congr_left H]
theorem sum_count {α : Type} (p : α → Bool) : ∀ l : List α, (l.map fun x => if p x = true then (1 : Int) else 0).sum = (l.countP p : Int)
  | [] => rfl
  | x :: l => by
    rw [List.map_cons, List.sum_cons, sum_count p l, List.countP_cons]
    cases p x <;> simp <;> omega
theorem sum_flat {α β : Type} (g : α → List β) (p : β → Bool) : ∀ l : List α, (l.map fun r => ((g r).countP p : Int)).sum = ((l.flatMap g).countP p : Int)
  | [] => rfl
  | x :: l => by rw [List.map_cons, List.sum_cons, sum_flat g p l, List.flatMap_cons, List.countP_append]; simp
def sJ (j : Nat) (s : Snt) : Int := (if j = 2 + cls s.fr.id then 1 else 0) + (if j = 10 + nod s.frm then 1 else 0)
def camJ (j : Nat) (c : Cam) : Int := if j = 27 ∧ c.clean = false then 1 else 0
def lJ (j : Nat) (k : Mrk) : Int := if j = 30 ∧ (k.kind == 6) = true ∧ 0 < k.n ∧ k.n ≤ 2147483647 then k.n else 0
def mJ (j : Nat) (k : Mrk) : Int := (if j = 28 ∧ okM 3 k = true then 1 else 0) + (if j = 29 ∧ okM 2 k = true then 1 else 0) + lJ j k
theorem sentF_at (j : Nat) (f : Nat → Int) (s : Snt) : sentF f s j = f j + sJ j s := by
  have := cls_lt s.fr.id
  have hn : ∀ a b : Nat, 10 + a = 2 + b → b < 8 → False := by omega
  unfold sentF sJ addAt setAt
  by_cases h1 : j = 10 + nod s.frm
  · subst h1
    by_cases h2 : 10 + nod s.frm = 2 + cls s.fr.id
    · exact (hn _ _ h2 this).elim
    · simp [h2]
  · by_cases h2 : j = 2 + cls s.fr.id
    · have h3 : ¬ 2 + cls s.fr.id = 10 + nod s.frm := by omega
      subst h2
      simp [h3]
    · simp [h1, h2]
theorem camF_at (j : Nat) (f : Nat → Int) (c : Cam) : camF f c j = f j + camJ j c := by
  unfold camF camJ addAt setAt
  cases c.clean
  · by_cases h : j = 27
    · subst h; simp
    · simp [h]
  · simp
theorem lostF_at (j : Nat) (f : Nat → Int) (k : Mrk) : lostF f k j = f j + lJ j k := by
  unfold lostF lJ addAt setAt
  cases h1 : (k.kind == 6)
  · simp
  · by_cases h2 : 0 < k.n ∧ k.n ≤ 2147483647
    · by_cases h : j = 30
      · subst h; simp [h2]
      · simp [h, h2]
    · simp [h2]
theorem markF_at (j : Nat) (f : Nat → Int) (k : Mrk) : markF f k j = f j + mJ j k := by
  unfold markF mJ lJ okM addAt setAt
  cases h3 : (k.kind == 3)
  · cases h2 : (k.kind == 2)
    · cases h1 : (k.kind == 6)
      · simp
      · by_cases h2 : 0 < k.n ∧ k.n ≤ 2147483647
        · have h4 : 1 ≤ k.n ∧ k.n ≤ 2147483647 := by omega
          by_cases h : j = 30
          · subst h; simp [h2, h4]
          · simp [h, h2, h4]
        · have h4 : ¬ (1 ≤ k.n ∧ k.n ≤ 2147483647) := by omega
          simp [h2, h4]
    · have h6 : (k.kind == 6) = false := by simp at h2 ⊢; omega
      by_cases h : j = 29
      · subst h; simp [h6]
      · simp [h, h6]
  · have h6 : (k.kind == 6) = false := by simp at h3 ⊢; omega
    have h2 : (k.kind == 2) = false := by simp at h3 ⊢; omega
    by_cases h : j = 28
    · subst h; simp [h6, h2]
    · simp [h, h6, h2]
def busyJ (r : Rnd) : Int := if r.sents = [] then 0 else 1
def rJ (j : Nat) (r : Rnd) : Int := (if j = 0 then 1 else 0) + (if j = 1 then busyJ r else 0) + (r.sents.map (sJ j)).sum + (r.cames.map (camJ j)).sum + (r.marks.map (mJ j)).sum
theorem round_at {j : Nat} (h : j ≠ 31) (f : Nat → Int) (r : Rnd) : roundF f r j = f j + rJ j r := by
  unfold roundF
  try simp only
  rw [setAt, if_neg h, fold_at (markF_at j), fold_at (camF_at j), fold_at (sentF_at j)]
  unfold rJ busyJ addAt setAt
  by_cases hs : r.sents = []
  · by_cases h0 : j = 0
    · subst h0; simp [hs]; omega
    · simp [hs, h0]; omega
  · by_cases h1 : j = 1
    · subst h1; simp [hs]; omega
    · by_cases h0 : j = 0
      · subst h0; simp [hs]; omega
      · simp [hs, h0, h1]; omega
theorem z31s (s : Snt) : sJ 31 s = 0 := by
  have := cls_lt s.fr.id
  have := nod_lt s.frm
  unfold sJ
  rw [if_neg (by omega), if_neg (by omega)]; rfl
theorem z31c (c : Cam) : camJ 31 c = 0 := rfl
theorem z31m (m : Mrk) : mJ 31 m = 0 := by simp [mJ, lJ]
theorem z31l (m : Mrk) : lJ 31 m = 0 := by simp [lJ]
theorem round_31 (f : Nat → Int) (r : Rnd) : roundF f r 31 = if r.waits > W (f 31) then r.waits else W (f 31) := by
  have e : (r.marks.foldl markF (r.cames.foldl camF (r.sents.foldl sentF (if r.sents = [] then addAt f 0 1 else addAt (addAt f 0 1) 1 1)))) 31 = f 31 := by
    rw [fold_at (markF_at 31), fold_at (camF_at 31), fold_at (sentF_at 31), sum_zero fun s _ => z31s s, sum_zero fun s _ => z31c s, sum_zero fun s _ => z31m s]
    by_cases hs : r.sents = [] <;> simp [hs, addAt, setAt]
  unfold roundF
  try simp only
  rw [setAt, if_pos rfl, e]
def rJ' (j : Nat) (r : Rnd) : Int := (if j = 1 then busyJ r else 0) + (r.cames.map (camJ j)).sum + (r.marks.map (lJ j)).sum
theorem ref_at {j : Nat} (h : j ≠ 31) (f : Nat → Int) (r : Rnd) : refR f r j = f j + rJ' j r := by
  unfold refR
  try simp only
  rw [fold_at (lostF_at j), fold_at (camF_at j)]
  have e : ∀ g : Nat → Int, (if r.waits > W (g 31) then setAt g 31 r.waits else g) j = g j := by
    intro g; split
    · rw [setAt, if_neg h]
    · rfl
  rw [e]
  unfold rJ' busyJ addAt setAt
  by_cases hs : r.sents = []
  · by_cases h1 : j = 1 <;> simp [hs, h1] <;> omega
  · by_cases h1 : j = 1
    · subst h1; simp [hs]; omega
    · simp [hs, h1]; omega
theorem ref_31 (f : Nat → Int) (r : Rnd) : refR f r 31 = if r.waits > W (f 31) then r.waits else f 31 := by
  unfold refR
  try simp only
  rw [fold_at (lostF_at 31), fold_at (camF_at 31), sum_zero fun s _ => z31c s, sum_zero fun s _ => z31l s]
  by_cases hs : r.sents = []
  · simp only [hs, if_true]
    split <;> simp [setAt]
  · simp only [hs, if_false]
    have e : addAt f 1 1 31 = f 31 := by simp [addAt, setAt]
    rw [e]
    split <;> simp [setAt, addAt]
theorem fold_31 : ∀ (l : List Rnd) (f g : Nat → Int), W (f 31) = W (g 31) → W ((l.foldl roundF f) 31) = W ((l.foldl refR g) 31)
  | [], f, g, h => h
  | r :: l, f, g, h => by
    rw [List.foldl_cons, List.foldl_cons]
    apply fold_31 l
    rw [round_31, ref_31, h]
    split
    · rfl
    · rw [W_W]
/-- What rounds make of a place. -/
def tot (j : Nat) (l : List Rnd) : Int := (l.map (rJ j)).sum
theorem ofF_at {j : Nat} (h : j ≠ 31) (l : List Rnd) : ofF l j = tot j l := by
  unfold ofF tot
  rw [fold_at (round_at h)]
  simp [zeroF]
theorem clsF_fold (l : List Rnd) (f : Nat → Int) (j : Nat) : ∀ n : Nat, ((List.range n).foldl (clsF l) f) j = if 2 ≤ j ∧ j < 2 + n then (sentN l ((j : Int) - 2) (-1) : Int) else f j
  | 0 => by simp; intro h1 h2; omega
  | n + 1 => by
    rw [foldl_range, clsF, setAt]
    by_cases h : j = 2 + n
    · subst h
      rw [if_pos rfl, if_pos (by omega)]
      have : ((2 + n : Nat) : Int) - 2 = n := by omega
      rw [this]
    · rw [if_neg h, clsF_fold l f j n]
      by_cases h2 : 2 ≤ j ∧ j < 2 + n
      · rw [if_pos h2, if_pos (by omega)]
      · rw [if_neg h2, if_neg (by omega)]
theorem nodF_fold (l : List Rnd) (f : Nat → Int) (j : Nat) : ∀ n : Nat, ((List.range n).foldl (nodF l) f) j = if 10 ≤ j ∧ j < 10 + n then (sentN l (-1) ((j : Int) - 10) : Int) else f j
  | 0 => by simp; intro h1 h2; omega
  | n + 1 => by
    rw [foldl_range, nodF, setAt]
    by_cases h : j = 10 + n
    · subst h
      rw [if_pos rfl, if_pos (by omega)]
      have : ((10 + n : Nat) : Int) - 10 = n := by omega
      rw [this]
    · rw [if_neg h, nodF_fold l f j n]
      by_cases h2 : 10 ≤ j ∧ j < 10 + n
      · rw [if_pos h2, if_pos (by omega)]
      · rw [if_neg h2, if_neg (by omega)]
theorem sJ_cls (j : Nat) (h1 : 2 ≤ j) (h2 : j < 10) (s : Snt) : sJ j s = if okS ((j : Int) - 2) (-1) s = true then 1 else 0 := by
  have := cls_lt s.fr.id
  unfold sJ okS
  rw [if_neg (show ¬ j = 10 + nod s.frm by omega)]
  by_cases h : j = 2 + cls s.fr.id
  · have e : (cls s.fr.id : Int) = (j : Int) - 2 := by omega
    have e2 : ((cls s.fr.id : Int) == (j : Int) - 2) = true := by simp [e]
    rw [if_pos h, e2, if_pos (by simp)]; rfl
  · have e : ¬ (cls s.fr.id : Int) = (j : Int) - 2 := by omega
    have e2 : ((cls s.fr.id : Int) == (j : Int) - 2) = false := by simp [e]
    have e3 : decide ((j : Int) - 2 < 0) = false := by simp; omega
    rw [if_neg h, e2, e3, if_neg (by simp)]; rfl
theorem sJ_nod (j : Nat) (h1 : 10 ≤ j) (h2 : j < 27) (s : Snt) : sJ j s = if okS (-1) ((j : Int) - 10) s = true then 1 else 0 := by
  have := cls_lt s.fr.id
  unfold sJ okS
  rw [if_neg (show ¬ j = 2 + cls s.fr.id by omega)]
  by_cases h : j = 10 + nod s.frm
  · have e : (nod s.frm : Int) = (j : Int) - 10 := by omega
    have e2 : ((nod s.frm : Int) == (j : Int) - 10) = true := by simp [e]
    rw [if_pos h, e2, if_pos (by simp)]; rfl
  · have e : ¬ (nod s.frm : Int) = (j : Int) - 10 := by omega
    have e2 : ((nod s.frm : Int) == (j : Int) - 10) = false := by simp [e]
    have e3 : decide ((j : Int) - 10 < 0) = false := by simp; omega
    rw [if_neg h, e2, e3, if_neg (by simp)]; rfl
theorem sJ_no (j : Nat) (h : j < 2 ∨ 27 ≤ j) (s : Snt) : sJ j s = 0 := by
  have := cls_lt s.fr.id
  have := nod_lt s.frm
  unfold sJ
  rw [if_neg (by omega), if_neg (by omega)]; rfl
theorem camJ_no (j : Nat) (h : j ≠ 27) (c : Cam) : camJ j c = 0 := by simp [camJ, h]
theorem lJ_no (j : Nat) (h : j ≠ 30) (c : Mrk) : lJ j c = 0 := by simp [lJ, h]
theorem mJ_no (j : Nat) (h : j ≠ 28 ∧ j ≠ 29 ∧ j ≠ 30) (c : Mrk) : mJ j c = 0 := by simp [mJ, lJ, h]
theorem g0_at (a b c : Int) (j : Nat) : g0 a b c j = if j = 29 then c else if j = 28 then b else if j = 0 then a else 0 := rfl
theorem sum_one {α : Type} : ∀ l : List α, (l.map fun _ => (1 : Int)).sum = l.length
  | [] => rfl
  | x :: l => by rw [List.map_cons, List.sum_cons, sum_one l]; simp; omega
/-- THE LOAD OF ROUNDS IS THE DOCUMENT's. -/
theorem of_ref (l : List Rnd) : LC (ofF l) = LC (refF l) := by
  refine LC_ext _ fun j hj => ?_
  by_cases h31 : j = 31
  · subst h31
    unfold refF ofF
    rw [nodF_fold, clsF_fold, if_neg (by omega), if_neg (by omega)]
    exact fold_31 l _ _ rfl
  · congr 1
    rw [ofF_at h31]
    unfold refF
    rw [nodF_fold, clsF_fold, fold_at (ref_at h31), g0_at]
    unfold tot
    by_cases h0 : j = 0
    · subst h0
      rw [if_neg (by omega), if_neg (by omega), sum_same (k := fun _ => 1) fun r _ => ?_, sum_zero (h := rJ' 0) fun r _ => ?_, sum_one]
      · simp
      · simp only [rJ', sum_zero fun s _ => camJ_no 0 (by omega) s, sum_zero fun s _ => lJ_no 0 (by omega) s]; rfl
      · simp only [rJ, sum_zero fun s _ => sJ_no 0 (by omega) s, sum_zero fun s _ => camJ_no 0 (by omega) s, sum_zero fun s _ => mJ_no 0 (by omega) s]; rfl
    by_cases h2 : 2 ≤ j ∧ j < 10
    · rw [if_neg (by omega), if_pos (by omega), sum_same (k := fun r => (r.sents.countP (okS ((j : Int) - 2) (-1)) : Int)) fun r _ => ?_, sum_flat]
      · rfl
      · simp only [rJ, sum_same fun s _ => sJ_cls j h2.1 h2.2 s, sum_count, sum_zero fun s _ => camJ_no j (by omega) s, sum_zero fun s _ => mJ_no j (by omega) s, if_neg h0, if_neg (show ¬ j = 1 by omega)]
        omega
    by_cases h3 : 10 ≤ j ∧ j < 27
    · rw [if_pos (by omega), sum_same (k := fun r => (r.sents.countP (okS (-1) ((j : Int) - 10)) : Int)) fun r _ => ?_, sum_flat]
      · rfl
      · simp only [rJ, sum_same fun s _ => sJ_nod j h3.1 h3.2 s, sum_count, sum_zero fun s _ => camJ_no j (by omega) s, sum_zero fun s _ => mJ_no j (by omega) s, if_neg h0, if_neg (show ¬ j = 1 by omega)]
        omega
    rw [if_neg (by omega), if_neg (by omega)]
    by_cases h28 : j = 28
    · subst h28
      rw [sum_same (k := fun r => (r.marks.countP (okM 3) : Int)) fun r _ => ?_, sum_zero (h := rJ' 28) fun r _ => ?_, sum_flat]
      · simp [markN]
      · simp only [rJ', sum_zero fun s _ => camJ_no 28 (by omega) s, sum_zero fun s _ => lJ_no 28 (by omega) s]; rfl
      · have e : ∀ k : Mrk, mJ 28 k = if okM 3 k = true then 1 else 0 := by intro k; simp [mJ, lJ]
        simp only [rJ, sum_zero fun s _ => sJ_no 28 (by omega) s, sum_zero fun s _ => camJ_no 28 (by omega) s, sum_same fun s _ => e s, sum_count]; simp
    by_cases h29 : j = 29
    · subst h29
      rw [sum_same (k := fun r => (r.marks.countP (okM 2) : Int)) fun r _ => ?_, sum_zero (h := rJ' 29) fun r _ => ?_, sum_flat]
      · simp [markN]
      · simp only [rJ', sum_zero fun s _ => camJ_no 29 (by omega) s, sum_zero fun s _ => lJ_no 29 (by omega) s]; rfl
      · have e : ∀ k : Mrk, mJ 29 k = if okM 2 k = true then 1 else 0 := by intro k; simp [mJ, lJ]
        simp only [rJ, sum_zero fun s _ => sJ_no 29 (by omega) s, sum_zero fun s _ => camJ_no 29 (by omega) s, sum_same fun s _ => e s, sum_count]; simp
    rw [if_neg h29, if_neg h28, if_neg h0, Int.zero_add]
    refine sum_same fun r _ => ?_
    have e : ∀ k : Mrk, mJ j k = lJ j k := by intro k; simp [mJ, h28, h29]
    simp only [rJ, rJ', sum_zero fun s _ => sJ_no j (by omega) s, sum_same fun s _ => e s, if_neg h0]
    omega
end Go.Proofs.YtbbpkkeaddbcnaaDoor.ZJM.LD
