/- Load: frames, marks, rounds, loads. -/
import Derived.Test.YtbbpkkeaddbcnaaDoorZL2
import Derived.Test.YtbbpkkeaddbcnaaDoorZJ29
set_option linter.unusedSimpArgs false
set_option linter.unusedVariables false
namespace Go.Proofs.YtbbpkkeaddbcnaaDoor.ZJM.LD
open Go.Proofs.YtbbpkkeaddbcnaaDoor.ZJM Go.RowKit

theorem live_ok : apply E 30 false (.fn 8 []) [] [] = some (.bool true, emptyBag, []) := by kernel_rfl
theorem app8 : app E false (.fn 8 []) [] [] = some (.bool true, emptyBag, []) := app_some.2 ⟨30, live_ok⟩

abbrev W (n : Int) : Int := IntKind.i64.wrap n
theorem W_def (n : Int) : W n = (n + 9223372036854775808) % 18446744073709551616 - 9223372036854775808 := by
  unfold W IntKind.wrap; simp [IntKind.bits, IntKind.signed]; omega
theorem W_id {n : Int} (h : -9223372036854775808 ≤ n) (h' : n ≤ 9223372036854775807) : W n = n := by rw [W_def]; omega
theorem W_W (n : Int) : W (W n) = W n := by simp only [W_def]; omega
theorem W_add (a b : Int) : W (W a + b) = W (a + b) := by simp only [W_def]; omega
theorem W_add' (a b : Int) : W (a + W b) = W (a + b) := by simp only [W_def]; omega
/-- What an i64 may be. -/
def I64 (n : Int) : Prop := -9223372036854775808 ≤ n ∧ n ≤ 9223372036854775807
theorem I64.w {n : Int} (h : I64 n) : W n = n := W_id h.1 h.2
theorem W_I64 (n : Int) : I64 (W n) := by unfold I64; rw [W_def]; omega

structure Frm where
  (id : Int) (rtr : Bool) (len d0 d1 d2 d3 d4 d5 d6 d7 : Int)
def Frm.cs (x : Frm) : List PV := [.int .i64 x.id, .bool x.rtr, .int .i64 x.len, .int .u8 x.d0, .int .u8 x.d1, .int .u8 x.d2, .int .u8 x.d3, .int .u8 x.d4, .int .u8 x.d5, .int .u8 x.d6, .int .u8 x.d7]
def Frm.enc (x : Frm) : PV := .agg x.cs
structure Snt where
  (frm : Int) (fr : Frm)
def Snt.enc (x : Snt) : PV := .agg (.int .i64 x.frm :: x.fr.cs)
structure Cam where
  (frm at_ : Int) (fr : Frm) (clean : Bool)
def Cam.enc (x : Cam) : PV := .agg (.int .i64 x.frm :: .int .i64 x.at_ :: (x.fr.cs ++ [.bool x.clean]))
structure Mrk where
  (tick node kind n : Int) (txt : ByteArray)
def Mrk.enc (x : Mrk) : PV := .agg [.int .i64 x.tick, .int .i64 x.node, .int .i64 x.kind, .int .i64 x.n, .str x.txt]
structure Rnd where
  (tick : Int) (ne : Bool) (errs : List Int) (ns : Bool) (sents : List Snt) (nc : Bool) (cames : List Cam) (nm : Bool) (marks : List Mrk) (waits : Int)
abbrev Es (l : List Int) : List PV := encs (PV.int .i64) l
abbrev Ss (l : List Snt) : List PV := encs Snt.enc l
abbrev Cs' (l : List Cam) : List PV := encs Cam.enc l
abbrev Mk (l : List Mrk) : List PV := encs Mrk.enc l
def Rnd.enc (r : Rnd) : PV := .agg [.int .i64 r.tick, .lst none r.ne 1 (Es r.errs), .lst none r.ns 12 (Ss r.sents), .lst none r.nc 14 (Cs' r.cames), .lst none r.nm 5 (Mk r.marks), .int .i64 r.waits]
abbrev Rs (l : List Rnd) : List PV := encs Rnd.enc l
theorem Frm.data (x : Frm) : x.enc.data = true := rfl
theorem Snt.data (x : Snt) : x.enc.data = true := rfl
theorem Cam.data (x : Cam) : x.enc.data = true := rfl
theorem Mrk.data (x : Mrk) : x.enc.data = true := rfl
theorem es_data (l : List Int) : PV.datas (Es l) = true := encs_data fun x _ => rfl
theorem ss_data (l : List Snt) : PV.datas (Ss l) = true := encs_data fun x _ => rfl
theorem cs_data (l : List Cam) : PV.datas (Cs' l) = true := encs_data fun x _ => rfl
theorem mk_data (l : List Mrk) : PV.datas (Mk l) = true := encs_data fun x _ => rfl
theorem Rnd.data (x : Rnd) : x.enc.data = true := by simp [Rnd.enc, PV.datas, PV.data, es_data, ss_data, cs_data, mk_data]
theorem rs_data (l : List Rnd) : PV.datas (Rs l) = true := encs_data fun x _ => x.data
section
variable (a b c : _) 
theorem es_okns (l : List Int) (a b c) : PV.okns a b c (Es l) = true := PV.datas_okns _ _ _ _ (es_data l)
theorem ss_okns (l : List Snt) (a b c) : PV.okns a b c (Ss l) = true := PV.datas_okns _ _ _ _ (ss_data l)
theorem cs_okns (l : List Cam) (a b c) : PV.okns a b c (Cs' l) = true := PV.datas_okns _ _ _ _ (cs_data l)
theorem mk_okns (l : List Mrk) (a b c) : PV.okns a b c (Mk l) = true := PV.datas_okns _ _ _ _ (mk_data l)
theorem rs_okns (l : List Rnd) (a b c) : PV.okns a b c (Rs l) = true := PV.datas_okns _ _ _ _ (rs_data l)
theorem es_deps (l : List Int) (a) : PV.deps a (Es l) = true := PV.datas_deps _ _ (es_data l)
theorem ss_deps (l : List Snt) (a) : PV.deps a (Ss l) = true := PV.datas_deps _ _ (ss_data l)
theorem cs_deps (l : List Cam) (a) : PV.deps a (Cs' l) = true := PV.datas_deps _ _ (cs_data l)
theorem mk_deps (l : List Mrk) (a) : PV.deps a (Mk l) = true := PV.datas_deps _ _ (mk_data l)
theorem rs_deps (l : List Rnd) (a) : PV.deps a (Rs l) = true := PV.datas_deps _ _ (rs_data l)
end

/-- A load's cells. -/
def LC (f : Nat → Int) : List PV := (List.range 32).map fun i => PV.int .i64 (W (f i))
def setAt (f : Nat → Int) (i : Nat) (v : Int) : Nat → Int := fun j => if j = i then v else f j
def addAt (f : Nat → Int) (i : Nat) (v : Int) : Nat → Int := setAt f i (f i + v)
section
variable (f : Nat → Int)
@[simp] theorem LC_len : (LC f).length = 32 := by simp [LC]
theorem LC_get {k : Nat} (h : k < 32) : (LC f)[k]? = some (PV.int .i64 (W (f k))) := by simp [LC, h]
theorem LC_getE {k : Nat} (h : k < (LC f).length) : (LC f)[k] = PV.int .i64 (W (f k)) := by simp [LC]
theorem LC_ext {g : Nat → Int} (h : ∀ k, k < 32 → W (f k) = W (g k)) : LC f = LC g := by
  apply List.map_congr_left
  intro k hk
  rw [h k (List.mem_range.1 hk)]
theorem LC_put {k : Nat} (h : k < 32) (v : Int) : List.take k (LC f) ++ PV.int .i64 (W v) :: List.drop (k + 1) (LC f) = LC (setAt f k v) := by
  apply List.ext_getElem?
  intro i
  by_cases hi : i < 32
  · rw [LC_get _ hi]
    rcases Nat.lt_trichotomy i k with h1 | h1 | h1
    · rw [List.getElem?_append_left (by simp; omega), List.getElem?_take_of_lt h1, LC_get _ hi, setAt, if_neg (by omega)]
    · subst h1
      rw [List.getElem?_append_right (by simp; omega)]
      simp [setAt, Nat.min_eq_left (Nat.le_of_lt h)]
    · rw [List.getElem?_append_right (by simp; omega)]
      obtain ⟨d, rfl⟩ : ∃ d, i = k + 1 + d := ⟨i - k - 1, by omega⟩
      have e : k + 1 + d - (List.take k (LC f)).length = d + 1 := by simp; omega
      rw [e, List.getElem?_cons_succ, List.getElem?_drop, LC_get _ hi, setAt, if_neg (by omega)]
  · rw [List.getElem?_eq_none (by simp; omega), List.getElem?_eq_none (by simp; omega)]
theorem LC_mem {x : PV} (h : x ∈ LC f) : ∃ n, x = .int .i64 n := by
  simp only [LC, List.mem_map] at h
  obtain ⟨i, _, rfl⟩ := h
  exact ⟨_, rfl⟩
theorem LC_sub {x : PV} {a b : Nat} (h : x ∈ List.take a (List.drop b (LC f))) : ∃ n, x = .int .i64 n := LC_mem f (List.mem_of_mem_drop (List.mem_of_mem_take h))
@[simp] theorem LC_place (a b : Nat) : (List.take a (List.drop b (LC f))).all (fun c => !isPlace c) = true := List.all_eq_true.2 fun x hx => by obtain ⟨n, rfl⟩ := LC_sub f hx; rfl
@[simp] theorem LC_place' : (LC f).all (fun c => !isPlace c) = true := List.all_eq_true.2 fun x hx => by obtain ⟨n, rfl⟩ := LC_mem f hx; rfl
@[simp] theorem LC_moves (n : Nat) : (LC f).all (fun c => !moves n c) = true := List.all_eq_true.2 fun x hx => by obtain ⟨n, rfl⟩ := LC_mem f hx; rfl
@[simp] theorem LC_cell : (LC f).all PV.isCell = true := List.all_eq_true.2 fun x hx => by obtain ⟨n, rfl⟩ := LC_mem f hx; rfl
@[simp] theorem LC_untag : (LC f).map PV.untag1 = LC f := by
  rw [List.map_congr_left (g := id) fun x hx => by obtain ⟨n, rfl⟩ := LC_mem f hx; rfl]; simp
theorem LC_data : PV.datas (LC f) = true := PV.datas_mem fun x hx => by obtain ⟨n, rfl⟩ := LC_mem f hx; rfl
@[simp] theorem LC_okns (a b c) : PV.okns a b c (LC f) = true := PV.datas_okns _ _ _ _ (LC_data f)
@[simp] theorem LC_deps (a) : PV.deps a (LC f) = true := PV.datas_deps _ _ (LC_data f)
@[simp] theorem LC_out (lv sl : Nat) (p : Path) (j : Nat) : outCs lv sl p j (LC f) = some (LC f) := by
  have key : ∀ (l : List PV) (j : Nat), (∀ x ∈ l, ∃ n, x = PV.int .i64 n) → outCs lv sl p j l = some l := by
    intro l
    induction l with
    | nil => intro j _; rfl
    | cons x l ih =>
      intro j hl
      obtain ⟨n, rfl⟩ := hl x (by simp)
      simp only [outCs, outC, ih (j + 1) fun y hy => hl y (by simp [hy])]
  exact key _ j fun x hx => LC_mem f hx
@[simp] theorem LC_take : List.take 32 (LC f) = LC f := List.take_of_length_le (by simp)
@[simp] theorem LC_drop : List.drop 32 (LC f) = [] := List.drop_of_length_le (by simp)
end
theorem setAt_W (f : Nat → Int) (i : Nat) (v : Int) : LC (setAt f i (W v)) = LC (setAt f i v) := LC_ext _ fun k hk => by unfold setAt; split <;> simp [W_W]

theorem LC_placeI (f : Nat → Int) (a b : Nat) : (∀ x, x ∈ List.take a (List.drop b (LC f)) → isPlace x = false) ↔ True := iff_true_intro fun x hx => by obtain ⟨n, rfl⟩ := LC_sub f hx; rfl
theorem LC_placeI' (f : Nat → Int) : (∀ x, x ∈ LC f → isPlace x = false) ↔ True := iff_true_intro fun x hx => by obtain ⟨n, rfl⟩ := LC_mem f hx; rfl
theorem LC_movesI (f : Nat → Int) (m : Nat) : (∀ x, x ∈ LC f → moves m x = false) ↔ True := iff_true_intro fun x hx => by obtain ⟨n, rfl⟩ := LC_mem f hx; rfl
theorem LC_cellI (f : Nat → Int) : (∀ x, x ∈ LC f → x.isCell = true) ↔ True := iff_true_intro fun x hx => by obtain ⟨n, rfl⟩ := LC_mem f hx; rfl
@[simp] theorem LC_frz (f : Nat → Int) (own : Lvl) (m : Mem) : frzRs own m (LC f) = some (LC f) := by
  have key : ∀ (l : List PV), (∀ x ∈ l, ∃ n, x = PV.int .i64 n) → frzRs own m l = some l := by
    intro l
    induction l with
    | nil => intro _; rfl
    | cons x l ih =>
      intro hl
      obtain ⟨n, rfl⟩ := hl x (by simp)
      simp only [frzRs, frzR, ih fun y hy => hl y (by simp [hy])]
  exact key _ fun x hx => LC_mem f hx
theorem isPlace_int (k : IntKind) (n : Int) : isPlace (.int k n) = false := rfl
theorem isPlace_bool (b : Bool) : isPlace (.bool b) = false := rfl
theorem isPlace_str (s : ByteArray) : isPlace (.str s) = false := rfl
theorem isPlace_lst (o : Option Nat) (b : Bool) (n : Nat) (xs : List PV) : isPlace (.lst o b n xs) = false := rfl
theorem moves_int (m : Nat) (k : IntKind) (n : Int) : moves m (.int k n) = false := rfl
theorem moves_bool (m : Nat) (b : Bool) : moves m (.bool b) = false := rfl
theorem moves_str (m : Nat) (s : ByteArray) : moves m (.str s) = false := rfl
theorem moves_lst (m : Nat) (o : Option Nat) (b : Bool) (n : Nat) (xs : List PV) : moves m (.lst o b n xs) = false := rfl

def zeroF : Nat → Int := fun _ => 0
theorem LC_zero : LC zeroF = [(.int .i64 0), (.int .i64 0), (.int .i64 0), (.int .i64 0), (.int .i64 0), (.int .i64 0), (.int .i64 0), (.int .i64 0), (.int .i64 0), (.int .i64 0), (.int .i64 0), (.int .i64 0), (.int .i64 0), (.int .i64 0), (.int .i64 0), (.int .i64 0), (.int .i64 0), (.int .i64 0), (.int .i64 0), (.int .i64 0), (.int .i64 0), (.int .i64 0), (.int .i64 0), (.int .i64 0), (.int .i64 0), (.int .i64 0), (.int .i64 0), (.int .i64 0), (.int .i64 0), (.int .i64 0), (.int .i64 0), (.int .i64 0)] := by
  unfold LC zeroF; simp only [W_def]; rfl

theorem h3 : E.fns 3 = some c3 := rfl
theorem h4 : E.fns 4 = some c4 := rfl
theorem h5 : E.fns 5 = some c5 := rfl
theorem h6 : E.fns 6 = some c6 := rfl
theorem h7 : E.fns 7 = some c7 := rfl
theorem h9 : E.fns 9 = some c9 := rfl
theorem h10 : E.fns 10 = some c10 := rfl
theorem h11 : E.fns 11 = some c11 := rfl
theorem h12 : E.fns 12 = some c12 := rfl
theorem h13 : E.fns 13 = some c13 := rfl
theorem h14 : E.fns 14 = some c14 := rfl
theorem h15 : E.fns 15 = some c15 := rfl
theorem h16 : E.fns 16 = some c16 := rfl
theorem h17 : E.fns 17 = some c17 := rfl
theorem h18 : E.fns 18 = some c18 := rfl
theorem h19 : E.fns 19 = some c19 := rfl
theorem h20 : E.fns 20 = some c20 := rfl
theorem h21 : E.fns 21 = some c21 := rfl
theorem h22 : E.fns 22 = some c22 := rfl
theorem h23 : E.fns 23 = some c23 := rfl
theorem h24 : E.fns 24 = some c24 := rfl
theorem h25 : E.fns 25 = some c25 := rfl
theorem h26 : E.fns 26 = some c26 := rfl
theorem h27 : E.fns 27 = some c27 := rfl
theorem h28 : E.fns 28 = some c28 := rfl
theorem h29 : E.fns 29 = some c29 := rfl
theorem h30 : E.fns 30 = some c30 := rfl
theorem h31 : E.fns 31 = some c31 := rfl
theorem h32 : E.fns 32 = some c32 := rfl
theorem h35 : E.fns 35 = some c35 := rfl
theorem h40 : E.fns 40 = some c40 := rfl

/-- Between two numbers. -/
def inB (a lo hi : Int) : Bool := decide (lo ≤ a) && decide (a ≤ hi)
/-- A frame's class. -/
def cls (id : Int) : Nat :=
  if (id == 0) = true then 1 else if (id == 128) = true then 2 else if inB id 129 255 = true then 3 else if inB id 257 384 = true then 4 else if inB id 385 1407 = true then 5 else if inB id 1408 1663 = true then 6 else if inB id 1793 1919 = true then 7 else 0
theorem cls_lt (id : Int) : cls id < 8 := by unfold cls; repeat' split <;> try omega
theorem app25 (a lo hi : Int) : app E false (.fn 25 []) [.int .i64 a, .int .i64 lo, .int .i64 hi] [] = some (.bool (inB a lo hi), emptyBag, []) := by
  rw [app_fn E rfl h25 rfl]
  unfold inB
  by_cases h : lo ≤ a <;> simp [c25, h]
theorem app11 (x : Frm) : app E false (.fn 11 []) [x.enc] [] = some (.int .i64 (cls x.id), emptyBag, []) := by
  rw [app_fn E rfl h11 rfl]
  have h25 := app25
  cases a0 : (x.id == 0)
  case true => simp [c11, Frm.enc, Frm.cs, a0, cls]
  cases a1 : (x.id == 128)
  case true => simp [c11, Frm.enc, Frm.cs, a0, a1, cls]
  cases a2 : inB x.id 129 255
  case true => simp [c11, Frm.enc, Frm.cs, h25, a0, a1, a2, cls]
  cases a3 : inB x.id 257 384
  case true => simp [c11, Frm.enc, Frm.cs, h25, a0, a1, a2, a3, cls]
  cases a4 : inB x.id 385 1407
  case true => simp [c11, Frm.enc, Frm.cs, h25, a0, a1, a2, a3, a4, cls]
  cases a5 : inB x.id 1408 1663
  case true => simp [c11, Frm.enc, Frm.cs, h25, a0, a1, a2, a3, a4, a5, cls]
  cases a6 : inB x.id 1793 1919
  case true => simp [c11, Frm.enc, Frm.cs, h25, a0, a1, a2, a3, a4, a5, a6, cls]
  simp [c11, Frm.enc, Frm.cs, h25, a0, a1, a2, a3, a4, a5, a6, cls]
end Go.Proofs.YtbbpkkeaddbcnaaDoor.ZJM.LD
