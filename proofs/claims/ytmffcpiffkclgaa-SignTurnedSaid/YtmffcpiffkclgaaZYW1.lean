/- Channels (30 numbers), words, names and numbers of a table. -/
import Derived.Test.YtmffcpiffkclgaaZYV1
import Derived.Test.YtmffcpiffkclgaaZYI1
set_option linter.unusedSimpArgs false
set_option linter.unusedVariables false
set_option maxRecDepth 10000
namespace Go.Proofs.Ytmffcpiffkclgaa.ZJM.DC
open Go.Proofs.Ytmffcpiffkclgaa.ZJM Go.RowKit
section
variable (k : IntKind) (n : Int) (b : Bool) (s : ByteArray) (o : Option Nat) (z : Nat) (xs : List PV) (m lv sl off : Nat) (p : Path)
@[simp] theorem isPlace_int : isPlace (.int k n) = false := rfl
@[simp] theorem isPlace_bool : isPlace (.bool b) = false := rfl
@[simp] theorem isPlace_str : isPlace (.str s) = false := rfl
@[simp] theorem isPlace_lst : isPlace (.lst o b z xs) = false := rfl
@[simp] theorem isPlace_ptr : isPlace (.ptr lv sl p off) = false := rfl
@[simp] theorem isPlace_nilp : isPlace .nilp = false := rfl
@[simp] theorem moves_int : moves m (.int k n) = false := rfl
@[simp] theorem moves_bool : moves m (.bool b) = false := rfl
@[simp] theorem moves_str : moves m (.str s) = false := rfl
@[simp] theorem moves_lst : moves m (.lst o b z xs) = false := rfl
@[simp] theorem moves_ptr : moves m (.ptr lv sl p off) = false := rfl
@[simp] theorem moves_nilp : moves m .nilp = false := rfl
end
def CF (f : Nat → Int) (n : Nat) : List PV := (List.range n).map fun j => PV.int .i64 (f j)
section
variable (f : Nat → Int) (n : Nat)
@[simp] theorem CF_len : (CF f n).length = n := by simp [CF]
theorem CF_mem {x : PV} (h : x ∈ CF f n) : ∃ k,x = .int .i64 k := by
 simp only [CF,List.mem_map] at h
 obtain ⟨j,_,rfl⟩ := h
 exact ⟨_,rfl⟩
theorem CF_get {k : Nat} (h : k < n) : (CF f n)[k]? = some (PV.int .i64 (f k)) := by simp [CF,h]
@[simp] theorem CF_getE {k : Nat} (h : k < (CF f n).length) : (CF f n)[k]'h = PV.int .i64 (f k) := by simp [CF]
theorem CF_sub (a b : Nat) (h : a + b ≤ n) : ((CF f n).drop a).take b = CF (fun j => f (a + j)) b := by
 apply List.ext_getElem?
 intro i
 by_cases hi : i < b
 ·rw [List.getElem?_take_of_lt hi,List.getElem?_drop,CF_get _ _ (by omega),CF_get _ _ hi]
 ·rw [List.getElem?_eq_none (by simp; omega),List.getElem?_eq_none (by simp; omega)]
theorem CF_three (a : Nat) (h : a + 3 ≤ n) : ((CF f n).drop a).take 3 = [.int .i64 (f a),.int .i64 (f (a + 1)),.int .i64 (f (a + 2))] := by
 rw [CF_sub f n a 3 h]; rfl
@[simp] theorem CF_dropN : (CF f n).drop n = [] := List.drop_of_length_le (by simp)
@[simp] theorem CF_all : (CF f n).take n = CF f n := List.take_of_length_le (by simp)
@[simp] theorem CF_placeI (a b : Nat) : (∀ x,x ∈ ((CF f n).drop a).take b → isPlace x = false) ↔ True := iff_true_intro fun x hx => by obtain ⟨k,rfl⟩ := CF_mem f n (List.mem_of_mem_drop (List.mem_of_mem_take hx)); rfl
@[simp] theorem CF_place0 : (∀ x,x ∈ CF f n → isPlace x = false) ↔ True := iff_true_intro fun x hx => by obtain ⟨k,rfl⟩ := CF_mem f n hx; rfl
@[simp] theorem CF_movesI (m : Nat) : (∀ x,x ∈ CF f n → moves m x = false) ↔ True := iff_true_intro fun x hx => by obtain ⟨k,rfl⟩ := CF_mem f n hx; rfl
@[simp] theorem CF_cellI : (∀ x,x ∈ CF f n → x.isCell = true) ↔ True := iff_true_intro fun x hx => by obtain ⟨k,rfl⟩ := CF_mem f n hx; rfl
@[simp] theorem CF_cell : (CF f n).all PV.isCell = true := List.all_eq_true.2 fun x hx => by obtain ⟨k,rfl⟩ := CF_mem f n hx; rfl
@[simp] theorem CF_place (a b : Nat) : (((CF f n).drop a).take b).all (fun c => !isPlace c) = true := List.all_eq_true.2 fun x hx => by obtain ⟨k,rfl⟩ := CF_mem f n (List.mem_of_mem_drop (List.mem_of_mem_take hx)); rfl
@[simp] theorem CF_moves (m : Nat) : (CF f n).all (fun c => !moves m c) = true := List.all_eq_true.2 fun x hx => by obtain ⟨k,rfl⟩ := CF_mem f n hx; rfl
@[simp] theorem CF_untag : (CF f n).map PV.untag1 = CF f n := by
 rw [List.map_congr_left (g := id) fun x hx => by obtain ⟨k,rfl⟩ := CF_mem f n hx; rfl]; simp
theorem CF_data : PV.datas (CF f n) = true := PV.datas_mem fun x hx => by obtain ⟨k,rfl⟩ := CF_mem f n hx; rfl
@[simp] theorem CF_okns (a b c) : PV.okns a b c (CF f n) = true := PV.datas_okns _ _ _ _ (CF_data f n)
@[simp] theorem CF_deps (a) : PV.deps a (CF f n) = true := PV.datas_deps _ _ (CF_data f n)
@[simp] theorem CF_names (a) : PV.namess a (CF f n) = [] := PV.datas_namess _ _ (CF_data f n)
@[simp] theorem CF_rens (a b ρ) : PV.rens a b ρ (CF f n) = CF f n := PV.datas_rens _ _ _ _ (CF_data f n)
@[simp] theorem CF_out (lv sl : Nat) (p : Path) (j : Nat) : outCs lv sl p j (CF f n) = some (CF f n) := by
 have key : ∀ (l : List PV) (j : Nat),(∀ x ∈ l,∃ k,x = PV.int .i64 k) → outCs lv sl p j l = some l := by
  intro l
  induction l with
  | nil => intro j _; rfl
  | cons x l ih =>
   intro j h
   obtain ⟨k,rfl⟩ := h x (by simp)
   simp only [outCs,outC,ih (j + 1) fun y hy => h y (by simp [hy])]
 exact key _ j fun x hx => CF_mem f n hx
@[simp] theorem CF_frz (own : Lvl) (m : Mem) : frzRs own m (CF f n) = some (CF f n) := by
 have key : ∀ l : List PV,(∀ x ∈ l,∃ k,x = PV.int .i64 k) → frzRs own m l = some l := by
  intro l
  induction l with
  | nil => intro _; rfl
  | cons x l ih =>
   intro h
   obtain ⟨k,rfl⟩ := h x (by simp)
   simp only [frzRs,frzR,ih fun y hy => h y (by simp [hy])]
 exact key _ fun x hx => CF_mem f n hx
end
def up1 (f : Nat → Int) (a : Nat) (x : Int) : Nat → Int := fun j => if j = a then x else f j
def up3 (f : Nat → Int) (a : Nat) (x y z : Int) : Nat → Int := fun j => if j = a then x else if j = a + 1 then y else if j = a + 2 then z else f j
theorem CF_put1 (f : Nat → Int) {n a : Nat} (h : a < n) (x : Int) : (CF f n).take a ++ PV.int .i64 x :: (CF f n).drop (a + 1) = CF (up1 f a x) n := by
 apply List.ext_getElem?
 intro i
 by_cases hi : i < n
 ·rw [CF_get _ _ hi]
  have hl : ((CF f n).take a).length = a := by simp; omega
  rcases Nat.lt_trichotomy i a with h1 | h1 | h1
  ·rw [List.getElem?_append_left (by omega),List.getElem?_take_of_lt h1,CF_get _ _ hi,up1,if_neg (by omega)]
  ·subst h1
   rw [List.getElem?_append_right (by omega),hl,Nat.sub_self,List.getElem?_cons_zero,up1,if_pos rfl]
  ·rw [List.getElem?_append_right (by omega),hl]
   obtain ⟨d,rfl⟩ : ∃ d,i = a + 1 + d := ⟨i - a - 1,by omega⟩
   have e : a + 1 + d - a = d + 1 := by omega
   rw [e,List.getElem?_cons_succ,List.getElem?_drop,CF_get _ _ hi,up1,if_neg (by omega)]
 ·rw [List.getElem?_eq_none (by simp; omega),List.getElem?_eq_none (by simp; omega)]
theorem CF_put3 (f : Nat → Int) {n a : Nat} (h : a + 3 ≤ n) (x y z : Int) : (CF f n).take a ++ PV.int .i64 x :: PV.int .i64 y :: PV.int .i64 z :: (CF f n).drop (a + 3) = CF (up3 f a x y z) n := by
 apply List.ext_getElem?
 intro i
 by_cases hi : i < n
 ·rw [CF_get _ _ hi]
  have hl : ((CF f n).take a).length = a := by simp; omega
  by_cases h1 : i < a
  ·rw [List.getElem?_append_left (by omega),List.getElem?_take_of_lt h1,CF_get _ _ hi,up3,if_neg (by omega),if_neg (by omega),if_neg (by omega)]
  ·rw [List.getElem?_append_right (by omega),hl]
   rcases (by omega : i = a ∨ i = a + 1 ∨ i = a + 2 ∨ a + 3 ≤ i) with rfl | rfl | rfl | h2
   ·rw [Nat.sub_self,List.getElem?_cons_zero,up3,if_pos rfl]
   ·rw [show a + 1 - a = 1 by omega,List.getElem?_cons_succ,List.getElem?_cons_zero,up3,if_neg (by omega),if_pos rfl]
   ·rw [show a + 2 - a = 2 by omega,List.getElem?_cons_succ,List.getElem?_cons_succ,List.getElem?_cons_zero,up3,if_neg (by omega),if_neg (by omega),if_pos rfl]
   ·obtain ⟨d,rfl⟩ : ∃ d,i = a + 3 + d := ⟨i - a - 3,by omega⟩
    rw [show a + 3 + d - a = d + 3 by omega,List.getElem?_cons_succ,List.getElem?_cons_succ,List.getElem?_cons_succ,List.getElem?_drop,CF_get _ _ hi,up3,if_neg (by omega),if_neg (by omega),if_neg (by omega)]
 ·rw [List.getElem?_eq_none (by simp; omega),List.getElem?_eq_none (by simp; omega)]
theorem CF_zero30 : CF (fun _ => 0) 30 = [(.int .i64 0),(.int .i64 0),(.int .i64 0),(.int .i64 0),(.int .i64 0),(.int .i64 0),(.int .i64 0),(.int .i64 0),(.int .i64 0),(.int .i64 0),(.int .i64 0),(.int .i64 0),(.int .i64 0),(.int .i64 0),(.int .i64 0),(.int .i64 0),(.int .i64 0),(.int .i64 0),(.int .i64 0),(.int .i64 0),(.int .i64 0),(.int .i64 0),(.int .i64 0),(.int .i64 0),(.int .i64 0),(.int .i64 0),(.int .i64 0),(.int .i64 0),(.int .i64 0),(.int .i64 0)] := rfl
theorem loopW_congr {mask : St → Option St} {body : St → Option (Ex × St)} {st st' : St} (h : mask st = mask st') : loopW mask body st = loopW mask body st' := by
 unfold loopW
 congr 1
 funext n
 cases n with
 | zero => rfl
 | succ n => simp only [loopN,h]
theorem loop_at {mask : St → Option St} {body : St → Option (Ex × St)} {S0 : St} {r : Option (Ex × St)} (hS0 : mask S0 = some S0) (q1 : loopW mask body S0 = r) (st : St) (h : mask st = some S0) : loopW mask body st = r := (loopW_congr (h.trans hS0.symm)).trans q1
def slF (f : Nat → Int) (t : Nat) : Slot := ⟨f (t * 3 + 6),f (t * 3 + 6 + 1),f (t * 3 + 6 + 2)⟩
def slsF (f : Nat → Int) (n : Nat) : List Slot := (List.range n).map (slF f)
def wordF (f : Nat → Int) (t : Nat) : Int × Int := wordA (slF f t).i (slF f t).s (slF f t).n
theorem CF_slot (f : Nat → Int) (t : Nat) (h : t < 8) : ((CF f 30).drop (6 + t * 3)).take 3 = [.int .i64 (slF f t).i,.int .i64 (slF f t).s,.int .i64 (slF f t).n] := by
 rw [CF_three f 30 _ (by omega),show 6 + t * 3 = t * 3 + 6 by omega]; rfl
theorem CF_chunks (f : Nat → Int) (n : Nat) (h : n ≤ 8) : chunks 3 n ((CF f 30).drop 6) = Ss (slsF f n) := by
 have key : ∀ (n a : Nat),a + n ≤ 8 → chunks 3 n ((CF f 30).drop (6 + a * 3)) = Ss ((List.range n).map fun j => slF f (a + j)) := by
  intro n
  induction n with
  | zero => intro a _; rfl
  | succ n ih =>
   intro a h
   rw [chunks,CF_slot f a (by omega),List.drop_drop,show 6 + a * 3 + 3 = 6 + (a + 1) * 3 by omega,ih (a + 1) (by omega),List.range_succ_eq_map,List.map_cons,List.map_map]
   show Slot.enc (slF f a) :: _ = Slot.enc (slF f (a + 0)) :: encs Slot.enc _
   congr 1
   refine congrArg (encs Slot.enc) (List.map_congr_left fun j _ => ?_)
   simp only [Function.comp,Nat.succ_eq_add_one]
   rw [show a + 1 + j = a + (j + 1) by omega]
 have := key n 0 (by omega)
 simp only [Nat.zero_mul,Nat.add_zero,Nat.zero_add] at this
 exact this
theorem appx84 (c : Int) : app E false (.fn 84 []) [.int .i64 c] [] = some (.bool (decide (0 ≤ c) && decide (c < 4)),emptyBag,[]) := by
 rw [app_fn E rfl hx84 rfl]
 by_cases h : 0 ≤ c <;> by_cases h2 : c < 4 <;> simp [cx84,h,h2]
end Go.Proofs.Ytmffcpiffkclgaa.ZJM.DC
set_option linter.unusedSimpArgs false
set_option linter.unusedVariables false
set_option maxRecDepth 10000
namespace Go.Proofs.Ytmffcpiffkclgaa.ZJM.DC
open Go.Proofs.Ytmffcpiffkclgaa.ZJM Go.RowKit
theorem word_err (f : Nat → Int) (t : Nat) : (wordF f t).2 = 0 ∨ (wordF f t).2 = 2 := by
 unfold wordF wordA; split <;> simp
section
variable (f : Nat → Int) (hf0 : 0 ≤ f 5) (hf8 : f 5 ≤ 8)
end
section
variable (f : Nat → Int) (hf0 : 0 ≤ f 5) (hf8 : f 5 ≤ 8)
end
abbrev Ns (l : List (Int × Int)) : List PV := encs (fun x => ky x.1 x.2) l
theorem ns_okns (l : List (Int × Int)) (a b c) : PV.okns a b c (Ns l) = true := PV.datas_okns _ _ _ _ (encs_data fun x _ => rfl)
theorem ns_deps (l : List (Int × Int)) (a) : PV.deps a (Ns l) = true := PV.datas_deps _ _ (encs_data fun x _ => rfl)
attribute [simp] ns_okns ns_deps
end Go.Proofs.Ytmffcpiffkclgaa.ZJM.DC
set_option linter.unusedSimpArgs false
set_option linter.unusedVariables false
set_option maxRecDepth 10000
namespace Go.Proofs.Ytmffcpiffkclgaa.ZJM.DC
open Go.Proofs.Ytmffcpiffkclgaa.ZJM Go.RowKit
theorem setR_no {r : RD} {i s n : Int} (h : setC r i s n ≠ 0) : setR r i s n = r := by rw [setR,if_neg h]
section
variable {m : Mem} {lv a a' ver : Nat} {l : List Row} {c : Int} (hd : DA m lv a a' ver l c) {w : RD × Int} (hs : Sim l c w.1)
include hd hs
end
section
variable {m : Mem} {lv a a' ver : Nat} {l : List Row} {c : Int} (hd : DA m lv a a' ver l c) {r : RD} (hs : Sim l c r)
include hd hs
end
theorem sim_set1 {l : List Row} {c : Int} {r : RD} (hs : Sim l c r) (i s n : Int) : ∃ l' c',Sim l' c' (setR r i s n) := by
 by_cases hz : setC r i s n = 0
 ·exact ⟨_,_,hs.set i s n (by rw [hs.setC]; exact hz)⟩
 ·exact ⟨l,c,by rw [setR,if_neg hz]; exact hs⟩
section
variable (cc : Int) (f : Nat → Int) (r : RD) {rows : List Row} {ct : Int} (hs : Sim rows ct r)
end
end Go.Proofs.Ytmffcpiffkclgaa.ZJM.DC
