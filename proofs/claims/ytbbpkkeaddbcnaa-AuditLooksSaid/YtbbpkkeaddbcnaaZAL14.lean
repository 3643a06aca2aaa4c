/- AuditLooks: the reference's frames. -/
import Derived.Test.YtbbpkkeaddbcnaaZAL13
set_option linter.unusedSimpArgs false
set_option linter.unusedVariables false
namespace Go.Proofs.Ytbbpkkeaddbcnaa.ZIM.AL
open Go.Proofs.Ytbbpkkeaddbcnaa.ZIM Go.RowKit

theorem h70 : fns 70 = some c70 := rfl
theorem h72 : fns 72 = some c72 := rfl
theorem h64 : fns 64 = some c64 := rfl
theorem bytes_len (f : Frm) : f.bytes.length = 8 := rfl
theorem cells_eq (f : Frm) : f.cells = .int .i64 f.id :: .bool f.rtr :: .int .i64 f.len :: benc f.bytes := rfl
theorem cells_get (f : Frm) (i : Nat) (h : i < 8) : f.cells[3 + i]? = some (.int .u8 (f.bytes[i]'h)) := by
  rw [cells_eq, Nat.add_comm]
  simp only [List.getElem?_cons_succ, benc, List.getElem?_map]
  rw [List.getElem?_eq_getElem (by exact h)]; rfl
/-- May not be. -/
def Frm.bad (f : Frm) (i : Nat) : Prop := (f.rtr = true ∨ f.len ≤ i) ∧ ∃ h : i < 8, f.bytes[i]'h ≠ 0
theorem plain_same (f : Frm) : same f.plain f = true ↔ ∀ i, i < 8 → ¬ f.bad i := by
  obtain ⟨id, rtr, len, d0, d1, d2, d3, d4, d5, d6, d7⟩ := f
  have key : ∀ (d : Int) (c : Bool), ((if c = true then (0 : Int) else d) == d) = true ↔ (c = true → d = 0) := by
    intro d c; cases c
    · simp
    · simp; exact eq_comm
  constructor
  · intro h i hi hb
    simp only [same, Frm.plain, Bool.and_eq_true, key, beq_self_eq_true, true_and] at h
    obtain ⟨e0, e1, e2, e3, e4, e5, e6, e7⟩ := h
    obtain ⟨hc, _, hd⟩ := hb
    simp only [Bool.or_eq_true, decide_eq_true_eq] at e0 e1 e2 e3 e4 e5 e6 e7 hc
    have : i = 0 ∨ i = 1 ∨ i = 2 ∨ i = 3 ∨ i = 4 ∨ i = 5 ∨ i = 6 ∨ i = 7 := by omega
    rcases this with rfl | rfl | rfl | rfl | rfl | rfl | rfl | rfl
    · exact hd (e0 hc)
    · exact hd (e1 hc)
    · exact hd (e2 hc)
    · exact hd (e3 hc)
    · exact hd (e4 hc)
    · exact hd (e5 hc)
    · exact hd (e6 hc)
    · exact hd (e7 hc)
  · intro h
    have g : ∀ (i : Nat) (hi : i < 8), (rtr = true ∨ len ≤ (i : Int)) → (Frm.mk id rtr len d0 d1 d2 d3 d4 d5 d6 d7).bytes[i]'hi = 0 := fun i hi hc => Decidable.byContradiction fun hn => h i hi ⟨hc, hi, hn⟩
    simp only [same, Frm.plain, Bool.and_eq_true, key, beq_self_eq_true, true_and]
    simp only [Bool.or_eq_true, decide_eq_true_eq]
    exact ⟨g 0 (by omega), g 1 (by omega), g 2 (by omega), g 3 (by omega), g 4 (by omega), g 5 (by omega), g 6 (by omega), g 7 (by omega)⟩
section
variable (f : Frm) (m : Mem)
def S69 (i : Nat) : St := ⟨[(1, .ptr m.length 1 0), (3, .int .i64 i)], [], [(1, f.cells)], m⟩
theorem cells_okns (a b c) : PV.okns a b c f.cells = true := PV.datas_okns _ _ _ _ rfl
theorem cells_isCell : f.cells.all PV.isCell = true := rfl
theorem cells_len : f.cells.length = 11 := rfl
theorem cells_take : f.cells.take 11 = f.cells := rfl
theorem cells_untag : f.cells.map PV.untag1 = f.cells := rfl
theorem c0 : f.cells[0]? = some (.int .i64 f.id) := rfl
theorem c1 : f.cells[1]? = some (.bool f.rtr) := rfl
theorem c2 : f.cells[2]? = some (.int .i64 f.len) := rfl
theorem first_stop (stop : Nat → Prop) (n : Nat) : ∃ i, i ≤ n ∧ (∀ j, j < i → ¬ stop j) ∧ (i < n → stop i) := by
  induction n with
  | zero => exact ⟨0, by omega, fun j hj => by omega, fun h => by omega⟩
  | succ n ih =>
    obtain ⟨i, h1, h2, h3⟩ := ih
    by_cases hi : i < n
    · exact ⟨i, by omega, h2, fun _ => h3 hi⟩
    · have : i = n := by omega
      subst this
      by_cases hs : stop i
      · exact ⟨i, by omega, h2, fun _ => hs⟩
      · refine ⟨i + 1, by omega, fun j hj => ?_, fun h => by omega⟩
        by_cases hj' : j = i
        · subst hj'; exact hs
        · exact h2 j (by omega)
theorem body69 (i : Nat) (hi : i < 8) (hb : f.bad i) : ∃ st, c69.body.inner.body.run (app fns) (S69 f m i) = some (.ret, st) ∧ get st.f 2 = some (.int .i64 4) ∧ st.m = m := by
  have e1 := c1 f
  have e2 := c2 f
  have hi' : (i : Int) < 8 := by omega
  have hg := cells_get f i hi
  obtain ⟨hc, _, hd⟩ := hb
  have hd' : (f.bytes[i] == 0) = false := by simpa using hd
  by_cases h1 : f.rtr = true
  · simp [c69, Cd.inner, Cd.body, S69, hi', hg, e1, e2, h1, hd, hd', bne]
  · have h2 : f.len ≤ i := hc.resolve_left h1
    simp [c69, Cd.inner, Cd.body, S69, hi', hg, e1, e2, h1, h2, hd, hd', bne]
theorem loop69 (i : Nat) (h1 : i ≤ 8) (h2 : ∀ j, j < i → ¬ f.bad j) (h3 : i < 8 → f.bad i) {st : St} (h0 : maskSt [1, 3] [1] [] st = some (S69 f m 0)) :
    loopW (maskSt [1, 3] [1] []) (Cd.run (app fns) c69.body.inner.body) st = c69.body.inner.body.run (app fns) (S69 f m i) := by
  have hok := cells_okns f
  have e1 := c1 f
  have e2 := c2 f
  refine loop_eq (S69 f m) i (fun i hi => ?_) ?_ h0
  · have hb := h2 i hi
    have hi8 : i < 8 := by omega
    have hi' : (i : Int) < 8 := by omega
    have hw := wrap_succ i (by omega)
    have hg := cells_get f i hi8
    by_cases h1 : f.rtr = true
    · have h3 : f.bytes[i] = 0 := Decidable.byContradiction fun hn => hb ⟨.inl h1, hi8, hn⟩
      simp [c69, Cd.inner, Cd.body, S69, hi', hg, hw, hok, e1, e2, h1, h3]
    · by_cases h2 : f.len ≤ i
      · have h3 : f.bytes[i] = 0 := Decidable.byContradiction fun hn => hb ⟨.inr h2, hi8, hn⟩
        simp [c69, Cd.inner, Cd.body, S69, hi', hg, hw, hok, e1, e2, h1, h2, h3]
      · simp [c69, Cd.inner, Cd.body, S69, hi', hg, hw, hok, e1, e2, h1, h2]
  · by_cases hi : i < 8
    · obtain ⟨st, h, _⟩ := body69 f m i hi (h3 hi)
      rw [h]; trivial
    · have : i = 8 := by omega
      subst this
      simp [c69, Cd.inner, Cd.body, S69]
/-- The reference's look at a frame is the program's. -/
theorem app69 : app fns (.fn 69 []) [f.enc] m = some (.int .i64 f.chk, m) := by
  rw [app_fn fns h69 rfl]
  obtain ⟨i, h1, h2, h3⟩ := first_stop f.bad 8
  have hin := fun st => @loop69 f m i h1 h2 h3 st
  simp only [c69, Cd.inner, Cd.body, S69] at hin
  have hok := cells_okns f
  have hic := cells_isCell f
  have e0 := c0 f
  have e1 := c1 f
  have e2 := c2 f
  by_cases a1 : f.id < 0
  · simp [c69, Frm.enc, e0, e1, e2, hic, hok, Frm.chk, a1]
  · by_cases a2 : f.id > 2047
    · simp [c69, Frm.enc, e0, e1, e2, hic, hok, Frm.chk, a1, a2]
    · by_cases a3 : f.len < 0
      · simp [c69, Frm.enc, e0, e1, e2, hic, hok, Frm.chk, a1, a2, a3]
      · by_cases a4 : f.len > 8
        · simp [c69, Frm.enc, e0, e1, e2, hic, hok, Frm.chk, a1, a2, a3, a4]
        · by_cases hi : i < 8
          · have hs : ¬ same f.plain f = true := fun h => (plain_same f).1 h i hi (h3 hi)
            have hi' : (i : Int) < 8 := by omega
            have hg := cells_get f i hi
            obtain ⟨hc, _, hd⟩ := h3 hi
            have hd' : (f.bytes[i] == 0) = false := by simpa using hd
            by_cases g1 : f.rtr = true
            · simp [c69, Frm.enc, e0, e1, e2, hic, hok, Frm.chk, a1, a2, a3, a4, hin, hs, hi', hg, g1, hd, hd', bne]
            · have g2 : f.len ≤ i := hc.resolve_left g1
              simp [c69, Frm.enc, e0, e1, e2, hic, hok, Frm.chk, a1, a2, a3, a4, hin, hs, hi', hg, g1, g2, hd, hd', bne]
          · have : i = 8 := by omega
            subst this
            have hs : same f.plain f = true := (plain_same f).2 fun j hj => h2 j hj
            simp [c69, Frm.enc, e0, e1, e2, hic, hok, Frm.chk, a1, a2, a3, a4, hin, hs]
end
/-! ### a frame's bytes, and turned -/
section
variable (f : Frm) (h0 : 0 ≤ f.len) (h8 : f.len ≤ 8) (m : Mem)
def S70 (i : Nat) : St := ⟨[(1, .ptr m.length 1 0), (3, .lst (some 5) false 1 (benc (f.bytes.take i))), (4, .int .i64 i)], [(5, i, 5)], [(1, f.cells)], m⟩
include h0 h8 in
theorem loop70 {st : St} (hm : maskSt [1, 3, 4] [1] [5] st = some (S70 f m 0)) :
    loopW (maskSt [1, 3, 4] [1] [5]) (Cd.run (app fns) c70.body.inner.body) st = c70.body.inner.body.run (app fns) (S70 f m f.len.toNat) := by
  have hok := cells_okns f
  have e1 := c1 f
  have e2 := c2 f
  refine loop_eq (S70 f m) f.len.toNat (fun i hi => ?_) ?_ hm
  · have hi8 : i < 8 := by omega
    have hi' : (i : Int) < 8 := by omega
    have hi2 : (i : Int) < f.len := by omega
    have hw := wrap_succ i (by omega)
    have hg := cells_get f i hi8
    have hbo := benc_okns
    have hl : (f.bytes.take i).length = i := by rw [List.length_take, bytes_len]; omega
    have hmb : i + 1 ≤ maxBytes := by unfold maxBytes; omega
    have hs : benc (f.bytes.take (i + 1)) = benc (f.bytes.take i) ++ [.int .u8 f.bytes[i]] := by rw [take_succ' f.bytes i hi8]; simp [benc]
    simp [c70, Cd.inner, Cd.body, S70, hi', hi2, hg, hw, hok, e1, e2, hs, benc_len, hl, hmb, hbo, okns_append]
  · have hmx : max f.len 0 = f.len := by omega
    simp [c70, Cd.inner, Cd.body, S70, e2, h0, hmx]
end
theorem app70 (f : Frm) (m : Mem) : app fns (.fn 70 []) [f.enc] m = some (.lst none false 1 (benc f.data), m) := by
  rw [app_fn fns h70 rfl]
  have h69 := fun m => app69 f m
  have e1 := c1 f
  have e2 := c2 f
  have hic := cells_isCell f
  have hok := cells_okns f
  have hbo := benc_okns
  have hbd := benc_deps
  have hn : benc [] = [] := rfl
  simp only [Frm.enc] at h69
  cases hc : (f.chk == 0) with
  | false =>
    have hd : f.data = [] := by simp [Frm.data, Frm.has, hc]
    simp [c70, Frm.enc, h69, hic, hok, hc, hd, bne, cells_len, cells_take, cells_untag, hn]
  | true =>
    cases hr : f.rtr with
    | true =>
      have hd : f.data = [] := by simp [Frm.data, Frm.has, hc, hr]
      simp [c70, Frm.enc, h69, hic, hok, hc, hd, bne, e1, hr, cells_len, cells_take, cells_untag, hn]
    | false =>
      have hh : f.has = true := by simp [Frm.has, hc, hr]
      obtain ⟨h0, h8⟩ := has_len hh
      have hd : f.data = f.bytes.take f.len.toNat := by simp [Frm.data, hh]
      have hin := fun st => @loop70 f h0 h8 m st
      simp only [c70, Cd.inner, Cd.body, S70, List.take_zero] at hin
      simp only [hn] at hin
      have hmx : max f.len 0 = f.len := by omega
      simp [c70, hmx, Frm.enc, h69, hic, hok, hc, hd, bne, e1, e2, hr, hin, h0, hbd, cells_len, cells_take, cells_untag]
theorem fx_eq (n : Int) : IntKind.u8.wrap (255 - n) = fx n := by
  have h1 : (BitVec.ofInt 8 255 ^^^ BitVec.ofInt 8 n).toNat = 255 - (BitVec.ofInt 8 n).toNat := by
    have h2 : BitVec.ofInt 8 255 = BitVec.allOnes 8 := by decide
    rw [h2, BitVec.allOnes_xor, BitVec.toNat_not]
  have h3 : (BitVec.ofInt 8 n).toNat = (n % 256).toNat := by rw [BitVec.toNat_ofInt]; rfl
  show IntKind.u8.wrap (255 - n) = IntKind.u8.wrap ((BitVec.ofInt 8 255 ^^^ BitVec.ofInt 8 n).toNat : Nat)
  rw [h1, h3]
  unfold IntKind.wrap
  simp [IntKind.bits, IntKind.signed]
  omega
section
variable (nl : Bool) (bs : List Int) (hb : bs.length < 1000000) (m : Mem)
def S72 (i : Nat) : St := ⟨[(0, .lst none nl 1 (benc bs)), (3, .lst (some 5) false 1 (benc ((bs.take i).map fx))), (4, .int .i64 i)], [(5, i, 5)], [], m⟩
include hb in
theorem loop72 {st : St} (hm : maskSt [0, 3, 4] [] [5] st = some (S72 nl bs m 0)) :
    loopW (maskSt [0, 3, 4] [] [5]) (Cd.run (app fns) c72.body.inner.body) st = c72.body.inner.body.run (app fns) (S72 nl bs m bs.length) := by
  refine loop_eq (S72 nl bs m) bs.length (fun i hi => ?_) ?_ hm
  · have hi' : (i : Int) < bs.length := by omega
    have hw := wrap_succ i (by omega)
    have hbo := benc_okns
    have hl : ((bs.take i).map fx).length = i := by rw [List.length_map, List.length_take]; omega
    have hmb : i + 1 ≤ maxBytes := by unfold maxBytes; omega
    have hs : benc ((bs.take (i + 1)).map fx) = benc ((bs.take i).map fx) ++ [.int .u8 (fx bs[i])] := by rw [take_succ' bs i hi, List.map_append, benc, List.map_append]; rfl
    have hf := fx_eq bs[i]
    unfold S72
    rw [hs]
    generalize (bs.take i).map fx = A at hl
    simp [c72, Cd.inner, Cd.body, hi', hi, hw, benc_len, benc_getE, hl, hmb, hbo, okns_append, hf]
  · simp [c72, Cd.inner, Cd.body, S72, benc_len]
include hb in
theorem app72 : app fns (.fn 72 []) [.lst none nl 1 (benc bs)] m = some (.lst none false 1 (benc (bs.map fx)), m) := by
  rw [app_fn fns h72 rfl]
  have hin := fun st => @loop72 nl bs hb m st
  have hn : benc [] = [] := rfl
  simp only [c72, Cd.inner, Cd.body, S72, List.take_zero, List.take_length, List.map_nil, hn] at hin
  simp [c72, hin, benc_okns, benc_deps, benc_len]
end
theorem app64 (x : Link) (c : Came) (m : Mem) : app fns (.fn 64 []) [x.enc, c.f.enc] m = some (.str (heard x 0 c).v, m) := by
  rw [app_fn fns h64 rfl]
  have h70 := fun m => app70 c.f m
  have h72 := fun m => app72 false c.f.data (by have := data_len c.f; omega) m
  have e0 := c0 c.f
  have hic := cells_isCell c.f
  have hbP := bytesP_benc
  simp only [Frm.enc] at h70
  cases h1 : (c.f.id != x.plain) with
  | true =>
    have h1' : (c.f.id == x.plain) = false := by simpa [bne] using h1
    simp [c64, Link.enc, Frm.enc, h70, h72, e0, hic, hbP, cells_len, cells_take, cells_untag, heard, h1, h1', bne]
  | false =>
    have h1' : (c.f.id == x.plain) = true := by simpa [bne] using h1
    simp [c64, Link.enc, Frm.enc, h70, h72, e0, hic, hbP, cells_len, cells_take, cells_untag, heard, h1, h1', bne]
end Go.Proofs.Ytbbpkkeaddbcnaa.ZIM.AL
