/- AuditLooks: bytes turned. -/
import Derived.Test.YtbbpkkeaddbcnaaZAL2
set_option linter.unusedSimpArgs false
set_option linter.unusedVariables false
namespace Go.Proofs.Ytbbpkkeaddbcnaa.ZIM.AL
open Go.Proofs.Ytbbpkkeaddbcnaa.ZIM Go.RowKit

def benc (bs : List Int) : List PV := bs.map (PV.int .u8)
theorem benc_getE (ls : List Int) (i : Nat) (h : i < (benc ls).length) : (benc ls)[i] = .int .u8 (ls[i]'(by simpa [benc] using h)) := by simp [benc]
theorem benc_len (ls : List Int) : (benc ls).length = ls.length := by simp [benc]
theorem benc_data (ls : List Int) : PV.datas (benc ls) = true := PV.datas_map (fun _ => rfl) ls
theorem benc_okns (ls : List Int) (a b c) : PV.okns a b c (benc ls) = true := PV.datas_okns _ _ _ _ (benc_data ls)
theorem benc_deps (ls : List Int) (a) : PV.deps a (benc ls) = true := PV.datas_deps _ _ (benc_data ls)
/-- A byte, turned. -/
def fx (n : Int) : Int := intBits .xor .u8 IntKind.u8.max n
/-- What has been turned so far. -/
def half (bs : List Int) (i : Nat) : List Int := (bs.take i).map fx ++ List.replicate (bs.length - i) 0
theorem half_len (bs : List Int) (i : Nat) (h : i ≤ bs.length) : (half bs i).length = bs.length := by simp [half]; omega
theorem half_zero (bs : List Int) : half bs 0 = List.replicate bs.length 0 := by simp [half]
theorem half_all (bs : List Int) : half bs bs.length = bs.map fx := by simp [half]
theorem half_succ (bs : List Int) (i : Nat) (h : i < bs.length) : splice (benc (half bs i)) [.int .u8 (fx bs[i])] i = benc (half bs (i + 1)) := by
  have hl1 : i + [PV.int .u8 (fx bs[i])].length ≤ (benc (half bs i)).length := by rw [benc_len, half_len bs i (by omega)]; simp; omega
  refine List.ext_getElem? fun j => ?_
  rw [splice_get hl1]
  unfold benc half
  by_cases hj : j < i
  · rw [if_neg (by omega), List.getElem?_map, List.getElem?_map, List.getElem?_append_left (by simp; omega), List.getElem?_append_left (by simp; omega)]
    simp only [List.getElem?_map, List.getElem?_take]
    rw [if_pos hj, if_pos (by omega)]
  · by_cases hji : j = i
    · subst hji
      rw [if_pos (by simp), List.getElem?_map, List.getElem?_append_left (by simp; omega)]
      simp only [List.getElem?_map, List.getElem?_take, Nat.sub_self, List.getElem?_cons_zero]
      rw [if_pos (by omega), List.getElem?_eq_getElem h]
      rfl
    · rw [if_neg (by simp; omega), List.getElem?_map, List.getElem?_map, List.getElem?_append_right (by simp; omega), List.getElem?_append_right (by simp; omega)]
      simp only [List.getElem?_replicate, List.length_map, List.length_take]
      by_cases hjb : j < bs.length
      · rw [if_pos (by omega), if_pos (by omega)]
      · rw [if_neg (by omega), if_neg (by omega)]
theorem rep_one (n : Nat) : rep [PV.int .u8 0] n = benc (List.replicate n 0) := by
  induction n with
  | zero => rfl
  | succ n ih => simp [rep, ih, benc, List.replicate_succ]
theorem chunks_one : ∀ (ls : List Int), chunks 1 ls.length (benc ls) = benc ls
  | [] => rfl
  | x :: r => by
    have := chunks_one r
    simp only [benc, List.map_cons, List.length_cons, chunks, List.take_succ_cons, List.take_zero, List.drop_succ_cons, List.drop_zero] at this ⊢
    rw [this]; rfl
theorem h79 : fns 79 = some c79 := rfl
section
variable (nl : Bool) (bs : List Int) (hb : bs.length < 1000000) (m : Mem)
def S79 (i : Nat) : St := ⟨[(3, .slr m.length 8 0 bs.length 1), (9, .lst none nl 1 (benc bs)), (10, .int .i64 bs.length), (11, .int .i64 i)], [], [(8, benc (half bs i))], m⟩
include hb in
theorem loop79 {st : St} (h0 : maskSt [3, 9, 10, 11] [8] [] st = some (S79 nl bs m 0)) :
    loopW (maskSt [3, 9, 10, 11] [8] []) (Cd.run (app fns) c79.body.inner.body) st = c79.body.inner.body.run (app fns) (S79 nl bs m bs.length) := by
  refine loop_eq (S79 nl bs m) bs.length (fun i hi => ?_) ?_ h0
  · have hi' : (i : Int) < bs.length := by omega
    have hw := wrap_succ i (by omega)
    have hl := half_len bs i (by omega)
    have hs := half_succ bs i hi
    have hs' : intBits .xor .u8 IntKind.u8.max bs[i] = fx bs[i] := rfl
    have hsg : IntKind.u8.signed = false := rfl
    have hi1 : i + 1 ≤ bs.length := hi
    simp [c79, Cd.inner, Cd.body, S79, hi', hi, hi1, benc_getE, benc_len, hl, hs, hs', hsg, hw, benc_okns, -splice]
  · simp [c79, Cd.inner, Cd.body, S79]
include hb in
/-- word.Flip: each byte turned. -/
theorem app79 : app fns (.fn 79 []) [.lst none nl 1 (benc bs)] m = some (.lst none false 1 (benc (bs.map fx)), m) := by
  rw [app_fn fns h79 rfl]
  have hin := fun st => @loop79 nl bs hb m st
  simp only [c79, Cd.inner, Cd.body, S79] at hin
  have hmb : bs.length * 1 ≤ maxBytes := by unfold maxBytes; omega
  have hmb' : bs.length ≤ maxBytes := by unfold maxBytes; omega
  have hch := chunks_one (bs.map fx)
  rw [List.length_map] at hch
  simp [c79, benc_len, hmb, hmb', rep_one, half_zero, hin, benc_okns, benc_deps, half_all, hch]
end
end Go.Proofs.Ytbbpkkeaddbcnaa.ZIM.AL
