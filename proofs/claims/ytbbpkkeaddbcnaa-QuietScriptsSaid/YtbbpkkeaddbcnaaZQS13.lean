/- QuietScripts: the two loops over all acts. -/
import Derived.Test.YtbbpkkeaddbcnaaZQS12
set_option linter.unusedSimpArgs false
set_option linter.unusedVariables false
namespace Go.Proofs.Ytbbpkkeaddbcnaa.ZJM.QS
open Go.Proofs.Ytbbpkkeaddbcnaa.ZJM Go.RowKit
section
variable (nl : Bool) (ms : List Mom) (stop : Int) (hl : ms.length < 1000000) (hal : ∀ m ∈ ms, m.acts.length < 2000000000000)
include hl hal in
theorem all0 : ∃ s', J0 ms ms.length 0 s' ∧ app E false (.fn 40 [.ptr 0 65000 [] 0]) [y0] [mem0 nl ms stop 0 (0, 0)] = some (.tup [], emptyBag, [mem0 nl ms stop 0 s']) := by
  obtain ⟨s', h1, h2⟩ := @app40 (Nat × Nat) (mem0 nl ms stop 0) nl ms hl hal y0 (fun ks ts => by simp [y0]) 65000 (fun s => by simp [mem0]) (J0 ms) (fun _ => False)
    (fun i hi k hk s own1 hJ => ⟨true, (i, k + 1), app0 nl ms stop hl hal own1 i hi k hk s hJ, by
      simp only [if_true]
      exact ⟨Nat.le_refl _, fun _ => rfl, fun h => by omega⟩⟩)
    (fun i hi s hJ => by
      obtain ⟨j1, j2, j3⟩ := hJ
      have hlen : alen ms i = ms[i].acts.length := by simp [alen, hi]
      refine ⟨by omega, fun h => by omega, fun h => ⟨rfl, ?_, fun t ht1 ht2 => ?_⟩⟩
      · by_cases he : s.1 = i
        · rw [j2 he, he, hlen]
        · exact (j3 (by omega)).2.1
      · by_cases he : s.1 = i
        · omega
        · obtain ⟨e1, e2, e3⟩ := j3 (by omega)
          by_cases hti : t = i
          · subst hti; rw [hlen]; exact e1
          · exact e3 t ht1 (by omega)) rfl (0, 0) ⟨Nat.zero_le _, fun _ => rfl, fun h => by simp at h⟩
  exact ⟨s', h1.resolve_right id, h2⟩

/-- The law's variables while it counts. -/
def mem1 (a n : Int) (s : Nat × Nat) : Lvl := [(500000001, [.lrec s.1]), (147000, [.lst none nl 2 (Ms ms)]), (2, [.lst none nl 2 (Ms ms)]), (3, [.int .u8 stop]), (4, [.bool false]), (8, [.int .i64 a]), (9, [.int .i64 n]), (10, [.int .i64 s.2])]
def y1 : PV := .rnd 3 1 [3, 10] [.ptr 0 3 [] 0, .ptr 0 10 [] 0] 0 500000001
variable (a n : Int)
theorem app1 (hs0 : 0 ≤ stop) (hs1 : stop ≤ 255) (own1 : Lvl) (i : Nat) (x : Act) (c : Nat) (hc : (c : Int) ≤ stop) :
    ∃ b s', app E false y1 [.int .i64 i, x.enc] (own1 :: [mem1 nl ms stop a n (0, c)]) = some (.bool b, emptyBag, own1 :: [mem1 nl ms stop a n s']) ∧ (if b = true then s'.1 = 0 ∧ (s'.2 : Int) ≤ stop else s'.1 = 9 ∧ (s'.2 : Int) ≤ stop) := by
  have hw : IntKind.i64.wrap stop = stop := by unfold IntKind.wrap; simp [IntKind.bits, IntKind.signed]; omega
  have hw1 := wrap_succ c (by omega)
  by_cases he : (c : Int) = stop
  · refine ⟨false, (9, c), ?_, by simp [hc]⟩
    unfold y1
    rw [app_rnd E h3 (rd := rd1) rfl (by simp [rd1, c3, mem1, Act.enc])]
    simp [rd1, c3, mem1, Act.enc, Act.cs, hw, he]
  · refine ⟨true, (0, c + 1), ?_, by simp; omega⟩
    unfold y1
    rw [app_rnd E h3 (rd := rd1) rfl (by simp [rd1, c3, mem1, Act.enc])]
    have he' : ((c : Int) == stop) = false := by simpa using he
    simp [rd1, c3, mem1, Act.enc, Act.cs, hw, hw1, he']
include hl hal in
theorem all1 (hs0 : 0 ≤ stop) (hs1 : stop ≤ 255) : ∃ s' : Nat × Nat, (s'.1 = 0 ∨ s'.1 = 9) ∧ (s'.2 : Int) ≤ stop ∧ app E false (.fn 40 [.ptr 0 147000 [] 0]) [y1] [mem1 nl ms stop a n (0, 0)] = some (.tup [], emptyBag, [mem1 nl ms stop a n s']) := by
  obtain ⟨s', h1, h2⟩ := @app40 (Nat × Nat) (mem1 nl ms stop a n) nl ms hl hal y1 (fun ks ts => by simp [y1]) 147000 (fun s => by simp [mem1]) (fun _ _ s => s.1 = 0 ∧ (s.2 : Int) ≤ stop) (fun s => s.1 = 9 ∧ (s.2 : Int) ≤ stop)
    (fun i hi k hk s own1 hJ => by
      obtain ⟨s1, s2⟩ := s
      obtain ⟨rfl, hc⟩ := hJ
      exact app1 nl ms stop a n hs0 hs1 own1 i _ s2 hc)
    (fun i hi s hJ => hJ) rfl (0, 0) ⟨rfl, by simpa using hs0⟩
  rcases h1 with ⟨e1, e2⟩ | ⟨e1, e2⟩
  · exact ⟨s', .inl e1, e2, h2⟩
  · exact ⟨s', .inr e1, e2, h2⟩
end
end Go.Proofs.Ytbbpkkeaddbcnaa.ZJM.QS
