/- ImageSlots: the law. -/
import Derived.Test.YtmffcpiffkclgaaZEI1
import Derived.Test.YtmffcpiffkclgaaZEW1
set_option linter.unusedSimpArgs false
set_option linter.unusedVariables false
set_option maxRecDepth 10000
namespace Go.Proofs.Ytmffcpiffkclgaa.ZJM.DC
open Go.Proofs.Ytmffcpiffkclgaa.ZJM Go.RowKit

def own8a (i s k a l h : Int) (x1 x2 x3 : Slot) (r : RD) (ver : Nat) (rows : List Row) (c : Int) : Lvl :=
  [(20, [El r.nl r.l, .int .i64 r.c]), (83000, [.ptr 0 83001 [] 0, .int .i64 c]), (83001, [shC ver rows]), (17, [.int .i64 x3.i, .int .i64 x3.s, .int .i64 x3.n]), (15, [.int .i64 x2.i, .int .i64 x2.s, .int .i64 x2.n]), (13, [.int .i64 x2.i, .int .i64 x2.s, .int .i64 x2.n]), (11, [.int .i64 x1.i, .int .i64 x1.s, .int .i64 x1.n]), (9, [.int .i64 x1.i, .int .i64 x1.s, .int .i64 x1.n]), (6, [.int .i64 k, .int .i64 a, .int .i64 l, .int .i64 h]), (5, [.int .i64 i, .int .i64 s])]
theorem own8a_da (i s k a l h : Int) (x1 x2 x3 : Slot) (r : RD) (ver : Nat) (rows : List Row) (c : Int) : DA [own8a i s k a l h x1 x2 x3 r ver rows c] 0 83000 83001 ver rows c := ⟨by simp [own8a], by simp [own8a], by decide⟩
theorem own8a_set (i s k a l h : Int) (x1 x2 x3 : Slot) (r : RD) (ver : Nat) (rows : List Row) (c : Int) (v : Nat) (l' : List Row) (c' : Int) : dset [own8a i s k a l h x1 x2 x3 r ver rows c] 0 83000 83001 v l' c' = [own8a i s k a l h x1 x2 x3 r v l' c'] := by simp [dset, wr, own8a]
theorem own8_da (i s : Int) (r : RD) (ver : Nat) (rows : List Row) (c : Int) : DA [own8 i s r ver rows c] 0 1000000000 1000000001 ver rows c := ⟨by simp [own8], by simp [own8], by decide⟩
theorem own8_set (i s : Int) (r : RD) (ver : Nat) (rows : List Row) (c : Int) (v : Nat) (l' : List Row) (c' : Int) : dset [own8 i s r ver rows c] 0 1000000000 1000000001 v l' c' = [own8 i s r v l' c'] := by simp [dset, wr, own8]
def rNil : RD := ⟨true, [], 0⟩
theorem sim_rNil : Sim [] 0 rNil := sim_new
set_option maxHeartbeats 2000000 in
theorem appx8 (q i s k a l h n : Int) : app E false (.fn 8 []) [.int .i64 q, ky i s, sp k a l h, .int .i64 n] [] = some (.bool true, emptyBag, []) := by
  have h42 := appx42 q
  have h43 := appx43 8192 q
  have h44 := appx44 q
  have h43b := appx43 8448 q
  have h43c := appx43 8192 s
  have h45 := appx45 i s
  unfold progA at h45
  generalize slotA 8192 q = x1 at *
  generalize slotA 8448 q = x2 at *
  generalize slotA 8192 s = x3 at *
  obtain ⟨x1, p1⟩ := x1
  obtain ⟨x2, p2⟩ := x2
  obtain ⟨x3, p3⟩ := x3
  simp only at *
  obtain ⟨m1, e1, v1, l1, c1, rfl, hs1⟩ := do_add (own8a_da i s k a l h x1 x2 x3 rNil 0 [] 0) sim_rNil i s k a l h true [] (fun x hx => by cases hx) (fun _ => rfl)
  rw [own8a_set] at e1
  have h12 := app12 rNil (by simp [rNil]) i s k a l h true [] (fun x hx => by cases hx)
  generalize addRC rNil i s k a l h [] = cc at *
  have hr1 : (addR rNil i s k a l h []).l.length ≤ 1 := by
    unfold addR; split <;> simp [rNil]
  generalize addR rNil i s k a l h [] = r1 at *
  rw [show Bl true [] = .lst none true 1 [] from rfl] at e1 h12
  have s1 := fun lv => shC_names lv v1 l1
  have s2 := fun a b ρ => shC_ren a b ρ v1 l1
  have s3 := fun a ks ts => shC_okn a ks ts v1 l1
  have s4 := shC_rec v1 l1
  have hrn1 := fun a b ρ => es_rens r1.l a b ρ
  have hdp1 := fun a => es_deps r1.l a
  have hok1 := fun a b c => es_okns r1.l a b c
  have hnm1 := fun a => es_names r1.l a
  have hdpI := fun a => es_deps imgR a
  have hrnI := fun a b ρ => es_rens imgR a b ρ
  have hokI := fun a b c => es_okns imgR a b c
  have hS0 : maskSt [3, 5, 19, 20, 21, 22, 23] [5, 20] [] [19] (S8 i s n imgR 0 (r1, 0) v1 l1 c1) = some (S8 i s n imgR 0 (r1, 0) v1 l1 c1) := by
    simp only [S8, own8, El]
    generalize shC v1 l1 = SS at *
    generalize Es r1.l = L1 at *
    generalize Es imgR = LI at *
    simp [s1, s2, s3, s4, hrn1, hok1, hnm1, hokI, hdpI, hdp1, hrnI]
  obtain ⟨e, ⟨f', tops', own', dead', m'⟩, q1, q2, rfl, g3, g5, g19, g20, g21, gm, gt, gd, go⟩ := loop8 i s imgR imgR_len imgR_get n v1 l1 c1 r1 hr1 hS0
  simp only at g3 g5 g19 g20 g21 gm gt gd go
  subst gm gt gd go
  have hl := loop_at hS0 q1
  obtain ⟨m2, e2, v2, l2, c2, rfl, hs2⟩ := appx49 (own8_da i s (runE r1 imgN).1 v1 l1 c1) hs1
  rw [own8_set] at e2
  have h15 := app17 (own8_da i s (runE r1 imgN).1 v2 l2 c2) hs2
  have h49 := appx49_nil [own8 i s (runE r1 imgN).1 v2 l2 c2]
  have h50 := appx50_nil [own8 i s (runE r1 imgN).1 v2 l2 c2] i s n
  generalize (runE r1 imgN).2 = w at *
  generalize (runE r1 imgN).1 = r2 at *
  have t1 := fun lv => shC_names lv 0 []
  have t2 := fun a b ρ => shC_ren a b ρ 0 []
  have t3 := fun a ks ts => shC_okn a ks ts 0 []
  have t4 := shC_rec 0 []
  have u2 := fun a b ρ => es_rens r2.l a b ρ
  have u3 := fun a => es_deps r2.l a
  have u4 := fun a b c => es_okns r2.l a b c
  have h11 := app11 [[(17, [.int .i64 x3.i, .int .i64 x3.s, .int .i64 x3.n]), (15, [.int .i64 x2.i, .int .i64 x2.s, .int .i64 x2.n]), (13, [.int .i64 x2.i, .int .i64 x2.s, .int .i64 x2.n]), (11, [.int .i64 x1.i, .int .i64 x1.s, .int .i64 x1.n]), (9, [.int .i64 x1.i, .int .i64 x1.s, .int .i64 x1.n]), (6, [.int .i64 k, .int .i64 a, .int .i64 l, .int .i64 h]), (5, [.int .i64 i, .int .i64 s])]]
  have h48 := appx48
  have h41 := live32
  simp only [cx8, Cd.inner, Cd.body] at hl
  simp only [own8a, own8, S8, RD.pv, El, rNil, rd, Slot.enc, encs_nil] at *
  generalize shC v1 l1 = SS1 at *
  generalize shC v2 l2 = SS2 at *
  generalize shC 0 [] = SS0 at *
  generalize Es r1.l = L1 at *
  generalize Es r2.l = L2 at *
  generalize Es imgR = LI at *
  have ha : ∀ b : Bool, (b == b) = true := fun b => by cases b <;> rfl
  rw [app_fn E rfl hx8 rfl]
  cases p3 <;> simp [cx8, h42, h43, h44, h43b, h43c, h45, h11, e1, h12, h48, hl, h41, e2, h15, h49, h50, g3, g5, g19, g20, g21, s1, s2, s3, s4, t1, t2, t3, t4, u2, u3, u4, hrn1, hdp1, hok1, hnm1, hdpI, hokI, hrnI, bagName, PV.retag, PV.retag1]
end Go.Proofs.Ytmffcpiffkclgaa.ZJM.DC

set_option linter.unusedSimpArgs false
set_option linter.unusedVariables false
set_option maxRecDepth 10000
namespace Go.Proofs.Ytmffcpiffkclgaa.ZJM.DC
open Go.Proofs.Ytmffcpiffkclgaa.ZJM Go.RowKit
theorem int1 {x : PV} (h : CT.val false [.int .i64] x) : ∃ n : Int, x = .int .i64 n := by
  simp only [CT.val, CT.hass, CT.has] at h
  obtain ⟨_, _, hx, ⟨n, rfl, _⟩, rfl⟩ := h
  simp only [List.cons.injEq, and_true] at hx
  exact ⟨n, hx⟩
theorem ints4 {x : PV} (h : CT.val true [.int .i64, .int .i64, .int .i64, .int .i64] x) : ∃ a b c d : Int, x = sp a b c d := by
  obtain ⟨ys, rfl, h⟩ := h
  simp only [CT.hass, CT.has] at h
  obtain ⟨_, _, rfl, ⟨a, rfl, _⟩, _, _, rfl, ⟨b, rfl, _⟩, _, _, rfl, ⟨c, rfl, _⟩, _, _, rfl, ⟨d, rfl, _⟩, rfl⟩ := h
  exact ⟨a, b, c, d, rfl⟩
theorem lawx8 {x0 x1 x2 x3 : PV} (h0 : CT.val false [.int .i64] x0) (h1 : CT.val true [.int .i64, .int .i64] x1) (h2 : CT.val true [.int .i64, .int .i64, .int .i64, .int .i64] x2) (h3 : CT.val false [.int .i64] x3) : app E false (.fn 8 []) [x0, x1, x2, x3] [] = some (.bool true, emptyBag, []) := by
  obtain ⟨q, rfl⟩ := int1 h0
  obtain ⟨i, s, rfl⟩ := ints2 h1
  obtain ⟨k, a, l, h, rfl⟩ := ints4 h2
  obtain ⟨n, rfl⟩ := int1 h3
  exact appx8 q i s k a l h n
end Go.Proofs.Ytmffcpiffkclgaa.ZJM.DC
