/- ImagePlays: its function and the law. -/
import Derived.Test.YtmffcpiffkclgaaZEY5
set_option linter.unusedSimpArgs false
set_option linter.unusedVariables false
set_option maxRecDepth 10000
namespace Go.Proofs.Ytmffcpiffkclgaa.ZJM.DC
open Go.Proofs.Ytmffcpiffkclgaa.ZJM Go.RowKit

abbrev Dl (l : List Dd) : List PV := encs Dd.enc l
theorem dl_data (l : List Dd) : PV.datas (Dl l) = true := encs_data fun x _ => by simp [Dd.enc, Dd.cs, PV.datas, PV.data, bs_data]
theorem dl_okns (l : List Dd) (a b c) : PV.okns a b c (Dl l) = true := PV.datas_okns _ _ _ _ (dl_data l)
theorem dl_rens (l : List Dd) (a b ρ) : PV.rens a b ρ (Dl l) = Dl l := PV.datas_rens _ _ _ _ (dl_data l)
theorem dl_deps (l : List Dd) (a) : PV.deps a (Dl l) = true := PV.datas_deps _ _ (dl_data l)
theorem strOf_beq {a b : List Int} (ha : OkB a) (hb : OkB b) : (strOf a == strOf b) = decide (a = b) := by
  have h := strOf_inj ha hb
  rw [beq_toListBytes]
  by_cases q : a = b
  · rw [decide_eq_true q, q]; simp
  · rw [decide_eq_false q, beq_eq_false_iff_ne]
    intro e
    exact q (h.1 e)
section
variable (nl : Bool) (f : Nat → Int) (L : List Dd) (hL : ∀ x ∈ L, x.ok)
def own7i (r : RD) (ver : Nat) (rows : List Row) (c : Int) : Lvl := [(6, [El r.nl r.l, .int .i64 r.c]), (1000000000, [.ptr 0 1000000001 [] 0, .int .i64 c]), (1000000001, [shC ver rows])]
theorem own7i_da (r : RD) (ver : Nat) (rows : List Row) (c : Int) : DA [own7i r ver rows c] 0 1000000000 1000000001 ver rows c := ⟨by simp [own7i], by simp [own7i], by decide⟩
theorem own7i_set (r : RD) (ver : Nat) (rows : List Row) (c : Int) (v : Nat) (l' : List Row) (c' : Int) : dset [own7i r ver rows c] 0 1000000000 1000000001 v l' c' = [own7i r v l' c'] := by simp [dset, wr, own7i]
def S7i (nl : Bool) (f : Nat → Int) (L : List Dd) (t : Nat) (r : RD) (ver : Nat) (rows : List Row) (c : Int) : St := ⟨[(1, .lst none nl 5 (Dl L)), (2, .elp (.agg (CF f 30)) 0), (5, .ptr 0 1000000000 [] 0), (6, .ptr 0 6 [] 0), (7, .int .i64 t)], [], own7i r ver rows c, [], []⟩
set_option maxHeartbeats 4000000 in
theorem round7i (x : Dd) (hx : x.ok) (t : Nat) (htL : t < L.length) (ht40 : t < 40) (gE : (Dl L)[t]? = some x.enc) (r : RD) (ver : Nat) (rows : List Row) (c : Int) (hs : Sim rows c r) :
    ∃ r' ver' rows' c', Sim rows' c' r' ∧ Goes (maskSt [1, 2, 5, 6, 7] [6] [] [5]) (S7i nl f L (t + 1) r' ver' rows' c') (Cd.run (app E) cx7.body.inner.body (S7i nl f L t r ver rows c)) := by
  have hti : (t : Int) < L.length := by omega
  have ht4 : (t : Int) < 40 := by omega
  have hw := wrap_succ t (by omega)
  have gE2 : ∀ h, (Dl L)[t]'h = x.enc := fun h => (List.getElem?_eq_some_iff.1 gE).2
  have hle : (Dl L).length = L.length := encs_len L
  have k1 := fun a b c => dl_okns L a b c
  have k2 := fun a b ρ => dl_rens L a b ρ
  have k5 := CF_get f 30 (k := 5) (by omega)
  obtain ⟨m1, e34, v1, l1, c1, rfl, hs1⟩ := appx34 (own7i_da r ver rows c) hs f x hx
  rw [own7i_set] at e34
  have hd1 := own7i_da (ddR r f x) v1 l1 c1
  have h15 := app17 hd1 hs1
  have h35 := appx35 hd1 hs1 f
  have h36 := appx36 hd1 hs1 f
  have h38 := appx38 hd1 hs1 f
  have h37 := appx37 (ddR r f x) hs1.rok f
  have hbv := valB_byte hd1 hs1 f
  have hbs := sfB_byte f hs1
  refine ⟨ddR r f x, v1, l1, c1, hs1, ?_⟩
  generalize ddR r f x = r1 at *
  have f4 := fun a => es_deps r1.l a
  have f5 := fun a b c => es_okns r1.l a b c
  have hrn := fun a b ρ => es_rens r1.l a b ρ
  have g4 := fun a => es_deps r.l a
  have g5 := fun a b c => es_okns r.l a b c
  have s1 := fun lv => shC_names lv v1 l1
  have s2 := fun a b ρ => shC_ren a b ρ v1 l1
  have s3 := fun a ks ts => shC_okn a ks ts v1 l1
  have s4 := shC_rec v1 l1
  obtain ⟨o, i, s, n, nb, b⟩ := x
  have hob := fun a b' c => bs_okns b a b' c
  have hdb := fun a => bs_deps b a
  cases hf : fitsI r1 f with
  | false =>
    have hv : valB r1 f = [] := by rw [valB, hf]; rfl
    have hsf : sfB r1 f = [] := by rw [sfB, hf]; rfl
    have he : valE r1 f = 14 := by rw [valE, hf]; rfl
    have hI : isS r1 f = false := by rw [isS, hf]; rfl
    rw [hv, he] at h35
    rw [hsf, he] at h36
    rw [hI] at h38
    rw [hf] at h37
    simp only [S7i, own7i, Dd.enc, Dd.cs, RD.pv, El, rd, Bl, encs_nil, List.isEmpty_nil] at *
    generalize Dl L = DL at *
    generalize Es r1.l = L1 at *
    generalize Es r.l = L0 at *
    generalize shC ver rows = SS0 at *
    generalize shC v1 l1 = SS1 at *
    generalize Bs b = BB at *
    simp [-isPlace, -moves, cx7, Cd.inner, Cd.body, hle, hti, ht4, htL, gE, gE2, e34, h15, h35, h36, h38, h37, hw, f4, f5, hrn, g4, g5, s1, s2, s3, s4, k1, k2, hob, hdb, wrap_id]
  | true =>
    obtain ⟨hf0, hf8, _⟩ := fitsI_check hf
    have h39 := app38 r1 hs1.rok false (LF f) hs1
    rw [(fits_pack hf).1, (fits_pack hf).2] at h39
    have h40 := appx40 hs1.rok f hf
    have hsf : safB r1 (LF f) = sfB r1 f := by rw [sfB, if_pos hf]
    rw [hsf] at h40
    have he : valE r1 f = 0 := by rw [valE, hf]; rfl
    have hI : isS r1 f = decide (valB r1 f = sfB r1 f) := by rw [isS, hf, Bool.true_and]
    rw [hI, ← strOf_beq hbv hbs] at h38
    rw [he] at h35 h36
    rw [hf] at h37
    have hch := CF_LF f hf8
    have hdL := fun a => ss_deps (LF f) a
    have hoL := fun a b c => ss_okns (LF f) a b c
    have hp1 : bytesP (Bs (valB r1 f)) = some (valB r1 f) := bytesP_bs _
    have hp2 : bytesP (Bs (sfB r1 f)) = some (sfB r1 f) := bytesP_bs _
    have hov := fun a b' c => bs_okns (valB r1 f) a b' c
    have hdv := fun a => bs_deps (valB r1 f) a
    have hos := fun a b' c => bs_okns (sfB r1 f) a b' c
    have hds := fun a => bs_deps (sfB r1 f) a
    have bb : ∀ z : ByteArray, (z == z) = true := bytes_beq
    have bn : ∀ z : ByteArray, (z != z) = false := fun z => by rw [bne, bb]; rfl
    have hbl := bs_len (valB r1 f)
    have hbl2 := bs_len (sfB r1 f)
    simp only [S7i, own7i, Dd.enc, Dd.cs, RD.pv, El, rd, Bl, Sl] at *
    generalize (valB r1 f).isEmpty = em1 at *
    generalize (sfB r1 f).isEmpty = em2 at *
    generalize hV : strOf (valB r1 f) = SV at *
    generalize hS : strOf (sfB r1 f) = SF at *
    generalize Bs (valB r1 f) = BV at *
    generalize Bs (sfB r1 f) = BF at *
    generalize hq : (SV == SF) = eqb at *
    rw [beq_toListBytes] at hq
    generalize Dl L = DL at *
    generalize Ss (LF f) = SL at *
    generalize Es r1.l = L1 at *
    generalize Es r.l = L0 at *
    generalize shC ver rows = SS0 at *
    generalize shC v1 l1 = SS1 at *
    generalize Bs b = BB at *
    simp [-isPlace, -moves, cx7, Cd.inner, Cd.body, hle, hti, ht4, htL, gE, gE2, e34, h15, h35, h36, h38, h37, h39, h40, k5, hf0, hf8, hch, hdL, hoL, hp1, hp2, hV, hS, hov, hdv, hos, hds, bb, bn, hw, f4, f5, hrn, g4, g5, s1, s2, s3, s4, k1, k2, hob, hdb, hq]
end
end Go.Proofs.Ytmffcpiffkclgaa.ZJM.DC

set_option linter.unusedSimpArgs false
set_option linter.unusedVariables false
set_option maxRecDepth 10000
namespace Go.Proofs.Ytmffcpiffkclgaa.ZJM.DC
open Go.Proofs.Ytmffcpiffkclgaa.ZJM Go.RowKit

theorem loop7i (nl : Bool) (f : Nat → Int) (L : List Dd) (hL : ∀ x ∈ L, x.ok) (ver0 : Nat) (rows0 : List Row) (c0 : Int) (r0 : RD) (hs0 : Sim rows0 c0 r0) {st : St} (h0 : maskSt [1, 2, 5, 6, 7] [6] [] [5] st = some (S7i nl f L 0 r0 ver0 rows0 c0)) :
    ∃ e st', loopW (maskSt [1, 2, 5, 6, 7] [6] [] [5]) (Cd.run (app E) cx7.body.inner.body) st = some (e, st') ∧ e ≠ .normal ∧ (e = .exit 0 ∧ st'.m = []) := by
  have hle : (Dl L).length = L.length := encs_len L
  refine loop_inv (fun t S => ∃ r ver rows c, Sim rows c r ∧ S = S7i nl f L t r ver rows c) (min L.length 40) _ h0 ⟨r0, ver0, rows0, c0, hs0, rfl⟩ ?_ ?_
  · rintro t S ht ⟨r, ver, rows, c, hs, rfl⟩
    have htL : t < L.length := by omega
    have gE : (Dl L)[t]? = some (L[t]'htL).enc := by simp [encs, htL]
    obtain ⟨r1, v1, l1, c1, hs1, hG⟩ := round7i nl f L (L[t]'htL) (hL _ (List.getElem_mem htL)) t htL (by omega) gE r ver rows c hs
    obtain ⟨st2, q1, q2⟩ := hG.get
    exact .inl ⟨st2, _, q1, q2, r1, v1, l1, c1, hs1, rfl⟩
  · rintro S ⟨r, ver, rows, c, hs, rfl⟩
    by_cases h : L.length ≤ 40
    · have e : min L.length 40 = L.length := by omega
      rw [e]
      simp only [S7i]
      generalize Dl L = DL at *
      simp [cx7, Cd.inner, Cd.body, EndsL, hle]
    · have e : min L.length 40 = 40 := by omega
      rw [e]
      have h1 : (40 : Int) < L.length := by omega
      simp only [S7i]
      generalize Dl L = DL at *
      simp [cx7, Cd.inner, Cd.body, EndsL, hle, h1]
set_option maxHeartbeats 1000000 in
theorem appx7 (nl : Bool) (f : Nat → Int) (L : List Dd) (hL : ∀ x ∈ L, x.ok) : app E false (.fn 7 []) [.agg (CF f 30), .lst none nl 5 (Dl L)] [] = some (.bool true, emptyBag, []) := by
  obtain ⟨v0, l0, c0, hs0, h33⟩ := appx33 [[]]
  have hd0 : DA [[(6, [El rImg.nl rImg.l, .int .i64 rImg.c]), (18000, [.ptr 0 18001 [] 0, .int .i64 c0]), (18001, [shC v0 l0])]] 0 18000 18001 v0 l0 c0 := ⟨by simp, by simp, by decide⟩
  have h15 := app17 hd0 hs0
  have u2 := fun a b ρ => es_rens rImg.l a b ρ
  have u3 := fun a => es_deps rImg.l a
  have u4 := fun a b c => es_okns rImg.l a b c
  have u5 := fun a => es_names rImg.l a
  have k1 := fun a b c => dl_okns L a b c
  have k2 := fun a b ρ => dl_rens L a b ρ
  have k3 := fun a => dl_deps L a
  have s1 := fun lv => shC_names lv v0 l0
  have s2 := fun a b ρ => shC_ren a b ρ v0 l0
  have s3 := fun a ks ts => shC_okn a ks ts v0 l0
  have s4 := shC_rec v0 l0
  have hS0 : maskSt [1, 2, 5, 6, 7] [6] [] [5] (S7i nl f L 0 rImg v0 l0 c0) = some (S7i nl f L 0 rImg v0 l0 c0) := by
    simp only [S7i, own7i, El]
    generalize Dl L = DL at *
    generalize Es rImg.l = LA at *
    generalize shC v0 l0 = SS0 at *
    simp [-isPlace, -moves, u2, u3, u4, k1, k2, s1, s2, s3, s4]
  obtain ⟨e, ⟨f', tops', own', dead', m'⟩, q1, q2, rfl, gm⟩ := loop7i nl f L hL v0 l0 c0 rImg hs0 hS0
  simp only at gm
  subst gm
  have hl1 := loop_at hS0 q1
  have h41 := live32
  simp only [cx7, Cd.inner, Cd.body, S7i] at hl1
  simp only [own7i, RD.pv, El, rd] at *
  generalize Dl L = DL at *
  generalize Es rImg.l = LA at *
  generalize shC v0 l0 = SS0 at *
  rw [app_fn E rfl hx7 rfl]
  simp [-isPlace, -moves, cx7, h33, h15, hl1, h41, u2, u3, u4, u5, k1, k2, k3, s1, s2, s3, s4, bagName, PV.retag, PV.retag1]
abbrev ddT : List CT := [.int .i64, .int .i64, .int .i64, .int .i64, .lst false 1 [.int .u8]]
theorem dd_of {x : PV} (h : CT.val true ddT x) : ∃ d : Dd, d.ok ∧ x = d.enc := by
  obtain ⟨ys, rfl, h⟩ := h
  simp only [CT.hass] at h
  obtain ⟨_, _, rfl, h0, _, _, rfl, h1, _, _, rfl, h2, _, _, rfl, h3, _, _, rfl, h4, rfl⟩ := h
  simp only [CT.has] at h0 h1 h2 h3
  obtain ⟨o, rfl, _⟩ := h0
  obtain ⟨i, rfl, _⟩ := h1
  obtain ⟨s, rfl, _⟩ := h2
  obtain ⟨n, rfl, _⟩ := h3
  obtain ⟨nb, b, hb, hn, rfl⟩ := bl_of h4
  exact ⟨⟨o, i, s, n, nb, b⟩, ⟨hb, hn⟩, rfl⟩
theorem dds_of {xs : List PV} (h : ∀ x ∈ xs, CT.val true ddT x) : ∃ l : List Dd, (∀ d ∈ l, d.ok) ∧ xs = Dl l := by
  induction xs with
  | nil => exact ⟨[], fun x hx => by simp at hx, rfl⟩
  | cons x r ih =>
    obtain ⟨d, hd, rfl⟩ := dd_of (h x (by simp))
    obtain ⟨l, hl, rfl⟩ := ih fun y hy => h y (by simp [hy])
    exact ⟨d :: l, fun y hy => by rcases List.mem_cons.1 hy with rfl | hy; exact hd; exact hl y hy, rfl⟩
theorem lawx7 {x0 x1 : PV} (h0 : CT.val true chanT x0) (h1 : CT.val false [.lst true 56 ddT] x1) : app E false (.fn 7 []) [x0, x1] [] = some (.bool true, emptyBag, []) := by
  obtain ⟨f, rfl⟩ := chan_of h0
  simp only [CT.val, CT.hass] at h1
  obtain ⟨_, _, hx, h, rfl⟩ := h1
  simp only [List.cons.injEq, and_true] at hx
  subst hx
  obtain ⟨nl, xs, rfl, _, hn, hx⟩ := CT.has_lst.1 h
  obtain ⟨l, hl, rfl⟩ := dds_of hx
  exact appx7 nl f l hl
end Go.Proofs.Ytmffcpiffkclgaa.ZJM.DC
