/- append as the ideal machine has it; a loop's head. -/
import Derived.Test.YtbbpkkeaddbcnaaZIM7
set_option linter.unusedSimpArgs false
set_option linter.unusedVariables false
namespace Go.Proofs.Ytbbpkkeaddbcnaa.ZIM
open Go.RowKit

section
variable {P : Program} {d nt : Nat} {m0 : Mem} {g0 : Gh} {w0 : World} {g : Gh} {om : Nat → Value} {szm : Nat → Nat} {st : St} {a : Act} {w : World}

/-- The cells of a list that is read. -/
def News (g : Gh) (w : World) (sz : Nat) (ys : List PV) (ry : Value) : Prop :=
  ∃ (ad : Addr) (c : Nat) (news : List Value), ry = .slice (some ad) ys.length c ∧ news.length = ys.length * sz ∧ (∀ j u, news[j]? = some u → w.cell? (ad.add j) = some u) ∧
      (∀ u ∈ news, vcell u = true) ∧ ((∀ x ∈ ys, x.isVal = true ∧ x.cells.length = sz) ∧ ∀ x ∈ ys, x.untag = x) ∧ ∀ j c, (ys.flatMap PV.cells)[j]? = some c → V g c (news.getD j undef)
/-- What may be added to a list. -/
def Src (g : Gh) (w : World) (y : PV) (ry : Value) : Prop :=
  ∀ o nl sz ys, y = .lst o nl sz ys → (ys = [] → ry = .slice none 0 0 ∨ ∃ b c, ry = .slice (some b) 0 c) ∧ (ys ≠ [] → News g w sz ys ry)
theorem newsV {m : Mem} (hR : Rel g m w) {o : Option Nat} {nl : Bool} {sz : Nat} {ys : List PV} {ry : Value} (hy : V g (.lst o nl sz ys) ry) (hne : ys ≠ []) : News g w sz ys ry := by
  cases hy with
  | nil => exact absurd rfl hne
  | emp => exact absurd rfl hne
  | lst _ _ _ b off cap rv hs hu hG hV hc =>
    have hl := flat_len hs
    have hget : ∀ j u, ((List.range (ys.length * sz)).map rv)[j]? = some u → j < ys.length * sz ∧ u = rv j := by
      intro j u hu
      rw [List.getElem?_map] at hu
      obtain ⟨k, hk, rfl⟩ := Option.map_eq_some_iff.1 hu
      obtain ⟨h1, h2⟩ := List.getElem?_eq_some_iff.1 hk
      simp at h1 h2
      subst h2
      exact ⟨h1, rfl⟩
    refine ⟨⟨b, off, none⟩, cap, (List.range (ys.length * sz)).map rv, rfl, by simp, fun j u hu => ?_, fun u hu' => ?_, ⟨hs, hu⟩, fun j c hj => ?_⟩
    · obtain ⟨h1, rfl⟩ := hget j u hu
      rw [add_at]
      exact (hR.hG _ _ _ (hG j (by omega))).1
    · obtain ⟨j, hj⟩ := List.getElem?_of_mem hu'
      obtain ⟨h1, rfl⟩ := hget j u hj
      exact (hR.hG _ _ _ (hG j (by omega))).2
    · have hlt : j < ys.length * sz := by have := (List.getElem?_eq_some_iff.1 hj).1; omega
      have := hV j c hj
      simpa [List.getD_eq_getElem?_getD, hlt] using this

theorem mkc_ok {sz : Nat} {cs : List PV} (hl : cs.length = sz) (hc : ∀ c ∈ cs, c.isCell = true ∧ c.untag1 = c) : (mkc sz cs).isVal = true ∧ (mkc sz cs).cells = cs ∧ (mkc sz cs).untag = mkc sz cs := by
  have hagg : PV.isVal (.agg cs) = true ∧ PV.cells (.agg cs) = cs ∧ PV.untag (.agg cs) = .agg cs := by
    refine ⟨by simp only [PV.isVal, List.all_eq_true]; exact fun c h => (hc c h).1, rfl, ?_⟩
    simp only [PV.untag, PV.agg.injEq]
    exact (List.map_congr_left fun c h => (hc c h).2).trans (List.map_id _)
  unfold mkc
  split
  · rename_i h1
    match cs, hl with
    | [c], _ =>
      obtain ⟨h2, h3⟩ := hc c (by simp)
      refine ⟨?_, ?_, ?_⟩
      · cases c <;> first | exact h2 | simp [PV.isCell] at h2
      · cases c <;> first | rfl | simp [PV.isCell] at h2
      · cases c <;> first | exact h3 | simp [PV.isCell] at h2
    | [], hl => simp at hl; omega
    | _ :: _ :: _, hl => simp at hl; omega
  · exact hagg
theorem chunks_ok {sz : Nat} : ∀ {n : Nat} {l : List PV}, n * sz ≤ l.length → (∀ c ∈ l, c.isCell = true ∧ c.untag1 = c) →
    (chunks sz n l).length = n ∧ (∀ x ∈ chunks sz n l, (x.isVal = true ∧ x.cells.length = sz) ∧ x.untag = x) ∧ (chunks sz n l).flatMap PV.cells = l.take (n * sz)
  | 0, l, _, _ => ⟨rfl, (fun x hx => by cases hx), by simp [chunks]⟩
  | n + 1, l, hl, hc => by
    rw [Nat.add_mul, Nat.one_mul] at hl
    obtain ⟨h1, h2, h3⟩ := chunks_ok (sz := sz) (n := n) (l := l.drop sz) (by simp; omega) (fun c h => hc c (List.mem_of_mem_drop h))
    have ht : (l.take sz).length = sz := by simp; omega
    obtain ⟨h4, h5, h6⟩ := mkc_ok ht fun c h => hc c (List.mem_of_mem_take h)
    refine ⟨by simp [chunks, h1], fun x hx => ?_, ?_⟩
    · rcases List.mem_cons.1 hx with rfl | hx
      · exact ⟨⟨h4, by rw [h5, ht]⟩, h6⟩
      · exact h2 x hx
    · simp only [chunks, List.flatMap_cons, h5, h3]
      rw [Nat.add_mul, Nat.one_mul, Nat.add_comm (n * sz) sz, List.take_add]
theorem deref_src (h : Inv d nt m0 g0 w0 g om szm st a w) {y y' : PV} {ry : Value} (hy : V g y ry) (hd : derefP st.own st.m y = some y') : Src g w y' ry := by
  cases hy with
  | slr lv sl off n sz b off' c hb ho hc =>
    simp only [derefP] at hd
    split at hd
    · rename_i cs hcs
      split at hd
      · rename_i hle
        cases hd
        obtain ⟨cs', C, E, h1, h2, h3, h4, _⟩ := h.rel.hM _ _ _ hb
        rw [hcs] at h1; cases h1
        have hcell : ∀ u ∈ (cs.map PV.untag1).drop off, u.isCell = true ∧ u.untag1 = u := by
          intro u hu
          obtain ⟨v, hv, rfl⟩ := List.mem_map.1 (List.mem_of_mem_drop hu)
          obtain ⟨j, hj⟩ := List.getElem?_of_mem hv
          exact ⟨by rw [isCell_untag1]; exact (h4 j v hj).1, by cases v <;> rfl⟩
        obtain ⟨k1, k2, k3⟩ := chunks_ok (sz := sz) (n := n) (l := (cs.map PV.untag1).drop off) (by simp; omega) hcell
        intro o nl sz' ys he
        cases he
        refine ⟨fun hys => .inr ⟨⟨b, off', none⟩, c, ?_⟩, fun hys => ?_⟩
        · have : n = 0 := by rw [← k1, hys]; rfl
          subst this; rfl
        · have hn0 : n ≠ 0 := by intro h0; subst h0; exact hys rfl
          have := ho hn0
          subst this
          have hget : ∀ j u, (((C.toList).drop off').take (n * sz))[j]? = some u → j < n * sz ∧ C[off' + j]? = some u := by
            intro j u hj
            rw [List.getElem?_take] at hj
            split at hj
            · rename_i hlt
              rw [List.getElem?_drop] at hj
              exact ⟨hlt, by simpa using hj⟩
            · cases hj
          have hV : ∀ j c, ((chunks sz n ((cs.map PV.untag1).drop off')).flatMap PV.cells)[j]? = some c → j < n * sz ∧ ∃ u, C[off' + j]? = some u ∧ V g c u ∧ vcell u = true := by
            intro j c hj
            rw [k3, List.getElem?_take] at hj
            split at hj
            · rename_i hlt
              rw [List.getElem?_drop, List.getElem?_map] at hj
              obtain ⟨v, hv, rfl⟩ := Option.map_eq_some_iff.1 hj
              obtain ⟨h5, _, h6⟩ := h4 _ v hv
              have hlt2 : off' + j < C.size := by have := (List.getElem?_eq_some_iff.1 hv).1; omega
              refine ⟨hlt, C[off' + j], by simp [hlt2], ?_, ?_⟩
              · have := h6.untag1
                simpa [hlt2] using this
              · have := h6.vcell h5
                simpa [hlt2] using this
            · cases hj
          refine ⟨⟨b, off', none⟩, c, ((C.toList).drop off').take (n * sz), by rw [k1], by rw [k1]; simp; omega, fun j u hj => ?_, fun u hu => ?_, ⟨fun x hx => (k2 x hx).1, fun x hx => (k2 x hx).2⟩, fun j c hj => ?_⟩
          · obtain ⟨_, h5⟩ := hget j u hj
            rw [add_at]
            simp [World.cell?, h2, h5]
          · obtain ⟨j, hj⟩ := List.getElem?_of_mem hu
            obtain ⟨h5, h6⟩ := hget j u hj
            have hlt3 : j < ((chunks sz n ((cs.map PV.untag1).drop off')).flatMap PV.cells).length := by rw [k3]; simp; omega
            obtain ⟨_, u', h7, _, h8⟩ := hV j _ (List.getElem?_eq_getElem hlt3)
            rw [h6] at h7; cases h7
            exact h8
          · obtain ⟨h5, u, h6, h7, _⟩ := hV j c hj
            have : (((C.toList).drop off').take (n * sz))[j]? = some u := by
              rw [List.getElem?_take, if_pos h5, List.getElem?_drop]; simpa using h6
            rw [List.getD_eq_getElem?_getD, this]
            exact h7
      · cases hd
    · cases hd
  | nil o sz =>
    cases hd
    intro o' nl sz' ys he
    cases he
    exact ⟨fun _ => .inl rfl, fun hne => absurd rfl hne⟩
  | emp sz ad =>
    cases hd
    intro o' nl sz' ys he
    cases he
    exact ⟨fun _ => .inr ⟨_, _, rfl⟩, fun hne => absurd rfl hne⟩
  | lst o sz xs b off cap rv hs hu hG hV hc =>
    cases hd
    intro o' nl sz' ys he
    cases he
    exact ⟨fun he => by subst he; exact .inr ⟨_, _, rfl⟩, fun hne => newsV h.rel (.lst o sz xs b off cap rv hs hu hG hV hc) hne⟩
  | _ => cases hd; intro o' nl sz' ys he; cases he

theorem b2s_src {src dst e : TypeId} (hs : P.underlying src = some (.slice e)) (he : P.underlying e = some (.int .u8)) (hd : P.underlying dst = some .string)
    {x v : PV} {rx : Value} (hx : Src g w x rx) (hv : b2sP x = some v) : ∃ r, (convert src dst rx).run P w = .ok r w ∧ V g v r := by
  cases x with
  | lst o nl sz xs =>
    simp only [b2sP] at hv
    split at hv
    · rename_i l hl
      cases hv
      have hl' := bytesP_spec hl
      obtain ⟨h0, h1⟩ := hx _ _ _ _ rfl
      by_cases hxs : xs = []
      · have : l = [] := by subst hxs; cases l with | nil => rfl | cons a l => cases hl'
        subst this
        rcases h0 hxs with rfl | ⟨ad, c, rfl⟩
        · exact ⟨_, run_convert_bytes_nil w src e hs he 0 0 dst hd, .str _⟩
        · refine ⟨_, ?_, .str _⟩
          rw [run_convert_bytes_string w src dst e _ 0 c hs he hd, run_bytesToString w ad 0 c [] (by simpa using run_loadCells_list (P := P) w ad [] (fun j v hj => by simp at hj)), foldl_push_bytes]
          simp [strOf, ByteArray.empty, ByteArray.emptyWithCapacity]
          rfl
      · obtain ⟨ad, c, news, rfl, hnl, hnc, hnv, ⟨hnx, hnu⟩, hnV⟩ := h1 hxs
        subst hl'
        have hf : ((l.map (PV.int .u8)).flatMap PV.cells) = l.map (PV.int .u8) := by
          clear hl hnl hnc hnv hnx hnu hnV h0 h1 hxs hx
          induction l with
          | nil => rfl
          | cons a l ih => simpa [PV.cells] using ih
        have hsz : sz = 1 := by
          cases l with
          | nil => exact absurd rfl hxs
          | cons a l => have := (hnx (.int .u8 a) (by simp)).2; simpa [PV.cells] using this.symm
        subst hsz
        have hnews : news = l.map (Value.int .u8) := by
          refine List.ext_getElem? fun j => ?_
          by_cases hj : j < l.length
          · have h2 := hnV j (.int .u8 l[j]) (by rw [hf]; simp [hj])
            have h3 : j < news.length := by rw [hnl]; simpa using hj
            rw [List.getD_eq_getElem?_getD, List.getElem?_eq_getElem h3] at h2
            rw [List.getElem?_eq_getElem h3]
            simp only [Option.getD_some] at h2
            simp only [List.getElem?_map, List.getElem?_eq_getElem hj, Option.map_some, Option.some.injEq]
            cases h2' : news[j] <;> rw [h2'] at h2 <;> cases h2
            rfl
          · rw [List.getElem?_eq_none (by rw [hnl]; simp; omega), List.getElem?_eq_none (by simp; omega)]
        have hload := run_loadCells_list (P := P) w ad news (fun j v hj => hnc j v hj)
        refine ⟨_, ?_, .str _⟩
        rw [run_convert_bytes_string w src dst e _ _ c hs he hd, run_bytesToString w ad _ c l (by rw [hnews] at hload; simpa using hload), foldl_push_bytes]
        simp [strOf, ByteArray.empty, ByteArray.emptyWithCapacity]
        rfl
    · cases hv
  | _ => simp [b2sP] at hv
theorem vcell_one {u : Value} (h : vcell u = true) : u.oneCell' = true := by cases u <;> first | rfl | (simp [vcell] at h)

/-- What the list reads as, that has grown. -/
theorem grown_V {g' : Gh} {b cap sz : Nat} {xs ys : List PV} {vals news : List Value} (hxs : ∀ x ∈ xs, x.isVal = true ∧ x.cells.length = sz) (hys : ∀ x ∈ ys, x.isVal = true ∧ x.cells.length = sz) (hxu : ∀ x ∈ xs ++ ys, x.untag = x)
    (hlx : vals.length = xs.length * sz) (hly : news.length = ys.length * sz) (hg : ∀ j, g'.G b j = (vals ++ news)[j]?)
    (hx : ∀ j c, (xs.flatMap PV.cells)[j]? = some c → V g' c (vals.getD j undef)) (hy : ∀ j c, (ys.flatMap PV.cells)[j]? = some c → V g' c (news.getD j undef)) (hc : xs.length + ys.length ≤ cap) (o : Option Nat) :
    V g' (.lst o false sz (xs ++ ys)) (.slice (some ⟨b, 0, none⟩) (xs.length + ys.length) cap) := by
  have hs : ∀ x ∈ xs ++ ys, x.isVal = true ∧ x.cells.length = sz := by
    intro x hx
    rcases List.mem_append.1 hx with h | h
    · exact hxs x h
    · exact hys x h
  have hfx := flat_len hxs
  have hfy := flat_len hys
  rw [← List.length_append]
  refine .lst o sz _ b 0 cap (fun j => (vals ++ news).getD j undef) hs hxu (fun j hj => ?_) (fun j c hj => ?_) (by simpa using hc)
  · rw [List.flatMap_append, List.length_append, hfx, hfy] at hj
    rw [Nat.zero_add, hg j]
    have : j < (vals ++ news).length := by rw [List.length_append]; omega
    simp [List.getD_eq_getElem?_getD, List.getElem?_eq_getElem this]
  · rw [List.flatMap_append] at hj
    by_cases hlt : j < (xs.flatMap PV.cells).length
    · rw [List.getElem?_append_left hlt] at hj
      have := hx j c hj
      rw [List.getD_eq_getElem?_getD, List.getElem?_append_left (by omega), ← List.getD_eq_getElem?_getD]
      exact this
    · rw [List.getElem?_append_right (by omega)] at hj
      have := hy _ c hj
      rw [List.getD_eq_getElem?_getD, List.getElem?_append_right (by omega), hlx, ← hfx, ← List.getD_eq_getElem?_getD]
      exact this

theorem app_ok (h : Inv d nt m0 g0 w0 g om szm st a w) {t ty e : TypeId} {i : TypeInfo} {z : Value} {bytes sz : Nat} (ht : P.underlying t = some (.slice e)) (hi : P.info? e = some i) (hz : i.zero = some z) (hby : i.bytes = bytes) (hb0 : 0 < bytes)
    (hzs : z.cells.size = i.size) (hsize : i.size = sz) (hsz : 0 < sz) {tag : Bool} {dst : Option Nat} (hd : ∀ t, dst = some t → t < nt) {x y : PV} {rx ry : Value} (hx : V g x rx) (hxt : Tg st.tops om szm x rx) (hy : Src g w y ry) {st' : St}
    (hs : appEv st tag sz bytes e dst x y = some st') :
    ∃ r w' g' om' szm', (Builtin.append_ #[t, t] ty #[rx, ry]).run P w = .ok r w' ∧ Inv d nt m0 g0 w0 g' om' szm' st' (a.put dst r) w' := by
  subst hsize
  cases x with
  | lst o nl sz1 xs =>
    cases y with
    | lst o2 nl2 sz2 ys =>
      simp only [appEv] at hs
      split at hs
      · rename_i hszz
        simp only [Bool.and_eq_true, beq_iff_eq] at hszz
        obtain ⟨e1, e2⟩ := hszz
        subst e1; subst e2
        split at hs
        · rename_i hbytes
          cases o with
          | some k =>
            simp only [] at hs
            split at hs
            · rename_i p hp
              split at hs
              · rename_i hpe
                simp only [Bool.and_eq_true, beq_iff_eq] at hpe
                split at hs
                · rename_i dd tops' hup
                  cases hs
                  obtain ⟨p1, p2⟩ := p
                  obtain ⟨q1, q2⟩ := hpe
                  simp only at q1 q2
                  subst q1; subst q2
                  have hxt' : TgC st.tops om szm (.lst (some k) nl i.size xs) rx := hxt
                  obtain ⟨p', hp', _, hrx⟩ := hxt'
                  rw [hp] at hp'; cases hp'
                  obtain ⟨hrx1, hrx2⟩ := hrx rfl
                  obtain ⟨vals, hown, hob⟩ := h.own k _ hp
                  rw [hrx2, ← hrx1] at hown
                  rw [← hrx1] at hob
                  by_cases hys : ys = []
                  · subst hys
                    have hnil : ∃ ad n cap, rx = .slice ad n cap ∧ n ≤ cap := by cases hx <;> exact ⟨_, _, _, rfl, by simp_all⟩
                    obtain ⟨ad, n, cap, rfl, hn⟩ := hnil
                    have hry : ry = .slice none 0 0 ∨ ∃ b c, ry = .slice (some b) 0 c := (hy _ _ _ _ rfl).1 rfl
                    refine ⟨_, w, g, om, szm, append_none ht hi hn hry, ?_⟩
                    have h1 := h.put (dst := some dd) hd hx hxt
                    simp only [List.append_nil, List.isEmpty_nil, Bool.and_true, List.length_nil, Nat.add_zero] at hup ⊢
                    have hsame : ∀ s, get tops' s = get st.tops s := by
                      intro s
                      rw [get_upd hup s]
                      split
                      · rename_i he; subst he; exact hp.symm
                      · rfl
                    have hT : ∀ pv rv, TgC st.tops om szm pv rv → TgC tops' om szm pv rv := by
                      intro pv rv hh
                      cases pv with
                      | lst o' _ _ _ => cases o' with
                        | none => trivial
                        | some n' => obtain ⟨q, a1, a2⟩ := hh; exact ⟨q, by rw [hsame]; exact a1, a2⟩
                      | _ => trivial
                    exact ⟨h1.rel, h1.lv, fun t' v' hv' => let ⟨a1, a2, a3⟩ := h1.f t' v' hv'; ⟨a1, a2, Tg.of_cells hT a3⟩, h1.nt, h1.df,
                      fun sl cs b C E a1 a2 a3 j c a4 => hT _ _ (h1.tb sl cs b C E a1 a2 a3 j c a4), fun n' p' hq => h1.own n' p' (by rw [← hq]; exact (hsame n').symm), fun n1 n2 p1 p2 hne h3 h4 => h1.apart n1 n2 p1 p2 hne (by rw [← h3]; exact (hsame n1).symm) (by rw [← h4]; exact (hsame n2).symm), h1.kp, h1.mt⟩
                  · obtain ⟨ad, c, news, rfl, hnl, hnc, hnv, hnys, hnV⟩ := (hy _ _ _ _ rfl).2 hys
                    have hm : 0 < ys.length := List.length_pos_iff.2 hys
                    obtain ⟨v', w', hr, hown', hat⟩ := append_run (ty := ty) ht hi hz hby hb0 hzs hsz hown hnl hnc (fun u hu => vcell_one (hnv u hu)) (by unfold maxBytes at hbytes; omega) h.kp.size hm (c := c)
                    have hup' := fun s => get_upd hup s
                    have hT : ∀ pv rv, TgC st.tops om szm pv rv → TgC tops' (fun j => if j = k then v' else om j) szm pv rv := by
                      intro pv rv hh
                      cases pv with
                      | lst o' nl' sz' xs' => cases o' with
                        | none => trivial
                        | some n' =>
                          obtain ⟨q, a1, a2, a3⟩ := hh
                          by_cases he : k = n'
                          · subst he
                            rw [hp] at a1; cases a1
                            exact ⟨(xs.length + ys.length, p2), by rw [hup', if_pos rfl], by simp only at a2 ⊢; omega, fun hh => by simp only at a2 hh; omega⟩
                          · exact ⟨q, by rw [hup', if_neg he]; exact a1, a2, fun hh => by simp only [Ne.symm he, if_false]; exact a3 hh⟩
                      | _ => trivial
                    obtain ⟨g', hle, hgb, hinv⟩ := h.grow (t := some k) (tops' := tops') (om' := fun j => if j = k then v' else om j) (szm' := szm) hown (fun b hb => hob b hb) hown' hat hnv
                      (fun j q b hj hne hb he => by
                        rcases h.apart j k q _ (fun hh => hne (hh ▸ rfl)) hj hp with h2 | h2
                        · rw [h2] at hb; cases hb
                        · rw [← hrx1] at h2; exact h2 (hb.trans he.symm)) hT
                      (fun j q hj => by
                        rw [hup'] at hj
                        by_cases he : k = j
                        · rw [if_pos he] at hj; cases hj; subst he
                          exact .inl ⟨rfl, rfl, by simp, hrx2⟩
                        · rw [if_neg he] at hj
                          exact .inr ⟨fun hh => he (Option.some.inj hh), hj, by simp [Ne.symm he], rfl⟩)
                    have hform : ∃ b cap, v' = .slice (some ⟨b, 0, none⟩) (xs.length + ys.length) cap ∧ xs.length + ys.length ≤ cap := by
                      rcases hown'.2 with ⟨_, h0⟩ | ⟨b, cap, cur, rfl, _, _, h4, _⟩
                      · omega
                      · exact ⟨b, cap, rfl, h4⟩
                    obtain ⟨b, cap, rfl, hcap⟩ := hform
                    have hnlf : (nl && ys.isEmpty) = false := by cases ys <;> simp_all
                    have hxs : ((∀ x ∈ xs, x.isVal = true ∧ x.cells.length = i.size) ∧ ∀ x ∈ xs, x.untag = x) ∧ ∀ j c, (xs.flatMap PV.cells)[j]? = some c → V g c (vals.getD j undef) := by
                      cases hx with
                      | nil => exact ⟨⟨(fun x hx => by cases hx), (fun x hx => by cases hx)⟩, (fun j c hj => by simp at hj)⟩
                      | lst _ _ _ bx off capx rvx hs hu hG hV hc =>
                        refine ⟨⟨hs, hu⟩, fun j c hj => ?_⟩
                        have h0 : off = 0 := by
                          rcases hown.2 with ⟨hh, _⟩ | ⟨gb, _, _, hh, _⟩
                          · cases hh
                          · cases hh; rfl
                        subst h0
                        have hlt := (List.getElem?_eq_some_iff.1 hj).1
                        have h3 := hG j hlt
                        rw [Nat.zero_add, (hob bx rfl).2 j] at h3
                        rw [List.getD_eq_getElem?_getD, h3]
                        exact hV j c hj
                    have hval := grown_V (g' := g') (b := b) (cap := cap) hxs.1.1 hnys.1 (fun x hx => (List.mem_append.1 hx).elim (hxs.1.2 x) (hnys.2 x)) hown.1 hnl (hgb b rfl) (fun j c hj => (hxs.2 j c hj).mono hle) (fun j c hj => (hnV j c hj).mono hle) hcap (some k)
                    rw [hnlf]
                    refine ⟨_, w', g', _, _, hr, hinv.put (dst := some dd) hd hval ?_⟩
                    simp only [Tg, TgC]
                    exact ⟨(xs.length + ys.length, p2), by rw [hup', if_pos rfl], by simp, fun _ => ⟨by simp, hrx2⟩⟩
                · cases hs
              · cases hs
            · cases hs
          | none =>
            simp only [] at hs
            split at hs
            · rename_i hnl
              subst hnl
              have hx0 : xs = [] ∧ rx = .slice none 0 0 := by cases hx; exact ⟨rfl, rfl⟩
              obtain ⟨rfl, rfl⟩ := hx0
              cases dst with
              | none => simp [firstList] at hs
              | some dd =>
                by_cases hys : ys = []
                · subst hys
                  simp only [firstList, Option.some.injEq] at hs
                  subst hs
                  have hry : ry = .slice none 0 0 ∨ ∃ b c, ry = .slice (some b) 0 c := (hy _ _ _ _ rfl).1 rfl
                  exact ⟨_, w, g, om, szm, append_none ht hi (Nat.le_refl 0) hry, h.put (dst := some dd) hd (v := .lst none true i.size []) (.nil none _) (by simp only [Tg]; trivial)⟩
                · obtain ⟨ad, c, news, rfl, hnl, hnc, hnv, hnys, hnV⟩ := (hy _ _ _ _ rfl).2 hys
                  have hm : 0 < ys.length := List.length_pos_iff.2 hys
                  have hown0 := World.ownsRow_nil w w0.heap.size e i.size
                  obtain ⟨v', w', hr, hown', hat⟩ := append_run (ty := ty) ht hi hz hby hb0 hzs hsz hown0 hnl hnc (fun u hu => vcell_one (hnv u hu)) (by unfold maxBytes at hbytes; simp only [List.length_nil] at hbytes; omega) h.kp.size hm (c := c)
                  have hform : ∃ b cap, v' = .slice (some ⟨b, 0, none⟩) (0 + ys.length) cap ∧ 0 + ys.length ≤ cap := by
                    rcases hown'.2 with ⟨_, h0⟩ | ⟨b, cap, cur, rfl, _, _, h4, _⟩
                    · omega
                    · exact ⟨b, cap, rfl, h4⟩
                  obtain ⟨b, cap, rfl, hcap⟩ := hform
                  obtain ⟨y0, yr, rfl⟩ : ∃ y0 yr, ys = y0 :: yr := by cases ys with
                    | nil => exact absurd rfl hys
                    | cons y0 yr => exact ⟨_, _, rfl⟩
                  have mkV : ∀ (g' : Gh) (o : Option Nat), g.le g' → (∀ j, g'.G b j = ([] ++ news)[j]?) → V g' (.lst o false i.size (y0 :: yr)) (.slice (some ⟨b, 0, none⟩) (0 + (y0 :: yr).length) cap) := by
                    intro g' o hle hgb
                    have := grown_V (g' := g') (b := b) (cap := cap) (xs := []) (vals := []) (fun x hx => by cases hx) hnys.1 (fun x hx => hnys.2 x (by simpa using hx)) (by simp) hnl hgb (fun j c hj => by simp at hj) (fun j c hj => (hnV j c hj).mono hle) hcap o
                    simpa using this
                  cases tag with
                  | false =>
                    simp only [firstList, Option.some.injEq] at hs
                    subst hs
                    obtain ⟨g', hle, hgb, hinv⟩ := h.grow (t := none) (tops' := st.tops) (om' := om) (szm' := szm) hown0 (fun b hb => by cases hb) hown' hat hnv
                      (fun j q b hj _ hb he => by cases he) (fun _ _ x => x) (fun j q hj => .inr ⟨by simp, hj, rfl, rfl⟩)
                    exact ⟨_, w', g', om, szm, hr, hinv.put (dst := some dd) hd (mkV g' none hle (hgb b rfl)) (by simp only [Tg]; trivial)⟩
                  | true =>
                    have hcase : (get st.tops dd = none ∨ ∃ q, get st.tops dd = some q ∧ q.1 = 0 ∧ ((y0 :: yr).length, e).1 ≠ 0) ∧ st' = { st with f := (dd, .lst (some dd) false i.size (y0 :: yr)) :: st.f, tops := (dd, (y0 :: yr).length, e) :: st.tops } := by
                      simp only [firstList] at hs
                      split at hs
                      · rename_i hn; cases hs; exact ⟨.inl hn, rfl⟩
                      · rename_i p hp
                        split at hs
                        · rename_i hp0; cases hs; exact ⟨.inr ⟨p, hp, by simpa using hp0, by simp⟩, rfl⟩
                        · cases hs
                    obtain ⟨hn, rfl⟩ := hcase
                    have hT : ∀ pv rv, TgC st.tops om szm pv rv → TgC ((dd, (y0 :: yr).length, e) :: st.tops) (fun j => if j = dd then .slice (some ⟨b, 0, none⟩) (0 + (y0 :: yr).length) cap else om j) (fun j => if j = dd then i.size else szm j) pv rv :=
                      fun pv rv hh => TgC.cons hn (fun k hk => by simp [hk]) hh
                    obtain ⟨g', hle, hgb, hinv⟩ := h.grow (t := some dd) (tops' := (dd, (y0 :: yr).length, e) :: st.tops) (om' := fun j => if j = dd then .slice (some ⟨b, 0, none⟩) (0 + (y0 :: yr).length) cap else om j) (szm' := fun j => if j = dd then i.size else szm j) hown0 (fun b hb => by cases hb) hown' hat hnv
                      (fun j q b hj _ hb he => by cases he) hT
                      (fun j q hj => by
                        rw [get_cons] at hj
                        by_cases he : dd = j
                        · rw [if_pos he] at hj; cases hj; subst he
                          exact .inl ⟨rfl, by simp, by simp, by simp⟩
                        · rw [if_neg he] at hj
                          exact .inr ⟨fun hh => he (Option.some.inj hh), hj, by simp [Ne.symm he], by simp [Ne.symm he]⟩)
                    refine ⟨_, w', g', _, _, hr, hinv.put (dst := some dd) hd (mkV g' (some dd) hle (hgb b rfl)) ?_⟩
                    simp only [Tg, TgC]
                    exact ⟨((y0 :: yr).length, e), by rw [get_cons, if_pos rfl], Nat.le_refl _, fun _ => by simp⟩
            · cases hs
        · cases hs
      · cases hs
    | _ => simp [appEv] at hs
  | _ => simp [appEv] at hs

/-! ### a loop's head -/
theorem gets_get {α : Type} {l : List (Nat × α)} : ∀ {ts : List Nat} {l' : List (Nat × α)}, gets l ts = some l' → ∀ t v, get l' t = some v → get l t = some v ∧ ts.contains t = true
  | [], l', h, t, v, hv => by simp only [gets, Option.some.injEq] at h; subst h; simp [get] at hv
  | s :: ts, l', h, t, v, hv => by
    simp only [gets] at h
    split at h
    · rename_i x xs hx hxs
      cases h
      rw [get_cons] at hv
      by_cases he : s = t
      · rw [if_pos he] at hv; cases hv; subst he; exact ⟨hx, by simp⟩
      · rw [if_neg he] at hv
        obtain ⟨a1, a2⟩ := gets_get hxs t v hv
        exact ⟨a1, by simp only [List.contains_cons, a2, Bool.or_true]⟩
    · cases h
theorem gets_has {α : Type} {l : List (Nat × α)} : ∀ {ts : List Nat} {l' : List (Nat × α)}, gets l ts = some l' → ∀ t, ts.contains t = true → get l' t = get l t
  | [], l', h, t, ht => by simp at ht
  | s :: ts, l', h, t, ht => by
    simp only [gets] at h
    split at h
    · rename_i x xs hx hxs
      cases h
      rw [get_cons]
      by_cases he : s = t
      · rw [if_pos he]; subst he; exact hx.symm
      · rw [if_neg he]
        exact gets_has hxs t (by simpa [Ne.symm he] using ht)
    · cases h
theorem get_mem {α : Type} : ∀ {l : List (Nat × α)} {t : Nat} {v : α}, get l t = some v → (t, v) ∈ l
  | [], _, _, h => by simp [get] at h
  | (s, x) :: r, t, v, h => by
    rw [get_cons] at h
    by_cases he : s = t
    · rw [if_pos he] at h; cases h; subst he; simp
    · rw [if_neg he] at h; exact List.mem_cons_of_mem _ (get_mem h)
theorem get_map_tops (tops : List (Nat × Nat × Nat)) : ∀ (ts : List Nat) (t : Nat), get (ts.map fun t => (t, (get tops t).getD (0, 0))) t = if ts.contains t = true then some ((get tops t).getD (0, 0)) else none
  | [], t => by simp [get]
  | s :: ts, t => by
    simp only [List.map_cons]
    rw [get_cons, get_map_tops tops ts t]
    by_cases he : s = t
    · subst he; simp
    · simp [he, Ne.symm he]

theorem okn_tag {n : Nat} {ks ts : List Nat} {tops : List (Nat × Nat × Nat)} {om : Nat → Value} {szm : Nat → Nat} {pv : PV} {rv : Value} (hk : pv.okn n ks ts = true) (h : TgC tops om szm pv rv) {om' : Nat → Value} (ho : ∀ k p, get tops k = some p → om' k = om k) :
    TgC (ts.map fun t => (t, (get tops t).getD (0, 0))) om' szm pv rv := by
  cases pv with
  | lst o nl sz xs =>
    cases o with
    | none => trivial
    | some k =>
      obtain ⟨p, h1, h2, h3⟩ := h
      simp only [PV.okn, Bool.and_eq_true] at hk
      exact ⟨p, by rw [get_map_tops, if_pos hk.1, h1]; rfl, h2, fun hh => by rw [ho k p h1]; exact h3 hh⟩
  | _ => trivial

theorem Inv.mask_full (h : Inv d nt m0 g0 w0 g om szm st a w) {fs ks ts : List Nat} {st' : St} (hs : maskSt fs ks ts st = some st') : ∃ g' om', Inv d nt m0 g0 w0 g' om' szm st' a w ∧ g'.G = g.G ∧
    (∀ l s b, g'.blk l s = some b → g.blk l s = some b ∧ (l = d → ks.contains s = true)) ∧ (∀ v rv, V g v rv → v.okn d ks ts = true → V g' v rv) ∧ ∀ n b, (om' n).ownBlock = some b → om' n = om n ∧ ∃ p, get st.tops n = some p := by
  simp only [maskSt] at hs
  split at hs
  · rename_i f' own' hf ho
    split at hs
    · rename_i hok
      cases hs
      simp only [Bool.and_eq_true, List.all_eq_true] at hok
      obtain ⟨hokf, hoko⟩ := hok
      let g' : Gh := { g with blk := fun l s => if l = d ∧ ks.contains s = false then none else g.blk l s }
      let om' : Nat → Value := fun k => if (get st.tops k).isSome then om k else .slice none 0 0
      have hom : ∀ k p, get st.tops k = some p → om' k = om k := fun k p hk => by show (if _ then _ else _) = _; rw [hk]; rfl
      have hle' : ∀ l s b, g'.blk l s = some b → g.blk l s = some b ∧ (l = d → ks.contains s = true) := by
        intro l s b hb
        have hb' : (if l = d ∧ ks.contains s = false then none else g.blk l s) = some b := hb
        split at hb'
        · cases hb'
        · rename_i hn
          refine ⟨hb', fun hl => ?_⟩
          cases hc : ks.contains s with
          | true => rfl
          | false => exact absurd ⟨hl, hc⟩ hn
      have hkeep : ∀ l s, (l ≠ d ∨ ks.contains s = true) → g'.blk l s = g.blk l s := by
        intro l s hls
        show (if l = d ∧ ks.contains s = false then none else g.blk l s) = _
        rw [if_neg]
        rintro ⟨h1, h2⟩
        rcases hls with h3 | h3
        · exact h3 h1
        · rw [h2] at h3; cases h3
      have hgetown : ∀ s cs, get own' s = some cs → get st.own s = some cs ∧ ks.contains s = true := fun s cs => gets_get ho s cs
      have hmget : ∀ l s, (l = d → ks.contains s = true) → mget (own' :: st.m) l s = mget (st.own :: st.m) l s := by
        intro l s hl
        rw [mget_cons, mget_cons, h.lv]
        by_cases he : l = d
        · rw [if_pos (by simpa using he), if_pos (by simpa using he)]; exact gets_has ho s (hl he)
        · rw [if_neg (by simpa using he), if_neg (by simpa using he)]
      have hV : ∀ v rv, V g v rv → v.okn d ks ts = true → V g' v rv := fun v rv hv hk => V.among (g := g) (g' := g') (n := d) (ks := ks) (ts := ts) (fun _ _ _ x => x) hkeep hv hk
      have hlvE : st.m.length = d := h.lv
      have homb : ∀ n b, (om' n).ownBlock = some b → om' n = om n ∧ ∃ p, get st.tops n = some p := by
        intro n b hb
        cases hn : get st.tops n with
        | none =>
          have h2 : om' n = .slice none 0 0 := by show (if _ then _ else _) = _; rw [hn]; rfl
          rw [h2] at hb; cases hb
        | some p => exact ⟨hom n p hn, p, rfl⟩
      refine ⟨g', om', ⟨⟨?_, ?_, ?_⟩, h.lv, fun t v hv => ?_, h.nt, h.df, ?_, ?_, ?_, ?_, h.mt.world h.lv (fun l s b _ hb => ⟨(hle' l s b hb).1, rfl⟩)⟩, rfl, hle', hV, homb⟩
      · exact fun b o v hb => h.rel.hG b o v hb
      · intro l s b hb
        obtain ⟨hb1, hb2⟩ := hle' l s b hb
        obtain ⟨cs, C, E, a1, a2, a3, a4, a5⟩ := h.rel.hM l s b hb1
        refine ⟨cs, C, E, by rw [hmget l s hb2]; exact a1, a2, a3, fun j c hj => ?_, a5⟩
        obtain ⟨x, y, z⟩ := a4 j c hj
        refine ⟨x, y, ?_⟩
        by_cases he : l = d
        · have hc : get own' s = some cs := by
            have := hmget l s hb2
            rw [a1, he, ← hlvE, mget_own] at this; exact this
          have h1 := hoko _ (get_mem hc)
          rw [hlvE] at h1
          exact hV _ _ z (okns_mem h1 c (getElem?_mem' hj))
        · have hlt := h.rel.lt l s b hb1
          simp only [List.length_cons, hlvE] at hlt
          exact V.under (g := g) (g' := g') (n := d) (fun _ _ _ x => x) (fun l' s' hl' => hkeep l' s' (.inl (by omega))) z (by
            have : l + 1 ≤ d := by omega
            exact dep_mono this c y)
      · intro l s l' s' b hb hb'
        exact h.rel.inj _ _ _ _ _ (hle' _ _ _ hb).1 (hle' _ _ _ hb').1
      · have hv' := (gets_get hf t v hv).1
        obtain ⟨x, y, z⟩ := h.f t v hv'
        have h1 := hokf _ (get_mem hv)
        rw [hlvE] at h1
        refine ⟨x, hV _ _ y h1, ?_⟩
        cases v with
        | agg cs => exact fun vs hvs j c hj => okn_tag (okns_mem (by simpa [PV.okn] using h1) c (getElem?_mem' hj)) (z vs hvs j c hj) hom
        | _ => simp only [Tg] at z ⊢; exact okn_tag h1 z hom
      · intro sl cs b C E hs hb hh j c hj
        have hs' := (hgetown sl cs hs).1
        have h1 := hoko _ (get_mem hs)
        rw [hlvE] at h1
        exact okn_tag (okns_mem h1 c (getElem?_mem' hj)) (h.tb sl cs b C E hs' (hle' _ _ _ hb).1 hh j c hj) hom
      · intro n p hp
        rw [get_map_tops] at hp
        split at hp
        · simp only [Option.some.injEq] at hp
          cases hn : get st.tops n with
          | some q =>
            rw [hn] at hp
            simp only [Option.getD_some] at hp
            subst hp
            obtain ⟨vals, x, y⟩ := h.own n q hn
            refine ⟨vals, by rw [hom n q hn]; exact x, fun b hb => ?_⟩
            rw [hom n q hn] at hb
            exact ⟨fun l s he => (y b hb).1 l s (hle' _ _ _ he).1, (y b hb).2⟩
          | none =>
            rw [hn] at hp
            simp only [Option.getD_none] at hp
            subst hp
            have : om' n = .slice none 0 0 := by show (if _ then _ else _) = _; rw [hn]; rfl
            rw [Own, this]
            exact ⟨[], World.ownsRow_nil w _ _ _, fun b hb => by cases hb⟩
        · cases hp
      · intro n n' p p' hne hp hp'
        cases hn : get st.tops n with
        | none => left; show (if _ then _ else _ : Value).ownBlock = none; rw [hn]; rfl
        | some q =>
          cases hn' : get st.tops n' with
          | none =>
            have h2 : om' n' = .slice none 0 0 := by show (if _ then _ else _) = _; rw [hn']; rfl
            rw [h2]
            cases hb : (om' n).ownBlock <;> simp [Value.ownBlock]
          | some q' => rw [hom n q hn, hom n' q' hn']; exact h.apart n n' q q' hne hn hn'
      · refine ⟨h.kp.size, h.kp.heap, h.kp.G, h.kp.Gold, fun l s hl => ?_, h.kp.os, h.kp.tape, h.kp.output, fun l s b hl hb => h.kp.new l s b hl (hle' _ _ _ hb).1⟩
        rw [hkeep l s (.inl (by omega))]; exact h.kp.blk l s hl
    · cases hs
  · cases hs
theorem Inv.mask (h : Inv d nt m0 g0 w0 g om szm st a w) {fs ks ts : List Nat} {st' : St} (hs : maskSt fs ks ts st = some st') : ∃ g' om', Inv d nt m0 g0 w0 g' om' szm st' a w := by
  obtain ⟨g', om', h1, _⟩ := h.mask_full hs
  exact ⟨g', om', h1⟩

/-- A block that nobody names is never written again. -/
theorem Inv.freeze (h : Inv d nt m0 g0 w0 g om szm st a w) {b : Nat} {C : Array Value} {E : TypeId} (hh : w.heap[b]? = some (.cells C E (0, 0))) (hw0 : w0.heap.size ≤ b) (hn : ∀ l s, g.blk l s ≠ some b)
    (ho : ∀ n p, get st.tops n = some p → (om n).ownBlock ≠ some b) (hG : ∀ o, g.G b o = none) (hC : ∀ j (hj : j < C.size), vcell C[j] = true) :
    Inv d nt m0 g0 w0 { g with G := fun b' o => if b' = b then C[o]? else g.G b' o } om szm st a w := by
  have hle : g.le { g with G := fun b' o => if b' = b then C[o]? else g.G b' o } := by
    refine ⟨fun b' o v hb => ?_, fun l s b' hb => hb⟩
    have : b' ≠ b := fun he => by rw [he, hG o] at hb; cases hb
    show (if b' = b then _ else _) = _
    rw [if_neg this]; exact hb
  refine h.world hle ⟨fun b' o v hb => ?_, fun l s b' hb => ?_, h.rel.inj⟩ (fun n p b' hp hb => ?_) (fun sl cs b' C' E' hs hb hh' => h.tb sl cs b' C' E' hs hb hh') ?_ (fun l s b' _ hb => ⟨hb, rfl⟩)
  · have hb' : (if b' = b then C[o]? else g.G b' o) = some v := hb
    split at hb'
    · rename_i he
      subst he
      have hlt := (Array.getElem?_eq_some_iff.1 hb').1
      refine ⟨by simp [World.cell?, hh, hb'], ?_⟩
      have := hC o hlt
      rw [Array.getElem?_eq_getElem hlt] at hb'
      cases hb'; exact this
    · exact h.rel.hG b' o v hb'
  · obtain ⟨cs, C', E', a1, a2, a3, a4, a5⟩ := h.rel.hM l s b' hb
    refine ⟨cs, C', E', a1, a2, a3, fun j c hj => ?_, fun o => ?_⟩
    · obtain ⟨x, y, z⟩ := a4 j c hj; exact ⟨x, y, z.mono hle⟩
    · have : b' ≠ b := fun he => hn l s (he ▸ hb)
      show (if b' = b then _ else _) = _
      rw [if_neg this]; exact a5 o
  · obtain ⟨vals, x, y⟩ := h.own n p hp
    have : b' ≠ b := fun he => ho n p hp (he ▸ hb)
    refine ⟨rfl, (y b' hb).1, fun j => ?_⟩
    show (if b' = b then _ else _) = _
    rw [if_neg this]
  · refine ⟨h.kp.size, h.kp.heap, fun b' o v hb => hle.G _ _ _ (h.kp.G b' o v hb), fun b' o hb => ?_, h.kp.blk, h.kp.os, h.kp.tape, h.kp.output, h.kp.new⟩
    show (if b' = b then _ else _) = _
    rw [if_neg (by omega)]; exact h.kp.Gold b' o hb
end
end Go.Proofs.Ytbbpkkeaddbcnaa.ZIM
