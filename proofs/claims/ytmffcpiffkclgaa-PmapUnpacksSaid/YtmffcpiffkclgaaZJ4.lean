/- Operations without an effect, further. -/
import Derived.Test.YtmffcpiffkclgaaZJ3
import Derived.Laws.BytesArg
set_option linter.unusedSimpArgs false
set_option linter.unusedVariables false
namespace Go.Proofs.Ytmffcpiffkclgaa.ZJM
open Go.RowKit

section
variable {P : Program} {g : Gh}

theorem bytesP_spec : ∀ {xs : List PV} {l : List Int}, bytesP xs = some l → xs = l.map (PV.int .u8)
  | [], l, h => by simp only [bytesP, Option.some.injEq] at h; subst h; rfl
  | x :: r, l, h => by
    simp only [bytesP] at h
    split at h
    · rename_i n l' hl
      cases h
      rw [bytesP_spec hl]; rfl
    · cases h
theorem foldl_set_size : ∀ (l : List (Value × Nat)) (cs : Array Value) (off : Nat), (l.foldl (fun cs p => cs.setIfInBounds (off + p.2) p.1) cs).size = cs.size
  | [], cs, off => rfl
  | p :: l, cs, off => by rw [List.foldl_cons, foldl_set_size l]; simp
theorem foldl_set_get : ∀ (vs : List Value) (k : Nat) (cs : Array Value) (off j : Nat),
    ((vs.zipIdx k).foldl (fun cs p => cs.setIfInBounds (off + p.2) p.1) cs)[j]? =
      if off + k ≤ j ∧ j < off + k + vs.length ∧ j < cs.size then vs[j - (off + k)]? else cs[j]?
  | [], k, cs, off, j => by
    simp only [List.zipIdx_nil, List.foldl_nil, List.length_nil]
    rw [if_neg (by omega)]
  | v :: vs, k, cs, off, j => by
    rw [List.zipIdx_cons, List.foldl_cons, foldl_set_get vs (k + 1)]
    simp only [Array.size_setIfInBounds, List.length_cons]
    by_cases h1 : off + (k + 1) ≤ j ∧ j < off + (k + 1) + vs.length ∧ j < cs.size
    · rw [if_pos h1, if_pos (by omega), show j - (off + k) = (j - (off + (k + 1))) + 1 by omega]; simp
    · rw [if_neg h1, Array.getElem?_setIfInBounds]
      by_cases h2 : off + k = j
      · subst h2
        by_cases h3 : off + k < cs.size
        · simp [h3]
        · rw [if_pos rfl, if_neg h3, if_neg (by omega)]; simp [h3]
      · rw [if_neg h2, if_neg (by omega)]
theorem splice_get {α : Type} {cs new : List α} {off j : Nat} (h : off + new.length ≤ cs.length) :
    (splice cs new off)[j]? = if off ≤ j ∧ j < off + new.length then new[j - off]? else cs[j]? := by
  unfold splice
  by_cases h1 : j < off
  · rw [List.append_assoc, List.getElem?_append_left (by simp; omega), List.getElem?_take_of_lt h1, if_neg (by omega)]
  · rw [List.append_assoc, List.getElem?_append_right (by simp; omega)]
    have hl : (cs.take off).length = off := by simp; omega
    rw [hl]
    by_cases h2 : j < off + new.length
    · rw [List.getElem?_append_left (by omega), if_pos ⟨by omega, h2⟩]
    · rw [List.getElem?_append_right (by omega), List.getElem?_drop, if_neg (by omega), show off + new.length + (j - off - new.length) = j by omega]
theorem splice_length {α : Type} {cs new : List α} {off : Nat} (h : off + new.length ≤ cs.length) : (splice cs new off).length = cs.length := by
  unfold splice; simp; omega

theorem cells_V {v : PV} {rv : Value} (h : V g v rv) (hc : v.isVal = true) : v.cells.length = rv.cells.size ∧ ∀ j c, v.cells[j]? = some c → V g c (rv.cells.getD j undef) := by
  cases v with
  | agg cs =>
    cases h with
    | agg _ vs hn hc hV => exact ⟨hn, hV⟩
  | tup _ => simp [PV.isVal, PV.isCell] at hc
  | und => simp [PV.isVal, PV.isCell] at hc
  | _ =>
    have hv : vcell rv = true := h.vcell (by simpa [PV.isVal] using hc)
    have hcs : rv.cells = #[rv] := by cases rv <;> first | rfl | (simp [vcell] at hv)
    rw [hcs]
    refine ⟨rfl, fun j c hj => ?_⟩
    simp only [PV.cells] at hj
    cases j with
    | zero => simp only [List.getElem?_cons_zero, Option.some.injEq] at hj; subst hj; exact h
    | succ j => simp at hj

theorem fill_ok : ∀ {ps : List (Nat × Nat)} {vs : List PV} {cs cs' : List PV} {C : Array Value} {rs : List (Nat × Value)} {place : Nat → Option (Nat × Nat)},
    fillP cs ps vs = some cs' → V g (.agg cs) (.agg C) → rs.map (fun r => place r.1) = ps.map some → rs.length = vs.length → (∀ (j : Nat) (v : PV) (r : Nat × Value), vs[j]? = some v → rs[j]? = some r → V g v r.2) →
    ∃ C', Instr.fill place C rs = some C' ∧ V g (.agg cs') (.agg C')
  | [], [], cs, cs', C, rs, place, h, hV, hp, hl, _ => by
    simp only [fillP, Option.some.injEq] at h; subst h
    have : rs = [] := by cases rs <;> simp_all
    subst this
    exact ⟨C, rfl, hV⟩
  | p :: ps, v :: vs, cs, cs', C, rs, place, h, hV, hp, hl, hvs => by
    simp only [fillP] at h
    split at h
    · rename_i hc
      simp only [Bool.and_eq_true, beq_iff_eq, decide_eq_true_eq] at hc
      obtain ⟨⟨hval, hsz⟩, hle⟩ := hc
      cases rs with
      | nil => simp at hl
      | cons r rs =>
        simp only [List.map_cons, List.cons.injEq] at hp
        have hvr := hvs 0 v r rfl rfl
        obtain ⟨hn, hcv⟩ := cells_V hvr hval
        cases hV with
        | agg _ _ hn' hc' hV' =>
        have hV2 : V g (.agg (splice cs v.cells p.1)) (.agg ((r.2.cells.zipIdx.foldl (fun cs x => cs.setIfInBounds (p.1 + x.2) x.1) C))) := by
          have hz : r.2.cells.zipIdx.foldl (fun cs x => cs.setIfInBounds (p.1 + x.2) x.1) C = (r.2.cells.toList.zipIdx 0).foldl (fun cs x => cs.setIfInBounds (p.1 + x.2) x.1) C := by
            rw [← Array.foldl_toList, Array.toList_zipIdx]
          rw [hz]
          refine .agg _ _ ?_ ?_ ?_
          · rw [splice_length (by omega), foldl_set_size]; exact hn'
          · intro c hcm
            unfold splice at hcm
            rcases List.mem_append.1 hcm with hcm | hcm
            · rcases List.mem_append.1 hcm with hcm | hcm
              · exact hc' c (List.mem_of_mem_take hcm)
              · exact isVal_cells hval c hcm
            · exact hc' c (List.mem_of_mem_drop hcm)
          · intro j c hj
            rw [splice_get (by omega)] at hj
            rw [Array.getD_eq_getD_getElem?, foldl_set_get]
            have hlC : cs.length = C.size := hn'
            have hlv : v.cells.length = r.2.cells.toList.length := by simpa using hn
            by_cases h1 : p.1 ≤ j ∧ j < p.1 + v.cells.length
            · rw [if_pos h1] at hj
              rw [if_pos (by omega)]
              have := hcv _ c hj
              simpa [Array.getD_eq_getD_getElem?] using this
            · rw [if_neg h1] at hj
              have hj' := (List.getElem?_eq_some_iff.1 hj).1
              rw [if_neg (by omega)]
              have := hV' j c hj
              simpa [Array.getD_eq_getD_getElem?] using this
        obtain ⟨C', h1, h2⟩ := fill_ok h hV2 hp.2 (by simpa using hl) (fun j v r hv hr => hvs (j + 1) v r (by simpa using hv) (by simpa using hr))
        refine ⟨C', ?_, h2⟩
        simp only [Instr.fill]
        rw [hp.1]
        simp only []
        rw [if_neg (by simp; omega)]
        exact h1
    · cases h
  | [], _ :: _, _, _, _, _, _, h, _, _, _, _ => by simp [fillP] at h
  | _ :: _, [], _, _, _, _, _, h, _, _, _, _ => by simp [fillP] at h

theorem mn_ok {x y v : PV} {rx ry : Value} (hx : V g x rx) (hy : V g y ry) (hv : mnP x y = some v) (w : World) (a : Array TypeId) (ty : TypeId) : ∃ r, (Builtin.min_ a ty #[rx, ry]).run P w = .ok r w ∧ V g v r := by
  cases x with
  | int k n =>
    cases y with
    | int k' n' =>
      cases hx; cases hy
      simp only [mnP, Option.some.injEq] at hv; subst hv
      refine ⟨_, ?_, .int _ _⟩
      simp [Builtin.min_, Builtin.min2]
    | _ => simp [mnP] at hv
  | _ => simp [mnP] at hv
theorem mx_ok {x y v : PV} {rx ry : Value} (hx : V g x rx) (hy : V g y ry) (hv : mxP x y = some v) (w : World) (a : Array TypeId) (ty : TypeId) : ∃ r, (Builtin.max_ a ty #[rx, ry]).run P w = .ok r w ∧ V g v r := by
  cases x with
  | int k n =>
    cases y with
    | int k' n' =>
      cases hx; cases hy
      simp only [mxP, Option.some.injEq] at hv; subst hv
      refine ⟨_, ?_, .int _ _⟩
      simp [Builtin.max_, Builtin.max2]
    | _ => simp [mxP] at hv
  | _ => simp [mxP] at hv

/-- A part of a list stands where the part of its cells stands. -/
theorem V.sub {o : Option Nat} {nl : Bool} {sz : Nat} {xs : List PV} {rx : Value} (hx : V g (.lst o nl sz xs) rx) {l h : Nat} (hlh : l ≤ h) (hh : h ≤ xs.length) :
    ∃ a len cap, rx = .slice a len cap ∧ len = xs.length ∧ len ≤ cap ∧ ∀ (a' : Option Addr), (a' = a.map (·.add (l * sz)) ∨ (l = cap ∧ a' = a)) → V g (.lst none nl sz ((xs.take h).drop l)) (.slice a' (h - l) (cap - l)) := by
  cases hx with
  | nil =>
    refine ⟨none, 0, 0, rfl, rfl, Nat.le_refl _, fun a' ha => ?_⟩
    have : a' = none := by rcases ha with ha | ha <;> simp_all
    subst this
    simp only [List.length_nil] at hh
    have h1 : h = 0 := by omega
    have h2 : l = 0 := by omega
    subst h1; subst h2
    exact .nil none sz
  | emp _ ad =>
    refine ⟨some ad, 0, 0, rfl, rfl, Nat.le_refl _, fun a' ha => ?_⟩
    simp only [List.length_nil] at hh
    have h1 : h = 0 := by omega
    have h2 : l = 0 := by omega
    subst h1; subst h2
    obtain ⟨a2, rfl⟩ : ∃ a2, a' = some a2 := by rcases ha with ha | ⟨_, ha⟩ <;> exact ⟨_, ha⟩
    exact .emp sz a2
  | lst _ _ _ b off cap rv hs hu hG hV hc =>
    refine ⟨_, _, cap, rfl, rfl, hc, fun a' ha => ?_⟩
    have hlen : ((xs.take h).drop l).length = h - l := by simp; omega
    have hs' : ∀ x ∈ (xs.take h).drop l, x.isVal = true ∧ x.cells.length = sz := fun x hx => hs x (List.mem_of_mem_take (List.mem_of_mem_drop hx))
    have key : ∀ j, j < (h - l) * sz → (((xs.take h).drop l).flatMap PV.cells)[j]? = (xs.flatMap PV.cells)[l * sz + j]? := by
      intro j hj
      have hsz : 0 < sz := by rcases Nat.eq_zero_or_pos sz with h0 | h0; (subst h0; simp at hj); exact h0
      have hi : j / sz < h - l := Nat.div_lt_of_lt_mul (by rw [Nat.mul_comm]; exact hj)
      have hmod := Nat.mod_lt j hsz
      have hdm : j / sz * sz + j % sz = j := by rw [Nat.mul_comm]; exact Nat.div_add_mod j sz
      have hx0 : ((xs.take h).drop l)[j / sz]? = some xs[l + j / sz] := by
        rw [List.getElem?_drop, List.getElem?_take_of_lt (by omega), List.getElem?_eq_getElem (by omega)]
      have h1 := flat_get hs' (j / sz) _ hx0 (j % sz) hmod
      have h2 := flat_get hs (l + j / sz) _ (List.getElem?_eq_getElem (by omega)) (j % sz) hmod
      rw [hdm] at h1
      rw [Nat.add_mul, Nat.add_assoc, hdm] at h2
      rw [h1, h2]
    have hfl : (((xs.take h).drop l).flatMap PV.cells).length = (h - l) * sz := by rw [flat_len hs', hlen]
    by_cases he : h - l = 0
    · have hnil : (xs.take h).drop l = [] := List.eq_nil_of_length_eq_zero (by omega)
      rw [hnil]
      obtain ⟨b', off', ha'⟩ : ∃ b' off', a' = some ⟨b', off', none⟩ := by
        rcases ha with ha | ⟨_, ha⟩
        · exact ⟨b, off + l * sz, by rw [ha]; simp [add_at]⟩
        · exact ⟨b, off, ha⟩
      rw [ha', he]
      exact .lst none sz [] b' off' (cap - l) rv (fun x hx => by cases hx) (fun x hx => by cases hx) (fun j hj => by simp at hj) (fun j c hj => by simp at hj) (Nat.zero_le _)
    · have ha' : a' = some ⟨b, off + l * sz, none⟩ := by
        rcases ha with ha | ⟨hl, _⟩
        · rw [ha]; simp [add_at]
        · omega
      rw [ha', ← hlen]
      refine .lst none sz _ b (off + l * sz) (cap - l) (fun j => rv (l * sz + j)) hs' (fun x hx => hu x (List.mem_of_mem_take (List.mem_of_mem_drop hx))) (fun j hj => ?_) (fun j c hj => ?_) (by omega)
      · rw [Nat.add_assoc]
        refine hG _ ?_
        rw [flat_len hs]
        have := Nat.mul_le_mul_right sz hh
        rw [hfl, Nat.sub_mul] at hj
        omega
      · have hj' : j < (h - l) * sz := by have := (List.getElem?_eq_some_iff.1 hj).1; omega
        rw [key j hj'] at hj
        exact hV _ c hj

def OV (g : Gh) : Option PV → Option Value → Prop
  | none, none => True
  | some v, some r => V g v r
  | _, _ => False
theorem bounds_ok {b : Bool} {len cap : Nat} {lo hi : Option PV} {rlo rhi : Option Value} (hlo : OV g lo rlo) (hhi : OV g hi rhi) {l h : Int}
    (hh : (match (motive := Option PV → Option Int) hi with | none => some (len : Int) | some (.int _ h) => some h | _ => none) = some h)
    (hl : (match (motive := Option PV → Option Int) lo with | none => some 0 | some (.int _ l) => some l | _ => none) = some l) (h0 : 0 ≤ l) (h1 : l ≤ h) (h2 : h ≤ cap) (w : World) :
    (Instr.sliceBounds b len cap rlo rhi none).run P w = .ok (l.toNat, h.toNat, cap) w := by
  have h3 : 0 ≤ h := by omega
  have h4 : l ≤ (h.toNat : Int) := by omega
  cases hi with
  | none =>
    cases rhi with
    | some _ => exact hhi.elim
    | none =>
      simp only [Option.some.injEq] at hh; subst hh
      cases lo with
      | none =>
        cases rlo with
        | some _ => exact hlo.elim
        | none =>
          simp only [Option.some.injEq] at hl; subst hl
          simp [Instr.sliceBounds]
      | some lv =>
        cases rlo with
        | none => exact hlo.elim
        | some rl =>
          cases lv <;> simp at hl
          subst hl
          cases hlo
          simp [Instr.sliceBounds, Instr.sliceBound, asIntOf, h0, h1]
  | some hv =>
    cases rhi with
    | none => exact hhi.elim
    | some rh =>
      cases hv <;> simp at hh
      subst hh
      cases hhi
      cases lo with
      | none =>
        cases rlo with
        | some _ => exact hlo.elim
        | none =>
          simp only [Option.some.injEq] at hl; subst hl
          simp [Instr.sliceBounds, Instr.sliceBound, asIntOf, h3, h2]
      | some lv =>
        cases rlo with
        | none => exact hlo.elim
        | some rl =>
          cases lv <;> simp at hl
          subst hl
          cases hlo
          simp [Instr.sliceBounds, Instr.sliceBound, asIntOf, h0, h1, h2, h3, h4]
          intro hh; omega
theorem boundsP_ok {b : Bool} {n cap : Nat} {lo hi : Option PV} {rlo rhi : Option Value} (hlo : OV g lo rlo) (hhi : OV g hi rhi) {p : Nat × Nat} (hp : boundsP n lo hi = some p) (hc : n ≤ cap) (w : World) :
    (Instr.sliceBounds b n cap rlo rhi none).run P w = .ok (p.1, p.2, cap) w ∧ p.1 ≤ p.2 ∧ p.2 ≤ n := by
  simp only [boundsP] at hp
  split at hp
  · rename_i h l hh hl
    split at hp
    · rename_i hb
      obtain ⟨hb1, hb2, hb3⟩ := hb
      cases hp
      exact ⟨bounds_ok hlo hhi hh hl hb1 hb2 (cap := cap) (by omega) w, by simp only; omega, by simp only; omega⟩
    · cases hp
  · cases hp
theorem slcl_ok {t e : TypeId} {sz : Nat} (hu : P.underlying t = some (.slice e)) (hs : tySz P e = some sz) {x v : PV} {lo hi : Option PV} {rx : Value} {rlo rhi : Option Value} (hx : V g x rx)
    (hlo : OV g lo rlo) (hhi : OV g hi rhi) (hv : slclP sz x lo hi = some v) (w : World) : ∃ r, (Instr.sliceAt t rx rlo rhi none).run P w = .ok r w ∧ V g v r := by
  cases x with
  | lst o nl sz' xs =>
    simp only [slclP] at hv
    split at hv
    · rename_i hsz
      have := beq_iff_eq.1 hsz; subst this
      split at hv
      · rename_i p hp
        cases hv
        obtain ⟨_, hb1, hb2⟩ := boundsP_ok (P := P) (b := true) hlo hhi hp (Nat.le_refl _) w
        obtain ⟨a, len, cap, rfl, hlen, hcap, hsub⟩ := hx.sub (l := p.1) (h := p.2) hb1 hb2
        subst hlen
        obtain ⟨hrun, _, _⟩ := boundsP_ok (P := P) (b := true) hlo hhi hp hcap w
        refine ⟨.slice (if cap = p.1 then a else a.map (·.add (p.1 * sz))) (p.2 - p.1) (cap - p.1), ?_, ?_⟩
        · simp [Instr.sliceAt, run_und hu, Instr.slice, hrun, run_sizeOf hs]
        · refine hsub _ ?_
          by_cases hc : cap = p.1
          · rw [if_pos hc]; exact .inr ⟨hc.symm, rfl⟩
          · rw [if_neg hc]; exact .inl rfl
      · cases hv
    · cases hv
  | slr lv sl q off n sz' =>
    simp only [slclP] at hv
    split at hv
    · rename_i hsz
      have := beq_iff_eq.1 hsz; subst this
      split at hv
      · rename_i p hp
        cases hv
        cases hx with
        | slr _ _ _ _ _ _ b o tt off' c h ho hc =>
          obtain ⟨hrun, hb1, hb2⟩ := boundsP_ok (P := P) (b := true) hlo hhi hp hc.1 w
          refine ⟨.slice (some (if c = p.1 then ⟨b, off', none⟩ else (⟨b, off', none⟩ : Addr).add (p.1 * sz))) (p.2 - p.1) (c - p.1), ?_, ?_⟩
          · simp [Instr.sliceAt, run_und hu, Instr.slice, hrun, run_sizeOf hs]
            split <;> rfl
          · by_cases hcp : c = p.1
            · rw [if_pos hcp]
              exact .slr lv sl q _ _ sz b o tt off' _ h (fun hne => by omega) ⟨by omega, by have := hc.2; omega⟩
            · rw [if_neg hcp, add_at]
              obtain ⟨h1, h2⟩ := ho (by omega)
              refine .slr lv sl q _ _ sz b o tt _ _ h (fun hne => ⟨by omega, ?_⟩) ⟨by omega, by have := hc.2; omega⟩
              have : p.1 * sz + (c - p.1) * sz = c * sz := by rw [← Nat.add_mul]; congr 1; omega
              omega
      · cases hv
    · cases hv
  | _ => simp [slclP] at hv
theorem rsl_ok {t e : TypeId} {sz len : Nat} (hu : P.underlying t = some (.array len e)) (hs : tySz P e = some sz) {own : Lvl} {m : Mem} {w : World} (hR : Rel g (own :: m) w) {x v : PV} {lo hi : Option PV} {rx : Value} {rlo rhi : Option Value} (hx : V g x rx)
    (hlo : OV g lo rlo) (hhi : OV g hi rhi) (hv : rslP own m sz len x lo hi = some v) : ∃ r, (Instr.sliceAt t rx rlo rhi none).run P w = .ok r w ∧ V g v r := by
  cases x with
  | ptr lv sl q off =>
    simp only [rslP] at hv
    split at hv
    · rename_i cs hcs
      split at hv
      · rename_i hle0
        simp only [Bool.and_eq_true, decide_eq_true_eq] at hle0
        obtain ⟨hle, hle63⟩ := hle0
        split at hv
        · rename_i p hp
          cases hv
          cases hx with
          | ptr _ _ _ _ b o tt h =>
            obtain ⟨C, E, _, h2, h3, _⟩ := hR.hM _ _ _ _ _ _ h _ hcs
            obtain ⟨hrun, hb1, hb2⟩ := boundsP_ok (P := P) (b := false) hlo hhi hp (Nat.le_refl _) w
            refine ⟨.slice (some (if len = p.1 then ⟨b, o + off, none⟩ else (⟨b, o + off, none⟩ : Addr).add (p.1 * sz))) (p.2 - p.1) (len - p.1), ?_, ?_⟩
            · simp [Instr.sliceAt, run_und hu, Instr.sureAddr, hrun, run_sizeOf hs]
            · by_cases hcp : len = p.1
              · rw [if_pos hcp]
                exact .slr lv sl q _ _ sz b o tt _ _ h (fun hne => by omega) ⟨by omega, by omega⟩
              · rw [if_neg hcp, add_at]
                refine .slr lv sl q _ _ sz b o tt _ _ h (fun hne => ⟨by omega, ?_⟩) ⟨by omega, by omega⟩
                have : p.1 * sz + (len - p.1) * sz = len * sz := by rw [← Nat.add_mul]; congr 1; omega
                omega
        · cases hv
      · cases hv
    · cases hv
  | _ => simp [rslP] at hv
theorem slcs_ok {t : TypeId} (hu : P.underlying t = some .string) {x v : PV} {lo hi : Option PV} {rx : Value} {rlo rhi : Option Value} (hx : V g x rx)
    (hlo : OV g lo rlo) (hhi : OV g hi rhi) (hv : slcsP x lo hi = some v) (w : World) : ∃ r, (Instr.sliceAt t rx rlo rhi none).run P w = .ok r w ∧ V g v r := by
  cases x with
  | str s =>
    cases hx
    simp only [slcsP] at hv
    split at hv
    · rename_i h l hh hl
      split at hv
      · rename_i hb
        obtain ⟨hb1, hb2, hb3⟩ := hb
        cases hv
        exact ⟨_, by simp [Instr.sliceAt, run_und hu, Instr.slice, bounds_ok hlo hhi hh hl hb1 hb2 hb3], .str _⟩
      · cases hv
    · cases hv
  | _ => simp [slcsP] at hv
end
end Go.Proofs.Ytmffcpiffkclgaa.ZJM
