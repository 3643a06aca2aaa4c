/- AuditLooks: what the program sees is what the reference sees. -/
import Derived.Test.YtbbpkkeaddbcnaaZAL16
set_option linter.unusedSimpArgs false
set_option linter.unusedVariables false
namespace Go.Proofs.Ytbbpkkeaddbcnaa.ZIM.AL
open Go.Proofs.Ytbbpkkeaddbcnaa.ZIM Go.RowKit

theorem wrap_small (n : Int) (h0 : -4611686018427387904 ≤ n) (h1 : n ≤ 4611686018427387904) : IntKind.i64.wrap n = n := by
  unfold IntKind.wrap; simp [IntKind.bits, IntKind.signed]; omega
theorem tick_iff (t : Int) : tick t = true ↔ 0 ≤ t ∧ t ≤ 2147483647 := by simp [tick]
theorem best_last (v : ByteArray) (tk : Int) (ht : tick tk = true) : ∀ (es : List Seen) (b : Int) (s : Int × Bool), (∀ e ∈ es, tick e.t = true) → (s.2 = true → 0 ≤ s.1 ∧ s.1 ≤ tk) → b = (if s.2 = true then tk - s.1 else -1) →
    es.foldl (bestStep v tk) b = (if (es.foldl (lastStep v tk) s).2 = true then tk - (es.foldl (lastStep v tk) s).1 else -1) ∧
    ((es.foldl (lastStep v tk) s).2 = true → 0 ≤ (es.foldl (lastStep v tk) s).1 ∧ (es.foldl (lastStep v tk) s).1 ≤ tk)
  | [], b, s, _, h1, h2 => ⟨h2, h1⟩
  | e :: es, b, s, he, h1, h2 => by
    have hte := (tick_iff _).1 (he e (by simp))
    have htk := (tick_iff _).1 ht
    have hw : IntKind.i64.wrap (tk - e.t) = tk - e.t := wrap_small _ (by omega) (by omega)
    simp only [List.foldl_cons]
    refine best_last v tk ht es _ _ (fun e' h => he e' (by simp [h])) ?_ ?_
    · unfold lastStep
      split
      · rename_i hc
        simp only [Bool.and_eq_true, decide_eq_true_eq] at hc
        exact fun _ => ⟨hte.1, hc.2.1⟩
      · exact h1
    · obtain ⟨s1, s2⟩ := s
      unfold bestStep lastStep
      rw [hw]
      cases hd : (e.d.toList == v.toList) with
      | false => simp [h2]
      | true =>
        by_cases hle : e.t ≤ tk
        · cases s2 with
          | false =>
            simp only [Bool.false_eq_true, if_false] at h2
            subst h2
            simp [hle]
          | true =>
            have h3 := h1 rfl
            simp only [if_true] at h2
            subst h2
            simp only at h3
            by_cases hlt : s1 < e.t
            · have a1 : ¬ (tk - s1 < 0) := by omega
              have a2 : tk - e.t < tk - s1 := by omega
              simp [hle, hlt, a1, a2]
            · have a1 : ¬ (tk - s1 < 0) := by omega
              have a2 : ¬ (tk - e.t < tk - s1) := by omega
              simp [hle, hlt, a1, a2]
        · simp [hle, h2]
theorem emits_tick (x : Link) (rs : List Rnd) : ∀ e ∈ emits x rs, tick e.t = true := by
  intro e he
  obtain ⟨r, hr, he⟩ := List.mem_flatMap.1 he
  obtain ⟨k, _, rfl⟩ := List.mem_map.1 he
  exact (List.mem_filter.1 hr).2
/-- A frame's wait, by both. -/
theorem waited_eq (x : Link) (t : Int) (ht : tick t = true) (c : Came) (rs : List Rnd) :
    waited x t c rs = (if okOf (emits x rs) (heard x t c) = true then waitOf (emits x rs) (heard x t c) else -1) ∧ (okOf (emits x rs) (heard x t c) = true → 0 ≤ waitOf (emits x rs) (heard x t c)) := by
  obtain ⟨h1, h2⟩ := best_last (heard x 0 c).v t ht (emits x rs) (-1) (0, false) (emits_tick x rs) (fun h => by cases h) rfl
  have hv : (heard x t c).v = (heard x 0 c).v := rfl
  have htt : (heard x t c).t = t := rfl
  have hc : (heard x t c).clean = covers x c := rfl
  unfold waited okOf waitOf
  rw [hv, htt, hc]
  unfold bestOf
  rw [h1]
  unfold lastOf
  generalize (emits x rs).foldl (lastStep (heard x 0 c).v t) (0, false) = s at h2
  obtain ⟨s1, s2⟩ := s
  have htk := (tick_iff _).1 ht
  cases s2 with
  | false => cases covers x c <;> simp
  | true =>
    have h3 := h2 rfl
    simp only at h3
    have hw : IntKind.i64.wrap (t - s1) = t - s1 := wrap_small _ (by omega) (by omega)
    cases covers x c
    · simp
    · simp [hw]; omega
theorem waited_neg (x : Link) (t : Int) (ht : tick t = true) (c : Came) (rs : List Rnd) : decide (waited x t c rs < 0) = !okOf (emits x rs) (heard x t c) := by
  obtain ⟨h1, h2⟩ := waited_eq x t ht c rs
  rw [h1]
  cases hk : okOf (emits x rs) (heard x t c) with
  | false => simp
  | true => have := h2 hk; simp; omega
/-- One round's waits. -/
theorem wait_round (x : Link) (RS : List Rnd) (t : Int) (ht : tick t = true) : ∀ (cs : List Came) (acc : Int), 0 ≤ acc →
    ((cs.filter (hears x)).map (heard x t)).foldl (waitStep (emits x RS)) acc = cs.foldl (refStep x RS t) acc ∧ 0 ≤ cs.foldl (refStep x RS t) acc
  | [], acc, h => ⟨rfl, h⟩
  | c :: cs, acc, h => by
    have hstep : hears x c = true → waitStep (emits x RS) acc (heard x t c) = refStep x RS t acc c := by
      intro hh
      obtain ⟨h1, h2⟩ := waited_eq x t ht c RS
      unfold waitStep refStep
      rw [if_pos hh, h1]
      split
      · rfl
      · unfold imax; rw [if_neg (by omega)]
    have hnn : 0 ≤ refStep x RS t acc c := by
      unfold refStep imax
      split
      · split <;> omega
      · exact h
    simp only [List.filter_cons, List.foldl_cons]
    cases hh : hears x c with
    | true =>
      simp only [if_true, List.map_cons, List.foldl_cons]
      rw [hstep hh]
      exact wait_round x RS t ht cs _ hnn
    | false =>
      simp only [Bool.false_eq_true, if_false]
      have : refStep x RS t acc c = acc := by simp [refStep, hh]
      rw [this]
      exact wait_round x RS t ht cs acc h
theorem wait_all (x : Link) (RS : List Rnd) : ∀ (rs : List Rnd) (acc : Int), 0 ≤ acc → (frames x rs).foldl (waitStep (emits x RS)) acc = rs.foldl (refRound x RS) acc
  | [], acc, _ => rfl
  | r :: rs, acc, h => by
    unfold frames rounds
    simp only [List.filter_cons, List.foldl_cons]
    cases ht : tick r.t with
    | true =>
      simp only [if_true, List.flatMap_cons, List.foldl_append]
      obtain ⟨h1, h2⟩ := wait_round x RS r.t ht r.cs acc h
      have e1 : (ofRound x r).foldl (waitStep (emits x RS)) acc = refRound x RS acc r := by simp [ofRound, refRound, ht, h1]
      have e2 : 0 ≤ refRound x RS acc r := by simp [refRound, ht, h2]
      rw [e1]
      exact wait_all x RS rs _ e2
    | false =>
      have e1 : refRound x RS acc r = acc := by simp [refRound, ht]
      rw [e1]
      exact wait_all x RS rs acc h
/-! ### windows -/
theorem bad_any (es : List Seen) (a b : Int) : ∀ (hs : List Heard) (s : Bool × Bool), hs.foldl (badStep es a b) s = (s.1 || hs.any (fun h => badIn es a b h && !h.turned), s.2 || hs.any (fun h => badIn es a b h && h.turned))
  | [], s => by simp
  | h :: hs, s => by
    simp only [List.foldl_cons, List.any_cons]
    rw [bad_any es a b hs]
    unfold badStep
    cases badIn es a b h <;> cases h.turned <;> simp
theorem mem_frames (x : Link) (rs : List Rnd) (h : Heard) : h ∈ frames x rs ↔ ∃ r ∈ rs, tick r.t = true ∧ ∃ c ∈ r.cs, hears x c = true ∧ h = heard x r.t c := by
  unfold frames rounds ofRound
  simp only [List.mem_flatMap, List.mem_filter, List.mem_map]
  constructor
  · rintro ⟨r, ⟨hr, ht⟩, c, ⟨hc, hh⟩, rfl⟩; exact ⟨r, hr, ht, c, hc, hh, rfl⟩
  · rintro ⟨r, hr, ht, c, hc, hh, rfl⟩; exact ⟨r, ⟨hr, ht⟩, c, ⟨hc, hh⟩, rfl⟩
theorem any_frames (x : Link) (rs : List Rnd) (a b : Int) (tu : Bool) (id : Int) (hid : ∀ c : Came, (hears x c && ((c.f.id != x.plain) == tu)) = (c.f.id == id)) :
    (frames x rs).any (fun h => badIn (emits x rs) a b h && (h.turned == tu)) = rs.any (oneR x rs id a b) := by
  rw [Bool.eq_iff_iff]
  simp only [List.any_eq_true]
  constructor
  · rintro ⟨h, hm, hb⟩
    obtain ⟨r, hr, ht, c, hc, hh, rfl⟩ := (mem_frames x rs h).1 hm
    simp only [badIn, Bool.and_eq_true, Bool.not_eq_true', Bool.or_eq_false_iff] at hb
    obtain ⟨⟨hk, h1, h2⟩, h3⟩ := hb
    refine ⟨r, hr, ?_⟩
    have hi : (c.f.id == id) = true := by rw [← hid c, hh]; simpa [heard] using h3
    have ho : offs x rs id r.t c = true := by unfold offs; rw [hi, waited_neg x r.t ht c rs, hk]; rfl
    have h1' : decide (r.t < a) = false := h1
    have h2' : decide (r.t > b) = false := h2
    simp only [oneR, inWin, ht, h1', h2', Bool.and_eq_true, List.any_eq_true]
    exact ⟨⟨trivial, rfl, rfl⟩, c, hc, ho⟩
  · rintro ⟨r, hr, h⟩
    simp only [oneR, inWin, Bool.and_eq_true, List.any_eq_true, Bool.not_eq_true'] at h
    obtain ⟨⟨ht, h1, h2⟩, c, hc, ho⟩ := h
    unfold offs at ho
    rw [waited_neg x r.t ht c rs, Bool.and_eq_true, Bool.not_eq_true'] at ho
    have hi := hid c
    rw [ho.1, Bool.and_eq_true] at hi
    refine ⟨heard x r.t c, (mem_frames x rs _).2 ⟨r, hr, ht, c, hc, hi.1, rfl⟩, ?_⟩
    have h1' : decide ((heard x r.t c).t < a) = false := h1
    have h2' : decide ((heard x r.t c).t > b) = false := h2
    have h3 : (heard x r.t c).turned = (c.f.id != x.plain) := rfl
    simp only [badIn, ho.2, h1', h2', h3, hi.2]
    rfl
theorem spoilt_eq (x : Link) (a b : Int) (rs : List Rnd) : count2 (badAll (emits x rs) a b (frames x rs)) = refSpoilt x a b rs := by
  unfold badAll
  rw [bad_any]
  simp only [Bool.false_or]
  have e1 : (frames x rs).any (fun h => badIn (emits x rs) a b h && !h.turned) = rs.any (oneR x rs x.plain a b) := by
    rw [← any_frames x rs a b false x.plain (fun c => by unfold hears; cases h : (c.f.id == x.plain) <;> simp [bne, h])]
    congr 1; funext h; cases h.turned <;> rfl
  have e2 : (frames x rs).any (fun h => badIn (emits x rs) a b h && h.turned) = (x.turned != x.plain && rs.any (oneR x rs x.turned a b)) := by
    cases htp : (x.turned != x.plain) with
    | true =>
      rw [Bool.true_and, ← any_frames x rs a b true x.turned (fun c => by
        unfold hears
        cases h : (c.f.id == x.turned) with
        | true =>
          have : (c.f.id == x.plain) = false := by
            have h1 := beq_iff_eq.1 h
            rw [h1]; simpa [bne] using htp
          simp [bne, this, h]
        | false => cases h' : (c.f.id == x.plain) <;> simp [bne, h, h'])]
      congr 1; funext h; cases h.turned <;> rfl
    | false =>
      rw [Bool.false_and, List.any_eq_false]
      intro h hm
      obtain ⟨r, hr, ht, c, hc, hh, rfl⟩ := (mem_frames x rs h).1 hm
      have htp' : x.turned = x.plain := by simpa [bne] using htp
      unfold hears at hh
      rw [htp'] at hh
      have h3 : (heard x r.t c).turned = (c.f.id != x.plain) := rfl
      rw [h3]
      cases h' : (c.f.id == x.plain) <;> simp [bne, h'] at hh ⊢
  rw [e1, e2]
  rfl
theorem h5 : fns 5 = some c5 := rfl
theorem live0 : apply fns 30 (.fn 22 []) [] [] = some (.bool true, []) := by kernel_rfl
theorem few_len (rs : List Rnd) : (few rs).length ≤ 1000 := by simp [few]; omega
theorem app5 (x : Link) (a b : Int) (nr : Bool) (rs : List Rnd) (hr : ∀ r ∈ rs, r.ok) : app fns (.fn 5 []) [x.enc, .int .i64 a, .int .i64 b, .lst none nr 6 (encs Rnd.enc rs)] [] = some (.bool true, []) := by
  rw [app_fn fns h5 rfl]
  have hk := few_ok hr
  have hl := few_len rs
  have h21 := fun m => app21 nr rs hr m
  generalize few rs = fs at hk hl h21
  have hk4 : ∀ r ∈ fs, r.ok ∧ r.cs.length ≤ 4 := fun r h => ⟨(hk r h).1, (hk r h).2.1⟩
  have hk5 : ∀ r ∈ fs, r.ok ∧ r.ms.length ≤ 5 := fun r h => ⟨(hk r h).1, (hk r h).2.2⟩
  have hlive : app fns (.fn 22 []) [] [] = some (.bool true, []) := app_some.2 ⟨30, live0⟩
  have h24 := fun m => app24 x false fs hk5 hl m
  have h26 := fun m => app26 x false fs hk5 hl m
  have h25 := fun k nd n m => app25 k nd n false fs hk5 hl m
  have h27 := fun m => app27 x false fs hk4 hk5 hl m
  have h28 := fun m => app28 x false fs hk hl m
  have h29 := fun m => app29 x a b false fs hk4 hk5 hl m
  have h30 := fun m => app30 x a b false fs hk hl m
  have e1 : seen (isK 7 x.frm x.frmCh) fs = emits x fs := rfl
  have e2 : seen (isK 3 x.to x.toCh) fs = outs x fs := rfl
  have e3 : waitAll (emits x fs) (frames x fs) = fs.foldl (refRound x fs) 0 := wait_all x fs fs 0 (by omega)
  have e4 := spoilt_eq x a b fs
  have l1 := emits_len x fs hk5 hl
  have l2 : (outs x fs).length < 1000000 := by have := seen_len (isOut x) fs hk5; unfold outs; omega
  have h23a := fun m => app23 (emits x fs).isEmpty false (emits x fs) l1 m
  have h23b := fun m => app23 (outs x fs).isEmpty false (outs x fs) l2 m
  simp only [Link.enc] at h24 h26 h27 h28 h29 h30
  have hd : ∀ a, PV.deps a (encs Rnd.enc fs) = true := encs_deps fun r h => Rnd.data (hk r h).1
  simp [c5, Link.enc, h21, hlive, h24, h26, h25, h27, h28, h29, h30, e1, e2, e3, e4, h23a, h23b, hd, se_deps]
end Go.Proofs.Ytbbpkkeaddbcnaa.ZIM.AL
