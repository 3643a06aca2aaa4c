/- A region whose order is open, in general: reads among effects that stand in a chain. -/
import Derived.Test.YtnagbdodcjlbjaaZJ17C
set_option linter.unusedSimpArgs false
set_option linter.unusedVariables false
namespace Go.Proofs.Ytnagbdodcjlbjaa.ZJM
open Go.RowKit

def chainOk (rows : List Nat) (cs : List COp) : Bool := (List.range cs.length).all fun i => (List.range i).all fun j => match cs[i]?, cs[j]? with
  | some ci, some cj => readOp ci.op || readOp cj.op || (rows.getD i 0).testBit j
  | _, _ => false
def drawxOk (ops : Array Oper) (cs : List COp) (rows : List Nat) : Bool :=
  (cs.all fun c => !readOp c.op || bslOk c) && rowsOk rows 0 ops.toList && pairsOk rows cs cs.length && chainOk rows cs

section
variable {K : Callee} {rows : List Nat}
/-- A read hangs on the slots that it names, and on memory. -/
theorem evH_at {c : COp} {s s' : St} (hf : ∀ x ∈ slotsOf c, get s.f x = get s'.f x) (ho : s.own = s'.own) (hm : s.m = s'.m) : c.evH K s = c.evH K s' := by
  have h1 : evs s.f c.args = evs s'.f c.args := evs_congr fun x hx => hf x (by simp only [slotsOf, List.mem_append]; exact .inr hx)
  have h2 : ∀ vs, opH K c.op vs s = opH K c.op vs s' := by intro vs; cases c.op <;> simp only [opH, ho, hm]
  simp only [COp.evH, h1, h2]
  split
  · rfl
  · rename_i g b hg
    have : get s.f g = get s'.f g := hf g (by simp [slotsOf, hg])
    simp only [this]

theorem beq_some {o : Option PV} {v : PV} (h : (match o with | some v' => v'.beq v | none => false) = true) : o = some v := by
  split at h
  · rename_i v' ; rw [PV.beq_eq h]
  · cases h
theorem xPast_get {row : Nat} {c : COp} {st : St} {v : PV} : ∀ {l : List XR}, xPast K row c st v l = true → ∀ e own m, XR.eff e own m ∈ l → row.testBit e = true ∨ c.evH K { st with own := own, m := m } = some v
  | [], _, e, own, m, hm => by cases hm
  | .eff e' own' m' :: r, h, e, own, m, hm => by
    simp only [xPast, Bool.and_eq_true, Bool.or_eq_true] at h
    rcases List.mem_cons.1 hm with hm | hm
    · cases hm; exact h.1.imp id beq_some
    · exact xPast_get h.2 e own m hm
  | .rd _ _ _ _ :: r, h, e, own, m, hm => by
    simp only [xPast] at h
    rcases List.mem_cons.1 hm with hm | hm
    · cases hm
    · exact xPast_get h e own m hm
theorem xLate_get {row : Nat} {st : St} : ∀ {l : List XR}, xLate K row st l = true → ∀ j cj F v, XR.rd j cj F v ∈ l → row.testBit j = true ∨ calmOp cj.op = true ∨ cj.evH K { st with f := F } = some v
  | [], _, j, cj, F, v, hm => by cases hm
  | .rd j' cj' F' v' :: r, h, j, cj, F, v, hm => by
    simp only [xLate, Bool.and_eq_true, Bool.or_eq_true] at h
    rcases List.mem_cons.1 hm with hm | hm
    · cases hm
      rcases h.1 with (h1 | h1) | h1
      · exact .inl h1
      · exact .inr (.inl h1)
      · exact .inr (.inr (beq_some h1))
    · exact xLate_get h.2 j cj F v hm
  | .eff _ _ _ :: r, h, j, cj, F, v, hm => by
    simp only [xLate] at h
    rcases List.mem_cons.1 hm with hm | hm
    · cases hm
    · exact xLate_get h j cj F v hm

/-- What a run in the text's order says: the states between its operations. -/
structure XSpec (K : Callee) (rows : List Nat) (i : Nat) (done : List XR) (r : List COp) (S : Nat → St) : Prop where
  rd : ∀ t c, r[t]? = some c → readOp c.op = true → ∃ v, c.evH K (S (i + t)) = some v ∧ S (i + t + 1) = (S (i + t)).put c.dst v
  eff : ∀ t c, r[t]? = some c → readOp c.op = false → c.ev K (S (i + t)) = some (S (i + t + 1))
  past : ∀ t c v, r[t]? = some c → readOp c.op = true → c.evH K (S (i + t)) = some v → ∀ e own m, (XR.eff e own m ∈ done ∨ (∃ u ce, e = i + u ∧ u < t ∧ r[u]? = some ce ∧ readOp ce.op = false ∧ own = (S e).own ∧ m = (S e).m)) →
    (rows.getD (i + t) 0).testBit e = true ∨ calmOp c.op = true ∨ c.evH K { S (i + t) with own := own, m := m } = some v
  late : ∀ t c, r[t]? = some c → readOp c.op = false → ∀ j cj F v, (XR.rd j cj F v ∈ done ∨ (∃ u, j = i + u ∧ u < t ∧ r[u]? = some cj ∧ readOp cj.op = true ∧ F = (S j).f ∧ cj.evH K (S j) = some v)) →
    (rows.getD (i + t) 0).testBit j = true ∨ calmOp cj.op = true ∨ cj.evH K { S (i + t + 1) with f := F } = some v
theorem xEv_spec : ∀ {r : List COp} {i : Nat} {done : List XR} {s st' : St}, xEv K rows i done r s = some st' → ∃ S : Nat → St, S i = s ∧ S (i + r.length) = st' ∧ XSpec K rows i done r S
  | [], i, done, s, st', h => by
    simp only [xEv, Option.some.injEq] at h
    subst h
    exact ⟨fun _ => s, rfl, rfl, ⟨fun t c h => by simp at h, fun t c h => by simp at h, fun t c v h => by simp at h, fun t c h => by simp at h⟩⟩
  | c :: r, i, done, s, st', h => by
    simp only [xEv] at h
    -- what the rest says, with one more at the front
    have glue : ∀ (x : XR) (s1 : St) (S' : Nat → St), S' (i + 1) = s1 → S' (i + 1 + r.length) = st' → XSpec K rows (i + 1) (x :: done) r S' →
        (readOp c.op = true → (∃ v, c.evH K s = some v ∧ s1 = s.put c.dst v ∧ x = .rd i c s.f v) ∧ ∀ v, c.evH K s = some v → ∀ e own m, XR.eff e own m ∈ done → (rows.getD i 0).testBit e = true ∨ calmOp c.op = true ∨ c.evH K { s with own := own, m := m } = some v) →
        (readOp c.op = false → c.ev K s = some s1 ∧ x = .eff i s.own s.m ∧ ∀ j cj F v, XR.rd j cj F v ∈ done → (rows.getD i 0).testBit j = true ∨ calmOp cj.op = true ∨ cj.evH K { s1 with f := F } = some v) →
        ∃ S : Nat → St, S i = s ∧ S (i + (c :: r).length) = st' ∧ XSpec K rows i done (c :: r) S := by
      intro x s1 S' e1 e2 hS hrd heff
      let S : Nat → St := fun n => if n = i then s else S' n
      have S0 : S i = s := if_pos rfl
      have S1 : ∀ n, n ≠ i → S n = S' n := fun n hn => if_neg hn
      have St : ∀ t, S (i + (t + 1)) = S' (i + 1 + t) := fun t => by rw [S1 _ (by omega)]; congr 1; omega
      refine ⟨S, S0, by rw [List.length_cons, St]; exact e2, ⟨fun t c' ht hr => ?_, fun t c' ht hr => ?_, fun t c' v ht hr hv e own m he => ?_, fun t c' ht hr j cj F v hj => ?_⟩⟩
      · cases t with
        | zero =>
          simp only [List.getElem?_cons_zero, Option.some.injEq] at ht
          subst ht
          obtain ⟨⟨v, h1, h2, _⟩, _⟩ := hrd hr
          refine ⟨v, by rw [Nat.add_zero, S0]; exact h1, ?_⟩
          simp only [Nat.add_zero]
          rw [S0, S1 _ (by omega), e1, h2]
        | succ t =>
          obtain ⟨v, h1, h2⟩ := hS.rd t c' (by simpa using ht) hr
          exact ⟨v, by rw [St]; exact h1, by rw [show i + (t + 1) + 1 = i + (t + 1 + 1) by omega, St, St]; exact h2⟩
      · cases t with
        | zero =>
          simp only [List.getElem?_cons_zero, Option.some.injEq] at ht
          subst ht
          simp only [Nat.add_zero]
          rw [S0, S1 _ (by omega), e1]
          exact (heff hr).1
        | succ t =>
          have h1 := hS.eff t c' (by simpa using ht) hr
          rw [show i + (t + 1) + 1 = i + (t + 1 + 1) by omega, St, St]; exact h1
      · cases t with
        | zero =>
          simp only [List.getElem?_cons_zero, Option.some.injEq] at ht
          subst ht
          simp only [Nat.add_zero] at hv ⊢
          rw [S0] at hv ⊢
          rcases he with he | ⟨u, ce, _, hu, _⟩
          · exact (hrd hr).2 v hv e own m he
          · omega
        | succ t =>
          rw [St] at hv ⊢
          have := hS.past t c' v (by simpa using ht) hr hv e own m (by
            rcases he with he | ⟨u, ce, rfl, hu, hcu, hre, rfl, rfl⟩
            · exact .inl (List.mem_cons_of_mem _ he)
            · cases u with
              | zero =>
                simp only [List.getElem?_cons_zero, Option.some.injEq] at hcu
                subst hcu
                obtain ⟨_, hx, _⟩ := heff hre
                simp only [Nat.add_zero]
                rw [S0]
                exact .inl (by rw [hx]; exact List.mem_cons_self)
              | succ u =>
                refine .inr ⟨u, ce, by omega, by omega, by simpa using hcu, hre, ?_, ?_⟩ <;> rw [S1 _ (by omega)])
          rwa [show i + (t + 1) = i + 1 + t by omega]
      · cases t with
        | zero =>
          simp only [List.getElem?_cons_zero, Option.some.injEq] at ht
          subst ht
          simp only [Nat.add_zero]
          rw [S1 _ (by omega), e1]
          rcases hj with hj | ⟨u, _, hu, _⟩
          · exact (heff hr).2.2 j cj F v hj
          · omega
        | succ t =>
          have := hS.late t c' (by simpa using ht) hr j cj F v (by
            rcases hj with hj | ⟨u, rfl, hu, hcu, hre, rfl, hv⟩
            · exact .inl (List.mem_cons_of_mem _ hj)
            · cases u with
              | zero =>
                simp only [List.getElem?_cons_zero, Option.some.injEq] at hcu
                subst hcu
                obtain ⟨⟨v', h1, _, hx⟩, _⟩ := hrd hre
                simp only [Nat.add_zero] at hv ⊢
                rw [S0] at hv ⊢
                rw [hv] at h1
                cases h1
                exact .inl (by rw [hx]; exact List.mem_cons_self)
              | succ u =>
                refine .inr ⟨u, by omega, by omega, by simpa using hcu, hre, ?_, ?_⟩
                · rw [S1 _ (by omega)]
                · rw [S1 _ (by omega)] at hv; exact hv)
          rw [show i + (t + 1) + 1 = i + (t + 1 + 1) by omega, St]
          rwa [show i + (t + 1) = i + 1 + t by omega]
    split at h
    · rename_i hro
      split at h
      · rename_i v hv
        split at h
        · rename_i hp
          obtain ⟨S', e1, e2, hS⟩ := xEv_spec h
          refine glue _ _ S' e1 e2 hS (fun _ => ⟨⟨v, hv, rfl, rfl⟩, fun v' hv' e own m he => ?_⟩) (fun hro' => by rw [hro] at hro'; cases hro')
          rw [hv] at hv'; cases hv'
          simp only [Bool.or_eq_true] at hp
          rcases hp with hp | hp
          · exact .inr (.inl hp)
          · exact (xPast_get hp e own m he).imp id .inr
        · cases h
      · cases h
    · rename_i hro
      split at h
      · rename_i s1 hs1
        split at h
        · rename_i hp
          obtain ⟨S', e1, e2, hS⟩ := xEv_spec h
          exact glue _ _ S' e1 e2 hS (fun hro' => by rw [hro] at hro'; cases hro') (fun _ => ⟨hs1, rfl, fun j cj F v hj => xLate_get hp j cj F v hj⟩)
        · cases h
      · cases h
end
def pushL (d : Option Nat) (v : PV) : List (Nat × PV) :=
  match d with
  | some d => [(d, v)]
  | none => []
theorem put_pushL (s : St) (d : Option Nat) (v : PV) : s.put d v = { s with f := pushL d v ++ s.f } := by cases d <;> rfl
/-- The frame after the listed ones. -/
def GL (A : Nat → List (Nat × PV)) (f0 : List (Nat × PV)) (p : Nat → Bool) : Nat → List (Nat × PV)
  | 0 => f0
  | n + 1 => (if p n = true then A n else []) ++ GL A f0 p n
theorem GL_congr {A : Nat → List (Nat × PV)} {f0 : List (Nat × PV)} {p q : Nat → Bool} {t : Nat} : ∀ {n : Nat}, (∀ m, m < n → get (A m) t ≠ none → p m = q m) → get (GL A f0 p n) t = get (GL A f0 q n) t
  | 0, _ => rfl
  | n + 1, h => by
    simp only [GL]
    rw [get_app, get_app, GL_congr fun m hm => h m (by omega)]
    by_cases hn : get (A n) t = none
    · have e : ∀ b : Bool, get (if b = true then A n else []) t = none := by
        intro b; cases b
        · rfl
        · exact hn
      rw [e, e]
    · rw [h n (by omega) hn]
theorem GL_lt {A : Nat → List (Nat × PV)} {f0 : List (Nat × PV)} {j : Nat} : ∀ {n : Nat}, j ≤ n → GL A f0 (fun m => decide (m < j)) n = GL A f0 (fun _ => true) j
  | 0, h => by
    have : j = 0 := by omega
    subst this; rfl
  | n + 1, h => by
    by_cases hj : j = n + 1
    · subst hj
      have key : ∀ m, m ≤ n + 1 → GL A f0 (fun m => decide (m < n + 1)) m = GL A f0 (fun _ => true) m := by
        intro m
        induction m with
        | zero => intro _; rfl
        | succ m ih =>
          intro hm
          simp only [GL]
          rw [ih (by omega), if_pos (by simp; omega)]
          simp
      exact key (n + 1) (Nat.le_refl _)
    · simp only [GL]
      rw [if_neg (by simp; omega), List.nil_append]
      exact GL_lt (by omega)
theorem GL_last {A : Nat → List (Nat × PV)} {f0 : List (Nat × PV)} {p : Nat → Bool} {t j : Nat} : ∀ {n : Nat}, j < n → p j = true → get (A j) t ≠ none → (∀ m, j < m → m < n → get (A m) t ≠ none → p m = false) → get (GL A f0 p n) t = get (A j) t
  | 0, h, _, _, _ => by omega
  | n + 1, h, hp, ht, hl => by
    simp only [GL]
    rw [get_app]
    by_cases hj : j = n
    · subst hj
      rw [if_pos hp]
      cases hg : get (A j) t with
      | none => exact (ht hg).elim
      | some v => rfl
    · have e : get (if p n = true then A n else []) t = none := by
        by_cases hn : get (A n) t = none
        · cases p n
          · rfl
          · exact hn
        · rw [hl n (by omega) (by omega) hn]; rfl
      rw [e]
      exact GL_last (by omega) hp ht fun m h1 h2 => hl m h1 (by omega)
theorem get_keys {D : List (Nat × PV)} {t : Nat} (h : get D t ≠ none) : ∃ p ∈ D, p.1 = t := by
  refine Classical.byContradiction fun hno => h (get_notin fun p hp he => hno ⟨p, hp, he⟩)

section
variable {P : Program} {okP : OkP × Tab} {d nt : Nat} {m0 : Mem} {g0 : Gh} {w0 : World}
theorem drawx_ok {ro : Option Nat} (hm : P.follows .mixedOrders = true) {K : Callee} (hK : Snd P okP K) (hok : OkG okP g0 w0) {ops : Array Oper} {cs : List COp} {rows : List Nat} {Q : Exit → Act → World → Prop} {st st' : St} {a : Act} {w : World} {id : Nat}
    (hk : chkOps P nt ops ops.toList cs = true) (hdr : drawxOk ops cs rows = true) (h : InvE d nt m0 g0 w0 st a w) (h1 : xEv K rows 0 [] cs st = some st')
    (hq : ∀ a' w', InvE d nt m0 g0 w0 st' a' w' → Q .normal a' w') : (Code.region id ops true).wpIn (Fw ro) 0 P Q a w := by
  refine wpIn_region_any hm ?_
  obtain ⟨S, hS0, hSn, hS⟩ := xEv_spec h1
  rw [Nat.zero_add] at hSn
  simp only [drawxOk, Bool.and_eq_true] at hdr
  obtain ⟨⟨⟨hbs, hrows⟩, hpairs⟩, hchain⟩ := hdr
  have hlen := chkOps_len hk
  have hn : ops.size = cs.length := by simpa using hlen
  have hrd : ∀ j c, cs[j]? = some c → readOp c.op = true → ∃ v, c.evH K (S j) = some v ∧ S (j + 1) = (S j).put c.dst v := fun j c hc hr => by simpa only [Nat.zero_add] using hS.rd j c hc hr
  have heff : ∀ j c, cs[j]? = some c → readOp c.op = false → c.ev K (S j) = some (S (j + 1)) := fun j c hc hr => by simpa only [Nat.zero_add] using hS.eff j c hc hr
  have hpast : ∀ e j ce cj v, cs[e]? = some ce → readOp ce.op = false → e < j → cs[j]? = some cj → readOp cj.op = true → cj.evH K (S j) = some v → (rows.getD j 0).testBit e = true ∨ calmOp cj.op = true ∨ cj.evH K { S j with own := (S e).own, m := (S e).m } = some v := by
    intro e j ce cj v he hre hej hj hrj hv
    have := hS.past j cj v hj hrj (by rw [Nat.zero_add]; exact hv) e _ _ (.inr ⟨e, ce, (Nat.zero_add e).symm, hej, he, hre, rfl, rfl⟩)
    simpa only [Nat.zero_add] using this
  have hlate : ∀ j e cj ce v, cs[e]? = some ce → readOp ce.op = false → j < e → cs[j]? = some cj → readOp cj.op = true → cj.evH K (S j) = some v → (rows.getD e 0).testBit j = true ∨ calmOp cj.op = true ∨ cj.evH K { S (e + 1) with f := (S j).f } = some v := by
    intro j e cj ce v he hre hje hj hrj hv
    have := hS.late e ce he hre j cj _ v (.inr ⟨j, (Nat.zero_add j).symm, hje, hj, hrj, rfl, hv⟩)
    simpa only [Nat.zero_add] using this
  -- what each pushes on the frame
  obtain ⟨A, hA⟩ : ∃ A : Nat → List (Nat × PV), ∀ j c, cs[j]? = some c → (∀ p ∈ A j, c.dst = some p.1) ∧ (S (j + 1)).f = A j ++ (S j).f ∧
      (readOp c.op = true → ∀ v, c.evH K (S j) = some v → A j = pushL c.dst v) ∧
      (readOp c.op = false → ∀ B, (∀ s ∈ slotsOf c, get B s = get (S j).f s) → c.ev K { S j with f := B } = some { S (j + 1) with f := A j ++ B }) := by
    have : ∀ j, ∃ add : List (Nat × PV), ∀ c, cs[j]? = some c → (∀ p ∈ add, c.dst = some p.1) ∧ (S (j + 1)).f = add ++ (S j).f ∧
        (readOp c.op = true → ∀ v, c.evH K (S j) = some v → add = pushL c.dst v) ∧
        (readOp c.op = false → ∀ B, (∀ s ∈ slotsOf c, get B s = get (S j).f s) → c.ev K { S j with f := B } = some { S (j + 1) with f := add ++ B }) := by
      intro j
      cases hc : cs[j]? with
      | none => exact ⟨[], fun c h => by cases h⟩
      | some c =>
        cases hr : readOp c.op with
        | true =>
          obtain ⟨v, hv, hs⟩ := hrd j c hc hr
          refine ⟨pushL c.dst v, fun c' h => ?_⟩
          cases h
          refine ⟨fun p hp => ?_, (by rw [hs, put_pushL]), (fun _ v' hv' => by rw [hv] at hv'; cases hv'; rfl), (fun hf => by rw [hr] at hf; cases hf)⟩
          unfold pushL at hp
          split at hp
          · rename_i dd hd
            rw [List.mem_singleton.1 hp]; exact hd
          · cases hp
        | false =>
          obtain ⟨add, b1, b2, b3⟩ := cop_push (heff j c hc hr)
          refine ⟨add, fun c' h => ?_⟩
          cases h
          exact ⟨b1, b2, (fun hf => by rw [hr] at hf; cases hf), fun _ => b3⟩
    exact ⟨fun j => Classical.choose (this j), fun j => Classical.choose_spec (this j)⟩
  have hSf : ∀ j, j ≤ cs.length → (S j).f = GL A st.f (fun _ => true) j := by
    intro j
    induction j with
    | zero => intro _; rw [hS0]; rfl
    | succ j ih =>
      intro hj
      have hc : cs[j]? = some cs[j] := by simp
      rw [(hA j _ hc).2.1, ih (by omega)]
      simp only [GL, if_true]
  have hAd : ∀ {m t c}, cs[m]? = some c → get (A m) t ≠ none → c.dst = some t := by
    intro m t c hc hg
    obtain ⟨p, hp, rfl⟩ := get_keys hg
    exact (hA m c hc).1 p hp
  have hmem : ∀ Y X, X ≤ Y → Y ≤ cs.length → (∀ e c, X ≤ e → e < Y → cs[e]? = some c → readOp c.op = true) → ∀ F, ({ S Y with f := F } : St) = { S X with f := F } := by
    intro Y
    induction Y with
    | zero =>
      intro X hX _ _ F
      have : X = 0 := by omega
      subst this; rfl
    | succ Y ih =>
      intro X hX hY hr F
      by_cases hXY : X = Y + 1
      · subst hXY; rfl
      · have hc : cs[Y]? = some cs[Y] := by simp
        obtain ⟨v, _, hs⟩ := hrd Y _ hc (hr Y _ (by omega) (by omega) hc)
        rw [hs, put_pushL]
        exact ih X (by omega) (by omega) (fun e c h1 h2 h3 => hr e c h1 (by omega) h3) F
  have hpair : ∀ {i j ci cj}, j < i → cs[i]? = some ci → cs[j]? = some cj → (touches cj.dst ci || touches ci.dst cj) = true → (rows.getD i 0).testBit j = true := by
    intro i j ci cj hji hi hj ht
    have hil : i < cs.length := (List.getElem?_eq_some_iff.1 hi).1
    simp only [pairsOk, List.all_eq_true, List.mem_range] at hpairs
    have := hpairs i hil j hji
    rw [hi, hj] at this
    simp only [ht, Bool.not_true, Bool.false_or] at this
    exact this
  have hbitE : ∀ {i j ci cj}, j < i → cs[i]? = some ci → cs[j]? = some cj → readOp ci.op = false → readOp cj.op = false → (rows.getD i 0).testBit j = true := by
    intro i j ci cj hji hi hj hri hrj
    have hil : i < cs.length := (List.getElem?_eq_some_iff.1 hi).1
    simp only [chainOk, List.all_eq_true, List.mem_range] at hchain
    have := hchain i hil j hji
    rw [hi, hj] at this
    simpa only [hri, hrj, Bool.false_or] using this
  have main : ∀ (fuel : Nat) (listed : Array Bool) (a : Act) (w : World), missing listed ≤ fuel → listed.size = ops.size →
      (∀ j, LB listed j = true → ∀ i, (rows.getD j 0).testBit i = true → LB listed i = true) →
      (∃ X, X ≤ cs.length ∧ (∀ e c, cs[e]? = some c → readOp c.op = false → LB listed e = decide (e < X)) ∧ InvE d nt m0 g0 w0 { S X with f := GL A st.f (LB listed) cs.length } a w) →
      wpAnyIn (Fw ro) 0 P .any ops Q fuel listed a w := by
    intro fuel
    have hrow : ∀ {j : Nat} {o : Oper}, ops[j]? = some o → rowOk rows j o = true := by
      intro j o ho
      have := rowsOk_get hrows (i := j) (o := o) (by simpa using ho)
      simpa using this
    have hdone : ∀ {listed : Array Bool}, listed.size = ops.size → Region.ready .any ops listed = [] → ∀ j, j < ops.size → LB listed j = true := by
      intro listed hsz hr j
      induction j using Nat.strongRecOn with
      | _ j ih =>
        intro hj
        cases hb : LB listed j with
        | true => rfl
        | false =>
          have hmem : j ∈ Region.ready .any ops listed := by
            rw [mem_ready]
            refine ⟨?_, ops[j], by simp [hj], fun e he hbind => ?_⟩
            · have hb' := hb
              simp only [LB, Array.getD_eq_getD_getElem?] at hb'
              simp only [Array.getD_eq_getD_getElem?]
              rw [Array.getElem?_eq_getElem (by omega)] at hb' ⊢
              exact hb'
            · have hro := hrow (j := j) (o := ops[j]) (by simp [hj])
              simp only [rowOk, Bool.and_eq_true, Array.all_eq_true_iff_forall_mem, Bool.or_eq_true, Bool.not_eq_true', decide_eq_true_eq] at hro
              have hlt : e.on < j := (hro.2 e he).resolve_left (by simp [hbind])
              exact ih e.on hlt (by omega)
          rw [hr] at hmem
          cases hmem
    have hend : ∀ {listed : Array Bool} {a : Act} {w : World}, listed.size = ops.size →
        (∃ X, X ≤ cs.length ∧ (∀ e c, cs[e]? = some c → readOp c.op = false → LB listed e = decide (e < X)) ∧ InvE d nt m0 g0 w0 { S X with f := GL A st.f (LB listed) cs.length } a w) →
        Region.ready .any ops listed = [] → Q .normal a w := by
      rintro listed a w hsz ⟨X, hX, hLX, hi⟩ hr
      have hall := hdone hsz hr
      have hS' := hmem cs.length X hX (Nat.le_refl _) (fun e c h2 h3 hc => by
        cases hro : readOp c.op with
        | true => rfl
        | false =>
          have := hLX e c hc hro
          rw [hall e (by omega)] at this
          simp at this; omega) (GL A st.f (LB listed) cs.length)
      rw [← hS'] at hi
      rw [← hSn] at hq
      refine hq a w (hi.congr (f' := (S cs.length).f) fun t => ?_)
      show get (S cs.length).f t = get (GL A st.f (LB listed) cs.length) t
      rw [hSf _ (Nat.le_refl _)]
      exact GL_congr fun m hm _ => (hall m (by omega)).symm
    induction fuel with
    | zero =>
      intro listed a w hmis hsz hcl hinv
      have hr : Region.ready .any ops listed = [] := by
        cases hr : Region.ready .any ops listed with
        | nil => rfl
        | cons j r =>
          have hmem : j ∈ Region.ready .any ops listed := by rw [hr]; exact List.mem_cons_self
          rw [mem_ready] at hmem
          obtain ⟨h2, o, ho, _⟩ := hmem
          have hj : j < ops.size := (Array.getElem?_eq_some_iff.1 ho).1
          have hb : LB listed j = false := by
            simp only [LB, Array.getD_eq_getD_getElem?] at h2 ⊢
            rw [Array.getElem?_eq_getElem (by omega)] at h2 ⊢
            exact h2
          have := missing_set (i := j) (by omega : j < listed.size) hb
          omega
      exact ⟨hr, hend hsz hinv hr⟩
    | succ fuel ih =>
      intro listed a w hmis hsz hcl hinv
      refine ⟨hend hsz hinv, fun j hmem' => ?_⟩
      rw [mem_ready] at hmem'
      obtain ⟨h2, o, ho, hedges⟩ := hmem'
      have hj : j < ops.size := (Array.getElem?_eq_some_iff.1 ho).1
      have hb : LB listed j = false := by
        simp only [LB, Array.getD_eq_getD_getElem?] at h2 ⊢
        rw [Array.getElem?_eq_getElem (by omega)] at h2 ⊢
        exact h2
      have hjs : j < listed.size := by omega
      have hjc : j < cs.length := by omega
      obtain ⟨c, hc, hck⟩ := chkOps_get hk (j := j) (o := o) (by simpa using ho)
      have hmis' := missing_set hjs hb
      have hset := LB_set hjs
      have hrl : ∀ i, (rows.getD j 0).testBit i = true → LB listed i = true := fun i hi => row_ready (hrow ho) hcl hedges hi
      have hcl' : ∀ j', LB (listed.setIfInBounds j true) j' = true → ∀ i, (rows.getD j' 0).testBit i = true → LB (listed.setIfInBounds j true) i = true := by
        intro j' hj' i hi
        rw [hset] at hj' ⊢
        simp only [Bool.or_eq_true, decide_eq_true_eq] at hj' ⊢
        rcases hj' with rfl | hj'
        · exact .inr (hrl i hi)
        · exact .inr (hcl j' hj' i hi)
      obtain ⟨X, hX, hLX, hi⟩ := hinv
      -- whoever touches it is on its side
      have hside : ∀ m cm, cs[m]? = some cm → (touches cm.dst c || touches c.dst cm) = true → LB listed m = decide (m < j) := by
        intro m cm hcm ht
        rcases Nat.lt_trichotomy m j with hmj | rfl | hmj
        · rw [hrl m (hpair hmj hc hcm ht)]; simp [hmj]
        · rw [hb]; simp
        · have : LB listed m = false := by
            cases hbm : LB listed m with
            | false => rfl
            | true =>
              have := hcl m hbm j (hpair hmj hcm hc (by rw [Bool.or_comm]; exact ht))
              rw [hb] at this; cases this
          rw [this]; simp; omega
      have hslots : ∀ s ∈ slotsOf c, get (GL A st.f (LB listed) cs.length) s = get (S j).f s := by
        intro s hs
        rw [hSf j (by omega), ← GL_lt (n := cs.length) (by omega : j ≤ cs.length)]
        refine GL_congr fun m hm' hg => ?_
        have hcm : cs[m]? = some cs[m] := by simp
        have hd := hAd hcm hg
        exact hside m _ hcm (by simp [touches, hd, hs])
      -- the frame behind it
      have hframe : ∀ t, get (GL A st.f (LB (listed.setIfInBounds j true)) cs.length) t = get (A j ++ GL A st.f (LB listed) cs.length) t := by
        intro t
        rw [get_app]
        by_cases hg : get (A j) t = none
        · rw [hg]
          show _ = get (GL A st.f (LB listed) cs.length) t
          refine GL_congr fun m hm' hgm => ?_
          rw [hset]
          have : ¬ m = j := by rintro rfl; exact hgm hg
          simp [this]
        · rw [GL_last hjc (by rw [hset]; simp) hg fun m hjm hm' hgm => ?_]
          · cases hgg : get (A j) t with
            | none => exact (hg hgg).elim
            | some v => rfl
          · have hcm : cs[m]? = some cs[m] := by simp
            have hd1 := hAd hc hg
            have hd2 := hAd hcm hgm
            have := hside m _ hcm (by simp [touches, hd1, hd2])
            rw [hset, this]
            simp; omega
      cases hro : readOp c.op with
      | true =>
        obtain ⟨v, hv, _⟩ := hrd j c hc hro
        have hval : c.evH K { S X with f := GL A st.f (LB listed) cs.length } = some v := by
          have e1 : c.evH K { S X with f := GL A st.f (LB listed) cs.length } = c.evH K { S X with f := (S j).f } := evH_at hslots rfl rfl
          rw [e1]
          rcases Nat.lt_or_ge j X with hjX | hXj
          · -- effects between that have come up already
            by_cases hex : ∃ e ce, j < e ∧ e < X ∧ cs[e]? = some ce ∧ readOp ce.op = false
            · -- the last of them
              obtain ⟨e1', he1⟩ : ∃ e, (∃ ce, j < e ∧ e < X ∧ cs[e]? = some ce ∧ readOp ce.op = false) ∧ ∀ e2 ce2, e < e2 → e2 < X → cs[e2]? = some ce2 → readOp ce2.op = true := by
                obtain ⟨e, ce, h3, h4, h5, h6⟩ := hex
                have key : ∀ (k e : Nat), X - e ≤ k → (∃ ce, j < e ∧ e < X ∧ cs[e]? = some ce ∧ readOp ce.op = false) → ∃ e, (∃ ce, j < e ∧ e < X ∧ cs[e]? = some ce ∧ readOp ce.op = false) ∧ ∀ e2 ce2, e < e2 → e2 < X → cs[e2]? = some ce2 → readOp ce2.op = true := by
                  intro k
                  induction k with
                  | zero => intro e hk ⟨ce, h3, h4, _⟩; omega
                  | succ k ih2 =>
                    intro e hk he
                    by_cases hmore : ∃ e2 ce2, e < e2 ∧ e2 < X ∧ cs[e2]? = some ce2 ∧ readOp ce2.op = false
                    · obtain ⟨e2, ce2, h7, h8, h9, h10⟩ := hmore
                      obtain ⟨ce, h3, _⟩ := he
                      exact ih2 e2 (by omega) ⟨ce2, by omega, h8, h9, h10⟩
                    · refine ⟨e, he, fun e2 ce2 h7 h8 h9 => ?_⟩
                      cases hrr : readOp ce2.op with
                      | true => rfl
                      | false => exact (hmore ⟨e2, ce2, h7, h8, h9, hrr⟩).elim
                exact key (X - e) e (Nat.le_refl _) ⟨ce, h3, h4, h5, h6⟩
              obtain ⟨⟨ce, h3, h4, h5, h6⟩, hlast⟩ := he1
              rw [hmem X (e1' + 1) (by omega) hX (fun e2 c2 h7 h8 h9 => hlast e2 c2 (by omega) h8 h9)]
              rcases hlate j e1' c ce v h5 h6 h3 hc hro hv with h7 | h7 | h7
              · have hl : LB listed e1' = true := by rw [hLX e1' ce h5 h6]; simp [h4]
                have := hcl e1' hl j h7
                rw [hb] at this; cases this
              · rw [evH_calm h7 (S (e1' + 1)) (S j) (S j).f]; exact hv
              · exact h7
            · rw [hmem X j (by omega) hX (fun e2 c2 h7 h8 h9 => by
                cases hrr : readOp c2.op with
                | true => rfl
                | false =>
                  by_cases hej : e2 = j
                  · subst hej; rw [hc] at h9; cases h9; rw [hro] at hrr; cases hrr
                  · exact (hex ⟨e2, c2, by omega, h8, h9, hrr⟩).elim)]
              exact hv
          · -- effects between that have not come up yet
            by_cases hex : ∃ e ce, X ≤ e ∧ e < j ∧ cs[e]? = some ce ∧ readOp ce.op = false
            · -- the first of them
              obtain ⟨e0, he0⟩ : ∃ e, (∃ ce, X ≤ e ∧ e < j ∧ cs[e]? = some ce ∧ readOp ce.op = false) ∧ ∀ e2 ce2, X ≤ e2 → e2 < e → cs[e2]? = some ce2 → readOp ce2.op = true := by
                obtain ⟨e, ce, h3, h4, h5, h6⟩ := hex
                have key : ∀ (k e : Nat), e ≤ k → (∃ ce, X ≤ e ∧ e < j ∧ cs[e]? = some ce ∧ readOp ce.op = false) → ∃ e, (∃ ce, X ≤ e ∧ e < j ∧ cs[e]? = some ce ∧ readOp ce.op = false) ∧ ∀ e2 ce2, X ≤ e2 → e2 < e → cs[e2]? = some ce2 → readOp ce2.op = true := by
                  intro k
                  induction k with
                  | zero => intro e hk he; exact ⟨e, he, fun e2 ce2 h7 h8 => by omega⟩
                  | succ k ih2 =>
                    intro e hk he
                    by_cases hmore : ∃ e2 ce2, X ≤ e2 ∧ e2 < e ∧ cs[e2]? = some ce2 ∧ readOp ce2.op = false
                    · obtain ⟨e2, ce2, h7, h8, h9, h10⟩ := hmore
                      obtain ⟨ce, _, h4, _⟩ := he
                      exact ih2 e2 (by omega) ⟨ce2, h7, by omega, h9, h10⟩
                    · refine ⟨e, he, fun e2 ce2 h7 h8 h9 => ?_⟩
                      cases hrr : readOp ce2.op with
                      | true => rfl
                      | false => exact (hmore ⟨e2, ce2, h7, h8, h9, hrr⟩).elim
                exact key e e (Nat.le_refl _) ⟨ce, h3, h4, h5, h6⟩
              obtain ⟨⟨ce, h3, h4, h5, h6⟩, hfirst⟩ := he0
              have hXe := hmem e0 X h3 (by omega) (fun e2 c2 h7 h8 h9 => hfirst e2 c2 h7 h8 h9) (S j).f
              rw [← hXe]
              rcases hpast e0 j ce c v h5 h6 h4 hc hro hv with h7 | h7 | h7
              · have hl := hrl e0 h7
                rw [hLX e0 ce h5 h6] at hl
                simp at hl; omega
              · rw [evH_calm h7 (S e0) (S j) (S j).f]; exact hv
              · rw [← h7]; exact evH_at (fun _ _ => rfl) rfl rfl
            · rw [← hmem j X hXj (by omega) (fun e2 c2 h7 h8 h9 => by
                cases hrr : readOp c2.op with
                | true => rfl
                | false => exact (hex ⟨e2, c2, h7, h8, h9, hrr⟩).elim)]
              exact hv
        have hbl : bslOk c = true := by
          have := List.all_eq_true.1 hbs c (List.mem_of_getElem? hc)
          simpa [hro] using this
        unfold wpOpIn
        simp only [ho]
        refine copH_ok hK hok hck hbl hi hval fun a' w' hi' => ?_
        refine ih _ a' w' (by omega) (by simpa using hsz) hcl' ⟨X, hX, fun e ce hce hre => ?_, ?_⟩
        · rw [hset, hLX e ce hce hre]
          have : ¬ e = j := by rintro rfl; rw [hc] at hce; cases hce; rw [hro] at hre; cases hre
          simp [this]
        · rw [put_pushL] at hi'
          refine hi'.congr fun t => ?_
          rw [← (hA j c hc).2.2.1 hro v hv]
          exact hframe t
      | false =>
        have hXj : X ≤ j := by
          rcases Nat.lt_or_ge j X with hlt | hge
          · have := hLX j c hc hro; rw [hb] at this; simp at this; omega
          · exact hge
        have hSX := hmem j X hXj (by omega) (fun e2 c2 h7 h8 h9 => by
          cases hrr : readOp c2.op with
          | true => rfl
          | false =>
            have hl := hrl e2 (hbitE h8 hc h9 hro hrr)
            rw [hLX e2 c2 h9 hrr] at hl
            simp at hl; omega) (GL A st.f (LB listed) cs.length)
        rw [← hSX] at hi
        have hev := (hA j c hc).2.2.2 hro _ hslots
        unfold wpOpIn
        simp only [ho]
        refine cop_ok hK hok hck hi hev fun a' w' hi' => ?_
        refine ih _ a' w' (by omega) (by simpa using hsz) hcl' ⟨j + 1, by omega, fun e ce hce hre => ?_, hi'.congr hframe⟩
        rw [hset]
        by_cases hej : e = j
        · subst hej; simp
        · rcases Nat.lt_or_ge e j with hlt | hge
          · rw [hrl e (hbitE hlt hc hce hro hre)]; simp; omega
          · have : LB listed e = false := by
              cases hbe : LB listed e with
              | false => rfl
              | true =>
                have := hcl e hbe j (hbitE (by omega) hce hc hre hro)
                rw [hb] at this; cases this
            rw [this]; simp; omega
  refine main ops.size _ a _ ?_ (by simp) ?_ ⟨0, Nat.zero_le _, fun e c _ _ => ?_, ?_⟩
  · unfold missing
    refine Nat.le_trans (List.length_filter_le _ _) ?_
    simp
  · intro j hj
    exfalso
    simp only [LB, Array.getD_eq_getD_getElem?, Array.getElem?_replicate] at hj
    split at hj <;> simp at hj
  · simp only [LB, Array.getD_eq_getD_getElem?, Array.getElem?_replicate]
    split <;> simp
  · rw [hS0]
    refine h.drawn.congr fun t => ?_
    have : ∀ (n : Nat), get (GL A st.f (LB (Array.replicate ops.size false)) n) t = get st.f t := by
      intro n
      induction n with
      | zero => rfl
      | succ n ih =>
        have : LB (Array.replicate ops.size false) n = false := by
          simp only [LB, Array.getD_eq_getD_getElem?, Array.getElem?_replicate]
          split <;> simp
        simp only [GL, this, Bool.false_eq_true, if_false, List.nil_append]
        exact ih
    exact this cs.length
end
end Go.Proofs.Ytnagbdodcjlbjaa.ZJM
