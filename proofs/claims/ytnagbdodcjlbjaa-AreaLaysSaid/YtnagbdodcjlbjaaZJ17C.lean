/- Effects change the frame by their results alone. -/
import Derived.Test.YtnagbdodcjlbjaaZJ16
import Derived.Test.YtnagbdodcjlbjaaZJ1B
set_option linter.unusedSimpArgs false
set_option linter.unusedVariables false
namespace Go.Proofs.Ytnagbdodcjlbjaa.ZJM
open Go.RowKit

/-- It pushes what it makes on the frame, and looks at nothing there. -/
def Push (dst : Option Nat) (F : St → Option St) : Prop := ∀ st st', F st = some st' → ∃ add : List (Nat × PV), (∀ p ∈ add, dst = some p.1) ∧ st'.f = add ++ st.f ∧ ∀ B, F { st with f := B } = some { st' with f := add ++ B }
theorem push_none {dst : Option Nat} {F : St → Option St} (h1 : ∀ st B, F { st with f := B } = (F st).map fun s => { s with f := B }) (h2 : ∀ st st', F st = some st' → st'.f = st.f) : Push dst F := fun st st' h =>
  ⟨[], (fun p hp => by cases hp), h2 st st' h, fun B => by rw [h1, h]; rfl⟩
theorem push_put {dst : Option Nat} {g : St → Option PV} (hg : ∀ st B, g { st with f := B } = g st) : Push dst fun st => match g st with | some v => some (st.put dst v) | none => none := by
  intro st st' h
  simp only at h
  split at h
  · rename_i v hv
    cases h
    cases dst with
    | none => exact ⟨[], (fun p hp => by cases hp), rfl, fun B => by simp only [hg, hv]; rfl⟩
    | some d => exact ⟨[(d, v)], (fun p hp => by rw [List.mem_singleton.1 hp]), rfl, fun B => by simp only [hg, hv]; rfl⟩
  · cases h
theorem push_newVar (dst : Option Nat) (z : List PV) : Push dst fun st => newVar st dst z := by
  intro st st' h
  cases dst with
  | none => simp [newVar] at h
  | some d =>
    simp only [newVar] at h
    split at h
    case isFalse => cases h
    rename_i h1
    have h1' : ∀ B, (isFree { st with f := B } d && z.all PV.isCell) = true := fun B => h1
    split at h
    · rename_i h2
      cases h
      exact ⟨[(d, .ptr st.m.length d [] 0)], (fun p hp => by rw [List.mem_singleton.1 hp]), rfl, fun B => by simp only [newVar, h1' B, if_true, h2]; rfl⟩
    · rename_i h2
      refine ⟨[(d, .ptr st.m.length d [] 0)], (fun p hp => by rw [List.mem_singleton.1 hp]), putCs_g h, fun B => ?_⟩
      simp only [newVar, h1' B, if_true, h2, Bool.false_eq_true, if_false]
      have := putCs_f (z.map PV.untag1) { st with own := (d, z.map PV.untag1) :: st.own, f := (d, .ptr st.m.length d [] 0) :: st.f } st.m.length d [] 0 ((d, .ptr st.m.length d [] 0) :: B)
      rw [h] at this
      exact this
theorem push_newList (dst : Option Nat) (tag nl : Bool) (sz e : Nat) (xs : List PV) : Push dst fun st => newList st tag dst nl sz e xs := by
  intro st st' h
  cases dst with
  | none => simp [newList] at h
  | some d =>
    simp only [newList] at h
    cases tag with
    | true =>
      simp only at h
      split at h
      · rename_i h1
        cases h
        exact ⟨[(d, _)], (fun p hp => by rw [List.mem_singleton.1 hp]), rfl, fun B => by simp only [newList, h1]; rfl⟩
      · cases h
    | false =>
      simp only [Option.some.injEq] at h
      subst h
      exact ⟨[(d, _)], (fun p hp => by rw [List.mem_singleton.1 hp]), rfl, fun B => rfl⟩
theorem push_make (dst : Option Nat) (sz bytes : Nat) (z : List PV) (x y : PV) : Push dst fun st => makeEv st dst sz bytes z x y := by
  intro st st' h
  cases x <;> try (simp [makeEv] at h; done)
  cases y <;> try (simp [makeEv] at h; done)
  simp only [makeEv] at h
  split at h
  case isFalse => cases h
  rename_i h1
  cases dst with
  | none => cases h
  | some d =>
    simp only at h
    split at h
    · rename_i h2
      cases h
      have h2' : ∀ B, isFree { st with f := B } d = true := fun B => h2
      exact ⟨[(d, _)], (fun p hp => by rw [List.mem_singleton.1 hp]), rfl, fun B => by simp only [makeEv, h1, if_true, h2' B]; rfl⟩
    · cases h
theorem put_push (st : St) (dst : Option Nat) (v : PV) : ∃ add : List (Nat × PV), (∀ p ∈ add, dst = some p.1) ∧ (st.put dst v).f = add ++ st.f ∧ ∀ B, ({ st with f := B } : St).put dst v = { st.put dst v with f := add ++ B } := by
  cases dst with
  | none => exact ⟨[], (fun p hp => by cases hp), rfl, fun B => rfl⟩
  | some d => exact ⟨[(d, v)], (fun p hp => by rw [List.mem_singleton.1 hp]), rfl, fun B => rfl⟩
theorem write_put {st st1 : St} {lv sl : Nat} {p : Path} {cs : List PV} (h : writeSt st lv sl p cs = some st1) (dst : Option Nat) (v : PV) : ∃ add : List (Nat × PV), (∀ q ∈ add, dst = some q.1) ∧ (st1.put dst v).f = add ++ st.f ∧
    ∀ B, ∃ st2, writeSt { st with f := B } lv sl p cs = some st2 ∧ st2.put dst v = { st1.put dst v with f := add ++ B } := by
  obtain ⟨add, h1, h2, h3⟩ := put_push st1 dst v
  unfold writeSt at h
  refine ⟨add, h1, by rw [h2, mem_g h], fun B => ⟨{ st1 with f := B }, ?_, h3 B⟩⟩
  have := mem_f st (mset (st.own :: st.m) lv sl p cs) B
  rw [h] at this
  exact this
theorem push_clr (dst : Option Nat) (sz : Nat) (z : List PV) (x : PV) : Push dst fun st => clrEv st dst sz z x := by
  intro st st' h
  cases x <;> try (simp [clrEv] at h; done)
  case slr lv sl p off n sz' =>
    simp only [clrEv] at h
    split at h
    case isFalse => cases h
    rename_i h1
    split at h
    case h_2 => cases h
    rename_i cs hcs
    split at h
    case isFalse => cases h
    rename_i h2
    split at h
    case h_2 => cases h
    rename_i st1 hw
    cases h
    obtain ⟨add, a1, a2, a3⟩ := write_put hw dst (.tup [])
    refine ⟨add, a1, a2, fun B => ?_⟩
    obtain ⟨st2, b1, b2⟩ := a3 B
    simp only [clrEv, h1, if_true, hcs, h2, b1, b2]
  case lst o nl sz' xs =>
    unfold clrEv at h
    split at h
    · rename_i heq; cases heq
    · rename_i o' sz2 heq
      cases heq
      split at h
      · rename_i h1
        cases h
        obtain ⟨add, a1, a2, a3⟩ := put_push st dst (.tup [])
        exact ⟨add, a1, a2, fun B => by simp only [clrEv, h1, if_true, a3 B]⟩
      · cases h
    · cases h
theorem push_cpyTo (dst : Option Nat) (sz : Nat) (xs : List PV) (x : PV) : Push dst fun st => cpyTo st dst sz xs x := by
  intro st st' h
  cases x <;> try (simp [cpyTo] at h; done)
  case slr lv sl p off n sz' =>
    simp only [cpyTo] at h
    split at h
    case isFalse => cases h
    rename_i h1
    split at h
    case h_2 => cases h
    rename_i cs hcs
    split at h
    case isFalse => cases h
    rename_i h2
    split at h
    case h_2 => cases h
    rename_i st1 hw
    cases h
    obtain ⟨add, a1, a2, a3⟩ := write_put hw dst (.int .i64 (min n xs.length : Nat))
    refine ⟨add, a1, a2, fun B => ?_⟩
    obtain ⟨st2, b1, b2⟩ := a3 B
    simp only [cpyTo, h1, if_true, hcs, h2, b1, b2]
  case lst o nl sz' ys =>
    unfold cpyTo at h
    split at h
    · rename_i heq; cases heq
    · rename_i heq
      cases heq
      cases h
      obtain ⟨add, a1, a2, a3⟩ := put_push st dst (.int .i64 0)
      exact ⟨add, a1, a2, fun B => by simp only [cpyTo, a3 B]⟩
    · cases h
theorem push_cpy (dst : Option Nat) (sz : Nat) (x y : PV) : Push dst fun st => cpyEv st dst sz x y := by
  intro st st' h
  simp only [cpyEv] at h
  split at h
  · rename_i o nl sz' ys hd
    split at h
    · rename_i h1
      obtain ⟨add, a1, a2, a3⟩ := push_cpyTo dst sz ys x st st' h
      exact ⟨add, a1, a2, fun B => by simp only [cpyEv, hd, h1, if_true]; exact a3 B⟩
    · cases h
  · cases h
theorem push_cpys (dst : Option Nat) (x y : PV) : Push dst fun st => cpysEv st dst x y := by
  intro st st' h
  cases y <;> simp only [cpysEv] at h <;> try (cases h; done)
  exact push_cpyTo dst 1 _ x st st' h
theorem push_s2b (dst : Option Nat) (tag : Bool) (e : Nat) (x : PV) : Push dst fun st => s2bEv st tag dst e x := by
  intro st st' h
  cases x <;> simp only [s2bEv] at h <;> try (cases h; done)
  split at h
  · rename_i h1
    obtain ⟨add, a1, a2, a3⟩ := push_newList dst tag false 1 e _ st st' h
    exact ⟨add, a1, a2, fun B => by simp only [s2bEv, h1, if_true]; exact a3 B⟩
  · cases h
theorem frz1_f (st : St) (s j : Nat) (B : List (Nat × PV)) : frz1 { st with f := B } s j = (frz1 st s j).map fun s => { s with f := B } := by
  simp only [frz1]
  generalize get st.own s = q
  cases q with
  | none => rfl
  | some cs =>
    simp only
    split
    · split
      · generalize upd st.own s _ = q2
        cases q2 <;> rfl
      · rfl
    · rfl
    · rfl
theorem frz1_g {st st' : St} {s j : Nat} (h : frz1 st s j = some st') : st'.f = st.f := by
  simp only [frz1] at h
  split at h
  · split at h
    · split at h
      · split at h
        · cases h; rfl
        · cases h
      · cases h
    · cases h; rfl
    · cases h
  · cases h
theorem frzs_f (s : Nat) : ∀ (n j : Nat) (st : St) (B : List (Nat × PV)), frzs s n j { st with f := B } = (frzs s n j st).map fun s => { s with f := B }
  | 0, j, st, B => rfl
  | n + 1, j, st, B => by
    simp only [frzs, frz1_f]
    cases frz1 st s j with
    | none => rfl
    | some st1 => exact frzs_f s n (j + 1) st1 B
theorem frzs_g (s : Nat) : ∀ {n j : Nat} {st st' : St}, frzs s n j st = some st' → st'.f = st.f
  | 0, j, st, st', h => by simp only [frzs, Option.some.injEq] at h; subst h; rfl
  | n + 1, j, st, st', h => by
    simp only [frzs] at h
    split at h
    · rename_i st1 h1
      exact (frzs_g s h).trans (frz1_g h1)
    · cases h
theorem push_fload (dst : Option Nat) (ag : Bool) (sz : Nat) (x : PV) : Push dst fun st => floadEv st dst ag sz x := by
  intro st st' h
  cases x <;> simp only [floadEv] at h <;> try (cases h; done)
  rename_i l s p off
  split at h
  case isFalse => cases h
  rename_i h1
  split at h
  case h_2 => cases h
  rename_i st1 hf
  split at h
  case h_2 => cases h
  rename_i v hv
  cases h
  obtain ⟨add, a1, a2, a3⟩ := put_push st1 dst v
  refine ⟨add, a1, by rw [a2, frzs_g s hf], fun B => ?_⟩
  have := frzs_f s sz off st B
  rw [hf] at this
  simp only [floadEv, h1, if_true, this, Option.map_some, hv, a3 B]
theorem push_first (dst : Option Nat) (tag : Bool) (sz e : Nat) (xs : List PV) : Push dst fun st => firstList st tag dst sz e xs := by
  intro st st' h
  cases dst with
  | none => simp [firstList] at h
  | some d =>
    simp only [firstList] at h
    split at h
    · cases h
      exact ⟨[(d, _)], (fun p hp => by rw [List.mem_singleton.1 hp]), rfl, fun B => rfl⟩
    · rename_i x r
      split at h
      · split at h
        · rename_i h1
          cases h
          exact ⟨[(d, _)], (fun p hp => by rw [List.mem_singleton.1 hp]), rfl, fun B => by simp only [firstList, h1]; rfl⟩
        · rename_i q h1
          split at h
          · rename_i h2
            cases h
            exact ⟨[(d, _)], (fun p hp => by rw [List.mem_singleton.1 hp]), rfl, fun B => by simp only [firstList, h1, h2, if_true]; rfl⟩
          · cases h
      · cases h
        exact ⟨[(d, _)], (fun p hp => by rw [List.mem_singleton.1 hp]), rfl, fun B => rfl⟩
theorem push_app (dst : Option Nat) (tag : Bool) (sz bytes e : Nat) (x y : PV) : Push dst fun st => appEv st tag sz bytes e dst x y := by
  intro st st' h
  cases x <;> try (simp [appEv] at h; done)
  cases y <;> try (simp [appEv] at h; done)
  rename_i o nl sz1 xs o2 nl2 sz2 ys
  simp only [appEv] at h
  split at h
  case isFalse => cases h
  rename_i h1
  split at h
  case isFalse => cases h
  rename_i h2
  split at h
  · rename_i t
    split at h
    · rename_i q hq
      split at h
      · rename_i h3
        split at h
        · rename_i d tops' hu
          cases h
          exact ⟨[(d, _)], (fun p hp => by rw [List.mem_singleton.1 hp]), rfl, fun B => by simp only [appEv, h1, if_true, h2, hq, h3, hu]; rfl⟩
        · cases h
      · cases h
    · cases h
  · split at h
    · rename_i h3
      obtain ⟨add, a1, a2, a3⟩ := push_first dst tag sz e ys st st' h
      exact ⟨add, a1, a2, fun B => by simp only [appEv, h1, if_true, h2, h3]; exact a3 B⟩
    · cases h
theorem takeRow_f (st : St) (lv sl : Nat) (p : Path) (n sz : Nat) (B : List (Nat × PV)) : takeRow { st with f := B } lv sl p n sz = (takeRow st lv sl p n sz).map fun q => (q.1, { q.2 with f := B }) := by
  simp only [takeRow]
  cases p.getLast? with
  | none =>
    simp only
    split
    · generalize get st.own sl = q
      cases q with
      | none => rfl
      | some cs =>
        simp only
        split <;> rfl
    · rfl
  | some q =>
    simp only
    generalize mget (st.own :: st.m) lv sl p.dropLast = q1
    cases q1 with
    | none => rfl
    | some ps =>
      simp only
      split
      · split
        · rw [mem_f]
          generalize st.mem _ = q2
          cases q2 <;> rfl
        · rfl
      · rfl
theorem takeRow_g {st : St} {lv sl : Nat} {p : Path} {n sz : Nat} {q : List PV × St} (h : takeRow st lv sl p n sz = some q) : q.2.f = st.f := by
  simp only [takeRow] at h
  split at h
  · split at h
    · split at h
      · split at h
        · cases h; rfl
        · cases h
      · cases h
    · cases h
  · split at h
    · split at h
      · split at h
        · split at h
          · rename_i st1 h1
            cases h
            exact mem_g h1
          · cases h
        · cases h
      · cases h
    · cases h
theorem push_appr (dst : Option Nat) (sz bytes : Nat) (x y : PV) : Push dst fun st => apprEv st sz bytes dst x y := by
  intro st st' h
  cases y <;> try (simp [apprEv] at h; done)
  rename_i o2 nl2 sz2 ys
  simp only [apprEv] at h
  split at h
  case isFalse => cases h
  rename_i h1
  cases dst with
  | none => cases h
  | some d =>
    simp only at h
    split at h
    · -- nil
      rename_i sz1
      split at h
      case isFalse => cases h
      rename_i h2
      split at h
      · cases h
        exact ⟨[(d, _)], (fun p hp => by rw [List.mem_singleton.1 hp]), rfl, fun B => by simp only [apprEv, h1, if_true, h2]; rfl⟩
      · rename_i z zs
        split at h
        · rename_i h3
          cases h
          have h3' : ∀ B, isFree { st with f := B } d = true := fun B => h3
          exact ⟨[(d, _)], (fun p hp => by rw [List.mem_singleton.1 hp]), rfl, fun B => by simp only [apprEv, h1, if_true, h2, h3' B]; rfl⟩
        · cases h
    · -- a row
      rename_i lv sl p off n sz1
      split at h
      case isFalse => cases h
      rename_i h2
      split at h
      · cases h
        exact ⟨[(d, _)], (fun p hp => by rw [List.mem_singleton.1 hp]), rfl, fun B => by simp only [apprEv, h1, if_true, h2]; rfl⟩
      · rename_i z zs
        split at h
        case h_2 => cases h
        rename_i cs st1 htk
        split at h
        case isFalse => cases h
        rename_i h3
        split at h
        · rename_i h4
          cases h
          have h4' : ∀ B, isFree { st1 with f := B } d = true := fun B => h4
          refine ⟨[(d, _)], (fun p hp => by rw [List.mem_singleton.1 hp]), by have := takeRow_g htk; simp only at this; rw [this]; rfl, fun B => ?_⟩
          have := takeRow_f st lv sl p n sz B
          rw [htk] at this
          simp only [apprEv, h1, if_true, h2, this, Option.map_some, h3, h4' B]; rfl
        · cases h
    · cases h
theorem push_unpack (dst : Option Nat) (v : PV) (b : Bag) : Push dst fun st => unpack st dst v b := by
  intro st st' h
  unfold unpack at h
  split at h
  · rename_i h1 h2
    cases h
    obtain ⟨add, a1, a2, a3⟩ := put_push st dst v
    exact ⟨add, a1, a2, fun B => by simp only [unpack, h1, h2, a3 B]⟩
  · rename_i hno
    cases dst with
    | none => cases h
    | some d =>
      simp only at h
      split at h
      · rename_i h3
        cases h
        refine ⟨[(d, _)], (fun p hp => by rw [List.mem_singleton.1 hp]), rfl, fun B => ?_⟩
        have h3' : (b.obs.all (fun p => isFree { st with f := B } (bagName d p.1)) && b.tops.all (fun p => (get st.tops (bagName d p.1)).isNone)) = true := h3
        unfold unpack
        split
        · rename_i e1 e2; exact (hno e1 e2).elim
        · simp only [h3', if_true]; rfl
      · cases h
theorem push_call {K : Callee} (pr : Bool) (dst : Option Nat) (fv : PV) (vs : List PV) : Push dst fun st => callEv K pr st dst fv vs := by
  intro st st' h
  simp only [callEv] at h
  split at h
  · rename_i v b own' m' hk
    obtain ⟨add, a1, a2, a3⟩ := push_unpack dst v b _ _ h
    exact ⟨add, a1, a2, fun B => by simp only [callEv, hk]; exact a3 B⟩
  · cases h
theorem push_putO (dst : Option Nat) (o : Option PV) : Push dst fun st => putO st dst o := by
  intro st st' h
  cases o with
  | none => simp [putO] at h
  | some v =>
    simp only [putO, Option.some.injEq] at h
    subst h
    obtain ⟨add, a1, a2, a3⟩ := put_push st dst v
    exact ⟨add, a1, a2, fun B => by simp only [putO, a3 B]⟩
theorem push_op {K : Callee} (dst : Option Nat) (op : OpC) (vs : List PV) : Push dst fun st => opEv K dst op vs st := by
  have dflt : ∀ op : OpC, (∀ s : St, opEv K dst op vs s = match op.ev s.own s.m vs with | some v => some (s.put dst v) | none => none) → Push dst fun st => opEv K dst op vs st := by
    intro op e st st' h
    simp only [e] at h
    split at h
    · rename_i v hv
      cases h
      obtain ⟨add, a1, a2, a3⟩ := put_push st dst v
      exact ⟨add, a1, a2, fun B => by simp only [e, hv, a3 B]⟩
    · cases h
  cases op
  case store sz =>
    intro st st' h
    simp only [opEv, on2] at h
    split at h
    · rename_i x y
      obtain ⟨h1, h2⟩ := storeEv_f h
      exact ⟨[], (fun p hp => by cases hp), h1, fun B => by simp only [opEv, on2]; exact h2 B⟩
    · cases h
  case alloc z => exact push_newVar dst z
  case box =>
    intro st st' h
    simp only [opEv, on1] at h
    split at h
    · rename_i x
      obtain ⟨add, a1, a2, a3⟩ := push_newVar dst x.cells st st' h
      exact ⟨add, a1, a2, fun B => by simp only [opEv, on1]; exact a3 B⟩
    · cases h
  case nil tag sz e => exact push_newList dst tag true sz e []
  case mks sz bytes z =>
    intro st st' h
    simp only [opEv, on2] at h
    split at h
    · rename_i x y
      obtain ⟨add, a1, a2, a3⟩ := push_make dst sz bytes z x y st st' h
      exact ⟨add, a1, a2, fun B => by simp only [opEv, on2]; exact a3 B⟩
    · cases h
  case clr sz z =>
    intro st st' h
    simp only [opEv, on1] at h
    split at h
    · rename_i x
      obtain ⟨add, a1, a2, a3⟩ := push_clr dst sz z x st st' h
      exact ⟨add, a1, a2, fun B => by simp only [opEv, on1]; exact a3 B⟩
    · cases h
  case cpy sz =>
    intro st st' h
    simp only [opEv, on2] at h
    split at h
    · rename_i x y
      obtain ⟨add, a1, a2, a3⟩ := push_cpy dst sz x y st st' h
      exact ⟨add, a1, a2, fun B => by simp only [opEv, on2]; exact a3 B⟩
    · cases h
  case cpys =>
    intro st st' h
    simp only [opEv, on2] at h
    split at h
    · rename_i x y
      obtain ⟨add, a1, a2, a3⟩ := push_cpys dst x y st st' h
      exact ⟨add, a1, a2, fun B => by simp only [opEv, on2]; exact a3 B⟩
    · cases h
  case s2b tag e =>
    intro st st' h
    simp only [opEv, on1] at h
    split at h
    · rename_i x
      obtain ⟨add, a1, a2, a3⟩ := push_s2b dst tag e x st st' h
      exact ⟨add, a1, a2, fun B => by simp only [opEv, on1]; exact a3 B⟩
    · cases h
  case fload ag sz =>
    intro st st' h
    simp only [opEv, on1] at h
    split at h
    · rename_i x
      obtain ⟨add, a1, a2, a3⟩ := push_fload dst ag sz x st st' h
      exact ⟨add, a1, a2, fun B => by simp only [opEv, on1]; exact a3 B⟩
    · cases h
  case bsl tag sz e =>
    intro st st' h
    simp only [opEv] at h
    split at h
    · rename_i hm
      split at h
      · cases dst with
        | none => simp [rowLit] at h
        | some d =>
          simp only [rowLit] at h
          split at h
          · rename_i hf
            cases h
            have hf' : ∀ B, isFree { st with f := B } d = true := fun B => hf
            exact ⟨[(d, _)], (fun p hp => by rw [List.mem_singleton.1 hp]), rfl, fun B => by simp only [opEv, hm, if_true, rowLit, hf' B]; rfl⟩
          · cases h
      · cases h
    · rename_i hm
      split at h
      · rename_i h1
        obtain ⟨add, a1, a2, a3⟩ := push_newList dst tag false sz e _ st st' h
        exact ⟨add, a1, a2, fun B => by simp only [opEv, hm, if_false, h1, if_true]; exact a3 B⟩
      · cases h
  case app tag sz bytes e =>
    intro st st' h
    simp only [opEv, on2] at h
    split at h
    · rename_i x y
      split at h
      · rename_i y' hy
        obtain ⟨add, a1, a2, a3⟩ := push_app dst tag sz bytes e x y' st st' h
        exact ⟨add, a1, a2, fun B => by simp only [opEv, on2, hy]; exact a3 B⟩
      · cases h
    · cases h
  case appr sz bytes e =>
    intro st st' h
    simp only [opEv, on2] at h
    split at h
    · rename_i x y
      split at h
      · rename_i y' hy
        obtain ⟨add, a1, a2, a3⟩ := push_appr dst sz bytes x y' st st' h
        exact ⟨add, a1, a2, fun B => by simp only [opEv, on2, hy]; exact a3 B⟩
      · cases h
    · cases h
  case call f pr => exact push_call pr dst (.fn f []) vs
  case callv =>
    intro st st' h
    cases vs with
    | nil => simp [opEv] at h
    | cons fv r => exact push_call false dst fv r st st' h
  case callh f => exact push_putO dst _
  case callvh => exact push_putO dst _
  all_goals exact dflt _ fun s => rfl
/-- The same for a whole operation, in whatever frame its slots read the same. -/
theorem cop_push {K : Callee} {c : COp} {st st' : St} (h : c.ev K st = some st') : ∃ add : List (Nat × PV), (∀ p ∈ add, c.dst = some p.1) ∧ st'.f = add ++ st.f ∧
    ∀ B, (∀ s ∈ slotsOf c, get B s = get st.f s) → c.ev K { st with f := B } = some { st' with f := add ++ B } := by
  have hevs : ∀ {vs B}, evs st.f c.args = some vs → (∀ s ∈ slotsOf c, get B s = get st.f s) → evs B c.args = some vs := by
    intro vs B hvs hB
    rw [← hvs]
    exact evs_congr fun s hs => hB s (by simp only [slotsOf, List.mem_append]; exact .inr hs)
  simp only [COp.ev] at h
  split at h
  · rename_i hg
    split at h
    · rename_i vs hvs
      obtain ⟨add, a1, a2, a3⟩ := push_op c.dst c.op vs st st' h
      exact ⟨add, a1, a2, fun B hB => by simp only [COp.ev, hg, hevs hvs hB]; exact a3 B⟩
    · cases h
  · rename_i g want hg
    have hgs : ∀ {B}, (∀ s ∈ slotsOf c, get B s = get st.f s) → get B g = get st.f g := fun hB => hB g (by simp [slotsOf, hg])
    split at h
    · rename_i b hgb
      split at h
      · rename_i hb
        split at h
        · rename_i vs hvs
          obtain ⟨add, a1, a2, a3⟩ := push_op c.dst c.op vs st st' h
          exact ⟨add, a1, a2, fun B hB => by simp only [COp.ev, hg, hgs hB, hgb, hb, if_true, hevs hvs hB]; exact a3 B⟩
        · cases h
      · rename_i hb
        cases h
        obtain ⟨add, a1, a2, a3⟩ := put_push st c.dst .und
        exact ⟨add, a1, a2, fun B hB => by simp only [COp.ev, hg, hgs hB, hgb, hb, if_false, Bool.false_eq_true, a3 B]⟩
    · rename_i hgb
      cases h
      obtain ⟨add, a1, a2, a3⟩ := put_push st c.dst .und
      exact ⟨add, a1, a2, fun B hB => by simp only [COp.ev, hg, hgs hB, hgb, a3 B]⟩
    · cases h
end Go.Proofs.Ytnagbdodcjlbjaa.ZJM
