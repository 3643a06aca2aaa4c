/- The ideal machine without a bound: its limit. -/
import Derived.Test.YtmffcpiffkclgaaZJ1
set_option linter.unusedSimpArgs false
set_option linter.unusedVariables false
namespace Go.Proofs.Ytmffcpiffkclgaa.ZJM
noncomputable def lim {α : Type} (F : Nat → Option α) : Option α := open Classical in if h : ∃ v n,F n = some v then some h.choose else none
def Mono {α : Type} (F : Nat → Option α) : Prop := ∀ n v,F n = some v → ∀ m,n ≤ m → F m = some v
theorem lim_some {α : Type} {F : Nat → Option α} (hF : Mono F) {v : α} : lim F = some v ↔ ∃ n,F n = some v := by
 unfold lim
 constructor
 ·intro h
  split at h
  ·rename_i hh
   cases h
   exact hh.choose_spec
  ·cases h
 ·rintro ⟨n,hn⟩
  have hh : ∃ v n,F n = some v := ⟨v,n,hn⟩
  rw [dif_pos hh]
  obtain ⟨m,hm⟩ := hh.choose_spec
  have h1 := hF _ _ hn (max n m) (Nat.le_max_left ..)
  have h2 := hF _ _ hm (max n m) (Nat.le_max_right ..)
  rw [h1] at h2
  exact h2.symm
theorem lim_const {α : Type} (x : Option α) : lim (fun _ => x) = x := by
 cases x with
 | none => unfold lim; rw [dif_neg]; rintro ⟨v,n,h⟩; cases h
 | some v => exact (lim_some (F := fun _ => some v) (fun _ _ h _ _ => h)).2 ⟨0,rfl⟩
theorem opt_ext {α : Type} {x y : Option α} (h : ∀ v,x = some v ↔ y = some v) : x = y := by
 cases x with
 | none => cases y with
  | none => rfl
  | some v => exact absurd ((h v).2 rfl) (by simp)
 | some v => exact ((h v).1 rfl).symm
def Kle (K K' : Callee) : Prop := ∀ pr fv vs m r,K pr fv vs m = some r → K' pr fv vs m = some r
theorem callEv_mono {K K' : Callee} (h : Kle K K') {st st' : St} {pr : Bool} {d : Option Nat} {fv : PV} {vs : List PV} (he : callEv K pr st d fv vs = some st') : callEv K' pr st d fv vs = some st' := by
 unfold callEv at he ⊢
 split at he
 ·rename_i v b own' m' hk
  rw [h _ _ _ _ _ hk]; exact he
 ·cases he
theorem callH_mono {K K' : Callee} (h : Kle K K') {fv : PV} {vs : List PV} {v : PV} (he : callH K fv vs = some v) : callH K' fv vs = some v := by
 unfold callH at he ⊢
 split at he
 ·rename_i hd
  rw [if_pos hd]
  split at he
  ·rename_i v' b hk; rw [h _ _ _ _ _ hk]; exact he
  ·cases he
 ·cases he
theorem callHv_mono {K K' : Callee} (h : Kle K K') {vs : List PV} {v : PV} (he : callHv K vs = some v) : callHv K' vs = some v := by
 unfold callHv at he ⊢
 split at he
 ·exact callH_mono h he
 ·cases he
theorem putO_mono {st st' : St} {d : Option Nat} {x y : Option PV} (h : ∀ v,x = some v → y = some v) (he : putO st d x = some st') : putO st d y = some st' := by
 cases x with
 | none => cases he
 | some v => rw [h v rfl]; exact he
theorem opEv_mono {K K' : Callee} (h : Kle K K') {d : Option Nat} {op : OpC} {vs : List PV} {st st' : St} (he : opEv K d op vs st = some st') : opEv K' d op vs st = some st' := by
 cases op <;> simp only [opEv] at he ⊢ <;> first
  | exact he
  | exact callEv_mono h he
  | exact putO_mono (fun _ x => callH_mono h x) he
  | exact putO_mono (fun _ x => callHv_mono h x) he
  | (split at he <;> first | exact callEv_mono h he | cases he)
theorem cop_mono {K K' : Callee} (h : Kle K K') {o : COp} {st st' : St} (he : o.ev K st = some st') : o.ev K' st = some st' := by
 unfold COp.ev at he ⊢
 split at he
 ·split at he
  ·exact opEv_mono h he
  ·cases he
 ·split at he
  ·split at he
   ·rename_i hb
    rw [if_pos hb]
    split at he
    ·exact opEv_mono h he
    ·cases he
   ·rename_i hb
    rw [if_neg hb]; exact he
  ·exact he
  ·cases he
theorem reg_mono {K K' : Callee} (h : Kle K K') : ∀ {ops : List COp} {st st' : St},regEv K ops st = some st' → regEv K' ops st = some st'
 | [],st,st',he => he
 | o :: r,st,st',he => by
  simp only [regEv] at he ⊢
  split at he
  ·rename_i st1 h1
   rw [cop_mono h h1]; exact reg_mono h he
  ·cases he
theorem opH_mono {K K' : Callee} (h : Kle K K') {op : OpC} {vs : List PV} {st : St} {v : PV} (he : opH K op vs st = some v) : opH K' op vs st = some v := by
 cases op <;> simp only [opH] at he ⊢ <;> first
  | exact he
  | exact callH_mono h he
  | exact callHv_mono h he
  | (rename_i f pr; cases pr <;> simp only [Bool.false_eq_true,if_false,if_true] at he ⊢ <;> first | exact callH_mono h he | (cases he; done))
  | (split at he <;> first | exact callH_mono h he | cases he)
theorem copH_mono {K K' : Callee} (h : Kle K K') {o : COp} {st : St} {v : PV} (he : o.evH K st = some v) : o.evH K' st = some v := by
 unfold COp.evH at he ⊢
 split at he
 ·split at he
  ·exact opH_mono h he
  ·cases he
 ·split at he
  ·split at he
   ·rename_i hb
    rw [if_pos hb]
    split at he
    ·exact opH_mono h he
    ·cases he
   ·rename_i hb
    rw [if_neg hb]; exact he
  ·exact he
  ·cases he
theorem head_mono {K K' : Callee} (h : Kle K K') : ∀ {ops : List COp} {st st' : St},headEv K ops st = some st' → headEv K' ops st = some st'
 | [],st,st',he => he
 | o :: r,st,st',he => by
  simp only [headEv] at he ⊢
  split at he
  ·rename_i v h1
   rw [copH_mono h h1]; exact head_mono h he
  ·cases he
theorem same_mono {K K' : Callee} (h : Kle K K') {c : COp} {st : St} {v : PV} (he : (match c.evH K st with | some v' => v'.beq v | none => false) = true) : (match c.evH K' st with | some v' => v'.beq v | none => false) = true := by
 split at he
 ·rename_i v' h1
  rw [copH_mono h h1]; exact he
 ·cases he
theorem xPast_mono {K K' : Callee} (h : Kle K K') {row : Nat} {c : COp} {st : St} {v : PV} : ∀ {l : List XR},xPast K row c st v l = true → xPast K' row c st v l = true
 | [],_ => rfl
 | .eff e own m :: r,he => by
  simp only [xPast,Bool.and_eq_true,Bool.or_eq_true] at he ⊢
  exact ⟨he.1.imp id (same_mono h),xPast_mono h he.2⟩
 | .rd _ _ _ _ :: r,he => by
  simp only [xPast] at he ⊢
  exact xPast_mono h he
theorem xLate_mono {K K' : Callee} (h : Kle K K') {row : Nat} {st : St} : ∀ {l : List XR},xLate K row st l = true → xLate K' row st l = true
 | [],_ => rfl
 | .rd j cj F v :: r,he => by
  simp only [xLate,Bool.and_eq_true,Bool.or_eq_true] at he ⊢
  exact ⟨he.1.imp id (same_mono h),xLate_mono h he.2⟩
 | .eff _ _ _ :: r,he => by
  simp only [xLate] at he ⊢
  exact xLate_mono h he
theorem xEv_mono {K K' : Callee} (h : Kle K K') {rows : List Nat} : ∀ {ops : List COp} {i : Nat} {done : List XR} {st st' : St},xEv K rows i done ops st = some st' → xEv K' rows i done ops st = some st'
 | [],i,done,st,st',he => he
 | c :: r,i,done,st,st',he => by
  simp only [xEv] at he ⊢
  split at he
  ·split at he
   ·rename_i v h1
    rw [copH_mono h h1]
    simp only
    split at he
    ·rename_i h2
     simp only [Bool.or_eq_true] at h2
     rw [if_pos (by simp only [Bool.or_eq_true]; exact h2.imp id (xPast_mono h))]
     exact xEv_mono h he
    ·cases he
   ·cases he
  ·split at he
   ·rename_i st1 h1
    rw [cop_mono h h1]
    simp only
    split at he
    ·rename_i h2
     rw [if_pos (xLate_mono h h2)]
     exact xEv_mono h he
    ·cases he
   ·cases he
theorem draw_mono {K K' : Callee} (h : Kle K K') {k : Nat} {rows : List Nat} {ops : List COp} {st st' : St} (he : drawEv K k rows ops st = some st') : drawEv K' k rows ops st = some st' := by
 unfold drawEv at he ⊢
 split at he
 ·rename_i hx
  rw [if_pos hx]
  exact xEv_mono h he
 ·rename_i hx
  rw [if_neg hx]
  split at he
  ·rename_i st1 h1
   rw [head_mono h h1]; exact reg_mono h he
  ·cases he
theorem loop_mono {mask : St → Option St} {b b' : St → Option (Ex × St)} (h : ∀ st r,b st = some r → b' st = some r) : ∀ {n n' : Nat} {st : St} {r : Ex × St},n ≤ n' → loopN mask b n st = some r → loopN mask b' n' st = some r
 | 0,_,_,_,_,he => by simp [loopN] at he
 | n + 1,n',st,r,hn,he => by
  obtain ⟨m,rfl⟩ : ∃ m,n' = m + 1 := ⟨n' - 1,by omega⟩
  simp only [loopN] at he ⊢
  split at he
  ·cases he
  ·rename_i st1 h1
   cases hb : b st1 with
   | none => rw [hb] at he; cases he
   | some q =>
    rw [hb] at he
    simp only [h1,h _ _ hb]
    obtain ⟨e,st2⟩ := q
    cases e with
    | normal => exact loop_mono h (by omega) he
    | exit id => exact he
    | ret => exact he
theorem range_mono {K K' : Callee} (h : Kle K K') {g : Opd} {j : Nat} {fs : List Nat} {f : FuncId} {i : Nat} {st : St} {r : Ex × St} (he : rangeEv K g j fs f i st = some r) : rangeEv K' g j fs f i st = some r := by
 unfold rangeEv at he ⊢
 split at he
 ·split at he
  ·rename_i hk; rw [h _ _ _ _ _ hk]; exact he
  ·cases he
 ·cases he
theorem ev_mono {K K' : Callee} (h : Kle K K') : ∀ {cd : Cd} {n n' : Nat} {st : St} {r : Ex × St},n ≤ n' → cd.ev K n st = some r → cd.ev K' n' st = some r := by
 intro cd
 induction cd with
 | skip => intro n n' st r _ he; exact he
 | reg ops =>
  intro n n' st r _ he
  simp only [Cd.ev] at he ⊢
  split at he
  ·rename_i h1; rw [reg_mono h h1]; exact he
  ·cases he
 | draw k rows ops =>
  intro n n' st r _ he
  simp only [Cd.ev] at he ⊢
  split at he
  ·rename_i h1; rw [draw_mono h h1]; exact he
  ·cases he
 | seq a b iha ihb =>
  intro n n' st r hn he
  simp only [Cd.ev] at he ⊢
  cases ha : a.ev K n st with
  | none => rw [ha] at he; cases he
  | some q =>
   rw [ha] at he
   rw [iha hn ha]
   obtain ⟨e,st1⟩ := q
   cases e with
   | normal => exact ihb hn he
   | exit id => exact he
   | ret => exact he
 | cond c a b iha ihb =>
  intro n n' st r hn he
  simp only [Cd.ev] at he ⊢
  split at he
  ·exact iha hn he
  ·exact ihb hn he
  ·cases he
 | block id a iha =>
  intro n n' st r hn he
  simp only [Cd.ev] at he ⊢
  cases ha : a.ev K n st with
  | none => rw [ha] at he; cases he
  | some q => rw [ha] at he; rw [iha hn ha]; exact he
 | loop fs ks ts ds a iha =>
  intro n n' st r hn he
  simp only [Cd.ev] at he ⊢
  exact loop_mono (fun st r h1 => iha hn h1) hn he
 | range g j fs f i => intro n n' st r _ he; exact range_mono h he
 | exit id => intro n n' st r _ he; exact he
 | ret => intro n n' st r _ he; exact he
theorem apply_mono (E : Env) : ∀ {k k' : Nat},k ≤ k' → Kle (apply E k) (apply E k')
 | 0,_,_ => fun pr fv vs m r h => by simp [apply] at h
 | k + 1,k',hk => by
  obtain ⟨k',rfl⟩ : ∃ m,k' = m + 1 := ⟨k' - 1,by omega⟩
  intro pr fv vs m r h
  have ih := apply_mono E (show k ≤ k' by omega)
  simp only [apply] at h ⊢
  cases fv with
  | fn f cap =>
   simp only at h ⊢
   cases hbn : bndOf cap with
   | some as => rw [hbn] at h; exact ih _ _ _ _ _ h
   | none =>
   rw [hbn] at h
   simp only at h ⊢
   cases hp : E.prim f with
   | some F => rw [hp] at h; exact h
   | none =>
    rw [hp] at h
    simp only at h ⊢
    cases hc : E.fns f with
    | none => rw [hc] at h; cases h
    | some c =>
     rw [hc] at h
     simp only at h ⊢
     split at h
     ·rename_i hl
      rw [if_pos hl]
      cases hb : c.body.ev (apply E k) k { f := numbered 0 (vs ++ cap.map PV.untag),tops := [],own := [],dead := [],m := m } with
      | none => rw [hb] at h; cases h
      | some q =>
       rw [hb] at h
       rw [ev_mono ih (by omega) hb]
       exact h
     ·cases h
  | rnd f i fs cap lv j =>
   simp only at h ⊢
   cases hc : E.fns f with
   | none => rw [hc] at h; cases h
   | some c =>
    rw [hc] at h
    simp only at h ⊢
    cases hr : c.rds[i]? with
    | none => rw [hr] at h; cases h
    | some rd =>
     rw [hr] at h
     simp only at h ⊢
     split at h
     ·rename_i hl
      rw [if_pos hl]
      cases hb : rd.assign.ev (apply E k) k { f := zipf rd.ps vs ++ zipf fs (cap.map PV.untag),tops := [],own := [],dead := [],m := m } with
      | none => rw [hb] at h; cases h
      | some q =>
       rw [hb] at h
       rw [ev_mono ih (by omega) hb]
       obtain ⟨e,st1⟩ := q
       cases e with
       | normal =>
        simp only at h ⊢
        split at h
        ·rename_i hm
         split at h
         ·rename_i m1 hm1
          cases hb2 : rd.body.ev (apply E k) k { st1 with m := m1 } with
          | none => rw [hb2] at h; cases h
          | some q2 =>
           rw [hb2] at h
           rw [ev_mono ih (by omega) hb2]
           exact h
         ·cases h
        ·cases h
       | exit id => cases h
       | ret => cases h
     ·cases h
  | _ => cases h
noncomputable def app (E : Env) : Callee := fun pr fv vs m => lim fun k => apply E k pr fv vs m
theorem app_mono (E : Env) (pr : Bool) (fv : PV) (vs : List PV) (m : Mem) : Mono fun k => apply E k pr fv vs m := fun n v h m' hm => apply_mono E hm _ _ _ _ _ h
theorem app_some {E : Env} {pr : Bool} {fv : PV} {vs : List PV} {m : Mem} {r : PV × Bag × Mem} : app E pr fv vs m = some r ↔ ∃ k,apply E k pr fv vs m = some r := lim_some (app_mono E pr fv vs m)
theorem apply_app (E : Env) (k : Nat) : Kle (apply E k) (app E) := fun pr fv vs m r h => app_some.2 ⟨k,h⟩
noncomputable def Cd.run (K : Callee) (cd : Cd) (st : St) : Option (Ex × St) := lim fun n => cd.ev K n st
theorem run_mono (K : Callee) (cd : Cd) (st : St) : Mono fun n => cd.ev K n st := fun n v h m hm => ev_mono (fun _ _ _ _ _ h => h) hm h
theorem run_some {K : Callee} {cd : Cd} {st : St} {r : Ex × St} : cd.run K st = some r ↔ ∃ n,cd.ev K n st = some r := lim_some (run_mono K cd st)
theorem run_skip (K : Callee) (st : St) : Cd.skip.run K st = some (.normal,st) := lim_const _
theorem run_exit (K : Callee) (id : Nat) (st : St) : (Cd.exit id).run K st = some (.exit id,st) := lim_const _
theorem run_ret (K : Callee) (st : St) : Cd.ret.run K st = some (.ret,st) := lim_const _
theorem run_reg (K : Callee) (ops : List COp) (st : St) : (Cd.reg ops).run K st = match regEv K ops st with | some st' => some (.normal,st') | none => none := lim_const _
theorem run_range (K : Callee) (g : Opd) (j : Nat) (fs : List Nat) (f : FuncId) (i : Nat) (st : St) : (Cd.range g j fs f i).run K st = rangeEv K g j fs f i st := lim_const _
theorem run_draw (K : Callee) (k : Nat) (rows : List Nat) (ops : List COp) (st : St) : (Cd.draw k rows ops).run K st = match drawEv K k rows ops st with | some st' => some (.normal,st') | none => none := lim_const _
theorem run_cond (K : Callee) (c : Opd) (a b : Cd) (st : St) : (Cd.cond c a b).run K st = match c.ev st.f with | some (.bool true) => a.run K st | some (.bool false) => b.run K st | _ => none := by
 unfold Cd.run
 simp only [Cd.ev]
 cases c.ev st.f with
 | none => exact lim_const _
 | some v => cases v <;> first | exact lim_const _ | (rename_i b; cases b <;> rfl)
theorem run_seq (K : Callee) (a b : Cd) (st : St) : (Cd.seq a b).run K st = match a.run K st with | some (.normal,st') => b.run K st' | r => r := by
 refine opt_ext fun v => ?_
 rw [run_some]
 simp only [Cd.ev]
 constructor
 ·rintro ⟨n,h⟩
  cases ha : a.ev K n st with
  | none => rw [ha] at h; cases h
  | some q =>
   rw [ha] at h
   rw [run_some.2 ⟨n,ha⟩]
   obtain ⟨e,st1⟩ := q
   cases e with
   | normal => exact run_some.2 ⟨n,h⟩
   | exit id => exact h
   | ret => exact h
 ·intro h
  cases ha : a.run K st with
  | none => rw [ha] at h; cases h
  | some q =>
   rw [ha] at h
   obtain ⟨n,hn⟩ := run_some.1 ha
   obtain ⟨e,st1⟩ := q
   cases e with
   | normal =>
    obtain ⟨n',hn'⟩ := run_some.1 h
    refine ⟨max n n',?_⟩
    have h1 := run_mono K a st n _ hn _ (Nat.le_max_left n n')
    simp only at h1
    rw [h1]
    exact run_mono K b st1 n' _ hn' _ (Nat.le_max_right ..)
   | exit id => exact ⟨n,by rw [hn]; exact h⟩
   | ret => exact ⟨n,by rw [hn]; exact h⟩
theorem run_block (K : Callee) (id : Nat) (a : Cd) (st : St) : (Cd.block id a).run K st = match a.run K st with | some (.exit id',st') => if (id' == id) = true then some (.normal,st') else some (.exit id',st') | r => r := by
 refine opt_ext fun v => ?_
 rw [run_some]
 simp only [Cd.ev]
 constructor
 ·rintro ⟨n,h⟩
  cases ha : a.ev K n st with
  | none => rw [ha] at h; cases h
  | some q => rw [ha] at h; rw [run_some.2 ⟨n,ha⟩]; exact h
 ·intro h
  cases ha : a.run K st with
  | none => rw [ha] at h; cases h
  | some q =>
   rw [ha] at h
   obtain ⟨n,hn⟩ := run_some.1 ha
   exact ⟨n,by rw [hn]; exact h⟩
noncomputable def loopW (mask : St → Option St) (body : St → Option (Ex × St)) (st : St) : Option (Ex × St) := lim fun n => loopN mask body n st
theorem loopW_mono (mask : St → Option St) (body : St → Option (Ex × St)) (st : St) : Mono fun n => loopN mask body n st := fun n v h m hm => loop_mono (fun _ _ h => h) hm h
theorem loopW_some {mask : St → Option St} {body : St → Option (Ex × St)} {st : St} {r : Ex × St} : loopW mask body st = some r ↔ ∃ n,loopN mask body n st = some r := lim_some (loopW_mono mask body st)
theorem run_loop (K : Callee) (fs ks ts ds : List Nat) (a : Cd) (st : St) : (Cd.loop fs ks ts ds a).run K st = loopW (maskSt fs ks ts ds) (a.run K) st := by
 refine opt_ext fun v => ?_
 rw [run_some,loopW_some]
 simp only [Cd.ev]
 constructor
 ·rintro ⟨n,h⟩
  exact ⟨n,loop_mono (fun st r h1 => run_some.2 ⟨n,h1⟩) (Nat.le_refl n) h⟩
 ·rintro ⟨n,h⟩
  have key : ∀ (n : Nat) (st : St),loopN (maskSt fs ks ts ds) (a.run K) n st = some v → ∃ N,n ≤ N ∧ loopN (maskSt fs ks ts ds) (a.ev K N) n st = some v := by
   intro n
   induction n with
   | zero => intro st h; simp [loopN] at h
   | succ n ih =>
    intro st h
    simp only [loopN] at h ⊢
    split at h
    ·cases h
    ·rename_i st1 h1
     cases hb : a.run K st1 with
     | none => rw [hb] at h; cases h
     | some q =>
      rw [hb] at h
      obtain ⟨N1,hN1⟩ := run_some.1 hb
      obtain ⟨e,st2⟩ := q
      cases e with
      | normal =>
       obtain ⟨N2,hN,hN2⟩ := ih st2 h
       refine ⟨max (n + 1) (max N1 N2),Nat.le_max_left ..,?_⟩
       have hb' := run_mono K a st1 N1 _ hN1 (max (n + 1) (max N1 N2)) (by omega)
       simp only at hb'
       simp only [hb']
       exact loop_mono (fun st r h => run_mono K a st N2 _ h _ (by omega)) (Nat.le_refl n) hN2
      | exit id => exact ⟨max (n + 1) N1,Nat.le_max_left ..,by have hb' := run_mono K a st1 N1 _ hN1 (max (n + 1) N1) (by omega); simp only at hb'; simp only [hb']; exact h⟩
      | ret => exact ⟨max (n + 1) N1,Nat.le_max_left ..,by have hb' := run_mono K a st1 N1 _ hN1 (max (n + 1) N1) (by omega); simp only at hb'; simp only [hb']; exact h⟩
  obtain ⟨N,hN,h2⟩ := key n st h
  exact ⟨N,loop_mono (fun _ _ h => h) hN h2⟩
section
variable {E : Env}
theorem callEv_fin {st st' : St} {pr : Bool} {d : Option Nat} {fv : PV} {vs : List PV} (he : callEv (app E) pr st d fv vs = some st') : ∃ k,callEv (apply E k) pr st d fv vs = some st' := by
 unfold callEv at he ⊢
 split at he
 ·rename_i v b own' m' hk
  obtain ⟨k,hk⟩ := app_some.1 hk
  exact ⟨k,by rw [hk]; exact he⟩
 ·cases he
theorem callH_fin {fv : PV} {vs : List PV} {v : PV} (he : callH (app E) fv vs = some v) : ∃ k,callH (apply E k) fv vs = some v := by
 unfold callH at he ⊢
 split at he
 ·rename_i hd
  simp only [if_pos hd]
  split at he
  ·rename_i v' b hk
   obtain ⟨k,hk⟩ := app_some.1 hk
   exact ⟨k,by rw [hk]; exact he⟩
  ·cases he
 ·cases he
theorem callHv_fin {vs : List PV} {v : PV} (he : callHv (app E) vs = some v) : ∃ k,callHv (apply E k) vs = some v := by
 unfold callHv at he ⊢
 split at he
 ·exact callH_fin he
 ·cases he
theorem putO_fin {st st' : St} {d : Option Nat} {x : Option PV} {y : Nat → Option PV} (h : ∀ v,x = some v → ∃ k,y k = some v) (he : putO st d x = some st') : ∃ k,putO st d (y k) = some st' := by
 cases x with
 | none => cases he
 | some v => obtain ⟨k,hk⟩ := h v rfl; exact ⟨k,by rw [hk]; exact he⟩
theorem opEv_fin {d : Option Nat} {op : OpC} {vs : List PV} {st st' : St} (he : opEv (app E) d op vs st = some st') : ∃ k,opEv (apply E k) d op vs st = some st' := by
 cases op <;> simp only [opEv] at he ⊢ <;> first
  | exact ⟨0,he⟩
  | exact callEv_fin he
  | exact putO_fin (y := fun k => callH (apply E k) _ _) (fun _ x => callH_fin x) he
  | exact putO_fin (y := fun k => callHv (apply E k) _) (fun _ x => callHv_fin x) he
  | (split at he <;> first | exact callEv_fin he | cases he)
theorem cop_fin {o : COp} {st st' : St} (he : o.ev (app E) st = some st') : ∃ k,o.ev (apply E k) st = some st' := by
 unfold COp.ev at he ⊢
 split at he
 ·split at he
  ·exact opEv_fin he
  ·cases he
 ·split at he
  ·split at he
   ·rename_i hb
    simp only [if_pos hb]
    split at he
    ·exact opEv_fin he
    ·cases he
   ·rename_i hb
    simp only [if_neg hb]; exact ⟨0,he⟩
  ·exact ⟨0,he⟩
  ·cases he
theorem reg_fin : ∀ {ops : List COp} {st st' : St},regEv (app E) ops st = some st' → ∃ k,regEv (apply E k) ops st = some st'
 | [],st,st',he => ⟨0,he⟩
 | o :: r,st,st',he => by
  simp only [regEv] at he ⊢
  split at he
  ·rename_i st1 h1
   obtain ⟨k1,h1⟩ := cop_fin h1
   obtain ⟨k2,h2⟩ := reg_fin he
   refine ⟨max k1 k2,?_⟩
   rw [cop_mono (apply_mono E (Nat.le_max_left ..)) h1]
   exact reg_mono (apply_mono E (Nat.le_max_right ..)) h2
  ·cases he
theorem opH_fin {op : OpC} {vs : List PV} {st : St} {v : PV} (he : opH (app E) op vs st = some v) : ∃ k,opH (apply E k) op vs st = some v := by
 cases op <;> simp only [opH] at he ⊢ <;> first
  | exact ⟨0,he⟩
  | exact callH_fin he
  | exact callHv_fin he
  | (rename_i f pr; cases pr <;> simp only [Bool.false_eq_true,if_false,if_true] at he ⊢ <;> first | exact callH_fin he | (cases he; done))
  | (split at he <;> first | exact callH_fin he | cases he)
theorem copH_fin {o : COp} {st : St} {v : PV} (he : o.evH (app E) st = some v) : ∃ k,o.evH (apply E k) st = some v := by
 unfold COp.evH at he ⊢
 split at he
 ·split at he
  ·exact opH_fin he
  ·cases he
 ·split at he
  ·split at he
   ·rename_i hb
    simp only [if_pos hb]
    split at he
    ·exact opH_fin he
    ·cases he
   ·rename_i hb
    simp only [if_neg hb]; exact ⟨0,he⟩
  ·exact ⟨0,he⟩
  ·cases he
theorem head_fin : ∀ {ops : List COp} {st st' : St},headEv (app E) ops st = some st' → ∃ k,headEv (apply E k) ops st = some st'
 | [],st,st',he => ⟨0,he⟩
 | o :: r,st,st',he => by
  simp only [headEv] at he ⊢
  split at he
  ·rename_i st1 h1
   obtain ⟨k1,h1⟩ := copH_fin h1
   obtain ⟨k2,h2⟩ := head_fin he
   refine ⟨max k1 k2,?_⟩
   rw [copH_mono (apply_mono E (Nat.le_max_left ..)) h1]
   exact head_mono (apply_mono E (Nat.le_max_right ..)) h2
  ·cases he
theorem same_fin {c : COp} {st : St} {v : PV} (he : (match c.evH (app E) st with | some v' => v'.beq v | none => false) = true) : ∃ n,(match c.evH (apply E n) st with | some v' => v'.beq v | none => false) = true := by
 split at he
 ·rename_i v' h1
  obtain ⟨n,h2⟩ := copH_fin h1
  exact ⟨n,by rw [h2]; exact he⟩
 ·cases he
theorem xPast_fin {row : Nat} {c : COp} {st : St} {v : PV} : ∀ {l : List XR},xPast (app E) row c st v l = true → ∃ n,xPast (apply E n) row c st v l = true
 | [],_ => ⟨0,rfl⟩
 | .eff e own m :: r,he => by
  simp only [xPast,Bool.and_eq_true,Bool.or_eq_true] at he
  obtain ⟨k2,h2⟩ := xPast_fin he.2
  rcases he.1 with h1 | h1
  ·exact ⟨k2,by simp only [xPast,h1,h2,Bool.true_or,Bool.and_true]⟩
  ·obtain ⟨k1,h1⟩ := same_fin h1
   refine ⟨max k1 k2,?_⟩
   simp only [xPast,Bool.and_eq_true,Bool.or_eq_true]
   exact ⟨.inr (same_mono (apply_mono E (Nat.le_max_left ..)) h1),xPast_mono (apply_mono E (Nat.le_max_right ..)) h2⟩
 | .rd _ _ _ _ :: r,he => by
  simp only [xPast] at he
  obtain ⟨k2,h2⟩ := xPast_fin he
  exact ⟨k2,by simp only [xPast]; exact h2⟩
theorem xLate_fin {row : Nat} {st : St} : ∀ {l : List XR},xLate (app E) row st l = true → ∃ n,xLate (apply E n) row st l = true
 | [],_ => ⟨0,rfl⟩
 | .rd j cj F v :: r,he => by
  simp only [xLate,Bool.and_eq_true,Bool.or_eq_true] at he
  obtain ⟨k2,h2⟩ := xLate_fin he.2
  rcases he.1 with h1 | h1
  ·refine ⟨k2,?_⟩
   simp only [xLate,Bool.and_eq_true,Bool.or_eq_true]
   exact ⟨.inl h1,h2⟩
  ·obtain ⟨k1,h1⟩ := same_fin h1
   refine ⟨max k1 k2,?_⟩
   simp only [xLate,Bool.and_eq_true,Bool.or_eq_true]
   exact ⟨.inr (same_mono (apply_mono E (Nat.le_max_left ..)) h1),xLate_mono (apply_mono E (Nat.le_max_right ..)) h2⟩
 | .eff _ _ _ :: r,he => by
  simp only [xLate] at he
  obtain ⟨k2,h2⟩ := xLate_fin he
  exact ⟨k2,by simp only [xLate]; exact h2⟩
theorem xEv_fin {rows : List Nat} : ∀ {ops : List COp} {i : Nat} {done : List XR} {st st' : St},xEv (app E) rows i done ops st = some st' → ∃ n,xEv (apply E n) rows i done ops st = some st'
 | [],i,done,st,st',he => ⟨0,he⟩
 | c :: r,i,done,st,st',he => by
  simp only [xEv] at he ⊢
  cases hro : readOp c.op with
  | true =>
   simp only [hro] at he ⊢
   split at he
   ·rename_i v h1
    split at he
    ·rename_i h2
     obtain ⟨k1,h1⟩ := copH_fin h1
     obtain ⟨k3,h3⟩ := xEv_fin he
     simp only [Bool.or_eq_true] at h2
     rcases h2 with h2 | h2
     ·refine ⟨max k1 k3,?_⟩
      rw [copH_mono (apply_mono E (Nat.le_max_left ..)) h1]
      simp only [h2,Bool.true_or,if_true]
      exact xEv_mono (apply_mono E (Nat.le_max_right ..)) h3
     ·obtain ⟨k2,h2⟩ := xPast_fin h2
      refine ⟨max k1 (max k2 k3),?_⟩
      rw [copH_mono (apply_mono E (Nat.le_max_left ..)) h1]
      have h4 := xPast_mono (apply_mono E (Nat.le_trans (Nat.le_max_left k2 k3) (Nat.le_max_right k1 (max k2 k3)))) h2
      simp only [h4,Bool.or_true,if_true]
      exact xEv_mono (apply_mono E (Nat.le_trans (Nat.le_max_right k2 k3) (Nat.le_max_right k1 (max k2 k3)))) h3
    ·cases he
   ·cases he
  | false =>
   simp only [hro] at he ⊢
   split at he
   ·rename_i st1 h1
    split at he
    ·rename_i h2
     obtain ⟨k1,h1⟩ := cop_fin h1
     obtain ⟨k2,h2⟩ := xLate_fin h2
     obtain ⟨k3,h3⟩ := xEv_fin he
     refine ⟨max k1 (max k2 k3),?_⟩
     rw [cop_mono (apply_mono E (Nat.le_max_left ..)) h1]
     have h4 := xLate_mono (apply_mono E (Nat.le_trans (Nat.le_max_left k2 k3) (Nat.le_max_right k1 (max k2 k3)))) h2
     simp only [h4,if_true]
     exact xEv_mono (apply_mono E (Nat.le_trans (Nat.le_max_right k2 k3) (Nat.le_max_right k1 (max k2 k3)))) h3
    ·cases he
   ·cases he
theorem draw_fin {k : Nat} {rows : List Nat} {ops : List COp} {st st' : St} (he : drawEv (app E) k rows ops st = some st') : ∃ n,drawEv (apply E n) k rows ops st = some st' := by
 unfold drawEv at he ⊢
 split at he
 ·rename_i hx
  simp only [if_pos hx]
  exact xEv_fin he
 ·rename_i hx
  simp only [if_neg hx]
  split at he
  ·rename_i st1 h1
   obtain ⟨k1,h1⟩ := head_fin h1
   obtain ⟨k2,h2⟩ := reg_fin he
   refine ⟨max k1 k2,?_⟩
   rw [head_mono (apply_mono E (Nat.le_max_left ..)) h1]
   exact reg_mono (apply_mono E (Nat.le_max_right ..)) h2
  ·cases he
theorem loop_fin {mask : St → Option St} {b : Nat → St → Option (Ex × St)} {b' : St → Option (Ex × St)} (hb : ∀ st r,b' st = some r → ∃ k,b k st = some r) (hm : ∀ k k' st r,k ≤ k' → b k st = some r → b k' st = some r) : ∀ {n : Nat} {st : St} {r : Ex × St},loopN mask b' n st = some r → ∃ k,loopN mask (b k) n st = some r
 | 0,st,r,he => by simp [loopN] at he
 | n + 1,st,r,he => by
  simp only [loopN] at he ⊢
  split at he
  ·cases he
  ·rename_i st1 h1
   cases hq : b' st1 with
   | none => rw [hq] at he; cases he
   | some q =>
    rw [hq] at he
    obtain ⟨k1,h2⟩ := hb _ _ hq
    obtain ⟨e,st2⟩ := q
    cases e with
    | normal =>
     obtain ⟨k2,h3⟩ := loop_fin hb hm he
     refine ⟨max k1 k2,?_⟩
     simp only [hm _ (max k1 k2) _ _ (Nat.le_max_left ..) h2]
     exact loop_mono (fun st r h => hm _ _ _ _ (Nat.le_max_right ..) h) (Nat.le_refl n) h3
    | exit id => exact ⟨k1,by simp only [h2]; exact he⟩
    | ret => exact ⟨k1,by simp only [h2]; exact he⟩
theorem range_fin {g : Opd} {j : Nat} {fs : List Nat} {f : FuncId} {i : Nat} {st : St} {r : Ex × St} (he : rangeEv (app E) g j fs f i st = some r) : ∃ k,rangeEv (apply E k) g j fs f i st = some r := by
 unfold rangeEv at he ⊢
 split at he
 ·rename_i f0 cap0 caps h1 h2 h3
  split at he
  ·rename_i v b own' m' hk
   obtain ⟨k,hk⟩ := app_some.1 hk
   exact ⟨k,by rw [hk]; exact he⟩
  ·cases he
 ·cases he
theorem ev_fin : ∀ {cd : Cd} {n : Nat} {st : St} {r : Ex × St},cd.ev (app E) n st = some r → ∃ k,cd.ev (apply E k) n st = some r := by
 intro cd
 induction cd with
 | skip => intro n st r he; exact ⟨0,he⟩
 | reg ops =>
  intro n st r he
  simp only [Cd.ev] at he ⊢
  split at he
  ·rename_i h1; obtain ⟨k,h1⟩ := reg_fin h1; exact ⟨k,by rw [h1]; exact he⟩
  ·cases he
 | draw k rows ops =>
  intro n st r he
  simp only [Cd.ev] at he ⊢
  split at he
  ·rename_i h1; obtain ⟨k,h1⟩ := draw_fin h1; exact ⟨k,by rw [h1]; exact he⟩
  ·cases he
 | seq a b iha ihb =>
  intro n st r he
  simp only [Cd.ev] at he ⊢
  cases ha : a.ev (app E) n st with
  | none => rw [ha] at he; cases he
  | some q =>
   rw [ha] at he
   obtain ⟨k1,h1⟩ := iha ha
   obtain ⟨e,st1⟩ := q
   cases e with
   | normal =>
    obtain ⟨k2,h2⟩ := ihb he
    refine ⟨max k1 k2,?_⟩
    rw [ev_mono (apply_mono E (Nat.le_max_left ..)) (Nat.le_refl n) h1]
    exact ev_mono (apply_mono E (Nat.le_max_right ..)) (Nat.le_refl n) h2
   | exit id => exact ⟨k1,by rw [h1]; exact he⟩
   | ret => exact ⟨k1,by rw [h1]; exact he⟩
 | cond c a b iha ihb =>
  intro n st r he
  simp only [Cd.ev] at he ⊢
  split at he
  ·exact iha he
  ·exact ihb he
  ·cases he
 | block id a iha =>
  intro n st r he
  simp only [Cd.ev] at he ⊢
  cases ha : a.ev (app E) n st with
  | none => rw [ha] at he; cases he
  | some q => rw [ha] at he; obtain ⟨k,h1⟩ := iha ha; exact ⟨k,by rw [h1]; exact he⟩
 | loop fs ks ts ds a iha =>
  intro n st r he
  simp only [Cd.ev] at he ⊢
  exact loop_fin (b := fun k => a.ev (apply E k) n) (fun st r h1 => iha h1) (fun k k' st r hk h => ev_mono (apply_mono E hk) (Nat.le_refl n) h) he
 | range g j fs f i => intro n st r he; exact range_fin he
 | exit id => intro n st r he; exact ⟨0,he⟩
 | ret => intro n st r he; exact ⟨0,he⟩
theorem bndOf_none {vs cap : List PV} {n : Nat} (h : ((vs ++ cap).length == n && (vs ++ cap).all fun v => !isTup v) = true) : bndOf cap = none := by
 cases cap with
 | nil => rfl
 | cons x r =>
  simp only [Bool.and_eq_true,List.all_eq_true] at h
  have := h.2 x (by simp)
  cases x <;> first | rfl | (simp [isTup] at this)
theorem app_fn (E : Env) {f : FuncId} {c : CFn} (hp : E.prim f = none) (hc : E.fns f = some c) {cap vs : List PV} (hl : ((vs ++ cap).length == c.np && (vs ++ cap).all fun v => !isTup v) = true) (pr : Bool) (m : Mem) :
  app E pr (.fn f cap) vs m = match c.body.run (app E) { f := numbered 0 (vs ++ cap.map PV.untag),tops := [],own := [],dead := [],m := m } with
   | some (.normal,st) => retEv st pr c.res
   | some (.ret,st) => retEv st pr c.res
   | _ => none := by
 refine opt_ext fun v => ?_
 rw [app_some]
 constructor
 ·rintro ⟨k,h⟩
  cases k with
  | zero => simp [apply] at h
  | succ k =>
   simp only [apply,bndOf_none hl,hp,hc] at h
   rw [if_pos hl] at h
   cases hb : c.body.ev (apply E k) k { f := numbered 0 (vs ++ cap.map PV.untag),tops := [],own := [],dead := [],m := m } with
   | none => rw [hb] at h; cases h
   | some q =>
    rw [hb] at h
    rw [run_some.2 ⟨k,ev_mono (apply_app E k) (Nat.le_refl k) hb⟩]
    exact h
 ·intro h
  cases hb : c.body.run (app E) { f := numbered 0 (vs ++ cap.map PV.untag),tops := [],own := [],dead := [],m := m } with
  | none => rw [hb] at h; cases h
  | some q =>
   rw [hb] at h
   obtain ⟨n,hn⟩ := run_some.1 hb
   obtain ⟨k,hk⟩ := ev_fin hn
   refine ⟨max n k + 1,?_⟩
   simp only [apply,bndOf_none hl,hp,hc]
   rw [if_pos hl,ev_mono (apply_mono E (Nat.le_max_right n k)) (Nat.le_max_left n k) hk]
   exact h
theorem app_prim (E : Env) {f : FuncId} {F : List PV → Mem → Option (PV × Bag × Mem)} (hp : E.prim f = some F) (pr : Bool) (vs : List PV) (m : Mem) : app E pr (.fn f []) vs m = F vs m := by
 refine opt_ext fun v => ?_
 rw [app_some]
 constructor
 ·rintro ⟨k,h⟩
  cases k with
  | zero => simp [apply] at h
  | succ k => simpa [apply,bndOf,hp] using h
 ·intro h
  exact ⟨1,by simpa [apply,bndOf,hp] using h⟩
theorem app_bnd (E : Env) {f : FuncId} {as vs : List PV} (i j : Nat) (pr : Bool) (m : Mem) : app E pr (.fn f (.gone i j :: as)) vs m = app E pr (.fn f []) (as.map PV.untag ++ vs) m := by
 refine opt_ext fun v => ?_
 rw [app_some,app_some]
 constructor
 ·rintro ⟨k,h⟩
  cases k with
  | zero => simp [apply] at h
  | succ k => exact ⟨k,by simpa only [apply,bndOf] using h⟩
 ·rintro ⟨k,h⟩
  exact ⟨k + 1,by simpa only [apply,bndOf] using h⟩
def rndSt (rd : Rd) (fs : List Nat) (cap vs : List PV) (m : Mem) : St := { f := zipf rd.ps vs ++ zipf fs (cap.map PV.untag),tops := [],own := [],dead := [],m := m }
noncomputable def rndEnd (K : Callee) (rd : Rd) (lv j : Nat) (st1 : St) : Option (PV × Bag × Mem) :=
 match mget st1.m lv j [] with
 | some [.lrec 0] => match mset st1.m lv j [] [.lrec 1] with
  | some m1 => match rd.body.run K { st1 with m := m1 } with
   | some (ex,st) => match mset st.m lv j [] [.lrec (recOf ex)] with
    | some m2 => some (.bool (recOf ex == 0),emptyBag,m2)
    | none => none
   | none => none
  | none => none
 | _ => none
end
end Go.Proofs.Ytmffcpiffkclgaa.ZJM
