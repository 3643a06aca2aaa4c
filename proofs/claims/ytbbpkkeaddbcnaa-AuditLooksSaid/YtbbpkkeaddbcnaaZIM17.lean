/- A call: what the ideal machine answers, the model's call answers. -/
import Derived.Test.YtbbpkkeaddbcnaaZIM16
set_option linter.unusedSimpArgs false
set_option linter.unusedVariables false
namespace Go.Proofs.Ytbbpkkeaddbcnaa.ZIM
open Go.RowKit

section
variable {P : Program}

theorem get_numbered {α : Type} : ∀ (l : List α) (n t : Nat), get (numbered n l) t = if n ≤ t then l[t - n]? else none
  | [], n, t => by simp [numbered, get]
  | x :: l, n, t => by
    simp only [numbered]
    rw [get_cons, get_numbered l (n + 1) t]
    by_cases h : n = t
    · subst h; simp
    · rw [if_neg h]
      by_cases h2 : n ≤ t
      · rw [if_pos (by omega), if_pos h2, show t - n = (t - (n + 1)) + 1 by omega, List.getElem?_cons_succ]
      · rw [if_neg (by omega), if_neg h2]

theorem res_run {fn : Func} {d nt : Nat} {m0 : Mem} {g0 : Gh} {w0 : World} {g : Gh} {om : Nat → Value} {szm : Nat → Nat} {st : St} {a : Act} {w : World} (h : Inv d nt m0 g0 w0 g om szm st a w) :
    ∀ {rs : List ResultVar} {cs : List ResC} {vs : List PV}, ressOk P rs cs = true → resEvs st cs = some vs →
      ∃ rvs : List Value, (rs.mapM (fun r => match r with | .tmp t => pure (a.tmps.getD t undef) | .cell b t => do loadVar t (← asAddr (a.tmps.getD b undef)) : ResultVar → Sem Value)).run P w = .ok rvs w ∧ rvs.length = vs.length ∧ ∀ (i : Nat) (v : PV) (r : Value), vs[i]? = some v → rvs[i]? = some r → V g v r
  | [], [], vs, _, he => by
    simp only [resEvs, Option.some.injEq] at he; subst he
    exact ⟨[], rfl, rfl, fun i v r hv => by simp at hv⟩
  | r :: rs, c :: cs, vs, hk, he => by
    simp only [ressOk, Bool.and_eq_true] at hk
    simp only [resEvs] at he
    split at he
    · rename_i v vs' h1 h2
      cases he
      obtain ⟨rvs, h3, h4, h5⟩ := res_run (fn := fn) h hk.2 h2
      have one : ∃ rv, ((match r with | .tmp t => pure (a.tmps.getD t undef) | .cell b t => do loadVar t (← asAddr (a.tmps.getD b undef))) : Sem Value).run P w = .ok rv w ∧ V g v rv := by
        cases r with
        | tmp t =>
          cases c with
          | t t' =>
            have : t = t' := by simpa [resOk] using hk.1
            subst this
            exact ⟨_, rfl, (h.f t v h1).2.1⟩
          | cell _ _ _ => simp [resOk] at hk
        | cell b t =>
          cases c with
          | t t' => simp [resOk] at hk
          | cell b' ag sz =>
            simp only [resOk, Bool.and_eq_true, beq_iff_eq] at hk
            obtain ⟨⟨⟨rfl, ht⟩, hs⟩, _⟩ := hk
            simp only [ResC.ev] at h1
            split at h1
            · rename_i u hu
              have hV := (h.f b u hu).2.1
              obtain ⟨rv, h6, h7, _⟩ := load_pur h hV ht hs h1
              refine ⟨rv, ?_, h7⟩
              have hp : ∃ ad, a.tmps.getD b undef = .pointer (some ad) := by
                cases u <;> simp only [loadP] at h1 <;> try (cases h1; done)
                · generalize a.tmps.getD b undef = q at hV; cases hV; exact ⟨_, rfl⟩
                · generalize a.tmps.getD b undef = q at hV; cases hV; exact ⟨_, rfl⟩
              obtain ⟨ad, hp⟩ := hp
              rw [hp] at h6
              simp only [hp, asAddr, Sem.run_bind, Sem.run_pure, Result.andThen_ok]
              simpa [Instr.loadAt, Instr.sureAddr] using h6
            · cases h1
      obtain ⟨rv, h6, h7⟩ := one
      refine ⟨rv :: rvs, ?_, by simp [h4], fun i v' r' hv' hr' => ?_⟩
      · simp only [List.mapM_cons, Sem.run_bind]
        rw [h6]
        simp only [Result.andThen_ok]
        rw [h3]
        rfl
      · cases i with
        | zero => simp only [List.getElem?_cons_zero, Option.some.injEq] at hv' hr'; subst hv'; subst hr'; exact h7
        | succ i => exact h5 i v' r' (by simpa using hv') (by simpa using hr')
    · cases he
  | [], _ :: _, _, hk, _ => by simp [ressOk] at hk
  | _ :: _, [], _, hk, _ => by simp [ressOk] at hk

theorem results_ok {fn : Func} {d nt : Nat} {m0 : Mem} {g0 : Gh} {w0 : World} {g : Gh} {om : Nat → Value} {szm : Nat → Nat} {st : St} {a : Act} {w : World} (h : Inv d nt m0 g0 w0 g om szm st a w)
    {cs : List ResC} (hk : ressOk P fn.results.toList cs = true) {v : PV} (he : resEv st cs = some v) : ∃ rv, (results fn a.tmps).run P w = .ok rv w ∧ V g v rv ∧ v.untag = v := by
  simp only [resEv] at he
  split at he
  · rename_i u hu
    cases he
    obtain ⟨rvs, h1, h2, h3⟩ := res_run (fn := fn) h hk hu
    match rvs, h2 with
    | [rv], _ =>
      refine ⟨rv, ?_, (h3 0 u rv rfl rfl).untag, untag_untag u⟩
      simp only [results, Sem.run_bind]
      rw [Array.mapM_eq_mapM_toList, Sem.run_map]
      erw [h1]
      simp
  · rename_i vs hne hu
    cases he
    obtain ⟨rvs, h1, h2, h3⟩ := res_run (fn := fn) h hk hu
    have hl : rvs.length ≠ 1 := by
      intro hh
      match vs, h2 with
      | [x], _ => exact hne x rfl
      | [], h2 => simp [hh] at h2
      | _ :: _ :: _, h2 => simp [hh] at h2
    refine ⟨.tuple rvs.toArray, ?_, .tup _ _ (by simp [h2]) (fun j c hj => ?_), ?_⟩
    · simp only [results, Sem.run_bind]
      rw [Array.mapM_eq_mapM_toList, Sem.run_map]
      erw [h1]
      simp [hl]
    · rw [List.getElem?_map] at hj
      obtain ⟨u, hu', rfl⟩ := Option.map_eq_some_iff.1 hj
      have hlt : j < rvs.length := by have := (List.getElem?_eq_some_iff.1 hu').1; omega
      have := (h3 j u rvs[j] hu' (List.getElem?_eq_getElem hlt)).untag
      simpa [hlt] using this
    · rfl
  · cases he

theorem ret_post {d nt : Nat} {m : Mem} {g0 : Gh} {w0 : World} {g : Gh} {om : Nat → Value} {szm : Nat → Nat} {st : St} {a : Act} {w : World} (h : Inv d nt m g0 w0 g om szm st a w) (hd : d = m.length) (hR : Rel g0 m w0) {v : PV} {rv : Value}
    (hv : V g v rv) (hu : v.untag = v) (hdep : v.dep st.m.length = true) : ∃ g', CallPost m g0 w0 st.m v g' w rv := by
  let g' : Gh := { g with blk := fun l s => if l < d then g.blk l s else none }
  have hlv := h.lv
  have hb : ∀ l s b, g'.blk l s = some b → l < d ∧ g.blk l s = some b := by
    intro l s b hb
    have hb' : (if l < d then g.blk l s else none) = some b := hb
    split at hb'
    · rename_i hl; exact ⟨hl, hb'⟩
    · cases hb'
  have hbl : ∀ l s, l < d → g'.blk l s = g.blk l s := fun l s hl => by show (if l < d then _ else _) = _; rw [if_pos hl]
  have hm : ∀ l s, l < d → mget (st.own :: st.m) l s = mget st.m l s := fun l s hl => by rw [mget_cons, if_neg (by simp only [beq_iff_eq]; omega)]
  refine ⟨g', ⟨fun b o u hu => h.rel.hG b o u hu, ?_, ?_⟩, by omega, V.under (g := g) (g' := g') (n := d) (fun _ _ _ x => x) hbl hv (hlv ▸ hdep), hu, ?_, ?_⟩
  · intro l s b hb'
    obtain ⟨h1, h2⟩ := hb l s b hb'
    obtain ⟨cs, C, E, a1, a2, a3, a4, a5⟩ := h.rel.hM l s b h2
    refine ⟨cs, C, E, by rw [← hm l s h1]; exact a1, a2, a3, fun j c hj => ?_, a5⟩
    obtain ⟨x, y, z⟩ := a4 j c hj
    exact ⟨x, y, V.under (g := g) (g' := g') (n := d) (fun _ _ _ x => x) hbl z (dep_mono (by omega) c y)⟩
  · intro l s l' s' b h1 h2
    exact h.rel.inj _ _ _ _ _ (hb _ _ _ h1).2 (hb _ _ _ h2).2
  · refine ⟨h.kp.size, h.kp.heap, h.kp.G, h.kp.Gold, fun l s hl => ?_, h.kp.os, h.kp.tape, h.kp.output, fun l s b hl hb' => ?_⟩
    · rw [hbl l s (by omega)]; exact h.kp.blk l s (by omega)
    · have := (hb l s b hb').1; omega
  · intro l s cs b h1 h2 j c hj
    exact h.mt l s cs b h1 (hb l s b h2).2 j c hj

/-- Which functions the ideal machine knows, and that their code is the program's. -/
def Knows (P : Program) (fns : FuncId → Option CFn) : Prop := ∀ f c, fns f = some c → ∃ fn, P.funcs[f]? = some fn ∧ chkFn P fn c = true

theorem apply_snd (hm : P.follows .mixedOrders = true) {fns : FuncId → Option CFn} (hF : Knows P fns) : ∀ k, Snd P (apply fns k)
  | 0 => fun fv args m v m' h => by simp [apply] at h
  | k + 1 => by
    intro fv args m v m' he g w rf ra hR hf hl hargs hun
    simp only [apply] at he
    split at he
    · rename_i f cap
      split at he
      · rename_i c hc
        obtain ⟨fn, hfn, hck⟩ := hF f c hc
        simp only [chkFn] at hck
        split at hck
        · rename_i b hb
          simp only [Bool.and_eq_true, decide_eq_true_eq] at hck
          obtain ⟨⟨⟨hnp, hname⟩, hres⟩, hcd⟩ := hck
          split at he
          · rename_i hlen
            have hlen' : (args ++ cap).length = c.np := beq_iff_eq.1 hlen
            cases hf with
            | fn _ _ vs hn hV =>
            have hsz : (ra ++ vs).size = c.np := by rw [Array.size_append, ← hl, ← hn, ← List.length_append]; exact hlen'
            have hget : ∀ (t : Nat) (u : PV), (args ++ cap.map PV.untag)[t]? = some u → t < c.np ∧ V g u ((ra ++ vs).getD t undef) ∧ u.untag = u := by
              intro t u hu
              have hlt : t < c.np := by have := (List.getElem?_eq_some_iff.1 hu).1; simp only [List.length_append, List.length_map] at this hlen'; omega
              refine ⟨hlt, ?_⟩
              by_cases h1 : t < args.length
              · rw [List.getElem?_append_left h1] at hu
                refine ⟨?_, hun u (getElem?_mem' hu)⟩
                have := hargs t u hu
                rw [Array.getD_eq_getD_getElem?, Array.getElem?_append_left (by omega), ← Array.getD_eq_getD_getElem?]
                exact this
              · rw [List.getElem?_append_right (by omega), List.getElem?_map] at hu
                obtain ⟨u0, hu0, rfl⟩ := Option.map_eq_some_iff.1 hu
                refine ⟨?_, untag_untag u0⟩
                have := (hV _ u0 hu0).untag
                rw [Array.getD_eq_getD_getElem?, Array.getElem?_append_right (by omega), ← hl, ← Array.getD_eq_getD_getElem?]
                exact this
            have hI : InvE m.length fn.ntmps m g w { f := numbered 0 (args ++ cap.map PV.untag), tops := [], own := [], m := m } { tmps := (ra ++ vs) ++ Array.replicate (fn.ntmps - (ra ++ vs).size) undef, defers := [] } w := by
              refine ⟨g, fun _ => .slice none 0 0, fun _ => 0, ⟨?_, rfl, fun t u hu => ?_, ?_, rfl, fun sl cs b C E hs => by simp [get] at hs, fun n p hp => by simp [get] at hp, fun n n' p p' _ hp => by simp [get] at hp, ?_, ?_⟩⟩
              · refine ⟨hR.hG, fun l s b hb' => ?_, hR.inj⟩
                obtain ⟨cs, C, E, a1, a2⟩ := hR.hM l s b hb'
                have hlt := mget_lt a1
                exact ⟨cs, C, E, by rw [mget_cons, if_neg (by simp only [beq_iff_eq]; omega)]; exact a1, a2⟩
              · rw [get_numbered, if_pos (Nat.zero_le _), Nat.sub_zero] at hu
                obtain ⟨h1, h2, h3⟩ := hget t u hu
                refine ⟨by omega, ?_, Tg_of h3⟩
                rw [Array.getD_eq_getD_getElem?, Array.getElem?_append_left (by omega), ← Array.getD_eq_getD_getElem?]
                exact h2
              · simp only [Array.size_append, Array.size_replicate] at hsz ⊢
                omega
              · exact ⟨Nat.le_refl _, fun _ _ _ => rfl, fun _ _ _ h => h, fun _ _ _ => rfl, fun _ _ _ => rfl, rfl, rfl, rfl, fun l s b hl' hb' => by have := hR.lt l s b hb'; omega⟩
              · exact fun l s cs b h1 _ j c hj => .inr ⟨cs, h1, hj, rfl⟩
            refine ⟨f, vs, fn, rfl, hfn, by rw [hb]; rfl, hname, ?_⟩
            have fin : ∀ (e : Ex) (st : St), (e = .normal ∨ e = .ret) → c.body.ev (apply fns k) k { f := numbered 0 (args ++ cap.map PV.untag), tops := [], own := [], m := m } = some (e, st) → retEv st c.res = some (v, m') →
                CallsIn Fence.wide 0 P f (ra ++ vs) w fun e w' => ∃ rv g', e = .returned rv ∧ CallPost m g w m' v g' w' rv := by
              intro e st he1 hbody hret
              simp only [retEv] at hret
              split at hret
              · rename_i u hu
                split at hret
                · rename_i hdep
                  cases hret
                  refine callsIn_of_wp hfn hb trivial (wpIn_mono (code_ok hm (ro := none) (apply_snd hm hF k) k hcd hI hbody) ?_)
                  intro ex a' w' hq
                  have post : InvE m.length fn.ntmps m g w st a' w' → a'.defers = [] ∧ ∃ r, (results fn a'.tmps).run P w' = .ok r w' ∧ ∃ rv g', Ending.returned r = .returned rv ∧ CallPost m g w st.m v g' w' rv := by
                    rintro ⟨g1, om, szm, hi⟩
                    obtain ⟨rv, h1, h2, h3⟩ := results_ok (fn := fn) hi hres hu
                    obtain ⟨g', h4⟩ := ret_post hi rfl hR h2 h3 hdep
                    exact ⟨hi.df, rv, h1, rv, g', rfl, h4⟩
                  cases ex with
                  | normal => exact post hq.2
                  | ret => exact post hq.2
                  | exit id => rcases he1 with rfl | rfl <;> exact absurd hq.1 (by simp)
                  | goto _ => exact hq.elim
                  | panic _ => exact hq.elim
                  | outgrown => exact hq.elim
                · cases hret
              · cases hret
            split at he
            · rename_i st hbody; exact fin _ st (.inl rfl) hbody he
            · rename_i st hbody; exact fin _ st (.inr rfl) hbody he
            · cases he
          · cases he
        · cases hck
      · cases he
    · cases he
end
end Go.Proofs.Ytbbpkkeaddbcnaa.ZIM
