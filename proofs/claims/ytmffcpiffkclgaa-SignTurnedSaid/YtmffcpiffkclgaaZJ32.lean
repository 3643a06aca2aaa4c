/- Functions known by what they answer, and which make nothing but new blocks. -/
import Derived.Test.YtmffcpiffkclgaaZJ29
set_option linter.unusedSimpArgs false
set_option linter.unusedVariables false
namespace Go.Proofs.Ytmffcpiffkclgaa.ZJM
open Go.RowKit
theorem CallPost.below {m : Mem} {g : Gh} {w w' : World} (hR : Rel g m w) (hB : Below w.heap.size w w') {v : PV} {rv : Value} (hv : V g v rv) (hd : v.data = true) : CallPost m g w m emptyBag v g w' rv := by
 obtain ⟨hos,htp,hout,hsz,hold⟩ := hB
 have hm : ∀ l s p zs,mget ([] :: m) l s p = some zs → mget m l s p = some zs := by
  intro l s p zs hz
  rw [mget_cons] at hz
  split at hz
  ·simp [lget,get] at hz
  ·exact hz
 have hRw : Rel g m w' := hR.world hsz (fun b o u hu => by
  obtain ⟨h1,h2⟩ := hR.hG b o u hu
  have hlt := hR.G_lt hu
  refine ⟨?_,h2⟩
  simp only [World.cell?,hold b hlt]
  simpa [World.cell?] using h1) (fun _ _ _ x => x) rfl rfl rfl (fun b C E hb _ => ⟨by rw [hold b (Array.getElem?_eq_some_iff.1 hb).1]; exact hb,fun _ => rfl⟩) (fun b r hb => by rw [hold b (Array.getElem?_eq_some_iff.1 hb).1]; exact hb)
 refine ⟨⟨hRw.hG,fun lv sl p b o t hb cs hcs => hRw.hM _ _ _ _ _ _ hb _ (hm _ _ _ _ hcs),fun lv sl l r hb cs hcs => hRw.hL _ _ _ _ hb _ (hm _ _ _ _ hcs),fun l s p l' s' p' b o t o' t' cs cs' h1 h2 hz hz' => hRw.inj _ _ _ _ _ _ _ _ _ _ _ _ _ h1 h2 (hm _ _ _ _ hz) (hm _ _ _ _ hz'),fun l s l' s' b r r' cs cs' h1 h2 hz hz' => hRw.injL _ _ _ _ _ _ _ _ _ h1 h2 (hm _ _ _ _ hz) (hm _ _ _ _ hz'),fun lv sl p j v x h1 cs hcs => hRw.ver _ _ _ _ _ _ h1 _ (hm _ _ _ _ hcs),fun l s p x hx => Nat.lt_succ_of_lt (hRw.lv _ _ _ _ hx),fun l s x hx => Nat.lt_succ_of_lt (hRw.lpv _ _ _ hx),hRw.bd,hRw.bdL,hRw.pre⟩,rfl,hv,⟨hsz,fun b hb _ => ⟨hold b hb,fun _ => rfl⟩,fun _ _ _ x => x,fun _ _ _ _ _ x => x,fun _ _ _ => rfl,fun l s p b o t x => .inl ⟨l,s,p,o,t,x⟩,fun l s b r x => .inl ⟨l,s,r,x⟩,fun l s p x _ y => ⟨p,x,y⟩,hos,htp,hout,rfl⟩,fun s p x hx => ?_,fun s => ?_,fun _ _ _ => rfl,PV.data_okn _ _ _ v hd,(fun p hp => by cases hp),List.nodup_nil,fun cs hcs => ?_,fun _ => .slice none 0 0,fun _ => 0,Tg_no ?_,(fun n p hp => by cases hp),(fun n n' p p' _ hp => by cases hp)⟩
 ·have := hR.lv _ _ _ _ hx; omega
 ·cases hx : g.lp m.length s with
  | none => rfl
  | some x => have := hR.lpv _ _ _ hx; omega
 ·exact okn_noTag (PV.data_okn 0 [] [] v hd)
 ·exact okn_noTag (PV.data_okn 0 [] [] v hd)
end Go.Proofs.Ytmffcpiffkclgaa.ZJM
