/- DictPlays: its function. -/
import Derived.Test.YtmffcpiffkclgaaGreatZFP1
import Derived.Test.YtmffcpiffkclgaaGreatZFL14
set_option linter.unusedSimpArgs false
set_option linter.unusedVariables false
set_option maxRecDepth 4000
namespace Go.Proofs.YtmffcpiffkclgaaGreat.ZJM.DC
open Go.Proofs.YtmffcpiffkclgaaGreat.ZJM Go.RowKit
attribute [simp] shC_names shC_ren shC_okn shC_rec
section
variable (nl : Bool) (l : List Deed) (hl : ∀ x ∈ l,x.ok)
end
end Go.Proofs.YtmffcpiffkclgaaGreat.ZJM.DC
set_option linter.unusedSimpArgs false
set_option linter.unusedVariables false
namespace Go.Proofs.YtmffcpiffkclgaaGreat.ZJM.DC
open Go.Proofs.YtmffcpiffkclgaaGreat.ZJM Go.RowKit
theorem byte_of {x : PV} (h : CT.val false [.int .u8] x) : ∃ n : Int,(0 ≤ n ∧ n < 256) ∧ x = .int .u8 n := by
 simp only [CT.val,CT.hass,CT.has] at h
 obtain ⟨_,_,hx,⟨n,rfl,hw⟩,rfl⟩ := h
 simp only [List.cons.injEq,and_true] at hx
 refine ⟨n,?_,hx⟩
 simp [Lit.wf,IntKind.min,IntKind.max,IntKind.bits,IntKind.signed] at hw
 omega
theorem bytes_of {xs : List PV} (h : ∀ x ∈ xs,CT.val false [.int .u8] x) : ∃ b : List Int,OkB b ∧ xs = Bs b := by
 induction xs with
 | nil => exact ⟨[],fun x hx => by simp at hx,rfl⟩
 | cons x r ih =>
  obtain ⟨n,hn,rfl⟩ := byte_of (h x (by simp))
  obtain ⟨b,hb,rfl⟩ := ih fun y hy => h y (by simp [hy])
  exact ⟨n :: b,fun y hy => by rcases List.mem_cons.1 hy with rfl | hy; exact hn; exact hb y hy,rfl⟩
theorem bl_of {x : PV} (h : CT.has (.lst false 1 [.int .u8]) x) : ∃ (nl : Bool) (b : List Int),OkB b ∧ (nl = true → b = []) ∧ x = Bl nl b := by
 obtain ⟨nl,xs,rfl,_,hn,hx⟩ := CT.has_lst.1 h
 obtain ⟨b,hb,rfl⟩ := bytes_of hx
 exact ⟨nl,b,hb,fun hh => by
  have := hn hh
  cases b with
  | nil => rfl
  | cons y q => simp at this,rfl⟩
end Go.Proofs.YtmffcpiffkclgaaGreat.ZJM.DC
set_option linter.unusedSimpArgs false
set_option linter.unusedVariables false
namespace Go.Proofs.YtmffcpiffkclgaaGreat.ZJM.DC
open Go.Proofs.YtmffcpiffkclgaaGreat.ZJM Go.RowKit
end Go.Proofs.YtmffcpiffkclgaaGreat.ZJM.DC
