/-
  No cell of these rows narrows 'for every input' (looked for: loops, veiled, ifaces, maps, wideKeys, modest, calm, conditions, laid).
  DERIVED. THE GIVEN ROWS OF THIS SEAT. 3 by the template 'for every input the law returns true; each argument reads behind the call as it read before'; 0 by the template 'total and deterministic' (their statements: YtmffcpiffkclgaaGreatTotals.lean).
  GIVEN WITH THE SEED: the statements are not yours to turn. If you find one false, say at which input.
  Laid BY PROGRAM, IN A SANDBOX (cutbox-rows.mjs): the forced cells as the released guide's own fill.sh prints them over the translation 372ddd11431acb8d… (all of the seat's roots in one cut). By AI agents, Wed Nov 11 2026. No macro, syntax, notation, axiom, sorry.
-/
import Derived.Test.YtmffcpiffkclgaaGreatChecked
import GoSem.Claim
import GoSem.ClaimJoined
import GoSem.ClaimMapViews
import Derived.JoinedTies
import Derived.KernelRfl
namespace Go.Proofs.YtmffcpiffkclgaaGreat
/- THE CELL 'sum', in the pinned program and in every row, IS THE sha256 OF THE DUMP (.gsa) THAT YtmffcpiffkclgaaGreatProg.lean LOADS. Nothing in Lean hashes anything: it is a label: what it is worth is what the hold of that sum in a sandbox is worth. -/
noncomputable def Tryz.pinned : Pinned := { name := "ytmffcpiffkclgaagreat", sum := "372ddd11431acb8d6202a63c922338d0e3e117a5ccfce15ce81047138db69f93", checked := Tryz.checked }
namespace Rows
def none {H : Type} : Left H := { results := [], args := [] }

/-- 'tripwirelaw16.SignBytes': WHATEVER THE INPUT: true; the input reads as it did. -/
def signBytesSpec : ChangeSpec := { name := "signBytes", fn := fun _ => fun
  | [d] => { results := [.lit (.bool true)], args := [d] }
  | _ => none }
def signBytesRow : OpenClaim := { program := "ytmffcpiffkclgaagreat", sum := "372ddd11431acb8d6202a63c922338d0e3e117a5ccfce15ce81047138db69f93", func := "tripwire/tripwirelaw16.SignBytes", spec := "signBytes", inPlace := ["slices.overlaps[tripwire/shelf.row[int, tripwire/dict.entry]]"], unfollowed := true, recurses := true, apart := false }
def SignBytesSaid : Prop := signBytesRow.holds Tryz.pinned (OpenSpec.ofChange signBytesSpec)

/-- ITS FALSE NEIGHBOUR: 'it returns false'. Refute it at one input. -/
def signBytesWrong : ChangeSpec := { name := "signBytes", fn := fun _ => fun
  | [d] => { results := [.lit (.bool false)], args := [d] }
  | _ => none }
def SignBytesWrongFalsely : Prop := signBytesRow.holds Tryz.pinned (OpenSpec.ofChange signBytesWrong)

/-- 'tripwirelaw16.SignActive': WHATEVER THE INPUT: true; the input reads as it did. -/
def signActiveSpec : ChangeSpec := { name := "signActive", fn := fun _ => fun
  | [d1, d2, d3] => { results := [.lit (.bool true)], args := [d1, d2, d3] }
  | _ => none }
def signActiveRow : OpenClaim := { program := "ytmffcpiffkclgaagreat", sum := "372ddd11431acb8d6202a63c922338d0e3e117a5ccfce15ce81047138db69f93", func := "tripwire/tripwirelaw16.SignActive", spec := "signActive", inPlace := ["slices.overlaps[tripwire/shelf.row[int, tripwire/dict.entry]]"], unfollowed := true, recurses := true, apart := false }
def SignActiveSaid : Prop := signActiveRow.holds Tryz.pinned (OpenSpec.ofChange signActiveSpec)

/-- ITS FALSE NEIGHBOUR: 'it returns false'. Refute it at one input. -/
def signActiveWrong : ChangeSpec := { name := "signActive", fn := fun _ => fun
  | [d1, d2, d3] => { results := [.lit (.bool false)], args := [d1, d2, d3] }
  | _ => none }
def SignActiveWrongFalsely : Prop := signActiveRow.holds Tryz.pinned (OpenSpec.ofChange signActiveWrong)

/-- 'tripwirelaw16.SignHolds': WHATEVER THE INPUT: true; the input reads as it did. -/
def signHoldsSpec : ChangeSpec := { name := "signHolds", fn := fun _ => fun
  | [d1, d2, d3] => { results := [.lit (.bool true)], args := [d1, d2, d3] }
  | _ => none }
def signHoldsRow : OpenClaim := { program := "ytmffcpiffkclgaagreat", sum := "372ddd11431acb8d6202a63c922338d0e3e117a5ccfce15ce81047138db69f93", func := "tripwire/tripwirelaw16.SignHolds", spec := "signHolds", inPlace := ["slices.overlaps[tripwire/shelf.row[int, tripwire/dict.entry]]"], unfollowed := true, recurses := true, apart := false }
def SignHoldsSaid : Prop := signHoldsRow.holds Tryz.pinned (OpenSpec.ofChange signHoldsSpec)

/-- ITS FALSE NEIGHBOUR: 'it returns false'. Refute it at one input. -/
def signHoldsWrong : ChangeSpec := { name := "signHolds", fn := fun _ => fun
  | [d1, d2, d3] => { results := [.lit (.bool false)], args := [d1, d2, d3] }
  | _ => none }
def SignHoldsWrongFalsely : Prop := signHoldsRow.holds Tryz.pinned (OpenSpec.ofChange signHoldsWrong)

/- THE SECOND FORM. 'bulk': how many values and letters a reading holds, each counted each time it is reached (what is shared counts as often as it is met; a slice's spare places count too). A statement '..UptoSaid' is the law's where the arguments, and the package variables that the reading takes, are together of bulk at most 1048576: NARROWER than '..Said'. Prove '..Said' where nothing that the law and all that it calls make is longer than what came in: it says more and counts as full. Else prove '..UptoSaid'. A law counts once. -/
mutual
def uptoBulk {H : Type} : DataW H → Nat
  | .lit (.string bytes) => bytes.length + 1
  | .lit _ => 1
  | .nil => 1
  | .ptr d => uptoBulk d + 1
  | .slice elems spare => uptoBulkAll elems + uptoBulkAll spare + 1
  | .agg parts => uptoBulkAll parts + 1
  | .iface _ d => uptoBulk d + 1
  | .map entries => uptoBulkEntries entries + 1
  | .held _ => 1
def uptoBulkAll {H : Type} : List (DataW H) → Nat
  | [] => 0
  | d :: r => uptoBulk d + uptoBulkAll r
def uptoBulkEntries {H : Type} : List (Lit × DataW H) → Nat
  | [] => 0
  | x :: r => uptoBulkEntry x + uptoBulkEntries r
def uptoBulkEntry {H : Type} : Lit × DataW H → Nat
  | (.string bytes, d) => bytes.length + uptoBulk d + 1
  | (_, d) => uptoBulk d + 1
 end
def uptoSmall : (H : Type) → List (DataW H) → Bool := fun _ ds => decide (uptoBulkAll ds ≤ 1048576)
def OpenSpec.upto (s : _root_.Go.ChangeSpec) : _root_.Go.OpenSpec := { _root_.Go.OpenSpec.ofChange s with cond := some uptoSmall }

/-- 'tripwirelaw16.SignBytes', WHERE WHAT IT READS IS OF BULK AT MOST 1048576: true; the input reads as it did. -/
def signBytesUptoRow : OpenClaim := { program := "ytmffcpiffkclgaagreat", sum := "372ddd11431acb8d6202a63c922338d0e3e117a5ccfce15ce81047138db69f93", func := "tripwire/tripwirelaw16.SignBytes", spec := "signBytes", inPlace := ["slices.overlaps[tripwire/shelf.row[int, tripwire/dict.entry]]"], unfollowed := true, recurses := true, apart := false, narrowed := true }
def SignBytesUptoSaid : Prop := signBytesUptoRow.holds Tryz.pinned (OpenSpec.upto signBytesSpec)

/-- 'tripwirelaw16.SignActive', WHERE WHAT IT READS IS OF BULK AT MOST 1048576: true; the input reads as it did. -/
def signActiveUptoRow : OpenClaim := { program := "ytmffcpiffkclgaagreat", sum := "372ddd11431acb8d6202a63c922338d0e3e117a5ccfce15ce81047138db69f93", func := "tripwire/tripwirelaw16.SignActive", spec := "signActive", inPlace := ["slices.overlaps[tripwire/shelf.row[int, tripwire/dict.entry]]"], unfollowed := true, recurses := true, apart := false, narrowed := true }
def SignActiveUptoSaid : Prop := signActiveUptoRow.holds Tryz.pinned (OpenSpec.upto signActiveSpec)

/-- 'tripwirelaw16.SignHolds', WHERE WHAT IT READS IS OF BULK AT MOST 1048576: true; the input reads as it did. -/
def signHoldsUptoRow : OpenClaim := { program := "ytmffcpiffkclgaagreat", sum := "372ddd11431acb8d6202a63c922338d0e3e117a5ccfce15ce81047138db69f93", func := "tripwire/tripwirelaw16.SignHolds", spec := "signHolds", inPlace := ["slices.overlaps[tripwire/shelf.row[int, tripwire/dict.entry]]"], unfollowed := true, recurses := true, apart := false, narrowed := true }
def SignHoldsUptoSaid : Prop := signHoldsUptoRow.holds Tryz.pinned (OpenSpec.upto signHoldsSpec)

end Rows
end Go.Proofs.YtmffcpiffkclgaaGreat
