/-
  No cell of these rows narrows 'for every input' (looked for: loops, veiled, ifaces, maps, wideKeys, modest, calm, conditions, laid).
  DERIVED. THE GIVEN ROWS OF THIS SEAT. 4 by the template 'for every input the law returns true; each argument reads behind the call as it read before'; 0 by the template 'total and deterministic' (their statements: YtbbpkkeaddbcnaaTotals.lean).
  GIVEN WITH THE SEED: the statements are not yours to turn. If you find one false, say at which input.
  Laid BY PROGRAM, IN A SANDBOX (cutbox-rows.mjs): the forced cells as the released guide's own fill.sh prints them over the translation 22c4578b860cf644… (all of the seat's roots in one cut). By AI agents, Wed Nov 11 2026. No macro, syntax, notation, axiom, sorry.
-/
import Derived.Test.YtbbpkkeaddbcnaaChecked
import GoSem.Claim
import GoSem.ClaimJoined
import GoSem.ClaimMapViews
import Derived.JoinedTies
import Derived.KernelRfl
namespace Go.Proofs.Ytbbpkkeaddbcnaa
/- THE CELL 'sum', in the pinned program and in every row, IS THE sha256 OF THE DUMP (.gsa) THAT YtbbpkkeaddbcnaaProg.lean LOADS. Nothing in Lean hashes anything: it is a label: what it is worth is what the hold of that sum in a sandbox is worth. -/
noncomputable def Try.pinned : Pinned := { name := "ytbbpkkeaddbcnaa", sum := "22c4578b860cf6447981169a977d5173cd6a913320354f5329c02d971b44c406", checked := Try.checked }
namespace Rows
def none {H : Type} : Left H := { results := [], args := [] }

/-- 'tripwirelaw43.QuietScripts': WHATEVER THE INPUT: true; the input reads as it did. -/
def quietScriptsSpec : ChangeSpec := { name := "quietScripts", fn := fun _ => fun
  | [d1, d2] => { results := [.lit (.bool true)], args := [d1, d2] }
  | _ => none }
def quietScriptsRow : OpenClaim := { program := "ytbbpkkeaddbcnaa", sum := "22c4578b860cf6447981169a977d5173cd6a913320354f5329c02d971b44c406", func := "tripwire/tripwirelaw43.QuietScripts", spec := "quietScripts", unfollowed := true, recurses := true, apart := false }
def QuietScriptsSaid : Prop := quietScriptsRow.holds Try.pinned (OpenSpec.ofChange quietScriptsSpec)

/-- ITS FALSE NEIGHBOUR: 'it returns false'. Refute it at one input. -/
def quietScriptsWrong : ChangeSpec := { name := "quietScripts", fn := fun _ => fun
  | [d1, d2] => { results := [.lit (.bool false)], args := [d1, d2] }
  | _ => none }
def QuietScriptsWrongFalsely : Prop := quietScriptsRow.holds Try.pinned (OpenSpec.ofChange quietScriptsWrong)

/-- 'tripwirelaw43.QuietMarks': WHATEVER THE INPUT: true; the input reads as it did. -/
def quietMarksSpec : ChangeSpec := { name := "quietMarks", fn := fun _ => fun
  | [d1, d2] => { results := [.lit (.bool true)], args := [d1, d2] }
  | _ => none }
def quietMarksRow : OpenClaim := { program := "ytbbpkkeaddbcnaa", sum := "22c4578b860cf6447981169a977d5173cd6a913320354f5329c02d971b44c406", func := "tripwire/tripwirelaw43.QuietMarks", spec := "quietMarks", unfollowed := true, recurses := true, apart := false }
def QuietMarksSaid : Prop := quietMarksRow.holds Try.pinned (OpenSpec.ofChange quietMarksSpec)

/-- ITS FALSE NEIGHBOUR: 'it returns false'. Refute it at one input. -/
def quietMarksWrong : ChangeSpec := { name := "quietMarks", fn := fun _ => fun
  | [d1, d2] => { results := [.lit (.bool false)], args := [d1, d2] }
  | _ => none }
def QuietMarksWrongFalsely : Prop := quietMarksRow.holds Try.pinned (OpenSpec.ofChange quietMarksWrong)

/-- 'tripwirelaw38.AuditLooks': WHATEVER THE INPUT: true; the input reads as it did. -/
def auditLooksSpec : ChangeSpec := { name := "auditLooks", fn := fun _ => fun
  | [d1, d2, d3, d4] => { results := [.lit (.bool true)], args := [d1, d2, d3, d4] }
  | _ => none }
def auditLooksRow : OpenClaim := { program := "ytbbpkkeaddbcnaa", sum := "22c4578b860cf6447981169a977d5173cd6a913320354f5329c02d971b44c406", func := "tripwire/tripwirelaw38.AuditLooks", spec := "auditLooks", unfollowed := true, recurses := true, apart := false }
def AuditLooksSaid : Prop := auditLooksRow.holds Try.pinned (OpenSpec.ofChange auditLooksSpec)

/-- ITS FALSE NEIGHBOUR: 'it returns false'. Refute it at one input. -/
def auditLooksWrong : ChangeSpec := { name := "auditLooks", fn := fun _ => fun
  | [d1, d2, d3, d4] => { results := [.lit (.bool false)], args := [d1, d2, d3, d4] }
  | _ => none }
def AuditLooksWrongFalsely : Prop := auditLooksRow.holds Try.pinned (OpenSpec.ofChange auditLooksWrong)

/-- 'tripwirelaw42.AlonePlays': WHATEVER THE INPUT: true; the input reads as it did. -/
def alonePlaysSpec : ChangeSpec := { name := "alonePlays", fn := fun _ => fun
  | [d1, d2, d3, d4, d5] => { results := [.lit (.bool true)], args := [d1, d2, d3, d4, d5] }
  | _ => none }
def alonePlaysRow : OpenClaim := { program := "ytbbpkkeaddbcnaa", sum := "22c4578b860cf6447981169a977d5173cd6a913320354f5329c02d971b44c406", func := "tripwire/tripwirelaw42.AlonePlays", spec := "alonePlays", unfollowed := true, recurses := true, apart := false }
def AlonePlaysSaid : Prop := alonePlaysRow.holds Try.pinned (OpenSpec.ofChange alonePlaysSpec)

/-- ITS FALSE NEIGHBOUR: 'it returns false'. Refute it at one input. -/
def alonePlaysWrong : ChangeSpec := { name := "alonePlays", fn := fun _ => fun
  | [d1, d2, d3, d4, d5] => { results := [.lit (.bool false)], args := [d1, d2, d3, d4, d5] }
  | _ => none }
def AlonePlaysWrongFalsely : Prop := alonePlaysRow.holds Try.pinned (OpenSpec.ofChange alonePlaysWrong)

/- THE SECOND FORM. 'bulk': how many values and letters a reading holds, each counted each time it is reached (what is shared counts as often as it is met; a slice's spare places count too). A statement '..UptoSaid' is the law's where the arguments, and the package variables that the reading takes, are together of bulk at most 1048576: NARROWER than '..Said'. Prove '..Said' where nothing that the law and all that it calls make is longer than what came in: it says more and counts as full. Else prove '..UptoSaid'. A law counts once. -/
mutual
def uptoBulk {H : Type} : DataW H → Nat
  | .lit (.string bytes) => bytes.length + 1
  | .lit _ => 1
  | .nil => 1
  | .ptr d => uptoBulk d + 1
  | .slice elems spare => uptoBulkAll elems + uptoBulkAll spare + 1
  | .agg parts => uptoBulkAll parts + 1
  | .iface _ d => uptoBulk d + 1
  | .map entries => uptoBulkEntries entries + 1
  | .held _ => 1
def uptoBulkAll {H : Type} : List (DataW H) → Nat
  | [] => 0
  | d :: r => uptoBulk d + uptoBulkAll r
def uptoBulkEntries {H : Type} : List (Lit × DataW H) → Nat
  | [] => 0
  | x :: r => uptoBulkEntry x + uptoBulkEntries r
def uptoBulkEntry {H : Type} : Lit × DataW H → Nat
  | (.string bytes, d) => bytes.length + uptoBulk d + 1
  | (_, d) => uptoBulk d + 1
 end
def uptoSmall : (H : Type) → List (DataW H) → Bool := fun _ ds => decide (uptoBulkAll ds ≤ 1048576)
def OpenSpec.upto (s : _root_.Go.ChangeSpec) : _root_.Go.OpenSpec := { _root_.Go.OpenSpec.ofChange s with cond := some uptoSmall }

/-- 'tripwirelaw43.QuietScripts', WHERE WHAT IT READS IS OF BULK AT MOST 1048576: true; the input reads as it did. -/
def quietScriptsUptoRow : OpenClaim := { program := "ytbbpkkeaddbcnaa", sum := "22c4578b860cf6447981169a977d5173cd6a913320354f5329c02d971b44c406", func := "tripwire/tripwirelaw43.QuietScripts", spec := "quietScripts", unfollowed := true, recurses := true, apart := false, narrowed := true }
def QuietScriptsUptoSaid : Prop := quietScriptsUptoRow.holds Try.pinned (OpenSpec.upto quietScriptsSpec)

/-- 'tripwirelaw43.QuietMarks', WHERE WHAT IT READS IS OF BULK AT MOST 1048576: true; the input reads as it did. -/
def quietMarksUptoRow : OpenClaim := { program := "ytbbpkkeaddbcnaa", sum := "22c4578b860cf6447981169a977d5173cd6a913320354f5329c02d971b44c406", func := "tripwire/tripwirelaw43.QuietMarks", spec := "quietMarks", unfollowed := true, recurses := true, apart := false, narrowed := true }
def QuietMarksUptoSaid : Prop := quietMarksUptoRow.holds Try.pinned (OpenSpec.upto quietMarksSpec)

/-- 'tripwirelaw38.AuditLooks', WHERE WHAT IT READS IS OF BULK AT MOST 1048576: true; the input reads as it did. -/
def auditLooksUptoRow : OpenClaim := { program := "ytbbpkkeaddbcnaa", sum := "22c4578b860cf6447981169a977d5173cd6a913320354f5329c02d971b44c406", func := "tripwire/tripwirelaw38.AuditLooks", spec := "auditLooks", unfollowed := true, recurses := true, apart := false, narrowed := true }
def AuditLooksUptoSaid : Prop := auditLooksUptoRow.holds Try.pinned (OpenSpec.upto auditLooksSpec)

/-- 'tripwirelaw42.AlonePlays', WHERE WHAT IT READS IS OF BULK AT MOST 1048576: true; the input reads as it did. -/
def alonePlaysUptoRow : OpenClaim := { program := "ytbbpkkeaddbcnaa", sum := "22c4578b860cf6447981169a977d5173cd6a913320354f5329c02d971b44c406", func := "tripwire/tripwirelaw42.AlonePlays", spec := "alonePlays", unfollowed := true, recurses := true, apart := false, narrowed := true }
def AlonePlaysUptoSaid : Prop := alonePlaysUptoRow.holds Try.pinned (OpenSpec.upto alonePlaysSpec)

end Rows
end Go.Proofs.Ytbbpkkeaddbcnaa
