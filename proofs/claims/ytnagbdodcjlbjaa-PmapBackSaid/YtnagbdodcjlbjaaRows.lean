/-
  No cell of these rows narrows 'for every input' (looked for: loops, veiled, ifaces, maps, wideKeys, modest, calm, conditions, laid).
  DERIVED. THE GIVEN ROWS OF THIS SEAT. 8 by the template 'for every input the law returns true; each argument reads behind the call as it read before'; 0 by the template 'total and deterministic' (their statements: YtnagbdodcjlbjaaTotals.lean).
  GIVEN WITH THE SEED: the statements are not yours to turn. If you find one false, say at which input.
  Laid BY PROGRAM, IN A SANDBOX (cutbox-rows.mjs): the forced cells as the released guide's own fill.sh prints them over the translation 478bb1aa9b9262e3… (all of the seat's roots in one cut). By AI agents, Wed Nov 11 2026. No macro, syntax, notation, axiom, sorry.
-/
import Derived.Test.YtnagbdodcjlbjaaChecked
import GoSem.Claim
import GoSem.ClaimJoined
import GoSem.ClaimMapViews
import Derived.JoinedTies
import Derived.KernelRfl
namespace Go.Proofs.Ytnagbdodcjlbjaa
/- THE CELL 'sum', in the pinned program and in every row, IS THE sha256 OF THE DUMP (.gsa) THAT YtnagbdodcjlbjaaProg.lean LOADS. Nothing in Lean hashes anything: it is a label: what it is worth is what the hold of that sum in a sandbox is worth. -/
noncomputable def Try.pinned : Pinned := { name := "ytnagbdodcjlbjaa", sum := "478bb1aa9b9262e3da344ef59123e696e3b9bd26ae45b17e64a17c45a2e4cd8b", checked := Try.checked }
namespace Rows
def none {H : Type} : Left H := { results := [], args := [] }

/-- 'tripwirelaw15.AreaLays': WHATEVER THE INPUT: true; the input reads as it did. -/
def areaLaysSpec : ChangeSpec := { name := "areaLays", fn := fun _ => fun
  | [d1, d2] => { results := [.lit (.bool true)], args := [d1, d2] }
  | _ => none }
def areaLaysRow : OpenClaim := { program := "ytnagbdodcjlbjaa", sum := "478bb1aa9b9262e3da344ef59123e696e3b9bd26ae45b17e64a17c45a2e4cd8b", func := "tripwire/tripwirelaw15.AreaLays", spec := "areaLays", inPlace := ["slices.overlaps[tripwire/shelf.row[int, tripwire/dict.entry]]"], apart := false }
def AreaLaysSaid : Prop := areaLaysRow.holds Try.pinned (OpenSpec.ofChange areaLaysSpec)

/-- ITS FALSE NEIGHBOUR: 'it returns false'. Refute it at one input. -/
def areaLaysWrong : ChangeSpec := { name := "areaLays", fn := fun _ => fun
  | [d1, d2] => { results := [.lit (.bool false)], args := [d1, d2] }
  | _ => none }
def AreaLaysWrongFalsely : Prop := areaLaysRow.holds Try.pinned (OpenSpec.ofChange areaLaysWrong)

/-- 'tripwirelaw15.AreaWords': WHATEVER THE INPUT: true; the input reads as it did. -/
def areaWordsSpec : ChangeSpec := { name := "areaWords", fn := fun _ => fun
  | [d1, d2] => { results := [.lit (.bool true)], args := [d1, d2] }
  | _ => none }
def areaWordsRow : OpenClaim := { program := "ytnagbdodcjlbjaa", sum := "478bb1aa9b9262e3da344ef59123e696e3b9bd26ae45b17e64a17c45a2e4cd8b", func := "tripwire/tripwirelaw15.AreaWords", spec := "areaWords", inPlace := ["slices.overlaps[tripwire/shelf.row[int, tripwire/dict.entry]]"], apart := false }
def AreaWordsSaid : Prop := areaWordsRow.holds Try.pinned (OpenSpec.ofChange areaWordsSpec)

/-- ITS FALSE NEIGHBOUR: 'it returns false'. Refute it at one input. -/
def areaWordsWrong : ChangeSpec := { name := "areaWords", fn := fun _ => fun
  | [d1, d2] => { results := [.lit (.bool false)], args := [d1, d2] }
  | _ => none }
def AreaWordsWrongFalsely : Prop := areaWordsRow.holds Try.pinned (OpenSpec.ofChange areaWordsWrong)

/-- 'tripwirelaw14.DictHolds': WHATEVER THE INPUT: true; the input reads as it did. -/
def dictHoldsSpec : ChangeSpec := { name := "dictHolds", fn := fun _ => fun
  | [d1, d2, d3] => { results := [.lit (.bool true)], args := [d1, d2, d3] }
  | _ => none }
def dictHoldsRow : OpenClaim := { program := "ytnagbdodcjlbjaa", sum := "478bb1aa9b9262e3da344ef59123e696e3b9bd26ae45b17e64a17c45a2e4cd8b", func := "tripwire/tripwirelaw14.DictHolds", spec := "dictHolds", inPlace := ["slices.overlaps[tripwire/shelf.row[int, tripwire/dict.entry]]"], unfollowed := true, recurses := true, apart := false }
def DictHoldsSaid : Prop := dictHoldsRow.holds Try.pinned (OpenSpec.ofChange dictHoldsSpec)

/-- ITS FALSE NEIGHBOUR: 'it returns false'. Refute it at one input. -/
def dictHoldsWrong : ChangeSpec := { name := "dictHolds", fn := fun _ => fun
  | [d1, d2, d3] => { results := [.lit (.bool false)], args := [d1, d2, d3] }
  | _ => none }
def DictHoldsWrongFalsely : Prop := dictHoldsRow.holds Try.pinned (OpenSpec.ofChange dictHoldsWrong)

/-- 'tripwirelaw14.DictTells': WHATEVER THE INPUT: true; the input reads as it did. -/
def dictTellsSpec : ChangeSpec := { name := "dictTells", fn := fun _ => fun
  | [d1, d2] => { results := [.lit (.bool true)], args := [d1, d2] }
  | _ => none }
def dictTellsRow : OpenClaim := { program := "ytnagbdodcjlbjaa", sum := "478bb1aa9b9262e3da344ef59123e696e3b9bd26ae45b17e64a17c45a2e4cd8b", func := "tripwire/tripwirelaw14.DictTells", spec := "dictTells", inPlace := ["slices.overlaps[tripwire/shelf.row[int, tripwire/dict.entry]]"], unfollowed := true, recurses := true, apart := false }
def DictTellsSaid : Prop := dictTellsRow.holds Try.pinned (OpenSpec.ofChange dictTellsSpec)

/-- ITS FALSE NEIGHBOUR: 'it returns false'. Refute it at one input. -/
def dictTellsWrong : ChangeSpec := { name := "dictTells", fn := fun _ => fun
  | [d1, d2] => { results := [.lit (.bool false)], args := [d1, d2] }
  | _ => none }
def DictTellsWrongFalsely : Prop := dictTellsRow.holds Try.pinned (OpenSpec.ofChange dictTellsWrong)

/-- 'tripwirelaw25.PmapPacks': WHATEVER THE INPUT: true; the input reads as it did. -/
def pmapPacksSpec : ChangeSpec := { name := "pmapPacks", fn := fun _ => fun
  | [d1, d2] => { results := [.lit (.bool true)], args := [d1, d2] }
  | _ => none }
def pmapPacksRow : OpenClaim := { program := "ytnagbdodcjlbjaa", sum := "478bb1aa9b9262e3da344ef59123e696e3b9bd26ae45b17e64a17c45a2e4cd8b", func := "tripwire/tripwirelaw25.PmapPacks", spec := "pmapPacks", inPlace := ["slices.overlaps[tripwire/shelf.row[int, tripwire/dict.entry]]"], apart := false }
def PmapPacksSaid : Prop := pmapPacksRow.holds Try.pinned (OpenSpec.ofChange pmapPacksSpec)

/-- ITS FALSE NEIGHBOUR: 'it returns false'. Refute it at one input. -/
def pmapPacksWrong : ChangeSpec := { name := "pmapPacks", fn := fun _ => fun
  | [d1, d2] => { results := [.lit (.bool false)], args := [d1, d2] }
  | _ => none }
def PmapPacksWrongFalsely : Prop := pmapPacksRow.holds Try.pinned (OpenSpec.ofChange pmapPacksWrong)

/-- 'tripwirelaw14.DictFull': WHATEVER THE INPUT: true; the input reads as it did. -/
def dictFullSpec : ChangeSpec := { name := "dictFull", fn := fun _ => fun
  | [d] => { results := [.lit (.bool true)], args := [d] }
  | _ => none }
def dictFullRow : OpenClaim := { program := "ytnagbdodcjlbjaa", sum := "478bb1aa9b9262e3da344ef59123e696e3b9bd26ae45b17e64a17c45a2e4cd8b", func := "tripwire/tripwirelaw14.DictFull", spec := "dictFull", inPlace := ["slices.overlaps[tripwire/shelf.row[int, tripwire/dict.entry]]"], unfollowed := true, recurses := true, apart := false }
def DictFullSaid : Prop := dictFullRow.holds Try.pinned (OpenSpec.ofChange dictFullSpec)

/-- ITS FALSE NEIGHBOUR: 'it returns false'. Refute it at one input. -/
def dictFullWrong : ChangeSpec := { name := "dictFull", fn := fun _ => fun
  | [d] => { results := [.lit (.bool false)], args := [d] }
  | _ => none }
def DictFullWrongFalsely : Prop := dictFullRow.holds Try.pinned (OpenSpec.ofChange dictFullWrong)

/-- 'tripwirelaw14.DictPlays': WHATEVER THE INPUT: true; the input reads as it did. -/
def dictPlaysSpec : ChangeSpec := { name := "dictPlays", fn := fun _ => fun
  | [d] => { results := [.lit (.bool true)], args := [d] }
  | _ => none }
def dictPlaysRow : OpenClaim := { program := "ytnagbdodcjlbjaa", sum := "478bb1aa9b9262e3da344ef59123e696e3b9bd26ae45b17e64a17c45a2e4cd8b", func := "tripwire/tripwirelaw14.DictPlays", spec := "dictPlays", inPlace := ["slices.overlaps[tripwire/shelf.row[int, tripwire/dict.entry]]"], unfollowed := true, recurses := true, apart := false }
def DictPlaysSaid : Prop := dictPlaysRow.holds Try.pinned (OpenSpec.ofChange dictPlaysSpec)

/-- ITS FALSE NEIGHBOUR: 'it returns false'. Refute it at one input. -/
def dictPlaysWrong : ChangeSpec := { name := "dictPlays", fn := fun _ => fun
  | [d] => { results := [.lit (.bool false)], args := [d] }
  | _ => none }
def DictPlaysWrongFalsely : Prop := dictPlaysRow.holds Try.pinned (OpenSpec.ofChange dictPlaysWrong)

/-- 'tripwirelaw25.PmapBack': WHATEVER THE INPUT: true; the input reads as it did. -/
def pmapBackSpec : ChangeSpec := { name := "pmapBack", fn := fun _ => fun
  | [d1, d2, d3] => { results := [.lit (.bool true)], args := [d1, d2, d3] }
  | _ => none }
def pmapBackRow : OpenClaim := { program := "ytnagbdodcjlbjaa", sum := "478bb1aa9b9262e3da344ef59123e696e3b9bd26ae45b17e64a17c45a2e4cd8b", func := "tripwire/tripwirelaw25.PmapBack", spec := "pmapBack", inPlace := ["slices.overlaps[tripwire/shelf.row[int, tripwire/dict.entry]]"], apart := false }
def PmapBackSaid : Prop := pmapBackRow.holds Try.pinned (OpenSpec.ofChange pmapBackSpec)

/-- ITS FALSE NEIGHBOUR: 'it returns false'. Refute it at one input. -/
def pmapBackWrong : ChangeSpec := { name := "pmapBack", fn := fun _ => fun
  | [d1, d2, d3] => { results := [.lit (.bool false)], args := [d1, d2, d3] }
  | _ => none }
def PmapBackWrongFalsely : Prop := pmapBackRow.holds Try.pinned (OpenSpec.ofChange pmapBackWrong)

/- THE SECOND FORM. 'bulk': how many values and letters a reading holds, each counted each time it is reached (what is shared counts as often as it is met; a slice's spare places count too). A statement '..UptoSaid' is the law's where the arguments, and the package variables that the reading takes, are together of bulk at most 1048576: NARROWER than '..Said'. Prove '..Said' where nothing that the law and all that it calls make is longer than what came in: it says more and counts as full. Else prove '..UptoSaid'. A law counts once. -/
mutual
def uptoBulk {H : Type} : DataW H → Nat
  | .lit (.string bytes) => bytes.length + 1
  | .lit _ => 1
  | .nil => 1
  | .ptr d => uptoBulk d + 1
  | .slice elems spare => uptoBulkAll elems + uptoBulkAll spare + 1
  | .agg parts => uptoBulkAll parts + 1
  | .iface _ d => uptoBulk d + 1
  | .map entries => uptoBulkEntries entries + 1
  | .held _ => 1
def uptoBulkAll {H : Type} : List (DataW H) → Nat
  | [] => 0
  | d :: r => uptoBulk d + uptoBulkAll r
def uptoBulkEntries {H : Type} : List (Lit × DataW H) → Nat
  | [] => 0
  | x :: r => uptoBulkEntry x + uptoBulkEntries r
def uptoBulkEntry {H : Type} : Lit × DataW H → Nat
  | (.string bytes, d) => bytes.length + uptoBulk d + 1
  | (_, d) => uptoBulk d + 1
 end
def uptoSmall : (H : Type) → List (DataW H) → Bool := fun _ ds => decide (uptoBulkAll ds ≤ 1048576)
def OpenSpec.upto (s : _root_.Go.ChangeSpec) : _root_.Go.OpenSpec := { _root_.Go.OpenSpec.ofChange s with cond := some uptoSmall }

/-- 'tripwirelaw15.AreaLays', WHERE WHAT IT READS IS OF BULK AT MOST 1048576: true; the input reads as it did. -/
def areaLaysUptoRow : OpenClaim := { program := "ytnagbdodcjlbjaa", sum := "478bb1aa9b9262e3da344ef59123e696e3b9bd26ae45b17e64a17c45a2e4cd8b", func := "tripwire/tripwirelaw15.AreaLays", spec := "areaLays", inPlace := ["slices.overlaps[tripwire/shelf.row[int, tripwire/dict.entry]]"], apart := false, narrowed := true }
def AreaLaysUptoSaid : Prop := areaLaysUptoRow.holds Try.pinned (OpenSpec.upto areaLaysSpec)

/-- 'tripwirelaw15.AreaWords', WHERE WHAT IT READS IS OF BULK AT MOST 1048576: true; the input reads as it did. -/
def areaWordsUptoRow : OpenClaim := { program := "ytnagbdodcjlbjaa", sum := "478bb1aa9b9262e3da344ef59123e696e3b9bd26ae45b17e64a17c45a2e4cd8b", func := "tripwire/tripwirelaw15.AreaWords", spec := "areaWords", inPlace := ["slices.overlaps[tripwire/shelf.row[int, tripwire/dict.entry]]"], apart := false, narrowed := true }
def AreaWordsUptoSaid : Prop := areaWordsUptoRow.holds Try.pinned (OpenSpec.upto areaWordsSpec)

/-- 'tripwirelaw14.DictHolds', WHERE WHAT IT READS IS OF BULK AT MOST 1048576: true; the input reads as it did. -/
def dictHoldsUptoRow : OpenClaim := { program := "ytnagbdodcjlbjaa", sum := "478bb1aa9b9262e3da344ef59123e696e3b9bd26ae45b17e64a17c45a2e4cd8b", func := "tripwire/tripwirelaw14.DictHolds", spec := "dictHolds", inPlace := ["slices.overlaps[tripwire/shelf.row[int, tripwire/dict.entry]]"], unfollowed := true, recurses := true, apart := false, narrowed := true }
def DictHoldsUptoSaid : Prop := dictHoldsUptoRow.holds Try.pinned (OpenSpec.upto dictHoldsSpec)

/-- 'tripwirelaw14.DictTells', WHERE WHAT IT READS IS OF BULK AT MOST 1048576: true; the input reads as it did. -/
def dictTellsUptoRow : OpenClaim := { program := "ytnagbdodcjlbjaa", sum := "478bb1aa9b9262e3da344ef59123e696e3b9bd26ae45b17e64a17c45a2e4cd8b", func := "tripwire/tripwirelaw14.DictTells", spec := "dictTells", inPlace := ["slices.overlaps[tripwire/shelf.row[int, tripwire/dict.entry]]"], unfollowed := true, recurses := true, apart := false, narrowed := true }
def DictTellsUptoSaid : Prop := dictTellsUptoRow.holds Try.pinned (OpenSpec.upto dictTellsSpec)

/-- 'tripwirelaw25.PmapPacks', WHERE WHAT IT READS IS OF BULK AT MOST 1048576: true; the input reads as it did. -/
def pmapPacksUptoRow : OpenClaim := { program := "ytnagbdodcjlbjaa", sum := "478bb1aa9b9262e3da344ef59123e696e3b9bd26ae45b17e64a17c45a2e4cd8b", func := "tripwire/tripwirelaw25.PmapPacks", spec := "pmapPacks", inPlace := ["slices.overlaps[tripwire/shelf.row[int, tripwire/dict.entry]]"], apart := false, narrowed := true }
def PmapPacksUptoSaid : Prop := pmapPacksUptoRow.holds Try.pinned (OpenSpec.upto pmapPacksSpec)

/-- 'tripwirelaw14.DictFull', WHERE WHAT IT READS IS OF BULK AT MOST 1048576: true; the input reads as it did. -/
def dictFullUptoRow : OpenClaim := { program := "ytnagbdodcjlbjaa", sum := "478bb1aa9b9262e3da344ef59123e696e3b9bd26ae45b17e64a17c45a2e4cd8b", func := "tripwire/tripwirelaw14.DictFull", spec := "dictFull", inPlace := ["slices.overlaps[tripwire/shelf.row[int, tripwire/dict.entry]]"], unfollowed := true, recurses := true, apart := false, narrowed := true }
def DictFullUptoSaid : Prop := dictFullUptoRow.holds Try.pinned (OpenSpec.upto dictFullSpec)

/-- 'tripwirelaw14.DictPlays', WHERE WHAT IT READS IS OF BULK AT MOST 1048576: true; the input reads as it did. -/
def dictPlaysUptoRow : OpenClaim := { program := "ytnagbdodcjlbjaa", sum := "478bb1aa9b9262e3da344ef59123e696e3b9bd26ae45b17e64a17c45a2e4cd8b", func := "tripwire/tripwirelaw14.DictPlays", spec := "dictPlays", inPlace := ["slices.overlaps[tripwire/shelf.row[int, tripwire/dict.entry]]"], unfollowed := true, recurses := true, apart := false, narrowed := true }
def DictPlaysUptoSaid : Prop := dictPlaysUptoRow.holds Try.pinned (OpenSpec.upto dictPlaysSpec)

/-- 'tripwirelaw25.PmapBack', WHERE WHAT IT READS IS OF BULK AT MOST 1048576: true; the input reads as it did. -/
def pmapBackUptoRow : OpenClaim := { program := "ytnagbdodcjlbjaa", sum := "478bb1aa9b9262e3da344ef59123e696e3b9bd26ae45b17e64a17c45a2e4cd8b", func := "tripwire/tripwirelaw25.PmapBack", spec := "pmapBack", inPlace := ["slices.overlaps[tripwire/shelf.row[int, tripwire/dict.entry]]"], apart := false, narrowed := true }
def PmapBackUptoSaid : Prop := pmapBackUptoRow.holds Try.pinned (OpenSpec.upto pmapBackSpec)

end Rows
end Go.Proofs.Ytnagbdodcjlbjaa
