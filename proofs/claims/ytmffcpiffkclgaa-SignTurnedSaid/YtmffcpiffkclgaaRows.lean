/-
  No cell of these rows narrows 'for every input' (looked for: loops, veiled, ifaces, maps, wideKeys, modest, calm, conditions, laid).
  DERIVED. THE GIVEN ROWS OF THIS SEAT. 8 by the template 'for every input the law returns true; each argument reads behind the call as it read before'; 0 by the template 'total and deterministic' (their statements: YtmffcpiffkclgaaTotals.lean).
  GIVEN WITH THE SEED: the statements are not yours to turn. If you find one false, say at which input.
  Laid BY PROGRAM, IN A SANDBOX (cutbox-rows.mjs): the forced cells as the released guide's own fill.sh prints them over the translation 61a1ba5d1ef8034f… (all of the seat's roots in one cut). By AI agents, Wed Nov 11 2026. No macro, syntax, notation, axiom, sorry.
-/
import Derived.Test.YtmffcpiffkclgaaChecked
import GoSem.Claim
import GoSem.ClaimJoined
import GoSem.ClaimMapViews
import Derived.JoinedTies
import Derived.KernelRfl
namespace Go.Proofs.Ytmffcpiffkclgaa
/- THE CELL 'sum', in the pinned program and in every row, IS THE sha256 OF THE DUMP (.gsa) THAT YtmffcpiffkclgaaProg.lean LOADS. Nothing in Lean hashes anything: it is a label: what it is worth is what the hold of that sum in a sandbox is worth. -/
noncomputable def Try.pinned : Pinned := { name := "ytmffcpiffkclgaa", sum := "61a1ba5d1ef8034f49561c7b8dcdf96ed75b3291413a318d112b3bb1afab095e", checked := Try.checked }
namespace Rows
def none {H : Type} : Left H := { results := [], args := [] }

/-- 'tripwirelaw25.PmapUnpacks': WHATEVER THE INPUT: true; the input reads as it did. -/
def pmapUnpacksSpec : ChangeSpec := { name := "pmapUnpacks", fn := fun _ => fun
  | [d1, d2] => { results := [.lit (.bool true)], args := [d1, d2] }
  | _ => none }
def pmapUnpacksRow : OpenClaim := { program := "ytmffcpiffkclgaa", sum := "61a1ba5d1ef8034f49561c7b8dcdf96ed75b3291413a318d112b3bb1afab095e", func := "tripwire/tripwirelaw25.PmapUnpacks", spec := "pmapUnpacks", inPlace := ["slices.overlaps[tripwire/shelf.row[int, tripwire/dict.entry]]"], apart := false }
def PmapUnpacksSaid : Prop := pmapUnpacksRow.holds Try.pinned (OpenSpec.ofChange pmapUnpacksSpec)

/-- ITS FALSE NEIGHBOUR: 'it returns false'. Refute it at one input. -/
def pmapUnpacksWrong : ChangeSpec := { name := "pmapUnpacks", fn := fun _ => fun
  | [d1, d2] => { results := [.lit (.bool false)], args := [d1, d2] }
  | _ => none }
def PmapUnpacksWrongFalsely : Prop := pmapUnpacksRow.holds Try.pinned (OpenSpec.ofChange pmapUnpacksWrong)

/-- 'tripwirelaw15.AreaWrites': WHATEVER THE INPUT: true; the input reads as it did. -/
def areaWritesSpec : ChangeSpec := { name := "areaWrites", fn := fun _ => fun
  | [d] => { results := [.lit (.bool true)], args := [d] }
  | _ => none }
def areaWritesRow : OpenClaim := { program := "ytmffcpiffkclgaa", sum := "61a1ba5d1ef8034f49561c7b8dcdf96ed75b3291413a318d112b3bb1afab095e", func := "tripwire/tripwirelaw15.AreaWrites", spec := "areaWrites", inPlace := ["slices.overlaps[tripwire/shelf.row[int, tripwire/dict.entry]]"], unfollowed := true, recurses := true, apart := false }
def AreaWritesSaid : Prop := areaWritesRow.holds Try.pinned (OpenSpec.ofChange areaWritesSpec)

/-- ITS FALSE NEIGHBOUR: 'it returns false'. Refute it at one input. -/
def areaWritesWrong : ChangeSpec := { name := "areaWrites", fn := fun _ => fun
  | [d] => { results := [.lit (.bool false)], args := [d] }
  | _ => none }
def AreaWritesWrongFalsely : Prop := areaWritesRow.holds Try.pinned (OpenSpec.ofChange areaWritesWrong)

/-- 'tripwirelaw15.AreaChannels': WHATEVER THE INPUT: true; the input reads as it did. -/
def areaChannelsSpec : ChangeSpec := { name := "areaChannels", fn := fun _ => fun
  | [d1, d2] => { results := [.lit (.bool true)], args := [d1, d2] }
  | _ => none }
def areaChannelsRow : OpenClaim := { program := "ytmffcpiffkclgaa", sum := "61a1ba5d1ef8034f49561c7b8dcdf96ed75b3291413a318d112b3bb1afab095e", func := "tripwire/tripwirelaw15.AreaChannels", spec := "areaChannels", inPlace := ["slices.overlaps[tripwire/shelf.row[int, tripwire/dict.entry]]"], unfollowed := true, recurses := true, apart := false }
def AreaChannelsSaid : Prop := areaChannelsRow.holds Try.pinned (OpenSpec.ofChange areaChannelsSpec)

/-- ITS FALSE NEIGHBOUR: 'it returns false'. Refute it at one input. -/
def areaChannelsWrong : ChangeSpec := { name := "areaChannels", fn := fun _ => fun
  | [d1, d2] => { results := [.lit (.bool false)], args := [d1, d2] }
  | _ => none }
def AreaChannelsWrongFalsely : Prop := areaChannelsRow.holds Try.pinned (OpenSpec.ofChange areaChannelsWrong)

/-- 'tripwirelaw15.AreaStores': WHATEVER THE INPUT: true; the input reads as it did. -/
def areaStoresSpec : ChangeSpec := { name := "areaStores", fn := fun _ => fun
  | [d1, d2, d3] => { results := [.lit (.bool true)], args := [d1, d2, d3] }
  | _ => none }
def areaStoresRow : OpenClaim := { program := "ytmffcpiffkclgaa", sum := "61a1ba5d1ef8034f49561c7b8dcdf96ed75b3291413a318d112b3bb1afab095e", func := "tripwire/tripwirelaw15.AreaStores", spec := "areaStores", inPlace := ["slices.overlaps[tripwire/shelf.row[int, tripwire/dict.entry]]"], apart := false }
def AreaStoresSaid : Prop := areaStoresRow.holds Try.pinned (OpenSpec.ofChange areaStoresSpec)

/-- ITS FALSE NEIGHBOUR: 'it returns false'. Refute it at one input. -/
def areaStoresWrong : ChangeSpec := { name := "areaStores", fn := fun _ => fun
  | [d1, d2, d3] => { results := [.lit (.bool false)], args := [d1, d2, d3] }
  | _ => none }
def AreaStoresWrongFalsely : Prop := areaStoresRow.holds Try.pinned (OpenSpec.ofChange areaStoresWrong)

/-- 'tripwirelaw32.ImagePlays': WHATEVER THE INPUT: true; the input reads as it did. -/
def imagePlaysSpec : ChangeSpec := { name := "imagePlays", fn := fun _ => fun
  | [d1, d2] => { results := [.lit (.bool true)], args := [d1, d2] }
  | _ => none }
def imagePlaysRow : OpenClaim := { program := "ytmffcpiffkclgaa", sum := "61a1ba5d1ef8034f49561c7b8dcdf96ed75b3291413a318d112b3bb1afab095e", func := "tripwire/tripwirelaw32.ImagePlays", spec := "imagePlays", inPlace := ["slices.overlaps[tripwire/shelf.row[int, tripwire/dict.entry]]"], unfollowed := true, recurses := true, apart := false }
def ImagePlaysSaid : Prop := imagePlaysRow.holds Try.pinned (OpenSpec.ofChange imagePlaysSpec)

/-- ITS FALSE NEIGHBOUR: 'it returns false'. Refute it at one input. -/
def imagePlaysWrong : ChangeSpec := { name := "imagePlays", fn := fun _ => fun
  | [d1, d2] => { results := [.lit (.bool false)], args := [d1, d2] }
  | _ => none }
def ImagePlaysWrongFalsely : Prop := imagePlaysRow.holds Try.pinned (OpenSpec.ofChange imagePlaysWrong)

/-- 'tripwirelaw32.ImageSlots': WHATEVER THE INPUT: true; the input reads as it did. -/
def imageSlotsSpec : ChangeSpec := { name := "imageSlots", fn := fun _ => fun
  | [d1, d2, d3, d4] => { results := [.lit (.bool true)], args := [d1, d2, d3, d4] }
  | _ => none }
def imageSlotsRow : OpenClaim := { program := "ytmffcpiffkclgaa", sum := "61a1ba5d1ef8034f49561c7b8dcdf96ed75b3291413a318d112b3bb1afab095e", func := "tripwire/tripwirelaw32.ImageSlots", spec := "imageSlots", inPlace := ["slices.overlaps[tripwire/shelf.row[int, tripwire/dict.entry]]"], unfollowed := true, recurses := true, apart := false }
def ImageSlotsSaid : Prop := imageSlotsRow.holds Try.pinned (OpenSpec.ofChange imageSlotsSpec)

/-- ITS FALSE NEIGHBOUR: 'it returns false'. Refute it at one input. -/
def imageSlotsWrong : ChangeSpec := { name := "imageSlots", fn := fun _ => fun
  | [d1, d2, d3, d4] => { results := [.lit (.bool false)], args := [d1, d2, d3, d4] }
  | _ => none }
def ImageSlotsWrongFalsely : Prop := imageSlotsRow.holds Try.pinned (OpenSpec.ofChange imageSlotsWrong)

/-- 'tripwirelaw32.ImageHolds': WHATEVER THE INPUT: true; the input reads as it did. -/
def imageHoldsSpec : ChangeSpec := { name := "imageHolds", fn := fun _ => fun
  | [d1, d2, d3, d4] => { results := [.lit (.bool true)], args := [d1, d2, d3, d4] }
  | _ => none }
def imageHoldsRow : OpenClaim := { program := "ytmffcpiffkclgaa", sum := "61a1ba5d1ef8034f49561c7b8dcdf96ed75b3291413a318d112b3bb1afab095e", func := "tripwire/tripwirelaw32.ImageHolds", spec := "imageHolds", inPlace := ["slices.overlaps[tripwire/shelf.row[int, tripwire/dict.entry]]"], unfollowed := true, recurses := true, apart := false }
def ImageHoldsSaid : Prop := imageHoldsRow.holds Try.pinned (OpenSpec.ofChange imageHoldsSpec)

/-- ITS FALSE NEIGHBOUR: 'it returns false'. Refute it at one input. -/
def imageHoldsWrong : ChangeSpec := { name := "imageHolds", fn := fun _ => fun
  | [d1, d2, d3, d4] => { results := [.lit (.bool false)], args := [d1, d2, d3, d4] }
  | _ => none }
def ImageHoldsWrongFalsely : Prop := imageHoldsRow.holds Try.pinned (OpenSpec.ofChange imageHoldsWrong)

/-- 'tripwirelaw16.SignTurned': WHATEVER THE INPUT: true; the input reads as it did. -/
def signTurnedSpec : ChangeSpec := { name := "signTurned", fn := fun _ => fun
  | [d1, d2, d3] => { results := [.lit (.bool true)], args := [d1, d2, d3] }
  | _ => none }
def signTurnedRow : OpenClaim := { program := "ytmffcpiffkclgaa", sum := "61a1ba5d1ef8034f49561c7b8dcdf96ed75b3291413a318d112b3bb1afab095e", func := "tripwire/tripwirelaw16.SignTurned", spec := "signTurned", inPlace := ["slices.overlaps[tripwire/shelf.row[int, tripwire/dict.entry]]"], unfollowed := true, recurses := true, apart := false }
def SignTurnedSaid : Prop := signTurnedRow.holds Try.pinned (OpenSpec.ofChange signTurnedSpec)

/-- ITS FALSE NEIGHBOUR: 'it returns false'. Refute it at one input. -/
def signTurnedWrong : ChangeSpec := { name := "signTurned", fn := fun _ => fun
  | [d1, d2, d3] => { results := [.lit (.bool false)], args := [d1, d2, d3] }
  | _ => none }
def SignTurnedWrongFalsely : Prop := signTurnedRow.holds Try.pinned (OpenSpec.ofChange signTurnedWrong)

/- THE SECOND FORM. 'bulk': how many values and letters a reading holds, each counted each time it is reached (what is shared counts as often as it is met; a slice's spare places count too). A statement '..UptoSaid' is the law's where the arguments, and the package variables that the reading takes, are together of bulk at most 1048576: NARROWER than '..Said'. Prove '..Said' where nothing that the law and all that it calls make is longer than what came in: it says more and counts as full. Else prove '..UptoSaid'. A law counts once. -/
mutual
def uptoBulk {H : Type} : DataW H → Nat
  | .lit (.string bytes) => bytes.length + 1
  | .lit _ => 1
  | .nil => 1
  | .ptr d => uptoBulk d + 1
  | .slice elems spare => uptoBulkAll elems + uptoBulkAll spare + 1
  | .agg parts => uptoBulkAll parts + 1
  | .iface _ d => uptoBulk d + 1
  | .map entries => uptoBulkEntries entries + 1
  | .held _ => 1
def uptoBulkAll {H : Type} : List (DataW H) → Nat
  | [] => 0
  | d :: r => uptoBulk d + uptoBulkAll r
def uptoBulkEntries {H : Type} : List (Lit × DataW H) → Nat
  | [] => 0
  | x :: r => uptoBulkEntry x + uptoBulkEntries r
def uptoBulkEntry {H : Type} : Lit × DataW H → Nat
  | (.string bytes, d) => bytes.length + uptoBulk d + 1
  | (_, d) => uptoBulk d + 1
 end
def uptoSmall : (H : Type) → List (DataW H) → Bool := fun _ ds => decide (uptoBulkAll ds ≤ 1048576)
def OpenSpec.upto (s : _root_.Go.ChangeSpec) : _root_.Go.OpenSpec := { _root_.Go.OpenSpec.ofChange s with cond := some uptoSmall }

/-- 'tripwirelaw25.PmapUnpacks', WHERE WHAT IT READS IS OF BULK AT MOST 1048576: true; the input reads as it did. -/
def pmapUnpacksUptoRow : OpenClaim := { program := "ytmffcpiffkclgaa", sum := "61a1ba5d1ef8034f49561c7b8dcdf96ed75b3291413a318d112b3bb1afab095e", func := "tripwire/tripwirelaw25.PmapUnpacks", spec := "pmapUnpacks", inPlace := ["slices.overlaps[tripwire/shelf.row[int, tripwire/dict.entry]]"], apart := false, narrowed := true }
def PmapUnpacksUptoSaid : Prop := pmapUnpacksUptoRow.holds Try.pinned (OpenSpec.upto pmapUnpacksSpec)

/-- 'tripwirelaw15.AreaWrites', WHERE WHAT IT READS IS OF BULK AT MOST 1048576: true; the input reads as it did. -/
def areaWritesUptoRow : OpenClaim := { program := "ytmffcpiffkclgaa", sum := "61a1ba5d1ef8034f49561c7b8dcdf96ed75b3291413a318d112b3bb1afab095e", func := "tripwire/tripwirelaw15.AreaWrites", spec := "areaWrites", inPlace := ["slices.overlaps[tripwire/shelf.row[int, tripwire/dict.entry]]"], unfollowed := true, recurses := true, apart := false, narrowed := true }
def AreaWritesUptoSaid : Prop := areaWritesUptoRow.holds Try.pinned (OpenSpec.upto areaWritesSpec)

/-- 'tripwirelaw15.AreaChannels', WHERE WHAT IT READS IS OF BULK AT MOST 1048576: true; the input reads as it did. -/
def areaChannelsUptoRow : OpenClaim := { program := "ytmffcpiffkclgaa", sum := "61a1ba5d1ef8034f49561c7b8dcdf96ed75b3291413a318d112b3bb1afab095e", func := "tripwire/tripwirelaw15.AreaChannels", spec := "areaChannels", inPlace := ["slices.overlaps[tripwire/shelf.row[int, tripwire/dict.entry]]"], unfollowed := true, recurses := true, apart := false, narrowed := true }
def AreaChannelsUptoSaid : Prop := areaChannelsUptoRow.holds Try.pinned (OpenSpec.upto areaChannelsSpec)

/-- 'tripwirelaw15.AreaStores', WHERE WHAT IT READS IS OF BULK AT MOST 1048576: true; the input reads as it did. -/
def areaStoresUptoRow : OpenClaim := { program := "ytmffcpiffkclgaa", sum := "61a1ba5d1ef8034f49561c7b8dcdf96ed75b3291413a318d112b3bb1afab095e", func := "tripwire/tripwirelaw15.AreaStores", spec := "areaStores", inPlace := ["slices.overlaps[tripwire/shelf.row[int, tripwire/dict.entry]]"], apart := false, narrowed := true }
def AreaStoresUptoSaid : Prop := areaStoresUptoRow.holds Try.pinned (OpenSpec.upto areaStoresSpec)

/-- 'tripwirelaw32.ImagePlays', WHERE WHAT IT READS IS OF BULK AT MOST 1048576: true; the input reads as it did. -/
def imagePlaysUptoRow : OpenClaim := { program := "ytmffcpiffkclgaa", sum := "61a1ba5d1ef8034f49561c7b8dcdf96ed75b3291413a318d112b3bb1afab095e", func := "tripwire/tripwirelaw32.ImagePlays", spec := "imagePlays", inPlace := ["slices.overlaps[tripwire/shelf.row[int, tripwire/dict.entry]]"], unfollowed := true, recurses := true, apart := false, narrowed := true }
def ImagePlaysUptoSaid : Prop := imagePlaysUptoRow.holds Try.pinned (OpenSpec.upto imagePlaysSpec)

/-- 'tripwirelaw32.ImageSlots', WHERE WHAT IT READS IS OF BULK AT MOST 1048576: true; the input reads as it did. -/
def imageSlotsUptoRow : OpenClaim := { program := "ytmffcpiffkclgaa", sum := "61a1ba5d1ef8034f49561c7b8dcdf96ed75b3291413a318d112b3bb1afab095e", func := "tripwire/tripwirelaw32.ImageSlots", spec := "imageSlots", inPlace := ["slices.overlaps[tripwire/shelf.row[int, tripwire/dict.entry]]"], unfollowed := true, recurses := true, apart := false, narrowed := true }
def ImageSlotsUptoSaid : Prop := imageSlotsUptoRow.holds Try.pinned (OpenSpec.upto imageSlotsSpec)

/-- 'tripwirelaw32.ImageHolds', WHERE WHAT IT READS IS OF BULK AT MOST 1048576: true; the input reads as it did. -/
def imageHoldsUptoRow : OpenClaim := { program := "ytmffcpiffkclgaa", sum := "61a1ba5d1ef8034f49561c7b8dcdf96ed75b3291413a318d112b3bb1afab095e", func := "tripwire/tripwirelaw32.ImageHolds", spec := "imageHolds", inPlace := ["slices.overlaps[tripwire/shelf.row[int, tripwire/dict.entry]]"], unfollowed := true, recurses := true, apart := false, narrowed := true }
def ImageHoldsUptoSaid : Prop := imageHoldsUptoRow.holds Try.pinned (OpenSpec.upto imageHoldsSpec)

/-- 'tripwirelaw16.SignTurned', WHERE WHAT IT READS IS OF BULK AT MOST 1048576: true; the input reads as it did. -/
def signTurnedUptoRow : OpenClaim := { program := "ytmffcpiffkclgaa", sum := "61a1ba5d1ef8034f49561c7b8dcdf96ed75b3291413a318d112b3bb1afab095e", func := "tripwire/tripwirelaw16.SignTurned", spec := "signTurned", inPlace := ["slices.overlaps[tripwire/shelf.row[int, tripwire/dict.entry]]"], unfollowed := true, recurses := true, apart := false, narrowed := true }
def SignTurnedUptoSaid : Prop := signTurnedUptoRow.holds Try.pinned (OpenSpec.upto signTurnedSpec)

end Rows
end Go.Proofs.Ytmffcpiffkclgaa
