/-
  DERIVED. GIVEN WITH THE SEED: THE CARDS: each row of YtbbpkkeaddbcnaaDoorRows.lean that lists a variable, with what it lists TIED to the program's text (the seventh form; the later family's looks); each row that meets fmt, with fmt's text TOLD by the authors' own Lean function (tested against real Go, not proved from fmt's source: count such statements apart). THE CARD IS WHAT COUNTS. Prove the row's statement (the work); the ties are given (YtbbpkkeaddbcnaaDoorTie.lean); close each card by the builder's one call (the guide's Derived/Test/ToyasCard.lean, 'card_holds'). Laid BY PROGRAM, IN A SANDBOX (cutbox-door.mjs). By AI agents, Wed Nov 11 2026. No macro, syntax, notation, axiom, sorry.
-/
import Derived.Test.YtbbpkkeaddbcnaaDoorRows
import GoSem.ClaimSeven
namespace Go.Proofs.YtbbpkkeaddbcnaaDoor
namespace Rows

/-- THE TIED CARD OF 'tripwirelaw45.LoadCounts'. -/
def loadCountsCard : Claim7 := { stood := { row := loadCountsRow, standIns := [], harness := (true, "8472ffa6079335e60862bc08fa2cc360eff363700d8e19bce956eea3a1a78bfb"), looks := false }, kinds := [], alts := [], laidByText := true, laidKinds := [.data, .data, .data], laidTests := true, laidLooks := .later }
def LoadCountsCardSaid : Prop := Claim7.holds Tryd.pinned (.plain (OpenSpec.ofChange loadCountsSpec)) loadCountsCard

/-- THE TIED CARD OF 'tripwirelaw45.LoadTells'. -/
def loadTellsCard : Claim7 := { stood := { row := loadTellsRow, standIns := [], harness := (true, "8472ffa6079335e60862bc08fa2cc360eff363700d8e19bce956eea3a1a78bfb"), looks := false }, kinds := [], alts := [], laidByText := true, laidKinds := [.data, .data, .data], laidTests := true, laidLooks := .later }
def LoadTellsCardSaid : Prop := Claim7.holds Tryd.pinned (.plain (OpenSpec.ofChange loadTellsSpec)) loadTellsCard

/-- THE TIED CARD OF 'tripwirelaw45.LoadWindows'. -/
def loadWindowsCard : Claim7 := { stood := { row := loadWindowsRow, standIns := [], harness := (true, "8472ffa6079335e60862bc08fa2cc360eff363700d8e19bce956eea3a1a78bfb"), looks := false }, kinds := [], alts := [], laidByText := true, laidKinds := [.data, .data, .data], laidTests := true, laidLooks := .later }
def LoadWindowsCardSaid : Prop := Claim7.holds Tryd.pinned (.plain (OpenSpec.ofChange loadWindowsSpec)) loadWindowsCard

/-- THE TIED CARD OF 'tripwirelaw45.LoadAdds'. -/
def loadAddsCard : Claim7 := { stood := { row := loadAddsRow, standIns := [], harness := (true, "8472ffa6079335e60862bc08fa2cc360eff363700d8e19bce956eea3a1a78bfb"), looks := false }, kinds := [], alts := [], laidByText := true, laidKinds := [.data, .data, .data], laidTests := true, laidLooks := .later }
def LoadAddsCardSaid : Prop := Claim7.holds Tryd.pinned (.plain (OpenSpec.ofChange loadAddsSpec)) loadAddsCard

/-- THE SECOND FORM's CARD OF 'tripwirelaw45.LoadCounts'. -/
def loadCountsUptoCard : Claim7 := { stood := { row := loadCountsUptoRow, standIns := [], harness := (true, "8472ffa6079335e60862bc08fa2cc360eff363700d8e19bce956eea3a1a78bfb"), looks := false }, kinds := [], alts := [], laidByText := true, laidKinds := [.data, .data, .data], laidTests := true, laidLooks := .later }
def LoadCountsUptoCardSaid : Prop := Claim7.holds Tryd.pinned (.plain (OpenSpec.upto loadCountsSpec)) loadCountsUptoCard

/-- THE SECOND FORM's CARD OF 'tripwirelaw45.LoadTells'. -/
def loadTellsUptoCard : Claim7 := { stood := { row := loadTellsUptoRow, standIns := [], harness := (true, "8472ffa6079335e60862bc08fa2cc360eff363700d8e19bce956eea3a1a78bfb"), looks := false }, kinds := [], alts := [], laidByText := true, laidKinds := [.data, .data, .data], laidTests := true, laidLooks := .later }
def LoadTellsUptoCardSaid : Prop := Claim7.holds Tryd.pinned (.plain (OpenSpec.upto loadTellsSpec)) loadTellsUptoCard

/-- THE SECOND FORM's CARD OF 'tripwirelaw45.LoadWindows'. -/
def loadWindowsUptoCard : Claim7 := { stood := { row := loadWindowsUptoRow, standIns := [], harness := (true, "8472ffa6079335e60862bc08fa2cc360eff363700d8e19bce956eea3a1a78bfb"), looks := false }, kinds := [], alts := [], laidByText := true, laidKinds := [.data, .data, .data], laidTests := true, laidLooks := .later }
def LoadWindowsUptoCardSaid : Prop := Claim7.holds Tryd.pinned (.plain (OpenSpec.upto loadWindowsSpec)) loadWindowsUptoCard

/-- THE SECOND FORM's CARD OF 'tripwirelaw45.LoadAdds'. -/
def loadAddsUptoCard : Claim7 := { stood := { row := loadAddsUptoRow, standIns := [], harness := (true, "8472ffa6079335e60862bc08fa2cc360eff363700d8e19bce956eea3a1a78bfb"), looks := false }, kinds := [], alts := [], laidByText := true, laidKinds := [.data, .data, .data], laidTests := true, laidLooks := .later }
def LoadAddsUptoCardSaid : Prop := Claim7.holds Tryd.pinned (.plain (OpenSpec.upto loadAddsSpec)) loadAddsUptoCard
end Rows
end Go.Proofs.YtbbpkkeaddbcnaaDoor
