/-
  DERIVED. GIVEN WITH THE SEED: THE CARDS: each row of YtpaeefnepfppfaaDoorRows.lean that lists a variable, with what it lists TIED to the program's text (the seventh form; the later family's looks); each row that meets fmt, with fmt's text TOLD by the authors' own Lean function (tested against real Go, not proved from fmt's source: count such statements apart). THE CARD IS WHAT COUNTS. Prove the row's statement (the work); the ties are given (YtpaeefnepfppfaaDoorTie.lean); close each card by the builder's one call (the guide's Derived/Test/ToyasCard.lean, 'card_holds'). Laid BY PROGRAM, IN A SANDBOX (cutbox-door.mjs). By AI agents, Wed Nov 11 2026. No macro, syntax, notation, axiom, sorry.
-/
import Derived.Test.YtpaeefnepfppfaaDoorRows
import GoSem.ClaimSeven
namespace Go.Proofs.YtpaeefnepfppfaaDoor
namespace Rows

/-- THE TIED CARD OF 'rifflelaw02.GlyphFirst'. -/
def glyphFirstCard : Claim7 := { stood := { row := glyphFirstRow, standIns := [], harness := (true, "4e108c3cb8c9605ebb21b06b9649b98b7806f7eb54b00332fce5fcfc087c6ecb"), looks := false }, kinds := [], alts := [], laidByText := true, laidKinds := [.data, .pinned], laidTests := true, laidLooks := .later }
def GlyphFirstCardSaid : Prop := Claim7.holds Tryd.pinned (.plain (OpenSpec.ofChange glyphFirstSpec)) glyphFirstCard

/-- THE TIED CARD OF 'rifflelaw02.GlyphCodes'. -/
def glyphCodesCard : Claim7 := { stood := { row := glyphCodesRow, standIns := [], harness := (true, "4e108c3cb8c9605ebb21b06b9649b98b7806f7eb54b00332fce5fcfc087c6ecb"), looks := false }, kinds := [], alts := [], laidByText := true, laidKinds := [.data, .pinned], laidTests := true, laidLooks := .later }
def GlyphCodesCardSaid : Prop := Claim7.holds Tryd.pinned (.plain (OpenSpec.ofChange glyphCodesSpec)) glyphCodesCard

/-- THE TIED CARD OF 'rifflelaw02.GlyphTells'. -/
def glyphTellsCard : Claim7 := { stood := { row := glyphTellsRow, standIns := [], harness := (true, "4e108c3cb8c9605ebb21b06b9649b98b7806f7eb54b00332fce5fcfc087c6ecb"), looks := false }, kinds := [], alts := [], laidByText := true, laidKinds := [.data, .pinned], laidTests := true, laidLooks := .later }
def GlyphTellsCardSaid : Prop := Claim7.holds Tryd.pinned (.plain (OpenSpec.ofChange glyphTellsSpec)) glyphTellsCard

/-- THE TIED CARD OF 'rifflelaw02.GlyphBack'. -/
def glyphBackCard : Claim7 := { stood := { row := glyphBackRow, standIns := [], harness := (true, "4e108c3cb8c9605ebb21b06b9649b98b7806f7eb54b00332fce5fcfc087c6ecb"), looks := false }, kinds := [], alts := [], laidByText := true, laidKinds := [.data, .pinned], laidTests := true, laidLooks := .later }
def GlyphBackCardSaid : Prop := Claim7.holds Tryd.pinned (.plain (OpenSpec.ofChange glyphBackSpec)) glyphBackCard

/-- THE TIED CARD OF 'rifflelaw10.DigitsTells'. -/
def digitsTellsCard : Claim7 := { stood := { row := digitsTellsRow, standIns := [], harness := (true, "4e108c3cb8c9605ebb21b06b9649b98b7806f7eb54b00332fce5fcfc087c6ecb"), looks := false }, kinds := [], alts := [], laidByText := true, laidKinds := [.data, .data, .data], laidTests := true, laidLooks := .later }
def DigitsTellsCardSaid : Prop := Claim7.holds Tryd.pinned (.plain (OpenSpec.ofChange digitsTellsSpec)) digitsTellsCard

/-- THE TIED CARD OF 'rifflelaw10.DigitsBack'. -/
def digitsBackCard : Claim7 := { stood := { row := digitsBackRow, standIns := [], harness := (true, "4e108c3cb8c9605ebb21b06b9649b98b7806f7eb54b00332fce5fcfc087c6ecb"), looks := false }, kinds := [], alts := [], laidByText := true, laidKinds := [.data, .data, .data], laidTests := true, laidLooks := .later }
def DigitsBackCardSaid : Prop := Claim7.holds Tryd.pinned (.plain (OpenSpec.ofChange digitsBackSpec)) digitsBackCard

/-- THE TIED CARD OF 'rifflelaw10.DigitsWords'. -/
def digitsWordsCard : Claim7 := { stood := { row := digitsWordsRow, standIns := [], harness := (true, "4e108c3cb8c9605ebb21b06b9649b98b7806f7eb54b00332fce5fcfc087c6ecb"), looks := false }, kinds := [], alts := [], laidByText := true, laidKinds := [.data, .data, .data, .data, .pinned], laidTests := true, laidLooks := .later }
def DigitsWordsCardSaid : Prop := Claim7.holds Tryd.pinned (.plain (OpenSpec.ofChange digitsWordsSpec)) digitsWordsCard

/-- THE TIED CARD OF 'rifflelaw10.DigitsLists'. -/
def digitsListsCard : Claim7 := { stood := { row := digitsListsRow, standIns := [], harness := (true, "4e108c3cb8c9605ebb21b06b9649b98b7806f7eb54b00332fce5fcfc087c6ecb"), looks := false }, kinds := [], alts := [], laidByText := true, laidKinds := [.data, .data, .data, .data, .pinned], laidTests := true, laidLooks := .later }
def DigitsListsCardSaid : Prop := Claim7.holds Tryd.pinned (.plain (OpenSpec.ofChange digitsListsSpec)) digitsListsCard

/-- THE TIED CARD OF 'rifflelaw39.PlaceShows'. -/
def placeShowsCard : Claim7 := { stood := { row := placeShowsRow, standIns := [], harness := (true, "4e108c3cb8c9605ebb21b06b9649b98b7806f7eb54b00332fce5fcfc087c6ecb"), looks := false }, kinds := [], alts := [], laidByText := true, laidKinds := [.data, .data, .data], laidTests := true, laidLooks := .later }
def PlaceShowsCardSaid : Prop := Claim7.holds Tryd.pinned (.plain (OpenSpec.ofChange placeShowsSpec)) placeShowsCard

/-- THE SECOND FORM's CARD OF 'rifflelaw02.GlyphFirst'. -/
def glyphFirstUptoCard : Claim7 := { stood := { row := glyphFirstUptoRow, standIns := [], harness := (true, "4e108c3cb8c9605ebb21b06b9649b98b7806f7eb54b00332fce5fcfc087c6ecb"), looks := false }, kinds := [], alts := [], laidByText := true, laidKinds := [.data, .pinned], laidTests := true, laidLooks := .later }
def GlyphFirstUptoCardSaid : Prop := Claim7.holds Tryd.pinned (.plain (OpenSpec.upto glyphFirstSpec)) glyphFirstUptoCard

/-- THE SECOND FORM's CARD OF 'rifflelaw02.GlyphCodes'. -/
def glyphCodesUptoCard : Claim7 := { stood := { row := glyphCodesUptoRow, standIns := [], harness := (true, "4e108c3cb8c9605ebb21b06b9649b98b7806f7eb54b00332fce5fcfc087c6ecb"), looks := false }, kinds := [], alts := [], laidByText := true, laidKinds := [.data, .pinned], laidTests := true, laidLooks := .later }
def GlyphCodesUptoCardSaid : Prop := Claim7.holds Tryd.pinned (.plain (OpenSpec.upto glyphCodesSpec)) glyphCodesUptoCard

/-- THE SECOND FORM's CARD OF 'rifflelaw02.GlyphTells'. -/
def glyphTellsUptoCard : Claim7 := { stood := { row := glyphTellsUptoRow, standIns := [], harness := (true, "4e108c3cb8c9605ebb21b06b9649b98b7806f7eb54b00332fce5fcfc087c6ecb"), looks := false }, kinds := [], alts := [], laidByText := true, laidKinds := [.data, .pinned], laidTests := true, laidLooks := .later }
def GlyphTellsUptoCardSaid : Prop := Claim7.holds Tryd.pinned (.plain (OpenSpec.upto glyphTellsSpec)) glyphTellsUptoCard

/-- THE SECOND FORM's CARD OF 'rifflelaw02.GlyphBack'. -/
def glyphBackUptoCard : Claim7 := { stood := { row := glyphBackUptoRow, standIns := [], harness := (true, "4e108c3cb8c9605ebb21b06b9649b98b7806f7eb54b00332fce5fcfc087c6ecb"), looks := false }, kinds := [], alts := [], laidByText := true, laidKinds := [.data, .pinned], laidTests := true, laidLooks := .later }
def GlyphBackUptoCardSaid : Prop := Claim7.holds Tryd.pinned (.plain (OpenSpec.upto glyphBackSpec)) glyphBackUptoCard

/-- THE SECOND FORM's CARD OF 'rifflelaw10.DigitsTells'. -/
def digitsTellsUptoCard : Claim7 := { stood := { row := digitsTellsUptoRow, standIns := [], harness := (true, "4e108c3cb8c9605ebb21b06b9649b98b7806f7eb54b00332fce5fcfc087c6ecb"), looks := false }, kinds := [], alts := [], laidByText := true, laidKinds := [.data, .data, .data], laidTests := true, laidLooks := .later }
def DigitsTellsUptoCardSaid : Prop := Claim7.holds Tryd.pinned (.plain (OpenSpec.upto digitsTellsSpec)) digitsTellsUptoCard

/-- THE SECOND FORM's CARD OF 'rifflelaw10.DigitsBack'. -/
def digitsBackUptoCard : Claim7 := { stood := { row := digitsBackUptoRow, standIns := [], harness := (true, "4e108c3cb8c9605ebb21b06b9649b98b7806f7eb54b00332fce5fcfc087c6ecb"), looks := false }, kinds := [], alts := [], laidByText := true, laidKinds := [.data, .data, .data], laidTests := true, laidLooks := .later }
def DigitsBackUptoCardSaid : Prop := Claim7.holds Tryd.pinned (.plain (OpenSpec.upto digitsBackSpec)) digitsBackUptoCard

/-- THE SECOND FORM's CARD OF 'rifflelaw10.DigitsWords'. -/
def digitsWordsUptoCard : Claim7 := { stood := { row := digitsWordsUptoRow, standIns := [], harness := (true, "4e108c3cb8c9605ebb21b06b9649b98b7806f7eb54b00332fce5fcfc087c6ecb"), looks := false }, kinds := [], alts := [], laidByText := true, laidKinds := [.data, .data, .data, .data, .pinned], laidTests := true, laidLooks := .later }
def DigitsWordsUptoCardSaid : Prop := Claim7.holds Tryd.pinned (.plain (OpenSpec.upto digitsWordsSpec)) digitsWordsUptoCard

/-- THE SECOND FORM's CARD OF 'rifflelaw10.DigitsLists'. -/
def digitsListsUptoCard : Claim7 := { stood := { row := digitsListsUptoRow, standIns := [], harness := (true, "4e108c3cb8c9605ebb21b06b9649b98b7806f7eb54b00332fce5fcfc087c6ecb"), looks := false }, kinds := [], alts := [], laidByText := true, laidKinds := [.data, .data, .data, .data, .pinned], laidTests := true, laidLooks := .later }
def DigitsListsUptoCardSaid : Prop := Claim7.holds Tryd.pinned (.plain (OpenSpec.upto digitsListsSpec)) digitsListsUptoCard

/-- THE SECOND FORM's CARD OF 'rifflelaw39.PlaceShows'. -/
def placeShowsUptoCard : Claim7 := { stood := { row := placeShowsUptoRow, standIns := [], harness := (true, "4e108c3cb8c9605ebb21b06b9649b98b7806f7eb54b00332fce5fcfc087c6ecb"), looks := false }, kinds := [], alts := [], laidByText := true, laidKinds := [.data, .data, .data], laidTests := true, laidLooks := .later }
def PlaceShowsUptoCardSaid : Prop := Claim7.holds Tryd.pinned (.plain (OpenSpec.upto placeShowsSpec)) placeShowsUptoCard
end Rows
end Go.Proofs.YtpaeefnepfppfaaDoor
