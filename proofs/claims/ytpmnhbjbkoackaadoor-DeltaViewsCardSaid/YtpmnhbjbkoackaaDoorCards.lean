/-
  DERIVED. GIVEN WITH THE SEED: THE CARDS: each row of YtpmnhbjbkoackaaDoorRows.lean that lists a variable, with what it lists TIED to the program's text (the seventh form; the later family's looks); each row that meets fmt, with fmt's text TOLD by the authors' own Lean function (tested against real Go, not proved from fmt's source: count such statements apart). THE CARD IS WHAT COUNTS. Prove the row's statement (the work); the ties are given (YtpmnhbjbkoackaaDoorTie.lean); close each card by the builder's one call (the guide's Derived/Test/ToyasCard.lean, 'card_holds'). Laid BY PROGRAM, IN A SANDBOX (cutbox-door.mjs). By AI agents, Wed Nov 11 2026. No macro, syntax, notation, axiom, sorry.
-/
import Derived.Test.YtpmnhbjbkoackaaDoorRows
import GoSem.ClaimSeven
namespace Go.Proofs.YtpmnhbjbkoackaaDoor
namespace Rows

/-- THE TIED CARD OF 'rifflelaw38.AccountSums'. -/
def accountSumsCard : Claim7 := { stood := { row := accountSumsRow, standIns := [], harness := (true, "8f401570e817d5d2695e16b417e9a281c847c012d30f23d70021e760e1011696"), looks := false }, kinds := [], alts := [], laidByText := true, laidKinds := [.data, .data, .data], laidTests := true, laidLooks := .later }
def AccountSumsCardSaid : Prop := Claim7.holds Tryd.pinned (.plain (OpenSpec.ofChange accountSumsSpec)) accountSumsCard

/-- THE TIED CARD OF 'rifflelaw38.AccountLines'. -/
def accountLinesCard : Claim7 := { stood := { row := accountLinesRow, standIns := [], harness := (true, "8f401570e817d5d2695e16b417e9a281c847c012d30f23d70021e760e1011696"), looks := false }, kinds := [], alts := [], laidByText := true, laidKinds := [.data, .data, .data], laidTests := true, laidLooks := .later }
def AccountLinesCardSaid : Prop := Claim7.holds Tryd.pinned (.plain (OpenSpec.ofChange accountLinesSpec)) accountLinesCard

/-- THE TIED CARD OF 'rifflelaw33.RecordOrders'. -/
def recordOrdersCard : Claim7 := { stood := { row := recordOrdersRow, standIns := [], harness := (true, "8f401570e817d5d2695e16b417e9a281c847c012d30f23d70021e760e1011696"), looks := false }, kinds := [], alts := [], laidByText := true, laidKinds := [.data, .pinned], laidTests := true, laidLooks := .later }
def RecordOrdersCardSaid : Prop := Claim7.holds Tryd.pinned (.plain (OpenSpec.ofChange recordOrdersSpec)) recordOrdersCard

/-- THE TIED CARD OF 'rifflelaw32.DeltaViews'. -/
def deltaViewsCard : Claim7 := { stood := { row := deltaViewsRow, standIns := [], harness := (true, "8f401570e817d5d2695e16b417e9a281c847c012d30f23d70021e760e1011696"), looks := false }, kinds := [], alts := [], laidByText := true, laidKinds := [.data, .data, .data], laidTests := true, laidLooks := .later }
def DeltaViewsCardSaid : Prop := Claim7.holds Tryd.pinned (.plain (OpenSpec.ofChange deltaViewsSpec)) deltaViewsCard

/-- THE TIED CARD OF 'rifflelaw32.DeltaUndone'. -/
def deltaUndoneCard : Claim7 := { stood := { row := deltaUndoneRow, standIns := [], harness := (true, "8f401570e817d5d2695e16b417e9a281c847c012d30f23d70021e760e1011696"), looks := false }, kinds := [], alts := [], laidByText := true, laidKinds := [.data, .data, .data], laidTests := true, laidLooks := .later }
def DeltaUndoneCardSaid : Prop := Claim7.holds Tryd.pinned (.plain (OpenSpec.ofChange deltaUndoneSpec)) deltaUndoneCard

/-- THE TIED CARD OF 'rifflelaw38.AccountReads'. -/
def accountReadsCard : Claim7 := { stood := { row := accountReadsRow, standIns := [], harness := (true, "8f401570e817d5d2695e16b417e9a281c847c012d30f23d70021e760e1011696"), looks := false }, kinds := [], alts := [], laidByText := true, laidKinds := [.data, .data, .data, .data, .pinned], laidTests := true, laidLooks := .later }
def AccountReadsCardSaid : Prop := Claim7.holds Tryd.pinned (.plain (OpenSpec.ofChange accountReadsSpec)) accountReadsCard

/-- THE TIED CARD OF 'rifflelaw32.DeltaLines'. -/
def deltaLinesCard : Claim7 := { stood := { row := deltaLinesRow, standIns := [], harness := (true, "8f401570e817d5d2695e16b417e9a281c847c012d30f23d70021e760e1011696"), looks := false }, kinds := [], alts := [], laidByText := true, laidKinds := [.data, .data, .data, .data, .pinned], laidTests := true, laidLooks := .later }
def DeltaLinesCardSaid : Prop := Claim7.holds Tryd.pinned (.plain (OpenSpec.ofChange deltaLinesSpec)) deltaLinesCard

/-- THE TIED CARD OF 'rifflelaw32.DeltaTexts'. -/
def deltaTextsCard : Claim7 := { stood := { row := deltaTextsRow, standIns := [], harness := (true, "8f401570e817d5d2695e16b417e9a281c847c012d30f23d70021e760e1011696"), looks := false }, kinds := [], alts := [], laidByText := true, laidKinds := [.data, .data, .data, .data, .pinned], laidTests := true, laidLooks := .later }
def DeltaTextsCardSaid : Prop := Claim7.holds Tryd.pinned (.plain (OpenSpec.ofChange deltaTextsSpec)) deltaTextsCard

/-- THE TIED CARD OF 'rifflelaw33.RecordLines'. -/
def recordLinesCard : Claim7 := { stood := { row := recordLinesRow, standIns := [], harness := (true, "8f401570e817d5d2695e16b417e9a281c847c012d30f23d70021e760e1011696"), looks := false }, kinds := [], alts := [], laidByText := true, laidKinds := [.data, .data, .data, .data, .pinned], laidTests := true, laidLooks := .later }
def RecordLinesCardSaid : Prop := Claim7.holds Tryd.pinned (.plain (OpenSpec.ofChange recordLinesSpec)) recordLinesCard

/-- THE TIED CARD OF 'rifflelaw33.RecordBack'. -/
def recordBackCard : Claim7 := { stood := { row := recordBackRow, standIns := [], harness := (true, "8f401570e817d5d2695e16b417e9a281c847c012d30f23d70021e760e1011696"), looks := false }, kinds := [], alts := [], laidByText := true, laidKinds := [.data, .data, .data, .data, .pinned], laidTests := true, laidLooks := .later }
def RecordBackCardSaid : Prop := Claim7.holds Tryd.pinned (.plain (OpenSpec.ofChange recordBackSpec)) recordBackCard

/-- THE SECOND FORM's CARD OF 'rifflelaw38.AccountSums'. -/
def accountSumsUptoCard : Claim7 := { stood := { row := accountSumsUptoRow, standIns := [], harness := (true, "8f401570e817d5d2695e16b417e9a281c847c012d30f23d70021e760e1011696"), looks := false }, kinds := [], alts := [], laidByText := true, laidKinds := [.data, .data, .data], laidTests := true, laidLooks := .later }
def AccountSumsUptoCardSaid : Prop := Claim7.holds Tryd.pinned (.plain (OpenSpec.upto accountSumsSpec)) accountSumsUptoCard

/-- THE SECOND FORM's CARD OF 'rifflelaw38.AccountLines'. -/
def accountLinesUptoCard : Claim7 := { stood := { row := accountLinesUptoRow, standIns := [], harness := (true, "8f401570e817d5d2695e16b417e9a281c847c012d30f23d70021e760e1011696"), looks := false }, kinds := [], alts := [], laidByText := true, laidKinds := [.data, .data, .data], laidTests := true, laidLooks := .later }
def AccountLinesUptoCardSaid : Prop := Claim7.holds Tryd.pinned (.plain (OpenSpec.upto accountLinesSpec)) accountLinesUptoCard

/-- THE SECOND FORM's CARD OF 'rifflelaw33.RecordOrders'. -/
def recordOrdersUptoCard : Claim7 := { stood := { row := recordOrdersUptoRow, standIns := [], harness := (true, "8f401570e817d5d2695e16b417e9a281c847c012d30f23d70021e760e1011696"), looks := false }, kinds := [], alts := [], laidByText := true, laidKinds := [.data, .pinned], laidTests := true, laidLooks := .later }
def RecordOrdersUptoCardSaid : Prop := Claim7.holds Tryd.pinned (.plain (OpenSpec.upto recordOrdersSpec)) recordOrdersUptoCard

/-- THE SECOND FORM's CARD OF 'rifflelaw32.DeltaViews'. -/
def deltaViewsUptoCard : Claim7 := { stood := { row := deltaViewsUptoRow, standIns := [], harness := (true, "8f401570e817d5d2695e16b417e9a281c847c012d30f23d70021e760e1011696"), looks := false }, kinds := [], alts := [], laidByText := true, laidKinds := [.data, .data, .data], laidTests := true, laidLooks := .later }
def DeltaViewsUptoCardSaid : Prop := Claim7.holds Tryd.pinned (.plain (OpenSpec.upto deltaViewsSpec)) deltaViewsUptoCard

/-- THE SECOND FORM's CARD OF 'rifflelaw32.DeltaUndone'. -/
def deltaUndoneUptoCard : Claim7 := { stood := { row := deltaUndoneUptoRow, standIns := [], harness := (true, "8f401570e817d5d2695e16b417e9a281c847c012d30f23d70021e760e1011696"), looks := false }, kinds := [], alts := [], laidByText := true, laidKinds := [.data, .data, .data], laidTests := true, laidLooks := .later }
def DeltaUndoneUptoCardSaid : Prop := Claim7.holds Tryd.pinned (.plain (OpenSpec.upto deltaUndoneSpec)) deltaUndoneUptoCard

/-- THE SECOND FORM's CARD OF 'rifflelaw38.AccountReads'. -/
def accountReadsUptoCard : Claim7 := { stood := { row := accountReadsUptoRow, standIns := [], harness := (true, "8f401570e817d5d2695e16b417e9a281c847c012d30f23d70021e760e1011696"), looks := false }, kinds := [], alts := [], laidByText := true, laidKinds := [.data, .data, .data, .data, .pinned], laidTests := true, laidLooks := .later }
def AccountReadsUptoCardSaid : Prop := Claim7.holds Tryd.pinned (.plain (OpenSpec.upto accountReadsSpec)) accountReadsUptoCard

/-- THE SECOND FORM's CARD OF 'rifflelaw32.DeltaLines'. -/
def deltaLinesUptoCard : Claim7 := { stood := { row := deltaLinesUptoRow, standIns := [], harness := (true, "8f401570e817d5d2695e16b417e9a281c847c012d30f23d70021e760e1011696"), looks := false }, kinds := [], alts := [], laidByText := true, laidKinds := [.data, .data, .data, .data, .pinned], laidTests := true, laidLooks := .later }
def DeltaLinesUptoCardSaid : Prop := Claim7.holds Tryd.pinned (.plain (OpenSpec.upto deltaLinesSpec)) deltaLinesUptoCard

/-- THE SECOND FORM's CARD OF 'rifflelaw32.DeltaTexts'. -/
def deltaTextsUptoCard : Claim7 := { stood := { row := deltaTextsUptoRow, standIns := [], harness := (true, "8f401570e817d5d2695e16b417e9a281c847c012d30f23d70021e760e1011696"), looks := false }, kinds := [], alts := [], laidByText := true, laidKinds := [.data, .data, .data, .data, .pinned], laidTests := true, laidLooks := .later }
def DeltaTextsUptoCardSaid : Prop := Claim7.holds Tryd.pinned (.plain (OpenSpec.upto deltaTextsSpec)) deltaTextsUptoCard

/-- THE SECOND FORM's CARD OF 'rifflelaw33.RecordLines'. -/
def recordLinesUptoCard : Claim7 := { stood := { row := recordLinesUptoRow, standIns := [], harness := (true, "8f401570e817d5d2695e16b417e9a281c847c012d30f23d70021e760e1011696"), looks := false }, kinds := [], alts := [], laidByText := true, laidKinds := [.data, .data, .data, .data, .pinned], laidTests := true, laidLooks := .later }
def RecordLinesUptoCardSaid : Prop := Claim7.holds Tryd.pinned (.plain (OpenSpec.upto recordLinesSpec)) recordLinesUptoCard

/-- THE SECOND FORM's CARD OF 'rifflelaw33.RecordBack'. -/
def recordBackUptoCard : Claim7 := { stood := { row := recordBackUptoRow, standIns := [], harness := (true, "8f401570e817d5d2695e16b417e9a281c847c012d30f23d70021e760e1011696"), looks := false }, kinds := [], alts := [], laidByText := true, laidKinds := [.data, .data, .data, .data, .pinned], laidTests := true, laidLooks := .later }
def RecordBackUptoCardSaid : Prop := Claim7.holds Tryd.pinned (.plain (OpenSpec.upto recordBackSpec)) recordBackUptoCard
end Rows
end Go.Proofs.YtpmnhbjbkoackaaDoor
