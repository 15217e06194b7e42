/-
  DERIVED. GIVEN WITH THE SEED: THE CARDS: each row of YthjilhjdnefmdaaGreatDoorRows.lean that lists a variable, with what it lists TIED to the program's text (the seventh form; the later family's looks); each row that meets fmt, with fmt's text TOLD by the authors' own Lean function (tested against real Go, not proved from fmt's source: count such statements apart). THE CARD IS WHAT COUNTS. Prove the row's statement (the work); the ties are given (YthjilhjdnefmdaaGreatDoorTie.lean); close each card by the builder's one call (the guide's Derived/Test/ToyasCard.lean, 'card_holds'). Laid BY PROGRAM, IN A SANDBOX (cutbox-door.mjs). By AI agents, Wed Nov 11 2026. No macro, syntax, notation, axiom, sorry.
-/
import Derived.Test.YthjilhjdnefmdaaGreatDoorRows
import GoSem.ClaimSeven
namespace Go.Proofs.YthjilhjdnefmdaaGreatDoor
namespace Rows

/-- THE TIED CARD OF 'staithlaw12.LedgerTears'. -/
def ledgerTearsCard : Claim7 := { stood := { row := ledgerTearsRow, standIns := [], harness := (true, "0ab7c83c1672bf8c850f1051b57ddf953dceb826234ee46c8015e3da2cec6e5c"), looks := true }, kinds := [], alts := [], laidByText := true, laidKinds := [.data, .data, .data, .data, .sentinel, .sentinel], laidTests := true, laidLooks := .later }
def LedgerTearsCardSaid : Prop := Claim7.holds Tryz.pinned (.plain (OpenSpec.ofChange ledgerTearsSpec)) ledgerTearsCard

/-- THE TIED CARD OF 'staithlaw12.LedgerNames'. -/
def ledgerNamesCard : Claim7 := { stood := { row := ledgerNamesRow, standIns := [], harness := (true, "0ab7c83c1672bf8c850f1051b57ddf953dceb826234ee46c8015e3da2cec6e5c"), looks := true }, kinds := [], alts := [], laidByText := true, laidKinds := [.data, .data, .data, .data, .sentinel, .sentinel], laidTests := true, laidLooks := .later }
def LedgerNamesCardSaid : Prop := Claim7.holds Tryz.pinned (.plain (OpenSpec.ofChange ledgerNamesSpec)) ledgerNamesCard

/-- THE TIED CARD OF 'staithlaw12.LedgerNone'. -/
def ledgerNoneCard : Claim7 := { stood := { row := ledgerNoneRow, standIns := [], harness := (true, "0ab7c83c1672bf8c850f1051b57ddf953dceb826234ee46c8015e3da2cec6e5c"), looks := true }, kinds := [], alts := [], laidByText := true, laidKinds := [.data, .data, .data, .data, .sentinel, .sentinel], laidTests := true, laidLooks := .later }
def LedgerNoneCardSaid : Prop := Claim7.holds Tryz.pinned (.plain (OpenSpec.ofChange ledgerNoneSpec)) ledgerNoneCard

/-- THE TIED CARD OF 'staithlaw12.LedgerTells'. -/
def ledgerTellsCard : Claim7 := { stood := { row := ledgerTellsRow, standIns := [], harness := (true, "0ab7c83c1672bf8c850f1051b57ddf953dceb826234ee46c8015e3da2cec6e5c"), looks := true }, kinds := [], alts := [], laidByText := true, laidKinds := [.data, .data, .data, .data, .sentinel, .sentinel], laidTests := true, laidLooks := .later }
def LedgerTellsCardSaid : Prop := Claim7.holds Tryz.pinned (.plain (OpenSpec.ofChange ledgerTellsSpec)) ledgerTellsCard

/-- THE TIED CARD OF 'staithlaw12.LedgerKeeps'. -/
def ledgerKeepsCard : Claim7 := { stood := { row := ledgerKeepsRow, standIns := [], harness := (true, "0ab7c83c1672bf8c850f1051b57ddf953dceb826234ee46c8015e3da2cec6e5c"), looks := true }, kinds := [], alts := [], laidByText := true, laidKinds := [.data, .data, .data, .data, .sentinel, .sentinel], laidTests := true, laidLooks := .later }
def LedgerKeepsCardSaid : Prop := Claim7.holds Tryz.pinned (.plain (OpenSpec.ofChange ledgerKeepsSpec)) ledgerKeepsCard

/-- THE SECOND FORM's CARD OF 'staithlaw12.LedgerTears'. -/
def ledgerTearsUptoCard : Claim7 := { stood := { row := ledgerTearsUptoRow, standIns := [], harness := (true, "0ab7c83c1672bf8c850f1051b57ddf953dceb826234ee46c8015e3da2cec6e5c"), looks := true }, kinds := [], alts := [], laidByText := true, laidKinds := [.data, .data, .data, .data, .sentinel, .sentinel], laidTests := true, laidLooks := .later }
def LedgerTearsUptoCardSaid : Prop := Claim7.holds Tryz.pinned (.plain (OpenSpec.upto ledgerTearsSpec)) ledgerTearsUptoCard

/-- THE SECOND FORM's CARD OF 'staithlaw12.LedgerNames'. -/
def ledgerNamesUptoCard : Claim7 := { stood := { row := ledgerNamesUptoRow, standIns := [], harness := (true, "0ab7c83c1672bf8c850f1051b57ddf953dceb826234ee46c8015e3da2cec6e5c"), looks := true }, kinds := [], alts := [], laidByText := true, laidKinds := [.data, .data, .data, .data, .sentinel, .sentinel], laidTests := true, laidLooks := .later }
def LedgerNamesUptoCardSaid : Prop := Claim7.holds Tryz.pinned (.plain (OpenSpec.upto ledgerNamesSpec)) ledgerNamesUptoCard

/-- THE SECOND FORM's CARD OF 'staithlaw12.LedgerNone'. -/
def ledgerNoneUptoCard : Claim7 := { stood := { row := ledgerNoneUptoRow, standIns := [], harness := (true, "0ab7c83c1672bf8c850f1051b57ddf953dceb826234ee46c8015e3da2cec6e5c"), looks := true }, kinds := [], alts := [], laidByText := true, laidKinds := [.data, .data, .data, .data, .sentinel, .sentinel], laidTests := true, laidLooks := .later }
def LedgerNoneUptoCardSaid : Prop := Claim7.holds Tryz.pinned (.plain (OpenSpec.upto ledgerNoneSpec)) ledgerNoneUptoCard

/-- THE SECOND FORM's CARD OF 'staithlaw12.LedgerTells'. -/
def ledgerTellsUptoCard : Claim7 := { stood := { row := ledgerTellsUptoRow, standIns := [], harness := (true, "0ab7c83c1672bf8c850f1051b57ddf953dceb826234ee46c8015e3da2cec6e5c"), looks := true }, kinds := [], alts := [], laidByText := true, laidKinds := [.data, .data, .data, .data, .sentinel, .sentinel], laidTests := true, laidLooks := .later }
def LedgerTellsUptoCardSaid : Prop := Claim7.holds Tryz.pinned (.plain (OpenSpec.upto ledgerTellsSpec)) ledgerTellsUptoCard

/-- THE SECOND FORM's CARD OF 'staithlaw12.LedgerKeeps'. -/
def ledgerKeepsUptoCard : Claim7 := { stood := { row := ledgerKeepsUptoRow, standIns := [], harness := (true, "0ab7c83c1672bf8c850f1051b57ddf953dceb826234ee46c8015e3da2cec6e5c"), looks := true }, kinds := [], alts := [], laidByText := true, laidKinds := [.data, .data, .data, .data, .sentinel, .sentinel], laidTests := true, laidLooks := .later }
def LedgerKeepsUptoCardSaid : Prop := Claim7.holds Tryz.pinned (.plain (OpenSpec.upto ledgerKeepsSpec)) ledgerKeepsUptoCard
end Rows
end Go.Proofs.YthjilhjdnefmdaaGreatDoor
