/-
  DERIVED. GIVEN WITH THE SEED: THE CARDS: each row of YtlbmbnpknobjdaaGreatDoorRows.lean that lists a variable, with what it lists TIED to the program's text (the seventh form; the later family's looks); each row that meets fmt, with fmt's text TOLD by the authors' own Lean function (tested against real Go, not proved from fmt's source: count such statements apart). THE CARD IS WHAT COUNTS. Prove the row's statement (the work); the ties are given (YtlbmbnpknobjdaaGreatDoorTie.lean); close each card by the builder's one call (the guide's Derived/Test/ToyasCard.lean, 'card_holds'). Laid BY PROGRAM, IN A SANDBOX (cutbox-door.mjs). By AI agents, Wed Nov 11 2026. No macro, syntax, notation, axiom, sorry.
-/
import Derived.Test.YtlbmbnpknobjdaaGreatDoorRows
import GoSem.ClaimSeven
namespace Go.Proofs.YtlbmbnpknobjdaaGreatDoor
namespace Rows

/-- THE TIED CARD OF 'codesearchlaw29.SegmentBuilds'. -/
def segmentBuildsCard : Claim7 := { stood := { row := segmentBuildsRow, standIns := [], harness := (true, "e8b7cdbc2988ee7ecd25ceea68fc14397afc9490813c9d6c7d00ac5c5209864c"), looks := false }, kinds := [], alts := [], laidByText := true, laidKinds := [.data, .pinned], laidTests := true, laidLooks := .later }
def SegmentBuildsCardSaid : Prop := Claim7.holds Tryz.pinned (.plain (OpenSpec.ofChange segmentBuildsSpec)) segmentBuildsCard

/-- THE TIED CARD OF 'codesearchlaw29.SegmentChecks'. -/
def segmentChecksCard : Claim7 := { stood := { row := segmentChecksRow, standIns := [], harness := (true, "e8b7cdbc2988ee7ecd25ceea68fc14397afc9490813c9d6c7d00ac5c5209864c"), looks := false }, kinds := [], alts := [], laidByText := true, laidKinds := [.data, .pinned], laidTests := true, laidLooks := .later }
def SegmentChecksCardSaid : Prop := Claim7.holds Tryz.pinned (.plain (OpenSpec.ofChange segmentChecksSpec)) segmentChecksCard

/-- THE TIED CARD OF 'codesearchlaw29.SegmentAsks'. -/
def segmentAsksCard : Claim7 := { stood := { row := segmentAsksRow, standIns := [], harness := (true, "e8b7cdbc2988ee7ecd25ceea68fc14397afc9490813c9d6c7d00ac5c5209864c"), looks := false }, kinds := [], alts := [], laidByText := true, laidKinds := [.data, .pinned], laidTests := true, laidLooks := .later }
def SegmentAsksCardSaid : Prop := Claim7.holds Tryz.pinned (.plain (OpenSpec.ofChange segmentAsksSpec)) segmentAsksCard

/-- THE TIED CARD OF 'codesearchlaw29.SegmentFinds'. -/
def segmentFindsCard : Claim7 := { stood := { row := segmentFindsRow, standIns := [], harness := (true, "e8b7cdbc2988ee7ecd25ceea68fc14397afc9490813c9d6c7d00ac5c5209864c"), looks := false }, kinds := [], alts := [], laidByText := true, laidKinds := [.data, .pinned], laidTests := true, laidLooks := .later }
def SegmentFindsCardSaid : Prop := Claim7.holds Tryz.pinned (.plain (OpenSpec.ofChange segmentFindsSpec)) segmentFindsCard

/-- THE TIED CARD OF 'codesearchlaw29.SegmentExact'. -/
def segmentExactCard : Claim7 := { stood := { row := segmentExactRow, standIns := [], harness := (true, "e8b7cdbc2988ee7ecd25ceea68fc14397afc9490813c9d6c7d00ac5c5209864c"), looks := false }, kinds := [], alts := [], laidByText := true, laidKinds := [.data, .pinned], laidTests := true, laidLooks := .later }
def SegmentExactCardSaid : Prop := Claim7.holds Tryz.pinned (.plain (OpenSpec.ofChange segmentExactSpec)) segmentExactCard

/-- THE TIED CARD OF 'codesearchlaw29.SegmentSizes'. -/
def segmentSizesCard : Claim7 := { stood := { row := segmentSizesRow, standIns := [], harness := (true, "e8b7cdbc2988ee7ecd25ceea68fc14397afc9490813c9d6c7d00ac5c5209864c"), looks := false }, kinds := [], alts := [], laidByText := true, laidKinds := [.data, .pinned], laidTests := true, laidLooks := .later }
def SegmentSizesCardSaid : Prop := Claim7.holds Tryz.pinned (.plain (OpenSpec.ofChange segmentSizesSpec)) segmentSizesCard

/-- THE TIED CARD OF 'codesearchlaw29.SegmentParts'. -/
def segmentPartsCard : Claim7 := { stood := { row := segmentPartsRow, standIns := [], harness := (true, "e8b7cdbc2988ee7ecd25ceea68fc14397afc9490813c9d6c7d00ac5c5209864c"), looks := false }, kinds := [], alts := [], laidByText := true, laidKinds := [.data, .pinned], laidTests := true, laidLooks := .later }
def SegmentPartsCardSaid : Prop := Claim7.holds Tryz.pinned (.plain (OpenSpec.ofChange segmentPartsSpec)) segmentPartsCard

/-- THE SECOND FORM's CARD OF 'codesearchlaw29.SegmentBuilds'. -/
def segmentBuildsUptoCard : Claim7 := { stood := { row := segmentBuildsUptoRow, standIns := [], harness := (true, "e8b7cdbc2988ee7ecd25ceea68fc14397afc9490813c9d6c7d00ac5c5209864c"), looks := false }, kinds := [], alts := [], laidByText := true, laidKinds := [.data, .pinned], laidTests := true, laidLooks := .later }
def SegmentBuildsUptoCardSaid : Prop := Claim7.holds Tryz.pinned (.plain (OpenSpec.upto segmentBuildsSpec)) segmentBuildsUptoCard

/-- THE SECOND FORM's CARD OF 'codesearchlaw29.SegmentChecks'. -/
def segmentChecksUptoCard : Claim7 := { stood := { row := segmentChecksUptoRow, standIns := [], harness := (true, "e8b7cdbc2988ee7ecd25ceea68fc14397afc9490813c9d6c7d00ac5c5209864c"), looks := false }, kinds := [], alts := [], laidByText := true, laidKinds := [.data, .pinned], laidTests := true, laidLooks := .later }
def SegmentChecksUptoCardSaid : Prop := Claim7.holds Tryz.pinned (.plain (OpenSpec.upto segmentChecksSpec)) segmentChecksUptoCard

/-- THE SECOND FORM's CARD OF 'codesearchlaw29.SegmentAsks'. -/
def segmentAsksUptoCard : Claim7 := { stood := { row := segmentAsksUptoRow, standIns := [], harness := (true, "e8b7cdbc2988ee7ecd25ceea68fc14397afc9490813c9d6c7d00ac5c5209864c"), looks := false }, kinds := [], alts := [], laidByText := true, laidKinds := [.data, .pinned], laidTests := true, laidLooks := .later }
def SegmentAsksUptoCardSaid : Prop := Claim7.holds Tryz.pinned (.plain (OpenSpec.upto segmentAsksSpec)) segmentAsksUptoCard

/-- THE SECOND FORM's CARD OF 'codesearchlaw29.SegmentFinds'. -/
def segmentFindsUptoCard : Claim7 := { stood := { row := segmentFindsUptoRow, standIns := [], harness := (true, "e8b7cdbc2988ee7ecd25ceea68fc14397afc9490813c9d6c7d00ac5c5209864c"), looks := false }, kinds := [], alts := [], laidByText := true, laidKinds := [.data, .pinned], laidTests := true, laidLooks := .later }
def SegmentFindsUptoCardSaid : Prop := Claim7.holds Tryz.pinned (.plain (OpenSpec.upto segmentFindsSpec)) segmentFindsUptoCard

/-- THE SECOND FORM's CARD OF 'codesearchlaw29.SegmentExact'. -/
def segmentExactUptoCard : Claim7 := { stood := { row := segmentExactUptoRow, standIns := [], harness := (true, "e8b7cdbc2988ee7ecd25ceea68fc14397afc9490813c9d6c7d00ac5c5209864c"), looks := false }, kinds := [], alts := [], laidByText := true, laidKinds := [.data, .pinned], laidTests := true, laidLooks := .later }
def SegmentExactUptoCardSaid : Prop := Claim7.holds Tryz.pinned (.plain (OpenSpec.upto segmentExactSpec)) segmentExactUptoCard

/-- THE SECOND FORM's CARD OF 'codesearchlaw29.SegmentSizes'. -/
def segmentSizesUptoCard : Claim7 := { stood := { row := segmentSizesUptoRow, standIns := [], harness := (true, "e8b7cdbc2988ee7ecd25ceea68fc14397afc9490813c9d6c7d00ac5c5209864c"), looks := false }, kinds := [], alts := [], laidByText := true, laidKinds := [.data, .pinned], laidTests := true, laidLooks := .later }
def SegmentSizesUptoCardSaid : Prop := Claim7.holds Tryz.pinned (.plain (OpenSpec.upto segmentSizesSpec)) segmentSizesUptoCard

/-- THE SECOND FORM's CARD OF 'codesearchlaw29.SegmentParts'. -/
def segmentPartsUptoCard : Claim7 := { stood := { row := segmentPartsUptoRow, standIns := [], harness := (true, "e8b7cdbc2988ee7ecd25ceea68fc14397afc9490813c9d6c7d00ac5c5209864c"), looks := false }, kinds := [], alts := [], laidByText := true, laidKinds := [.data, .pinned], laidTests := true, laidLooks := .later }
def SegmentPartsUptoCardSaid : Prop := Claim7.holds Tryz.pinned (.plain (OpenSpec.upto segmentPartsSpec)) segmentPartsUptoCard
end Rows
end Go.Proofs.YtlbmbnpknobjdaaGreatDoor
