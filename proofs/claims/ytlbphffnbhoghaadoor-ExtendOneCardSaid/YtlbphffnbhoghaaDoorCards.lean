/-
  DERIVED. GIVEN WITH THE SEED: THE CARDS: each row of YtlbphffnbhoghaaDoorRows.lean that lists a variable, with what it lists TIED to the program's text (the seventh form; the later family's looks); each row that meets fmt, with fmt's text TOLD by the authors' own Lean function (tested against real Go, not proved from fmt's source: count such statements apart). THE CARD IS WHAT COUNTS. Prove the row's statement (the work); the ties are given (YtlbphffnbhoghaaDoorTie.lean); close each card by the builder's one call (the guide's Derived/Test/ToyasCard.lean, 'card_holds'). Laid BY PROGRAM, IN A SANDBOX (cutbox-door.mjs). By AI agents, Wed Nov 11 2026. No macro, syntax, notation, axiom, sorry.
-/
import Derived.Test.YtlbphffnbhoghaaDoorRows
import GoSem.ClaimSeven
namespace Go.Proofs.YtlbphffnbhoghaaDoor
namespace Rows

/-- THE TIED CARD OF 'sprocketlaw23.EditDoes'. -/
def editDoesCard : Claim7 := { stood := { row := editDoesRow, standIns := [], harness := (true, "0fad856ff3faf128a49ada3b6f6f29915a2d5edc268a4a90177cd20caa69ed71"), looks := false }, kinds := [], alts := [], laidByText := true, laidKinds := [.data], laidTests := true, laidLooks := .later }
def EditDoesCardSaid : Prop := Claim7.holds Tryd.pinned (.plain (OpenSpec.ofChange editDoesSpec)) editDoesCard

/-- THE TIED CARD OF 'sprocketlaw23.EditOnce'. -/
def editOnceCard : Claim7 := { stood := { row := editOnceRow, standIns := [], harness := (true, "0fad856ff3faf128a49ada3b6f6f29915a2d5edc268a4a90177cd20caa69ed71"), looks := false }, kinds := [], alts := [], laidByText := true, laidKinds := [.data], laidTests := true, laidLooks := .later }
def EditOnceCardSaid : Prop := Claim7.holds Tryd.pinned (.plain (OpenSpec.ofChange editOnceSpec)) editOnceCard

/-- THE TIED CARD OF 'sprocketlaw24.RetireSafe'. -/
def retireSafeCard : Claim7 := { stood := { row := retireSafeRow, standIns := [], harness := (true, "0fad856ff3faf128a49ada3b6f6f29915a2d5edc268a4a90177cd20caa69ed71"), looks := false }, kinds := [], alts := [], laidByText := true, laidKinds := [.data], laidTests := true, laidLooks := .later }
def RetireSafeCardSaid : Prop := Claim7.holds Tryd.pinned (.plain (OpenSpec.ofChange retireSafeSpec)) retireSafeCard

/-- THE TIED CARD OF 'sprocketlaw26.ExtendOne'. -/
def extendOneCard : Claim7 := { stood := { row := extendOneRow, standIns := [], harness := (true, "0fad856ff3faf128a49ada3b6f6f29915a2d5edc268a4a90177cd20caa69ed71"), looks := false }, kinds := [], alts := [], laidByText := true, laidKinds := [.data], laidTests := true, laidLooks := .later }
def ExtendOneCardSaid : Prop := Claim7.holds Tryd.pinned (.plain (OpenSpec.ofChange extendOneSpec)) extendOneCard

/-- THE TIED CARD OF 'sprocketlaw24.RetireFew'. -/
def retireFewCard : Claim7 := { stood := { row := retireFewRow, standIns := [], harness := (true, "0fad856ff3faf128a49ada3b6f6f29915a2d5edc268a4a90177cd20caa69ed71"), looks := false }, kinds := [], alts := [], laidByText := true, laidKinds := [.data], laidTests := true, laidLooks := .later }
def RetireFewCardSaid : Prop := Claim7.holds Tryd.pinned (.plain (OpenSpec.ofChange retireFewSpec)) retireFewCard

/-- THE TIED CARD OF 'sprocketlaw25.SweepFrees'. -/
def sweepFreesCard : Claim7 := { stood := { row := sweepFreesRow, standIns := [], harness := (true, "0fad856ff3faf128a49ada3b6f6f29915a2d5edc268a4a90177cd20caa69ed71"), looks := false }, kinds := [], alts := [], laidByText := true, laidKinds := [.data], laidTests := true, laidLooks := .later }
def SweepFreesCardSaid : Prop := Claim7.holds Tryd.pinned (.plain (OpenSpec.ofChange sweepFreesSpec)) sweepFreesCard

/-- THE TIED CARD OF 'sprocketlaw25.SweepOne'. -/
def sweepOneCard : Claim7 := { stood := { row := sweepOneRow, standIns := [], harness := (true, "0fad856ff3faf128a49ada3b6f6f29915a2d5edc268a4a90177cd20caa69ed71"), looks := false }, kinds := [], alts := [], laidByText := true, laidKinds := [.data], laidTests := true, laidLooks := .later }
def SweepOneCardSaid : Prop := Claim7.holds Tryd.pinned (.plain (OpenSpec.ofChange sweepOneSpec)) sweepOneCard

/-- THE SECOND FORM's CARD OF 'sprocketlaw23.EditDoes'. -/
def editDoesUptoCard : Claim7 := { stood := { row := editDoesUptoRow, standIns := [], harness := (true, "0fad856ff3faf128a49ada3b6f6f29915a2d5edc268a4a90177cd20caa69ed71"), looks := false }, kinds := [], alts := [], laidByText := true, laidKinds := [.data], laidTests := true, laidLooks := .later }
def EditDoesUptoCardSaid : Prop := Claim7.holds Tryd.pinned (.plain (OpenSpec.upto editDoesSpec)) editDoesUptoCard

/-- THE SECOND FORM's CARD OF 'sprocketlaw23.EditOnce'. -/
def editOnceUptoCard : Claim7 := { stood := { row := editOnceUptoRow, standIns := [], harness := (true, "0fad856ff3faf128a49ada3b6f6f29915a2d5edc268a4a90177cd20caa69ed71"), looks := false }, kinds := [], alts := [], laidByText := true, laidKinds := [.data], laidTests := true, laidLooks := .later }
def EditOnceUptoCardSaid : Prop := Claim7.holds Tryd.pinned (.plain (OpenSpec.upto editOnceSpec)) editOnceUptoCard

/-- THE SECOND FORM's CARD OF 'sprocketlaw24.RetireSafe'. -/
def retireSafeUptoCard : Claim7 := { stood := { row := retireSafeUptoRow, standIns := [], harness := (true, "0fad856ff3faf128a49ada3b6f6f29915a2d5edc268a4a90177cd20caa69ed71"), looks := false }, kinds := [], alts := [], laidByText := true, laidKinds := [.data], laidTests := true, laidLooks := .later }
def RetireSafeUptoCardSaid : Prop := Claim7.holds Tryd.pinned (.plain (OpenSpec.upto retireSafeSpec)) retireSafeUptoCard

/-- THE SECOND FORM's CARD OF 'sprocketlaw26.ExtendOne'. -/
def extendOneUptoCard : Claim7 := { stood := { row := extendOneUptoRow, standIns := [], harness := (true, "0fad856ff3faf128a49ada3b6f6f29915a2d5edc268a4a90177cd20caa69ed71"), looks := false }, kinds := [], alts := [], laidByText := true, laidKinds := [.data], laidTests := true, laidLooks := .later }
def ExtendOneUptoCardSaid : Prop := Claim7.holds Tryd.pinned (.plain (OpenSpec.upto extendOneSpec)) extendOneUptoCard

/-- THE SECOND FORM's CARD OF 'sprocketlaw24.RetireFew'. -/
def retireFewUptoCard : Claim7 := { stood := { row := retireFewUptoRow, standIns := [], harness := (true, "0fad856ff3faf128a49ada3b6f6f29915a2d5edc268a4a90177cd20caa69ed71"), looks := false }, kinds := [], alts := [], laidByText := true, laidKinds := [.data], laidTests := true, laidLooks := .later }
def RetireFewUptoCardSaid : Prop := Claim7.holds Tryd.pinned (.plain (OpenSpec.upto retireFewSpec)) retireFewUptoCard

/-- THE SECOND FORM's CARD OF 'sprocketlaw25.SweepFrees'. -/
def sweepFreesUptoCard : Claim7 := { stood := { row := sweepFreesUptoRow, standIns := [], harness := (true, "0fad856ff3faf128a49ada3b6f6f29915a2d5edc268a4a90177cd20caa69ed71"), looks := false }, kinds := [], alts := [], laidByText := true, laidKinds := [.data], laidTests := true, laidLooks := .later }
def SweepFreesUptoCardSaid : Prop := Claim7.holds Tryd.pinned (.plain (OpenSpec.upto sweepFreesSpec)) sweepFreesUptoCard

/-- THE SECOND FORM's CARD OF 'sprocketlaw25.SweepOne'. -/
def sweepOneUptoCard : Claim7 := { stood := { row := sweepOneUptoRow, standIns := [], harness := (true, "0fad856ff3faf128a49ada3b6f6f29915a2d5edc268a4a90177cd20caa69ed71"), looks := false }, kinds := [], alts := [], laidByText := true, laidKinds := [.data], laidTests := true, laidLooks := .later }
def SweepOneUptoCardSaid : Prop := Claim7.holds Tryd.pinned (.plain (OpenSpec.upto sweepOneSpec)) sweepOneUptoCard
end Rows
end Go.Proofs.YtlbphffnbhoghaaDoor
