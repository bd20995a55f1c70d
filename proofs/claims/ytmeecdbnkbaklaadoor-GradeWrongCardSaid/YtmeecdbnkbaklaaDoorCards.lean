/-
  DERIVED. GIVEN WITH THE SEED: THE CARDS: each row of YtmeecdbnkbaklaaDoorRows.lean that lists a variable, with what it lists TIED to the program's text (the seventh form; the later family's looks); each row that meets fmt, with fmt's text TOLD by the authors' own Lean function (tested against real Go, not proved from fmt's source: count such statements apart). THE CARD IS WHAT COUNTS. Prove the row's statement (the work); the ties are given (YtmeecdbnkbaklaaDoorTie.lean); close each card by the builder's one call (the guide's Derived/Test/ToyasCard.lean, 'card_holds'). Laid BY PROGRAM, IN A SANDBOX (cutbox-door.mjs). By AI agents, Wed Nov 11 2026. No macro, syntax, notation, axiom, sorry.
-/
import Derived.Test.YtmeecdbnkbaklaaDoorRows
import GoSem.ClaimSeven
namespace Go.Proofs.YtmeecdbnkbaklaaDoor
namespace Rows

/-- THE TIED CARD OF 'lyceumlaw32.GradeFair'. -/
def gradeFairCard : Claim7 := { stood := { row := gradeFairRow, standIns := [], harness := (true, "ede1ae5961f7997303fed1d9335375c5be47d31b81611d11fa7b5a9bfc5c375e"), looks := false }, kinds := [], alts := [], laidByText := true, laidKinds := [.funcs], laidTests := true, laidLooks := .later }
def GradeFairCardSaid : Prop := Claim7.holds Tryd.pinned (.plain (OpenSpec.ofChange gradeFairSpec)) gradeFairCard

/-- THE TIED CARD OF 'lyceumlaw32.GradeSays'. -/
def gradeSaysCard : Claim7 := { stood := { row := gradeSaysRow, standIns := [], harness := (true, "ede1ae5961f7997303fed1d9335375c5be47d31b81611d11fa7b5a9bfc5c375e"), looks := false }, kinds := [], alts := [], laidByText := true, laidKinds := [.funcs], laidTests := true, laidLooks := .later }
def GradeSaysCardSaid : Prop := Claim7.holds Tryd.pinned (.plain (OpenSpec.ofChange gradeSaysSpec)) gradeSaysCard

/-- THE TIED CARD OF 'lyceumlaw32.GradeShares'. -/
def gradeSharesCard : Claim7 := { stood := { row := gradeSharesRow, standIns := [], harness := (true, "ede1ae5961f7997303fed1d9335375c5be47d31b81611d11fa7b5a9bfc5c375e"), looks := false }, kinds := [], alts := [], laidByText := true, laidKinds := [.funcs], laidTests := true, laidLooks := .later }
def GradeSharesCardSaid : Prop := Claim7.holds Tryd.pinned (.plain (OpenSpec.ofChange gradeSharesSpec)) gradeSharesCard

/-- THE TIED CARD OF 'lyceumlaw32.GradeWrong'. -/
def gradeWrongCard : Claim7 := { stood := { row := gradeWrongRow, standIns := [], harness := (true, "ede1ae5961f7997303fed1d9335375c5be47d31b81611d11fa7b5a9bfc5c375e"), looks := false }, kinds := [], alts := [], laidByText := true, laidKinds := [.funcs], laidTests := true, laidLooks := .later }
def GradeWrongCardSaid : Prop := Claim7.holds Tryd.pinned (.plain (OpenSpec.ofChange gradeWrongSpec)) gradeWrongCard

/-- THE SECOND FORM's CARD OF 'lyceumlaw32.GradeFair'. -/
def gradeFairUptoCard : Claim7 := { stood := { row := gradeFairUptoRow, standIns := [], harness := (true, "ede1ae5961f7997303fed1d9335375c5be47d31b81611d11fa7b5a9bfc5c375e"), looks := false }, kinds := [], alts := [], laidByText := true, laidKinds := [.funcs], laidTests := true, laidLooks := .later }
def GradeFairUptoCardSaid : Prop := Claim7.holds Tryd.pinned (.plain (OpenSpec.upto gradeFairSpec)) gradeFairUptoCard

/-- THE SECOND FORM's CARD OF 'lyceumlaw32.GradeSays'. -/
def gradeSaysUptoCard : Claim7 := { stood := { row := gradeSaysUptoRow, standIns := [], harness := (true, "ede1ae5961f7997303fed1d9335375c5be47d31b81611d11fa7b5a9bfc5c375e"), looks := false }, kinds := [], alts := [], laidByText := true, laidKinds := [.funcs], laidTests := true, laidLooks := .later }
def GradeSaysUptoCardSaid : Prop := Claim7.holds Tryd.pinned (.plain (OpenSpec.upto gradeSaysSpec)) gradeSaysUptoCard

/-- THE SECOND FORM's CARD OF 'lyceumlaw32.GradeShares'. -/
def gradeSharesUptoCard : Claim7 := { stood := { row := gradeSharesUptoRow, standIns := [], harness := (true, "ede1ae5961f7997303fed1d9335375c5be47d31b81611d11fa7b5a9bfc5c375e"), looks := false }, kinds := [], alts := [], laidByText := true, laidKinds := [.funcs], laidTests := true, laidLooks := .later }
def GradeSharesUptoCardSaid : Prop := Claim7.holds Tryd.pinned (.plain (OpenSpec.upto gradeSharesSpec)) gradeSharesUptoCard

/-- THE SECOND FORM's CARD OF 'lyceumlaw32.GradeWrong'. -/
def gradeWrongUptoCard : Claim7 := { stood := { row := gradeWrongUptoRow, standIns := [], harness := (true, "ede1ae5961f7997303fed1d9335375c5be47d31b81611d11fa7b5a9bfc5c375e"), looks := false }, kinds := [], alts := [], laidByText := true, laidKinds := [.funcs], laidTests := true, laidLooks := .later }
def GradeWrongUptoCardSaid : Prop := Claim7.holds Tryd.pinned (.plain (OpenSpec.upto gradeWrongSpec)) gradeWrongUptoCard
end Rows
end Go.Proofs.YtmeecdbnkbaklaaDoor
