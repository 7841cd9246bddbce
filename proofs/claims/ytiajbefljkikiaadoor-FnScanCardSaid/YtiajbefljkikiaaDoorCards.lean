/-
  DERIVED. GIVEN WITH THE SEED: THE CARDS: each row of YtiajbefljkikiaaDoorRows.lean that lists a variable, with what it lists TIED to the program's text (the seventh form; the later family's looks); each row that meets fmt, with fmt's text TOLD by the authors' own Lean function (tested against real Go, not proved from fmt's source: count such statements apart). THE CARD IS WHAT COUNTS. Prove the row's statement (the work); the ties are given (YtiajbefljkikiaaDoorTie.lean); close each card by the builder's one call (the guide's Derived/Test/ToyasCard.lean, 'card_holds'). Laid BY PROGRAM, IN A SANDBOX (cutbox-door.mjs). By AI agents, Wed Nov 11 2026. No macro, syntax, notation, axiom, sorry.
-/
import Derived.Test.YtiajbefljkikiaaDoorRows
import GoSem.ClaimSeven
namespace Go.Proofs.YtiajbefljkikiaaDoor
namespace Rows

/-- THE TIED CARD OF 'laws.FnTelegram'. -/
def fnTelegramCard : Claim7 := { stood := { row := fnTelegramRow, standIns := [], harness := (true, "2c0b5ece2eaeb70e6fab0d406e7e493ba2152e42fe649a65ccb0a690a267d580"), looks := false }, kinds := [], alts := [], laidByText := true, laidKinds := [.data, .pinned], laidTests := true, laidLooks := .later }
def FnTelegramCardSaid : Prop := Claim7.holds Tryd.pinned (.plain (OpenSpec.ofChange fnTelegramSpec)) fnTelegramCard

/-- THE TIED CARD OF 'laws.FnExactScan'. -/
def fnExactScanCard : Claim7 := { stood := { row := fnExactScanRow, standIns := [], harness := (true, "2c0b5ece2eaeb70e6fab0d406e7e493ba2152e42fe649a65ccb0a690a267d580"), looks := false }, kinds := [], alts := [], laidByText := true, laidKinds := [.data, .pinned], laidTests := true, laidLooks := .later }
def FnExactScanCardSaid : Prop := Claim7.holds Tryd.pinned (.plain (OpenSpec.ofChange fnExactScanSpec)) fnExactScanCard

/-- THE TIED CARD OF 'laws.FnScan'. -/
def fnScanCard : Claim7 := { stood := { row := fnScanRow, standIns := [], harness := (true, "2c0b5ece2eaeb70e6fab0d406e7e493ba2152e42fe649a65ccb0a690a267d580"), looks := false }, kinds := [], alts := [], laidByText := true, laidKinds := [.data, .pinned], laidTests := true, laidLooks := .later }
def FnScanCardSaid : Prop := Claim7.holds Tryd.pinned (.plain (OpenSpec.ofChange fnScanSpec)) fnScanCard

/-- THE SECOND FORM's CARD OF 'laws.FnTelegram'. -/
def fnTelegramUptoCard : Claim7 := { stood := { row := fnTelegramUptoRow, standIns := [], harness := (true, "2c0b5ece2eaeb70e6fab0d406e7e493ba2152e42fe649a65ccb0a690a267d580"), looks := false }, kinds := [], alts := [], laidByText := true, laidKinds := [.data, .pinned], laidTests := true, laidLooks := .later }
def FnTelegramUptoCardSaid : Prop := Claim7.holds Tryd.pinned (.plain (OpenSpec.upto fnTelegramSpec)) fnTelegramUptoCard

/-- THE SECOND FORM's CARD OF 'laws.FnExactScan'. -/
def fnExactScanUptoCard : Claim7 := { stood := { row := fnExactScanUptoRow, standIns := [], harness := (true, "2c0b5ece2eaeb70e6fab0d406e7e493ba2152e42fe649a65ccb0a690a267d580"), looks := false }, kinds := [], alts := [], laidByText := true, laidKinds := [.data, .pinned], laidTests := true, laidLooks := .later }
def FnExactScanUptoCardSaid : Prop := Claim7.holds Tryd.pinned (.plain (OpenSpec.upto fnExactScanSpec)) fnExactScanUptoCard

/-- THE SECOND FORM's CARD OF 'laws.FnScan'. -/
def fnScanUptoCard : Claim7 := { stood := { row := fnScanUptoRow, standIns := [], harness := (true, "2c0b5ece2eaeb70e6fab0d406e7e493ba2152e42fe649a65ccb0a690a267d580"), looks := false }, kinds := [], alts := [], laidByText := true, laidKinds := [.data, .pinned], laidTests := true, laidLooks := .later }
def FnScanUptoCardSaid : Prop := Claim7.holds Tryd.pinned (.plain (OpenSpec.upto fnScanSpec)) fnScanUptoCard
end Rows
end Go.Proofs.YtiajbefljkikiaaDoor
