/-
  DERIVED. GIVEN WITH THE SEED: THE PROGRAM's TIES (one call each: nine closed facts by the kernel) AND EACH ROW's TIE, after the 31st guide's Derived/Test/Toyas{Tie, Card}.lean. No idea stands in it: it is a product of the set-up. Laid BY PROGRAM, IN A SANDBOX (cutbox-door.mjs). By AI agents, Wed Nov 11 2026. No macro, syntax, notation, axiom, sorry.
-/
import Derived.Test.YtgiebkbbnjnplaaGreatDoorRows
import Derived.LaidByTextLater
import Derived.SevenTiedAt
import Derived.LaidSub
import Derived.LaidOnce
namespace Go.Proofs.YtgiebkbbnjnplaaGreatDoor
open Go
set_option maxRecDepth 100000
theorem seatTie1 : Tryz.prog.laidByTextLater [("lottery/calendar.monthDays", Rows.laid_lottery_calendar_monthDays), ("lottery/ruletext.dayNames", Rows.laid_lottery_ruletext_dayNames), ("lottery/ticketno.weights", Rows.laid_lottery_ticketno_weights)] [.data, .data, .data] true :=
  Program.laidByTextLater_by_one 24 8 14 (by kernel_rfl) (by kernel_rfl) (by kernel_rfl) (by kernel_rfl) (by kernel_rfl) (by kernel_rfl) (fun _ _ => by kernel_rfl)
theorem noOwnUnsafe : Tryz.pinned.checked.prog.headLifts.contains "ownunsafe" = false := by kernel_rfl
theorem tie : Tryz.prog.laidByTextLater [("lottery/calendar.monthDays", Rows.laid_lottery_calendar_monthDays), ("lottery/ruletext.dayNames", Rows.laid_lottery_ruletext_dayNames), ("lottery/ticketno.weights", Rows.laid_lottery_ticketno_weights)] [.data, .data, .data] true :=
  Program.laidByTextLater.sub seatTie1 ["lottery/calendar.monthDays", "lottery/ruletext.dayNames", "lottery/ticketno.weights"] (by kernel_rfl) (by kernel_rfl)
theorem operatorTaxes_row_tie : Rows.operatorTaxesRow.laidByTextAt .later Tryz.pinned [.data, .data, .data] true :=
  OpenClaim.laidByTextAt_later rfl rfl tie noOwnUnsafe
theorem topProtects_row_tie : Rows.topProtectsRow.laidByTextAt .later Tryz.pinned [.data, .data, .data] true :=
  OpenClaim.laidByTextAt_later rfl rfl tie noOwnUnsafe
theorem operatorTaxesUpto_row_tie : Rows.operatorTaxesUptoRow.laidByTextAt .later Tryz.pinned [.data, .data, .data] true :=
  OpenClaim.laidByTextAt_later rfl rfl tie noOwnUnsafe
theorem topProtectsUpto_row_tie : Rows.topProtectsUptoRow.laidByTextAt .later Tryz.pinned [.data, .data, .data] true :=
  OpenClaim.laidByTextAt_later rfl rfl tie noOwnUnsafe
end Go.Proofs.YtgiebkbbnjnplaaGreatDoor
