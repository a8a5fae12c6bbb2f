/-
  NARROWER THAN 'FOR EVERY INPUT', by the rows' own cells (each row's printed sentence says how): OperatorTaxes: laid · TopProtects: laid.
  DERIVED. THE GIVEN ROWS OF THIS SEAT. 2 by the template 'for every input the law returns true; each argument reads behind the call as it read before'; 0 by the template 'total and deterministic' (their statements: YtgiebkbbnjnplaaGreatDoorTotals.lean).
  GIVEN WITH THE SEED: the statements are not yours to turn. If you find one false, say at which input.
  Laid BY PROGRAM, IN A SANDBOX (cutbox-rows.mjs): the forced cells as the released guide's own fill.sh prints them over the translation d431a2e86303e18b… (all of the seat's roots in one cut). By AI agents, Wed Nov 11 2026. No macro, syntax, notation, axiom, sorry.
-/
import Derived.Test.YtgiebkbbnjnplaaGreatDoorChecked
import GoSem.Claim
import GoSem.ClaimJoined
import GoSem.ClaimMapViews
import Derived.JoinedTies
import Derived.KernelRfl
namespace Go.Proofs.YtgiebkbbnjnplaaGreatDoor
/- THE CELL 'sum', in the pinned program and in every row, IS THE sha256 OF THE DUMP (.gsa) THAT YtgiebkbbnjnplaaGreatDoorProg.lean LOADS. Nothing in Lean hashes anything: it is a label: what it is worth is what the hold of that sum in a sandbox is worth. -/
noncomputable def Tryz.pinned : Pinned := { name := "ytgiebkbbnjnplaagreatdoor", sum := "d431a2e86303e18bfd06dfbfb308260ea1e4eed3087253554663a6638e87007c", checked := Tryz.checked }
namespace Rows
def none {H : Type} : Left H := { results := [], args := [] }

/- WHAT THE LISTED PACKAGE-LEVEL VARIABLES READ AS WHEN THE CALL BEGINS. Each datum BY PROGRAM (the guide's laid-datum.mjs) off the statement by which the dump's own 'gosem.cut.vars' lays the variable. In a bare row this is a premise. The card (YtgiebkbbnjnplaaGreatDoorCards.lean) ties it to the program's text. -/
def laid_lottery_calendar_monthDays {H : Type} : DataW H := .agg [.lit (.int .i64 0), .lit (.int .i64 31), .lit (.int .i64 28), .lit (.int .i64 31), .lit (.int .i64 30), .lit (.int .i64 31), .lit (.int .i64 30), .lit (.int .i64 31), .lit (.int .i64 31), .lit (.int .i64 30), .lit (.int .i64 31), .lit (.int .i64 30), .lit (.int .i64 31)]
def laid_lottery_ruletext_dayNames {H : Type} : DataW H := .agg [.lit (.string [109, 111, 110]), .lit (.string [116, 117, 101]), .lit (.string [119, 101, 100]), .lit (.string [116, 104, 117]), .lit (.string [102, 114, 105]), .lit (.string [115, 97, 116]), .lit (.string [115, 117, 110])]
def laid_lottery_ticketno_weights {H : Type} : DataW H := .agg [.lit (.int .i64 15), .lit (.int .i64 50), .lit (.int .i64 5), .lit (.int .i64 49), .lit (.int .i64 34), .lit (.int .i64 81), .lit (.int .i64 76), .lit (.int .i64 27), .lit (.int .i64 90), .lit (.int .i64 9), .lit (.int .i64 30), .lit (.int .i64 3)]

/-- 'lotterylaw52.OperatorTaxes': WHATEVER THE INPUT: true; the input reads as it did. -/
def operatorTaxesSpec : ChangeSpec := { name := "operatorTaxes", fn := fun _ => fun
  | [d] => { results := [.lit (.bool true)], args := [d] }
  | _ => none }
def operatorTaxesRow : OpenClaim := { program := "ytgiebkbbnjnplaagreatdoor", sum := "d431a2e86303e18bfd06dfbfb308260ea1e4eed3087253554663a6638e87007c", func := "lottery/lotterylaw52.OperatorTaxes", spec := "operatorTaxes", inPlace := ["gosem.stop:lottery/lex.inRemark", "gosem.stop:unicode/utf8.RuneCountInString", "internal/bytealg.CountString", "internal/bytealg.IndexByteString", "internal/bytealg.IndexString", "gosem.stop:(*lottery/ruletext.parser).fail", "gosem.stop:(*lottery/ruletext.parser).addon", "gosem.stop:lottery/rulecheck.checkAddon", "gosem.stop:lottery/rulecheck.checkDigits", "gosem.stop:lottery/rulecheck.covers", "gosem.stop:lottery/commitment.New", "gosem.stop:(*lottery/operator.Operator).doExclude", "gosem.stop:lottery/num.Power", "gosem.stop:lottery/nat.copied", "gosem.stop:lottery/nat.divideLong", "gosem.stop:lottery/system.Count", "gosem.stop:lottery/bet.equal", "gosem.stop:internal/strconv.numDigits", "gosem.stop:internal/strconv.formatBase10", "gosem.stop:internal/strconv.formatBits", "internal/abi.NoEscape", "internal/bytealg.MakeNoZero", "gosem.stop:lottery/stream.New", "gosem.stop:lottery/quickpick.Serial", "gosem.stop:(*lottery/operator.Operator).doCancel", "gosem.stop:(*lottery/operator.Operator).doCommit", "gosem.stop:(*lottery/operator.Operator).doReveal", "gosem.stop:(*lottery/operator.Operator).doBalls", "gosem.stop:(*lottery/operator.Operator).doAbort", "gosem.stop:(*lottery/operator.Operator).doSettle", "gosem.stop:(lottery/claim.prize).claimable", "gosem.stop:lottery/payout.Pay", "gosem.stop:lottery/debt.Reduce", "gosem.stop:(*lottery/claim.Claims).Claim", "gosem.stop:(*lottery/operator.Operator).pay", "gosem.stop:(*lottery/operator.Operator).doExpire", "gosem.stop:(*lottery/operator.Operator).doDeck", "gosem.stop:(*lottery/operator.Operator).doPack", "gosem.stop:(*lottery/operator.Operator).doScratch", "gosem.stop:(*lottery/operator.Operator).doDebt", "gosem.stop:(*lottery/operator.Operator).doChance"], unfollowed := true, recurses := true, named := ["internal/bytealg.MaxLen", "lottery/ruletext.dayNames", "lottery/calendar.monthDays", "lottery/ticketno.weights"], apart := false, laid := [("lottery/calendar.monthDays", laid_lottery_calendar_monthDays), ("lottery/ruletext.dayNames", laid_lottery_ruletext_dayNames), ("lottery/ticketno.weights", laid_lottery_ticketno_weights)] }
def OperatorTaxesSaid : Prop := operatorTaxesRow.holds Tryz.pinned (OpenSpec.ofChange operatorTaxesSpec)

/-- ITS FALSE NEIGHBOUR: 'it returns false'. Refute it at one input. -/
def operatorTaxesWrong : ChangeSpec := { name := "operatorTaxes", fn := fun _ => fun
  | [d] => { results := [.lit (.bool false)], args := [d] }
  | _ => none }
def OperatorTaxesWrongFalsely : Prop := operatorTaxesRow.holds Tryz.pinned (OpenSpec.ofChange operatorTaxesWrong)

/-- 'lotterytop.TopProtects': WHATEVER THE INPUT: true; the input reads as it did. -/
def topProtectsSpec : ChangeSpec := { name := "topProtects", fn := fun _ => fun
  | [d1, d2] => { results := [.lit (.bool true)], args := [d1, d2] }
  | _ => none }
def topProtectsRow : OpenClaim := { program := "ytgiebkbbnjnplaagreatdoor", sum := "d431a2e86303e18bfd06dfbfb308260ea1e4eed3087253554663a6638e87007c", func := "lottery/lotterytop.TopProtects", spec := "topProtects", inPlace := ["gosem.stop:lottery/lex.inRemark", "gosem.stop:unicode/utf8.RuneCountInString", "internal/bytealg.CountString", "internal/bytealg.IndexByteString", "internal/bytealg.IndexString", "gosem.stop:(*lottery/ruletext.parser).fail", "gosem.stop:(*lottery/ruletext.parser).addon", "gosem.stop:lottery/rulecheck.checkAddon", "gosem.stop:lottery/rulecheck.checkDigits", "gosem.stop:lottery/rulecheck.covers", "gosem.stop:lottery/commitment.New", "gosem.stop:(*lottery/operator.Operator).doExclude", "gosem.stop:lottery/num.Power", "gosem.stop:lottery/nat.copied", "gosem.stop:lottery/nat.divideLong", "gosem.stop:lottery/system.Count", "gosem.stop:lottery/bet.equal", "gosem.stop:internal/strconv.numDigits", "gosem.stop:internal/strconv.formatBase10", "gosem.stop:internal/strconv.formatBits", "internal/abi.NoEscape", "internal/bytealg.MakeNoZero", "gosem.stop:lottery/stream.New", "gosem.stop:lottery/quickpick.Serial", "gosem.stop:(*lottery/operator.Operator).doCancel", "gosem.stop:(*lottery/operator.Operator).doCommit", "gosem.stop:(*lottery/operator.Operator).doReveal", "gosem.stop:(*lottery/operator.Operator).doBalls", "gosem.stop:(*lottery/operator.Operator).doAbort", "gosem.stop:(*lottery/operator.Operator).doSettle", "gosem.stop:(lottery/claim.prize).claimable", "gosem.stop:lottery/payout.Pay", "gosem.stop:lottery/debt.Reduce", "gosem.stop:(*lottery/claim.Claims).Claim", "gosem.stop:(*lottery/operator.Operator).pay", "gosem.stop:(*lottery/operator.Operator).doExpire", "gosem.stop:(*lottery/operator.Operator).doDeck", "gosem.stop:(*lottery/operator.Operator).doPack", "gosem.stop:(*lottery/operator.Operator).doScratch", "gosem.stop:(*lottery/operator.Operator).doDebt", "gosem.stop:(*lottery/operator.Operator).doChance"], unfollowed := true, recurses := true, named := ["internal/bytealg.MaxLen", "lottery/ruletext.dayNames", "lottery/calendar.monthDays", "lottery/ticketno.weights"], apart := false, laid := [("lottery/calendar.monthDays", laid_lottery_calendar_monthDays), ("lottery/ruletext.dayNames", laid_lottery_ruletext_dayNames), ("lottery/ticketno.weights", laid_lottery_ticketno_weights)] }
def TopProtectsSaid : Prop := topProtectsRow.holds Tryz.pinned (OpenSpec.ofChange topProtectsSpec)

/-- ITS FALSE NEIGHBOUR: 'it returns false'. Refute it at one input. -/
def topProtectsWrong : ChangeSpec := { name := "topProtects", fn := fun _ => fun
  | [d1, d2] => { results := [.lit (.bool false)], args := [d1, d2] }
  | _ => none }
def TopProtectsWrongFalsely : Prop := topProtectsRow.holds Tryz.pinned (OpenSpec.ofChange topProtectsWrong)

/- THE SECOND FORM. 'bulk': how many values and letters a reading holds, each counted each time it is reached (what is shared counts as often as it is met; a slice's spare places count too). A statement '..UptoSaid' is the law's where the arguments, and the package variables that the reading takes, are together of bulk at most 1048576: NARROWER than '..Said'. Prove '..Said' where nothing that the law and all that it calls make is longer than what came in: it says more and counts as full. Else prove '..UptoSaid'. A law counts once. -/
mutual
def uptoBulk {H : Type} : DataW H → Nat
  | .lit (.string bytes) => bytes.length + 1
  | .lit _ => 1
  | .nil => 1
  | .ptr d => uptoBulk d + 1
  | .slice elems spare => uptoBulkAll elems + uptoBulkAll spare + 1
  | .agg parts => uptoBulkAll parts + 1
  | .iface _ d => uptoBulk d + 1
  | .map entries => uptoBulkEntries entries + 1
  | .held _ => 1
def uptoBulkAll {H : Type} : List (DataW H) → Nat
  | [] => 0
  | d :: r => uptoBulk d + uptoBulkAll r
def uptoBulkEntries {H : Type} : List (Lit × DataW H) → Nat
  | [] => 0
  | x :: r => uptoBulkEntry x + uptoBulkEntries r
def uptoBulkEntry {H : Type} : Lit × DataW H → Nat
  | (.string bytes, d) => bytes.length + uptoBulk d + 1
  | (_, d) => uptoBulk d + 1
 end
def uptoSmall : (H : Type) → List (DataW H) → Bool := fun _ ds => decide (uptoBulkAll ds ≤ 1048576)
def OpenSpec.upto (s : _root_.Go.ChangeSpec) : _root_.Go.OpenSpec := { _root_.Go.OpenSpec.ofChange s with cond := some uptoSmall }

/-- 'lotterylaw52.OperatorTaxes', WHERE WHAT IT READS IS OF BULK AT MOST 1048576: true; the input reads as it did. -/
def operatorTaxesUptoRow : OpenClaim := { program := "ytgiebkbbnjnplaagreatdoor", sum := "d431a2e86303e18bfd06dfbfb308260ea1e4eed3087253554663a6638e87007c", func := "lottery/lotterylaw52.OperatorTaxes", spec := "operatorTaxes", inPlace := ["gosem.stop:lottery/lex.inRemark", "gosem.stop:unicode/utf8.RuneCountInString", "internal/bytealg.CountString", "internal/bytealg.IndexByteString", "internal/bytealg.IndexString", "gosem.stop:(*lottery/ruletext.parser).fail", "gosem.stop:(*lottery/ruletext.parser).addon", "gosem.stop:lottery/rulecheck.checkAddon", "gosem.stop:lottery/rulecheck.checkDigits", "gosem.stop:lottery/rulecheck.covers", "gosem.stop:lottery/commitment.New", "gosem.stop:(*lottery/operator.Operator).doExclude", "gosem.stop:lottery/num.Power", "gosem.stop:lottery/nat.copied", "gosem.stop:lottery/nat.divideLong", "gosem.stop:lottery/system.Count", "gosem.stop:lottery/bet.equal", "gosem.stop:internal/strconv.numDigits", "gosem.stop:internal/strconv.formatBase10", "gosem.stop:internal/strconv.formatBits", "internal/abi.NoEscape", "internal/bytealg.MakeNoZero", "gosem.stop:lottery/stream.New", "gosem.stop:lottery/quickpick.Serial", "gosem.stop:(*lottery/operator.Operator).doCancel", "gosem.stop:(*lottery/operator.Operator).doCommit", "gosem.stop:(*lottery/operator.Operator).doReveal", "gosem.stop:(*lottery/operator.Operator).doBalls", "gosem.stop:(*lottery/operator.Operator).doAbort", "gosem.stop:(*lottery/operator.Operator).doSettle", "gosem.stop:(lottery/claim.prize).claimable", "gosem.stop:lottery/payout.Pay", "gosem.stop:lottery/debt.Reduce", "gosem.stop:(*lottery/claim.Claims).Claim", "gosem.stop:(*lottery/operator.Operator).pay", "gosem.stop:(*lottery/operator.Operator).doExpire", "gosem.stop:(*lottery/operator.Operator).doDeck", "gosem.stop:(*lottery/operator.Operator).doPack", "gosem.stop:(*lottery/operator.Operator).doScratch", "gosem.stop:(*lottery/operator.Operator).doDebt", "gosem.stop:(*lottery/operator.Operator).doChance"], unfollowed := true, recurses := true, named := ["internal/bytealg.MaxLen", "lottery/ruletext.dayNames", "lottery/calendar.monthDays", "lottery/ticketno.weights"], apart := false, laid := [("lottery/calendar.monthDays", laid_lottery_calendar_monthDays), ("lottery/ruletext.dayNames", laid_lottery_ruletext_dayNames), ("lottery/ticketno.weights", laid_lottery_ticketno_weights)], narrowed := true }
def OperatorTaxesUptoSaid : Prop := operatorTaxesUptoRow.holds Tryz.pinned (OpenSpec.upto operatorTaxesSpec)

/-- 'lotterytop.TopProtects', WHERE WHAT IT READS IS OF BULK AT MOST 1048576: true; the input reads as it did. -/
def topProtectsUptoRow : OpenClaim := { program := "ytgiebkbbnjnplaagreatdoor", sum := "d431a2e86303e18bfd06dfbfb308260ea1e4eed3087253554663a6638e87007c", func := "lottery/lotterytop.TopProtects", spec := "topProtects", inPlace := ["gosem.stop:lottery/lex.inRemark", "gosem.stop:unicode/utf8.RuneCountInString", "internal/bytealg.CountString", "internal/bytealg.IndexByteString", "internal/bytealg.IndexString", "gosem.stop:(*lottery/ruletext.parser).fail", "gosem.stop:(*lottery/ruletext.parser).addon", "gosem.stop:lottery/rulecheck.checkAddon", "gosem.stop:lottery/rulecheck.checkDigits", "gosem.stop:lottery/rulecheck.covers", "gosem.stop:lottery/commitment.New", "gosem.stop:(*lottery/operator.Operator).doExclude", "gosem.stop:lottery/num.Power", "gosem.stop:lottery/nat.copied", "gosem.stop:lottery/nat.divideLong", "gosem.stop:lottery/system.Count", "gosem.stop:lottery/bet.equal", "gosem.stop:internal/strconv.numDigits", "gosem.stop:internal/strconv.formatBase10", "gosem.stop:internal/strconv.formatBits", "internal/abi.NoEscape", "internal/bytealg.MakeNoZero", "gosem.stop:lottery/stream.New", "gosem.stop:lottery/quickpick.Serial", "gosem.stop:(*lottery/operator.Operator).doCancel", "gosem.stop:(*lottery/operator.Operator).doCommit", "gosem.stop:(*lottery/operator.Operator).doReveal", "gosem.stop:(*lottery/operator.Operator).doBalls", "gosem.stop:(*lottery/operator.Operator).doAbort", "gosem.stop:(*lottery/operator.Operator).doSettle", "gosem.stop:(lottery/claim.prize).claimable", "gosem.stop:lottery/payout.Pay", "gosem.stop:lottery/debt.Reduce", "gosem.stop:(*lottery/claim.Claims).Claim", "gosem.stop:(*lottery/operator.Operator).pay", "gosem.stop:(*lottery/operator.Operator).doExpire", "gosem.stop:(*lottery/operator.Operator).doDeck", "gosem.stop:(*lottery/operator.Operator).doPack", "gosem.stop:(*lottery/operator.Operator).doScratch", "gosem.stop:(*lottery/operator.Operator).doDebt", "gosem.stop:(*lottery/operator.Operator).doChance"], unfollowed := true, recurses := true, named := ["internal/bytealg.MaxLen", "lottery/ruletext.dayNames", "lottery/calendar.monthDays", "lottery/ticketno.weights"], apart := false, laid := [("lottery/calendar.monthDays", laid_lottery_calendar_monthDays), ("lottery/ruletext.dayNames", laid_lottery_ruletext_dayNames), ("lottery/ticketno.weights", laid_lottery_ticketno_weights)], narrowed := true }
def TopProtectsUptoSaid : Prop := topProtectsUptoRow.holds Tryz.pinned (OpenSpec.upto topProtectsSpec)

end Rows
end Go.Proofs.YtgiebkbbnjnplaaGreatDoor
