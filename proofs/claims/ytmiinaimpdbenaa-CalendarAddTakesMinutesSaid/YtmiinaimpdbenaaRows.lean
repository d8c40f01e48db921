/-
  No cell of these rows narrows 'for every input' (looked for: loops, veiled, ifaces, maps, wideKeys, modest, calm, conditions, laid).
  DERIVED. THE GIVEN ROWS OF THIS SEAT. 5 by the template 'for every input the law returns true; each argument reads behind the call as it read before'; 0 by the template 'total and deterministic' (their statements: YtmiinaimpdbenaaTotals.lean).
  GIVEN WITH THE SEED: the statements are not yours to turn. If you find one false, say at which input.
  Laid BY PROGRAM, IN A SANDBOX (cutbox-rows.mjs): the forced cells as the released guide's own fill.sh prints them over the translation 6ab32235b7b6eda8… (all of the seat's roots in one cut). By AI agents, Wed Nov 11 2026. No macro, syntax, notation, axiom, sorry.
-/
import Derived.Test.YtmiinaimpdbenaaChecked
import GoSem.Claim
import GoSem.ClaimJoined
import GoSem.ClaimMapViews
import Derived.JoinedTies
import Derived.KernelRfl
namespace Go.Proofs.Ytmiinaimpdbenaa
/- THE CELL 'sum', in the pinned program and in every row, IS THE sha256 OF THE DUMP (.gsa) THAT YtmiinaimpdbenaaProg.lean LOADS. Nothing in Lean hashes anything: it is a label: what it is worth is what the hold of that sum in a sandbox is worth. -/
noncomputable def Try.pinned : Pinned := { name := "ytmiinaimpdbenaa", sum := "6ab32235b7b6eda8ab1bda5e90ff46ccdb732a6f046bd3ef160c8928564b3b2a", checked := Try.checked }
namespace Rows
def none {H : Type} : Left H := { results := [], args := [] }

/-- 'changeforgelaw8.CalendarFunctionsMatchSpec': WHATEVER THE INPUT: true; the input reads as it did. -/
def calendarFunctionsMatchSpecSpec : ChangeSpec := { name := "calendarFunctionsMatchSpec", fn := fun _ => fun
  | [d1, d2, d3, d4] => { results := [.lit (.bool true)], args := [d1, d2, d3, d4] }
  | _ => none }
def calendarFunctionsMatchSpecRow : OpenClaim := { program := "ytmiinaimpdbenaa", sum := "6ab32235b7b6eda8ab1bda5e90ff46ccdb732a6f046bd3ef160c8928564b3b2a", func := "changeforge/changeforgelaw8.CalendarFunctionsMatchSpec", spec := "calendarFunctionsMatchSpec", unfollowed := true, recurses := true, apart := false }
def CalendarFunctionsMatchSpecSaid : Prop := calendarFunctionsMatchSpecRow.holds Try.pinned (OpenSpec.ofChange calendarFunctionsMatchSpecSpec)

/-- ITS FALSE NEIGHBOUR: 'it returns false'. Refute it at one input. -/
def calendarFunctionsMatchSpecWrong : ChangeSpec := { name := "calendarFunctionsMatchSpec", fn := fun _ => fun
  | [d1, d2, d3, d4] => { results := [.lit (.bool false)], args := [d1, d2, d3, d4] }
  | _ => none }
def CalendarFunctionsMatchSpecWrongFalsely : Prop := calendarFunctionsMatchSpecRow.holds Try.pinned (OpenSpec.ofChange calendarFunctionsMatchSpecWrong)

/-- 'changeforgelaw8.CalendarWorkedIsAdditive': WHATEVER THE INPUT: true; the input reads as it did. -/
def calendarWorkedIsAdditiveSpec : ChangeSpec := { name := "calendarWorkedIsAdditive", fn := fun _ => fun
  | [d1, d2, d3, d4] => { results := [.lit (.bool true)], args := [d1, d2, d3, d4] }
  | _ => none }
def calendarWorkedIsAdditiveRow : OpenClaim := { program := "ytmiinaimpdbenaa", sum := "6ab32235b7b6eda8ab1bda5e90ff46ccdb732a6f046bd3ef160c8928564b3b2a", func := "changeforge/changeforgelaw8.CalendarWorkedIsAdditive", spec := "calendarWorkedIsAdditive", unfollowed := true, recurses := true, apart := false }
def CalendarWorkedIsAdditiveSaid : Prop := calendarWorkedIsAdditiveRow.holds Try.pinned (OpenSpec.ofChange calendarWorkedIsAdditiveSpec)

/-- ITS FALSE NEIGHBOUR: 'it returns false'. Refute it at one input. -/
def calendarWorkedIsAdditiveWrong : ChangeSpec := { name := "calendarWorkedIsAdditive", fn := fun _ => fun
  | [d1, d2, d3, d4] => { results := [.lit (.bool false)], args := [d1, d2, d3, d4] }
  | _ => none }
def CalendarWorkedIsAdditiveWrongFalsely : Prop := calendarWorkedIsAdditiveRow.holds Try.pinned (OpenSpec.ofChange calendarWorkedIsAdditiveWrong)

/-- 'changeforgelaw8.CalendarAddTakesMinutes': WHATEVER THE INPUT: true; the input reads as it did. -/
def calendarAddTakesMinutesSpec : ChangeSpec := { name := "calendarAddTakesMinutes", fn := fun _ => fun
  | [d1, d2, d3] => { results := [.lit (.bool true)], args := [d1, d2, d3] }
  | _ => none }
def calendarAddTakesMinutesRow : OpenClaim := { program := "ytmiinaimpdbenaa", sum := "6ab32235b7b6eda8ab1bda5e90ff46ccdb732a6f046bd3ef160c8928564b3b2a", func := "changeforge/changeforgelaw8.CalendarAddTakesMinutes", spec := "calendarAddTakesMinutes", unfollowed := true, recurses := true, apart := false }
def CalendarAddTakesMinutesSaid : Prop := calendarAddTakesMinutesRow.holds Try.pinned (OpenSpec.ofChange calendarAddTakesMinutesSpec)

/-- ITS FALSE NEIGHBOUR: 'it returns false'. Refute it at one input. -/
def calendarAddTakesMinutesWrong : ChangeSpec := { name := "calendarAddTakesMinutes", fn := fun _ => fun
  | [d1, d2, d3] => { results := [.lit (.bool false)], args := [d1, d2, d3] }
  | _ => none }
def CalendarAddTakesMinutesWrongFalsely : Prop := calendarAddTakesMinutesRow.holds Try.pinned (OpenSpec.ofChange calendarAddTakesMinutesWrong)

/-- 'changeforgelaw8.CalendarNextIsFirst': WHATEVER THE INPUT: true; the input reads as it did. -/
def calendarNextIsFirstSpec : ChangeSpec := { name := "calendarNextIsFirst", fn := fun _ => fun
  | [d1, d2] => { results := [.lit (.bool true)], args := [d1, d2] }
  | _ => none }
def calendarNextIsFirstRow : OpenClaim := { program := "ytmiinaimpdbenaa", sum := "6ab32235b7b6eda8ab1bda5e90ff46ccdb732a6f046bd3ef160c8928564b3b2a", func := "changeforge/changeforgelaw8.CalendarNextIsFirst", spec := "calendarNextIsFirst", unfollowed := true, recurses := true, apart := false }
def CalendarNextIsFirstSaid : Prop := calendarNextIsFirstRow.holds Try.pinned (OpenSpec.ofChange calendarNextIsFirstSpec)

/-- ITS FALSE NEIGHBOUR: 'it returns false'. Refute it at one input. -/
def calendarNextIsFirstWrong : ChangeSpec := { name := "calendarNextIsFirst", fn := fun _ => fun
  | [d1, d2] => { results := [.lit (.bool false)], args := [d1, d2] }
  | _ => none }
def CalendarNextIsFirstWrongFalsely : Prop := calendarNextIsFirstRow.holds Try.pinned (OpenSpec.ofChange calendarNextIsFirstWrong)

/-- 'changeforgelaw8.CalendarRepeatsWeekly': WHATEVER THE INPUT: true; the input reads as it did. -/
def calendarRepeatsWeeklySpec : ChangeSpec := { name := "calendarRepeatsWeekly", fn := fun _ => fun
  | [d1, d2, d3] => { results := [.lit (.bool true)], args := [d1, d2, d3] }
  | _ => none }
def calendarRepeatsWeeklyRow : OpenClaim := { program := "ytmiinaimpdbenaa", sum := "6ab32235b7b6eda8ab1bda5e90ff46ccdb732a6f046bd3ef160c8928564b3b2a", func := "changeforge/changeforgelaw8.CalendarRepeatsWeekly", spec := "calendarRepeatsWeekly", unfollowed := true, recurses := true, apart := false }
def CalendarRepeatsWeeklySaid : Prop := calendarRepeatsWeeklyRow.holds Try.pinned (OpenSpec.ofChange calendarRepeatsWeeklySpec)

/-- ITS FALSE NEIGHBOUR: 'it returns false'. Refute it at one input. -/
def calendarRepeatsWeeklyWrong : ChangeSpec := { name := "calendarRepeatsWeekly", fn := fun _ => fun
  | [d1, d2, d3] => { results := [.lit (.bool false)], args := [d1, d2, d3] }
  | _ => none }
def CalendarRepeatsWeeklyWrongFalsely : Prop := calendarRepeatsWeeklyRow.holds Try.pinned (OpenSpec.ofChange calendarRepeatsWeeklyWrong)

/- THE SECOND FORM. 'bulk': how many values and letters a reading holds, each counted each time it is reached (what is shared counts as often as it is met; a slice's spare places count too). A statement '..UptoSaid' is the law's where the arguments, and the package variables that the reading takes, are together of bulk at most 1048576: NARROWER than '..Said'. Prove '..Said' where nothing that the law and all that it calls make is longer than what came in: it says more and counts as full. Else prove '..UptoSaid'. A law counts once. -/
mutual
def uptoBulk {H : Type} : DataW H → Nat
  | .lit (.string bytes) => bytes.length + 1
  | .lit _ => 1
  | .nil => 1
  | .ptr d => uptoBulk d + 1
  | .slice elems spare => uptoBulkAll elems + uptoBulkAll spare + 1
  | .agg parts => uptoBulkAll parts + 1
  | .iface _ d => uptoBulk d + 1
  | .map entries => uptoBulkEntries entries + 1
  | .held _ => 1
def uptoBulkAll {H : Type} : List (DataW H) → Nat
  | [] => 0
  | d :: r => uptoBulk d + uptoBulkAll r
def uptoBulkEntries {H : Type} : List (Lit × DataW H) → Nat
  | [] => 0
  | x :: r => uptoBulkEntry x + uptoBulkEntries r
def uptoBulkEntry {H : Type} : Lit × DataW H → Nat
  | (.string bytes, d) => bytes.length + uptoBulk d + 1
  | (_, d) => uptoBulk d + 1
 end
def uptoSmall : (H : Type) → List (DataW H) → Bool := fun _ ds => decide (uptoBulkAll ds ≤ 1048576)
def OpenSpec.upto (s : _root_.Go.ChangeSpec) : _root_.Go.OpenSpec := { _root_.Go.OpenSpec.ofChange s with cond := some uptoSmall }

/-- 'changeforgelaw8.CalendarFunctionsMatchSpec', WHERE WHAT IT READS IS OF BULK AT MOST 1048576: true; the input reads as it did. -/
def calendarFunctionsMatchSpecUptoRow : OpenClaim := { program := "ytmiinaimpdbenaa", sum := "6ab32235b7b6eda8ab1bda5e90ff46ccdb732a6f046bd3ef160c8928564b3b2a", func := "changeforge/changeforgelaw8.CalendarFunctionsMatchSpec", spec := "calendarFunctionsMatchSpec", unfollowed := true, recurses := true, apart := false, narrowed := true }
def CalendarFunctionsMatchSpecUptoSaid : Prop := calendarFunctionsMatchSpecUptoRow.holds Try.pinned (OpenSpec.upto calendarFunctionsMatchSpecSpec)

/-- 'changeforgelaw8.CalendarWorkedIsAdditive', WHERE WHAT IT READS IS OF BULK AT MOST 1048576: true; the input reads as it did. -/
def calendarWorkedIsAdditiveUptoRow : OpenClaim := { program := "ytmiinaimpdbenaa", sum := "6ab32235b7b6eda8ab1bda5e90ff46ccdb732a6f046bd3ef160c8928564b3b2a", func := "changeforge/changeforgelaw8.CalendarWorkedIsAdditive", spec := "calendarWorkedIsAdditive", unfollowed := true, recurses := true, apart := false, narrowed := true }
def CalendarWorkedIsAdditiveUptoSaid : Prop := calendarWorkedIsAdditiveUptoRow.holds Try.pinned (OpenSpec.upto calendarWorkedIsAdditiveSpec)

/-- 'changeforgelaw8.CalendarAddTakesMinutes', WHERE WHAT IT READS IS OF BULK AT MOST 1048576: true; the input reads as it did. -/
def calendarAddTakesMinutesUptoRow : OpenClaim := { program := "ytmiinaimpdbenaa", sum := "6ab32235b7b6eda8ab1bda5e90ff46ccdb732a6f046bd3ef160c8928564b3b2a", func := "changeforge/changeforgelaw8.CalendarAddTakesMinutes", spec := "calendarAddTakesMinutes", unfollowed := true, recurses := true, apart := false, narrowed := true }
def CalendarAddTakesMinutesUptoSaid : Prop := calendarAddTakesMinutesUptoRow.holds Try.pinned (OpenSpec.upto calendarAddTakesMinutesSpec)

/-- 'changeforgelaw8.CalendarNextIsFirst', WHERE WHAT IT READS IS OF BULK AT MOST 1048576: true; the input reads as it did. -/
def calendarNextIsFirstUptoRow : OpenClaim := { program := "ytmiinaimpdbenaa", sum := "6ab32235b7b6eda8ab1bda5e90ff46ccdb732a6f046bd3ef160c8928564b3b2a", func := "changeforge/changeforgelaw8.CalendarNextIsFirst", spec := "calendarNextIsFirst", unfollowed := true, recurses := true, apart := false, narrowed := true }
def CalendarNextIsFirstUptoSaid : Prop := calendarNextIsFirstUptoRow.holds Try.pinned (OpenSpec.upto calendarNextIsFirstSpec)

/-- 'changeforgelaw8.CalendarRepeatsWeekly', WHERE WHAT IT READS IS OF BULK AT MOST 1048576: true; the input reads as it did. -/
def calendarRepeatsWeeklyUptoRow : OpenClaim := { program := "ytmiinaimpdbenaa", sum := "6ab32235b7b6eda8ab1bda5e90ff46ccdb732a6f046bd3ef160c8928564b3b2a", func := "changeforge/changeforgelaw8.CalendarRepeatsWeekly", spec := "calendarRepeatsWeekly", unfollowed := true, recurses := true, apart := false, narrowed := true }
def CalendarRepeatsWeeklyUptoSaid : Prop := calendarRepeatsWeeklyUptoRow.holds Try.pinned (OpenSpec.upto calendarRepeatsWeeklySpec)

end Rows
end Go.Proofs.Ytmiinaimpdbenaa
