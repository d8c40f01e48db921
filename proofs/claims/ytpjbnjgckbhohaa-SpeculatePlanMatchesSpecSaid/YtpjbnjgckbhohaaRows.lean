/-
  No cell of these rows narrows 'for every input' (looked for: loops, veiled, ifaces, maps, wideKeys, modest, calm, conditions, laid).
  DERIVED. THE GIVEN ROWS OF THIS SEAT. 5 by the template 'for every input the law returns true; each argument reads behind the call as it read before'; 0 by the template 'total and deterministic' (their statements: YtpjbnjgckbhohaaTotals.lean).
  GIVEN WITH THE SEED: the statements are not yours to turn. If you find one false, say at which input.
  Laid BY PROGRAM, IN A SANDBOX (cutbox-rows.mjs): the forced cells as the released guide's own fill.sh prints them over the translation 53c872125485cc48… (all of the seat's roots in one cut). By AI agents, Wed Nov 11 2026. No macro, syntax, notation, axiom, sorry.
-/
import Derived.Test.YtpjbnjgckbhohaaChecked
import GoSem.Claim
import GoSem.ClaimJoined
import GoSem.ClaimMapViews
import Derived.JoinedTies
import Derived.KernelRfl
namespace Go.Proofs.Ytpjbnjgckbhohaa
/- THE CELL 'sum', in the pinned program and in every row, IS THE sha256 OF THE DUMP (.gsa) THAT YtpjbnjgckbhohaaProg.lean LOADS. Nothing in Lean hashes anything: it is a label: what it is worth is what the hold of that sum in a sandbox is worth. -/
noncomputable def Try.pinned : Pinned := { name := "ytpjbnjgckbhohaa", sum := "53c872125485cc48df499c7f5a7d39c2b0a9e921fafe582851f7d8c642213267", checked := Try.checked }
namespace Rows
def none {H : Type} : Left H := { results := [], args := [] }

/-- 'changeforgelaw8.SpeculatePlanMatchesSpec': WHATEVER THE INPUT: true; the input reads as it did. -/
def speculatePlanMatchesSpecSpec : ChangeSpec := { name := "speculatePlanMatchesSpec", fn := fun _ => fun
  | [d1, d2, d3] => { results := [.lit (.bool true)], args := [d1, d2, d3] }
  | _ => none }
def speculatePlanMatchesSpecRow : OpenClaim := { program := "ytpjbnjgckbhohaa", sum := "53c872125485cc48df499c7f5a7d39c2b0a9e921fafe582851f7d8c642213267", func := "changeforge/changeforgelaw8.SpeculatePlanMatchesSpec", spec := "speculatePlanMatchesSpec", unfollowed := true, recurses := true, apart := false }
def SpeculatePlanMatchesSpecSaid : Prop := speculatePlanMatchesSpecRow.holds Try.pinned (OpenSpec.ofChange speculatePlanMatchesSpecSpec)

/-- ITS FALSE NEIGHBOUR: 'it returns false'. Refute it at one input. -/
def speculatePlanMatchesSpecWrong : ChangeSpec := { name := "speculatePlanMatchesSpec", fn := fun _ => fun
  | [d1, d2, d3] => { results := [.lit (.bool false)], args := [d1, d2, d3] }
  | _ => none }
def SpeculatePlanMatchesSpecWrongFalsely : Prop := speculatePlanMatchesSpecRow.holds Try.pinned (OpenSpec.ofChange speculatePlanMatchesSpecWrong)

/-- 'changeforgelaw8.SpeculateResultsMatchSpec': WHATEVER THE INPUT: true; the input reads as it did. -/
def speculateResultsMatchSpecSpec : ChangeSpec := { name := "speculateResultsMatchSpec", fn := fun _ => fun
  | [d1, d2, d3] => { results := [.lit (.bool true)], args := [d1, d2, d3] }
  | _ => none }
def speculateResultsMatchSpecRow : OpenClaim := { program := "ytpjbnjgckbhohaa", sum := "53c872125485cc48df499c7f5a7d39c2b0a9e921fafe582851f7d8c642213267", func := "changeforge/changeforgelaw8.SpeculateResultsMatchSpec", spec := "speculateResultsMatchSpec", unfollowed := true, recurses := true, apart := false }
def SpeculateResultsMatchSpecSaid : Prop := speculateResultsMatchSpecRow.holds Try.pinned (OpenSpec.ofChange speculateResultsMatchSpecSpec)

/-- ITS FALSE NEIGHBOUR: 'it returns false'. Refute it at one input. -/
def speculateResultsMatchSpecWrong : ChangeSpec := { name := "speculateResultsMatchSpec", fn := fun _ => fun
  | [d1, d2, d3] => { results := [.lit (.bool false)], args := [d1, d2, d3] }
  | _ => none }
def SpeculateResultsMatchSpecWrongFalsely : Prop := speculateResultsMatchSpecRow.holds Try.pinned (OpenSpec.ofChange speculateResultsMatchSpecWrong)

/-- 'changeforgelaw8.SpeculateChancesAddUp': WHATEVER THE INPUT: true; the input reads as it did. -/
def speculateChancesAddUpSpec : ChangeSpec := { name := "speculateChancesAddUp", fn := fun _ => fun
  | [d1, d2] => { results := [.lit (.bool true)], args := [d1, d2] }
  | _ => none }
def speculateChancesAddUpRow : OpenClaim := { program := "ytpjbnjgckbhohaa", sum := "53c872125485cc48df499c7f5a7d39c2b0a9e921fafe582851f7d8c642213267", func := "changeforge/changeforgelaw8.SpeculateChancesAddUp", spec := "speculateChancesAddUp", unfollowed := true, recurses := true, apart := false }
def SpeculateChancesAddUpSaid : Prop := speculateChancesAddUpRow.holds Try.pinned (OpenSpec.ofChange speculateChancesAddUpSpec)

/-- ITS FALSE NEIGHBOUR: 'it returns false'. Refute it at one input. -/
def speculateChancesAddUpWrong : ChangeSpec := { name := "speculateChancesAddUp", fn := fun _ => fun
  | [d1, d2] => { results := [.lit (.bool false)], args := [d1, d2] }
  | _ => none }
def SpeculateChancesAddUpWrongFalsely : Prop := speculateChancesAddUpRow.holds Try.pinned (OpenSpec.ofChange speculateChancesAddUpWrong)

/-- 'changeforgelaw8.SpeculateUselessRunsAreIgnored': WHATEVER THE INPUT: true; the input reads as it did. -/
def speculateUselessRunsAreIgnoredSpec : ChangeSpec := { name := "speculateUselessRunsAreIgnored", fn := fun _ => fun
  | [d1, d2, d3, d4] => { results := [.lit (.bool true)], args := [d1, d2, d3, d4] }
  | _ => none }
def speculateUselessRunsAreIgnoredRow : OpenClaim := { program := "ytpjbnjgckbhohaa", sum := "53c872125485cc48df499c7f5a7d39c2b0a9e921fafe582851f7d8c642213267", func := "changeforge/changeforgelaw8.SpeculateUselessRunsAreIgnored", spec := "speculateUselessRunsAreIgnored", unfollowed := true, recurses := true, apart := false }
def SpeculateUselessRunsAreIgnoredSaid : Prop := speculateUselessRunsAreIgnoredRow.holds Try.pinned (OpenSpec.ofChange speculateUselessRunsAreIgnoredSpec)

/-- ITS FALSE NEIGHBOUR: 'it returns false'. Refute it at one input. -/
def speculateUselessRunsAreIgnoredWrong : ChangeSpec := { name := "speculateUselessRunsAreIgnored", fn := fun _ => fun
  | [d1, d2, d3, d4] => { results := [.lit (.bool false)], args := [d1, d2, d3, d4] }
  | _ => none }
def SpeculateUselessRunsAreIgnoredWrongFalsely : Prop := speculateUselessRunsAreIgnoredRow.holds Try.pinned (OpenSpec.ofChange speculateUselessRunsAreIgnoredWrong)

/-- 'changeforgelaw8.SpeculateNextDecidesAll': WHATEVER THE INPUT: true; the input reads as it did. -/
def speculateNextDecidesAllSpec : ChangeSpec := { name := "speculateNextDecidesAll", fn := fun _ => fun
  | [d1, d2] => { results := [.lit (.bool true)], args := [d1, d2] }
  | _ => none }
def speculateNextDecidesAllRow : OpenClaim := { program := "ytpjbnjgckbhohaa", sum := "53c872125485cc48df499c7f5a7d39c2b0a9e921fafe582851f7d8c642213267", func := "changeforge/changeforgelaw8.SpeculateNextDecidesAll", spec := "speculateNextDecidesAll", unfollowed := true, recurses := true, apart := false }
def SpeculateNextDecidesAllSaid : Prop := speculateNextDecidesAllRow.holds Try.pinned (OpenSpec.ofChange speculateNextDecidesAllSpec)

/-- ITS FALSE NEIGHBOUR: 'it returns false'. Refute it at one input. -/
def speculateNextDecidesAllWrong : ChangeSpec := { name := "speculateNextDecidesAll", fn := fun _ => fun
  | [d1, d2] => { results := [.lit (.bool false)], args := [d1, d2] }
  | _ => none }
def SpeculateNextDecidesAllWrongFalsely : Prop := speculateNextDecidesAllRow.holds Try.pinned (OpenSpec.ofChange speculateNextDecidesAllWrong)

/- THE SECOND FORM. 'bulk': how many values and letters a reading holds, each counted each time it is reached (what is shared counts as often as it is met; a slice's spare places count too). A statement '..UptoSaid' is the law's where the arguments, and the package variables that the reading takes, are together of bulk at most 1048576: NARROWER than '..Said'. Prove '..Said' where nothing that the law and all that it calls make is longer than what came in: it says more and counts as full. Else prove '..UptoSaid'. A law counts once. -/
mutual
def uptoBulk {H : Type} : DataW H → Nat
  | .lit (.string bytes) => bytes.length + 1
  | .lit _ => 1
  | .nil => 1
  | .ptr d => uptoBulk d + 1
  | .slice elems spare => uptoBulkAll elems + uptoBulkAll spare + 1
  | .agg parts => uptoBulkAll parts + 1
  | .iface _ d => uptoBulk d + 1
  | .map entries => uptoBulkEntries entries + 1
  | .held _ => 1
def uptoBulkAll {H : Type} : List (DataW H) → Nat
  | [] => 0
  | d :: r => uptoBulk d + uptoBulkAll r
def uptoBulkEntries {H : Type} : List (Lit × DataW H) → Nat
  | [] => 0
  | x :: r => uptoBulkEntry x + uptoBulkEntries r
def uptoBulkEntry {H : Type} : Lit × DataW H → Nat
  | (.string bytes, d) => bytes.length + uptoBulk d + 1
  | (_, d) => uptoBulk d + 1
 end
def uptoSmall : (H : Type) → List (DataW H) → Bool := fun _ ds => decide (uptoBulkAll ds ≤ 1048576)
def OpenSpec.upto (s : _root_.Go.ChangeSpec) : _root_.Go.OpenSpec := { _root_.Go.OpenSpec.ofChange s with cond := some uptoSmall }

/-- 'changeforgelaw8.SpeculatePlanMatchesSpec', WHERE WHAT IT READS IS OF BULK AT MOST 1048576: true; the input reads as it did. -/
def speculatePlanMatchesSpecUptoRow : OpenClaim := { program := "ytpjbnjgckbhohaa", sum := "53c872125485cc48df499c7f5a7d39c2b0a9e921fafe582851f7d8c642213267", func := "changeforge/changeforgelaw8.SpeculatePlanMatchesSpec", spec := "speculatePlanMatchesSpec", unfollowed := true, recurses := true, apart := false, narrowed := true }
def SpeculatePlanMatchesSpecUptoSaid : Prop := speculatePlanMatchesSpecUptoRow.holds Try.pinned (OpenSpec.upto speculatePlanMatchesSpecSpec)

/-- 'changeforgelaw8.SpeculateResultsMatchSpec', WHERE WHAT IT READS IS OF BULK AT MOST 1048576: true; the input reads as it did. -/
def speculateResultsMatchSpecUptoRow : OpenClaim := { program := "ytpjbnjgckbhohaa", sum := "53c872125485cc48df499c7f5a7d39c2b0a9e921fafe582851f7d8c642213267", func := "changeforge/changeforgelaw8.SpeculateResultsMatchSpec", spec := "speculateResultsMatchSpec", unfollowed := true, recurses := true, apart := false, narrowed := true }
def SpeculateResultsMatchSpecUptoSaid : Prop := speculateResultsMatchSpecUptoRow.holds Try.pinned (OpenSpec.upto speculateResultsMatchSpecSpec)

/-- 'changeforgelaw8.SpeculateChancesAddUp', WHERE WHAT IT READS IS OF BULK AT MOST 1048576: true; the input reads as it did. -/
def speculateChancesAddUpUptoRow : OpenClaim := { program := "ytpjbnjgckbhohaa", sum := "53c872125485cc48df499c7f5a7d39c2b0a9e921fafe582851f7d8c642213267", func := "changeforge/changeforgelaw8.SpeculateChancesAddUp", spec := "speculateChancesAddUp", unfollowed := true, recurses := true, apart := false, narrowed := true }
def SpeculateChancesAddUpUptoSaid : Prop := speculateChancesAddUpUptoRow.holds Try.pinned (OpenSpec.upto speculateChancesAddUpSpec)

/-- 'changeforgelaw8.SpeculateUselessRunsAreIgnored', WHERE WHAT IT READS IS OF BULK AT MOST 1048576: true; the input reads as it did. -/
def speculateUselessRunsAreIgnoredUptoRow : OpenClaim := { program := "ytpjbnjgckbhohaa", sum := "53c872125485cc48df499c7f5a7d39c2b0a9e921fafe582851f7d8c642213267", func := "changeforge/changeforgelaw8.SpeculateUselessRunsAreIgnored", spec := "speculateUselessRunsAreIgnored", unfollowed := true, recurses := true, apart := false, narrowed := true }
def SpeculateUselessRunsAreIgnoredUptoSaid : Prop := speculateUselessRunsAreIgnoredUptoRow.holds Try.pinned (OpenSpec.upto speculateUselessRunsAreIgnoredSpec)

/-- 'changeforgelaw8.SpeculateNextDecidesAll', WHERE WHAT IT READS IS OF BULK AT MOST 1048576: true; the input reads as it did. -/
def speculateNextDecidesAllUptoRow : OpenClaim := { program := "ytpjbnjgckbhohaa", sum := "53c872125485cc48df499c7f5a7d39c2b0a9e921fafe582851f7d8c642213267", func := "changeforge/changeforgelaw8.SpeculateNextDecidesAll", spec := "speculateNextDecidesAll", unfollowed := true, recurses := true, apart := false, narrowed := true }
def SpeculateNextDecidesAllUptoSaid : Prop := speculateNextDecidesAllUptoRow.holds Try.pinned (OpenSpec.upto speculateNextDecidesAllSpec)

end Rows
end Go.Proofs.Ytpjbnjgckbhohaa
