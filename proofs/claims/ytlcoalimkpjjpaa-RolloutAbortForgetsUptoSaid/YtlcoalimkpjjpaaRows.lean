/-
  No cell of these rows narrows 'for every input' (looked for: loops, veiled, ifaces, maps, wideKeys, modest, calm, conditions, laid).
  DERIVED. THE GIVEN ROWS OF THIS SEAT. 5 by the template 'for every input the law returns true; each argument reads behind the call as it read before'; 0 by the template 'total and deterministic' (their statements: YtlcoalimkpjjpaaTotals.lean).
  GIVEN WITH THE SEED: the statements are not yours to turn. If you find one false, say at which input.
  Laid BY PROGRAM, IN A SANDBOX (cutbox-rows.mjs): the forced cells as the released guide's own fill.sh prints them over the translation fd9c8445884e249e… (all of the seat's roots in one cut). By AI agents, Wed Nov 11 2026. No macro, syntax, notation, axiom, sorry.
-/
import Derived.Test.YtlcoalimkpjjpaaChecked
import GoSem.Claim
import GoSem.ClaimJoined
import GoSem.ClaimMapViews
import Derived.JoinedTies
import Derived.KernelRfl
namespace Go.Proofs.Ytlcoalimkpjjpaa
/- THE CELL 'sum', in the pinned program and in every row, IS THE sha256 OF THE DUMP (.gsa) THAT YtlcoalimkpjjpaaProg.lean LOADS. Nothing in Lean hashes anything: it is a label: what it is worth is what the hold of that sum in a sandbox is worth. -/
noncomputable def Try.pinned : Pinned := { name := "ytlcoalimkpjjpaa", sum := "fd9c8445884e249ec15bdf06ca0387e9e87033d324708a19daf561fa7533c3bb", checked := Try.checked }
namespace Rows
def none {H : Type} : Left H := { results := [], args := [] }

/-- 'changeforgelaw8.RolloutFunctionsMatchSpec': WHATEVER THE INPUT: true; the input reads as it did. -/
def rolloutFunctionsMatchSpecSpec : ChangeSpec := { name := "rolloutFunctionsMatchSpec", fn := fun _ => fun
  | [d1, d2, d3, d4, d5] => { results := [.lit (.bool true)], args := [d1, d2, d3, d4, d5] }
  | _ => none }
def rolloutFunctionsMatchSpecRow : OpenClaim := { program := "ytlcoalimkpjjpaa", sum := "fd9c8445884e249ec15bdf06ca0387e9e87033d324708a19daf561fa7533c3bb", func := "changeforge/changeforgelaw8.RolloutFunctionsMatchSpec", spec := "rolloutFunctionsMatchSpec", apart := false }
def RolloutFunctionsMatchSpecSaid : Prop := rolloutFunctionsMatchSpecRow.holds Try.pinned (OpenSpec.ofChange rolloutFunctionsMatchSpecSpec)

/-- ITS FALSE NEIGHBOUR: 'it returns false'. Refute it at one input. -/
def rolloutFunctionsMatchSpecWrong : ChangeSpec := { name := "rolloutFunctionsMatchSpec", fn := fun _ => fun
  | [d1, d2, d3, d4, d5] => { results := [.lit (.bool false)], args := [d1, d2, d3, d4, d5] }
  | _ => none }
def RolloutFunctionsMatchSpecWrongFalsely : Prop := rolloutFunctionsMatchSpecRow.holds Try.pinned (OpenSpec.ofChange rolloutFunctionsMatchSpecWrong)

/-- 'changeforgelaw8.RolloutVersionsFall': WHATEVER THE INPUT: true; the input reads as it did. -/
def rolloutVersionsFallSpec : ChangeSpec := { name := "rolloutVersionsFall", fn := fun _ => fun
  | [d1, d2, d3, d4, d5] => { results := [.lit (.bool true)], args := [d1, d2, d3, d4, d5] }
  | _ => none }
def rolloutVersionsFallRow : OpenClaim := { program := "ytlcoalimkpjjpaa", sum := "fd9c8445884e249ec15bdf06ca0387e9e87033d324708a19daf561fa7533c3bb", func := "changeforge/changeforgelaw8.RolloutVersionsFall", spec := "rolloutVersionsFall", apart := false }
def RolloutVersionsFallSaid : Prop := rolloutVersionsFallRow.holds Try.pinned (OpenSpec.ofChange rolloutVersionsFallSpec)

/-- ITS FALSE NEIGHBOUR: 'it returns false'. Refute it at one input. -/
def rolloutVersionsFallWrong : ChangeSpec := { name := "rolloutVersionsFall", fn := fun _ => fun
  | [d1, d2, d3, d4, d5] => { results := [.lit (.bool false)], args := [d1, d2, d3, d4, d5] }
  | _ => none }
def RolloutVersionsFallWrongFalsely : Prop := rolloutVersionsFallRow.holds Try.pinned (OpenSpec.ofChange rolloutVersionsFallWrong)

/-- 'changeforgelaw8.RolloutConfirmsBeforeNext': WHATEVER THE INPUT: true; the input reads as it did. -/
def rolloutConfirmsBeforeNextSpec : ChangeSpec := { name := "rolloutConfirmsBeforeNext", fn := fun _ => fun
  | [d1, d2, d3, d4, d5] => { results := [.lit (.bool true)], args := [d1, d2, d3, d4, d5] }
  | _ => none }
def rolloutConfirmsBeforeNextRow : OpenClaim := { program := "ytlcoalimkpjjpaa", sum := "fd9c8445884e249ec15bdf06ca0387e9e87033d324708a19daf561fa7533c3bb", func := "changeforge/changeforgelaw8.RolloutConfirmsBeforeNext", spec := "rolloutConfirmsBeforeNext", apart := false }
def RolloutConfirmsBeforeNextSaid : Prop := rolloutConfirmsBeforeNextRow.holds Try.pinned (OpenSpec.ofChange rolloutConfirmsBeforeNextSpec)

/-- ITS FALSE NEIGHBOUR: 'it returns false'. Refute it at one input. -/
def rolloutConfirmsBeforeNextWrong : ChangeSpec := { name := "rolloutConfirmsBeforeNext", fn := fun _ => fun
  | [d1, d2, d3, d4, d5] => { results := [.lit (.bool false)], args := [d1, d2, d3, d4, d5] }
  | _ => none }
def RolloutConfirmsBeforeNextWrongFalsely : Prop := rolloutConfirmsBeforeNextRow.holds Try.pinned (OpenSpec.ofChange rolloutConfirmsBeforeNextWrong)

/-- 'changeforgelaw8.RolloutAbortForgets': WHATEVER THE INPUT: true; the input reads as it did. -/
def rolloutAbortForgetsSpec : ChangeSpec := { name := "rolloutAbortForgets", fn := fun _ => fun
  | [d1, d2, d3, d4, d5, d6] => { results := [.lit (.bool true)], args := [d1, d2, d3, d4, d5, d6] }
  | _ => none }
def rolloutAbortForgetsRow : OpenClaim := { program := "ytlcoalimkpjjpaa", sum := "fd9c8445884e249ec15bdf06ca0387e9e87033d324708a19daf561fa7533c3bb", func := "changeforge/changeforgelaw8.RolloutAbortForgets", spec := "rolloutAbortForgets", apart := false }
def RolloutAbortForgetsSaid : Prop := rolloutAbortForgetsRow.holds Try.pinned (OpenSpec.ofChange rolloutAbortForgetsSpec)

/-- ITS FALSE NEIGHBOUR: 'it returns false'. Refute it at one input. -/
def rolloutAbortForgetsWrong : ChangeSpec := { name := "rolloutAbortForgets", fn := fun _ => fun
  | [d1, d2, d3, d4, d5, d6] => { results := [.lit (.bool false)], args := [d1, d2, d3, d4, d5, d6] }
  | _ => none }
def RolloutAbortForgetsWrongFalsely : Prop := rolloutAbortForgetsRow.holds Try.pinned (OpenSpec.ofChange rolloutAbortForgetsWrong)

/-- 'changeforgelaw8.RolloutOneActiveRing': WHATEVER THE INPUT: true; the input reads as it did. -/
def rolloutOneActiveRingSpec : ChangeSpec := { name := "rolloutOneActiveRing", fn := fun _ => fun
  | [d1, d2, d3, d4, d5] => { results := [.lit (.bool true)], args := [d1, d2, d3, d4, d5] }
  | _ => none }
def rolloutOneActiveRingRow : OpenClaim := { program := "ytlcoalimkpjjpaa", sum := "fd9c8445884e249ec15bdf06ca0387e9e87033d324708a19daf561fa7533c3bb", func := "changeforge/changeforgelaw8.RolloutOneActiveRing", spec := "rolloutOneActiveRing", apart := false }
def RolloutOneActiveRingSaid : Prop := rolloutOneActiveRingRow.holds Try.pinned (OpenSpec.ofChange rolloutOneActiveRingSpec)

/-- ITS FALSE NEIGHBOUR: 'it returns false'. Refute it at one input. -/
def rolloutOneActiveRingWrong : ChangeSpec := { name := "rolloutOneActiveRing", fn := fun _ => fun
  | [d1, d2, d3, d4, d5] => { results := [.lit (.bool false)], args := [d1, d2, d3, d4, d5] }
  | _ => none }
def RolloutOneActiveRingWrongFalsely : Prop := rolloutOneActiveRingRow.holds Try.pinned (OpenSpec.ofChange rolloutOneActiveRingWrong)

/- THE SECOND FORM. 'bulk': how many values and letters a reading holds, each counted each time it is reached (what is shared counts as often as it is met; a slice's spare places count too). A statement '..UptoSaid' is the law's where the arguments, and the package variables that the reading takes, are together of bulk at most 1048576: NARROWER than '..Said'. Prove '..Said' where nothing that the law and all that it calls make is longer than what came in: it says more and counts as full. Else prove '..UptoSaid'. A law counts once. -/
mutual
def uptoBulk {H : Type} : DataW H → Nat
  | .lit (.string bytes) => bytes.length + 1
  | .lit _ => 1
  | .nil => 1
  | .ptr d => uptoBulk d + 1
  | .slice elems spare => uptoBulkAll elems + uptoBulkAll spare + 1
  | .agg parts => uptoBulkAll parts + 1
  | .iface _ d => uptoBulk d + 1
  | .map entries => uptoBulkEntries entries + 1
  | .held _ => 1
def uptoBulkAll {H : Type} : List (DataW H) → Nat
  | [] => 0
  | d :: r => uptoBulk d + uptoBulkAll r
def uptoBulkEntries {H : Type} : List (Lit × DataW H) → Nat
  | [] => 0
  | x :: r => uptoBulkEntry x + uptoBulkEntries r
def uptoBulkEntry {H : Type} : Lit × DataW H → Nat
  | (.string bytes, d) => bytes.length + uptoBulk d + 1
  | (_, d) => uptoBulk d + 1
 end
def uptoSmall : (H : Type) → List (DataW H) → Bool := fun _ ds => decide (uptoBulkAll ds ≤ 1048576)
def OpenSpec.upto (s : _root_.Go.ChangeSpec) : _root_.Go.OpenSpec := { _root_.Go.OpenSpec.ofChange s with cond := some uptoSmall }

/-- 'changeforgelaw8.RolloutFunctionsMatchSpec', WHERE WHAT IT READS IS OF BULK AT MOST 1048576: true; the input reads as it did. -/
def rolloutFunctionsMatchSpecUptoRow : OpenClaim := { program := "ytlcoalimkpjjpaa", sum := "fd9c8445884e249ec15bdf06ca0387e9e87033d324708a19daf561fa7533c3bb", func := "changeforge/changeforgelaw8.RolloutFunctionsMatchSpec", spec := "rolloutFunctionsMatchSpec", apart := false, narrowed := true }
def RolloutFunctionsMatchSpecUptoSaid : Prop := rolloutFunctionsMatchSpecUptoRow.holds Try.pinned (OpenSpec.upto rolloutFunctionsMatchSpecSpec)

/-- 'changeforgelaw8.RolloutVersionsFall', WHERE WHAT IT READS IS OF BULK AT MOST 1048576: true; the input reads as it did. -/
def rolloutVersionsFallUptoRow : OpenClaim := { program := "ytlcoalimkpjjpaa", sum := "fd9c8445884e249ec15bdf06ca0387e9e87033d324708a19daf561fa7533c3bb", func := "changeforge/changeforgelaw8.RolloutVersionsFall", spec := "rolloutVersionsFall", apart := false, narrowed := true }
def RolloutVersionsFallUptoSaid : Prop := rolloutVersionsFallUptoRow.holds Try.pinned (OpenSpec.upto rolloutVersionsFallSpec)

/-- 'changeforgelaw8.RolloutConfirmsBeforeNext', WHERE WHAT IT READS IS OF BULK AT MOST 1048576: true; the input reads as it did. -/
def rolloutConfirmsBeforeNextUptoRow : OpenClaim := { program := "ytlcoalimkpjjpaa", sum := "fd9c8445884e249ec15bdf06ca0387e9e87033d324708a19daf561fa7533c3bb", func := "changeforge/changeforgelaw8.RolloutConfirmsBeforeNext", spec := "rolloutConfirmsBeforeNext", apart := false, narrowed := true }
def RolloutConfirmsBeforeNextUptoSaid : Prop := rolloutConfirmsBeforeNextUptoRow.holds Try.pinned (OpenSpec.upto rolloutConfirmsBeforeNextSpec)

/-- 'changeforgelaw8.RolloutAbortForgets', WHERE WHAT IT READS IS OF BULK AT MOST 1048576: true; the input reads as it did. -/
def rolloutAbortForgetsUptoRow : OpenClaim := { program := "ytlcoalimkpjjpaa", sum := "fd9c8445884e249ec15bdf06ca0387e9e87033d324708a19daf561fa7533c3bb", func := "changeforge/changeforgelaw8.RolloutAbortForgets", spec := "rolloutAbortForgets", apart := false, narrowed := true }
def RolloutAbortForgetsUptoSaid : Prop := rolloutAbortForgetsUptoRow.holds Try.pinned (OpenSpec.upto rolloutAbortForgetsSpec)

/-- 'changeforgelaw8.RolloutOneActiveRing', WHERE WHAT IT READS IS OF BULK AT MOST 1048576: true; the input reads as it did. -/
def rolloutOneActiveRingUptoRow : OpenClaim := { program := "ytlcoalimkpjjpaa", sum := "fd9c8445884e249ec15bdf06ca0387e9e87033d324708a19daf561fa7533c3bb", func := "changeforge/changeforgelaw8.RolloutOneActiveRing", spec := "rolloutOneActiveRing", apart := false, narrowed := true }
def RolloutOneActiveRingUptoSaid : Prop := rolloutOneActiveRingUptoRow.holds Try.pinned (OpenSpec.upto rolloutOneActiveRingSpec)

end Rows
end Go.Proofs.Ytlcoalimkpjjpaa
