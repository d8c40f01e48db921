/-
  The end of a law's run.
-/
import Derived.Test.YtmiinaimpdbenaaRmCore
namespace Go.RM
theorem leafT {b : Bool} {H : Heap} (h : b = true) : tru (.bool b) H := by rw [h]
end Go.RM
