/- The law on the constants: each has the value that the document gives. -/
import Derived.Test.YtnhmcdcaanjlnaaRows
import Derived.WalkKit
namespace Go.Proofs.Ytnhmcdcaanjlnaa.Constants
open Go.RowKit

/-- The law's walk. -/
theorem walk (w : World) :
    Calls Try.prog 3 #[] w fun e w' => e = .returned (.bool true) ∧ Below w.heap.size w w' := by
  go_enter Try.func3, Try.ntmps3
  go_wp2
  go_ret
  exact ⟨rfl, Below.refl _ _⟩
end Go.Proofs.Ytnhmcdcaanjlnaa.Constants
