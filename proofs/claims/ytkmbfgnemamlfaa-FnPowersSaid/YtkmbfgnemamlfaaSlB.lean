/- Slices of bytes that came in as arguments. -/
import Derived.Test.YtkmbfgnemamlfaaRows
import Derived.WalkKit
import Derived.WalkSpells
import Derived.WalkLawsBesides
import Derived.Deep.Draws
import Derived.Lib.Hide
namespace Go.Proofs.Ytkmbfgnemamlfaa.SlB
open Go.RowKit

/-- The slice at 'a' reads the bytes 'f 0 .. f (n - 1)'. -/
def Rd (w : World) (a : Option Addr) (n : Nat) (f : Nat → Int) : Prop :=
  ∀ i, i < n → 0 ≤ f i ∧ f i ≤ 255 ∧ ∃ b off, a = some ⟨b, off, none⟩ ∧ b < w.heap.size ∧ w.cell? ⟨b, off + i, none⟩ = some (.int .u8 (f i))
end Go.Proofs.Ytkmbfgnemamlfaa.SlB
