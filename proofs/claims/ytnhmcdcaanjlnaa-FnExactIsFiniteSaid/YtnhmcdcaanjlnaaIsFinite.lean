/- The two functions IsFinite, the program's and the reference's, answer the same Bool: is what is taken from itself zero? -/
import Derived.Test.YtnhmcdcaanjlnaaRows
import Derived.Test.YtnhmcdcaanjlnaaFW
namespace Go.Proofs.Ytnhmcdcaanjlnaa.IsFinite
open Go.RowKit Go.Proofs.Ytnhmcdcaanjlnaa.FW

def finB (x : Nat) : Bool := FloatKind.f32.format.order (fop .sub .f32 x x) 0 == some .eq

theorem fin_of {x r : Nat} (h : Same .f32 r (fop .sub .f32 x x)) : (FloatKind.f32.format.order r 0 == some .eq) = finB x := by
  unfold finB; rw [order_same h (Same.refl _ _)]

theorem l01_any (x : Nat) (w : World) : Calls Try.prog 14 #[.float .f32 x] w (BRet (finB x) w) := by
  go_enter Try.func14, Try.ntmps14
  go_wp2_with ((with_reducible refine wpList_arith (by with_unfolding_all rfl) (by with_unfolding_all rfl) (by with_unfolding_all rfl) (by with_unfolding_all rfl) ?_); intro r n hr)
  go_ret
  exact bret (fin_of (by assumption))

theorem spec_any (x : Nat) (w : World) : Calls Try.prog 7 #[.float .f32 x] w (BRet (finB x) w) := by
  go_enter Try.func7, Try.ntmps7
  go_wp2_with (go_at_call 14; refine (l01_any _ _).mono ?_; rintro e w' ⟨n, rfl, rfl⟩)
  go_ret
  exact bret rfl

theorem impl_any (x : Nat) (w : World) : Calls Try.prog 8 #[.float .f32 x] w (BRet (finB x) w) := by
  go_enter Try.func8, Try.ntmps8
  go_wp2_with ((with_reducible refine wpList_arith (by with_unfolding_all rfl) (by with_unfolding_all rfl) (by with_unfolding_all rfl) (by with_unfolding_all rfl) ?_); intro r n hr)
  go_ret
  exact bret (fin_of (by assumption))

/-- The law's walk. -/
theorem walk (a0 : Nat) (w : World) (_ : (Lit.float .f32 a0).wf = true) :
    Calls Try.prog 4 #[.float .f32 a0] w fun e w' => e = .returned (.bool true) ∧ Below w.heap.size w w' := by
  go_enter Try.func4, Try.ntmps4
  generalize hb : finB a0 = b
  have H := Lib.hid hb; clear hb
  go_wp2_with (first
    | (go_at_call 7; refine (spec_any _ _).mono ?_; rw [H.out]; rintro e w' ⟨n, rfl, rfl⟩)
    | (go_at_call 8; refine (impl_any _ _).mono ?_; rw [H.out]; rintro e w' ⟨n, rfl, rfl⟩))
  all_goals (go_ret; exact ⟨rfl, below_drewN (Below.refl _ _) _⟩)
end Go.Proofs.Ytnhmcdcaanjlnaa.IsFinite
