/- The law's sameFloat answers true on two float64 that are the same number or both NaNs. -/
import Derived.Test.YtkmbfgnemamlfaaRows
import Derived.Test.YtkmbfgnemamlfaaFW
namespace Go.Proofs.Ytkmbfgnemamlfaa.SameFloat
open Go.RowKit Go.Proofs.Ytkmbfgnemamlfaa.FW

theorem some32 : (Try.prog.underlying 22).isSome = true := by rw [Try.underlying22]; rfl
theorem some64 : (Try.prog.underlying 25).isSome = true := by rw [Try.underlying25]; rfl

theorem neq_nan {k : FloatKind} {x : Nat} (h : isN k x = true) : (k.format.order x x != some .eq) = true := by rw [order_nan_left _ h]; rfl
theorem neq_num {k : FloatKind} {x : Nat} (h : isN k x = false) : (k.format.order x x != some .eq) = false := by rw [order_self h]; rfl
theorem eq_num {k : FloatKind} {x : Nat} (h : isN k x = false) : (k.format.order x x == some .eq) = true := by rw [order_self h]; rfl

theorem both_nan (a b : Nat) (w : World) (ha : isN .f64 a = true) (hb : isN .f64 b = true) :
    Calls Try.prog 12 #[.float .f64 a, .float .f64 b] w (BRet true w) := by
  have h1 := neq_nan ha
  have h2 := neq_nan hb
  clear ha hb
  go_enter Try.func12, Try.ntmps12
  go_wp2
  go_ret
  exact bret0 rfl

theorem one (a : Nat) (w : World) (ha : isN .f64 a = false) :
    Calls Try.prog 12 #[.float .f64 a, .float .f64 a] w (BRet true w) := by
  have h1 := neq_num ha
  have h2 := eq_num ha
  clear ha
  cases h3 : (FloatKind.f64.format.order a 0 == some .eq) with
  | false =>
    go_enter Try.func12, Try.ntmps12
    go_wp2
    go_ret
    exact bret0 rfl
  | true =>
    go_enter Try.func12, Try.ntmps12
    go_wp2_with ((with_reducible refine wpList_arith (by with_unfolding_all rfl) (by with_unfolding_all rfl) (by with_unfolding_all rfl) (by with_unfolding_all rfl) ?_); intro r n hr)
    go_ret
    rename_i r1 n1 hr1
    have e : FloatKind.f64.format.order r1 0 = FloatKind.f64.format.order r 0 := order_same (hr1.trans hr.symm) (Same.refl _ _)
    refine bret (c := true) ?_
    rw [e]; simp

theorem any (a b : Nat) (w : World) (h : Same .f64 a b) :
    Calls Try.prog 12 #[.float .f64 a, .float .f64 b] w (BRet true w) := by
  rcases h with rfl | ⟨h1, h2⟩
  · cases h : isN .f64 a with
    | false => exact one a w h
    | true => exact both_nan a a w h h
  · exact both_nan a b w h1 h2

/-- .. on two float32 that are the same number, made float64. -/
theorem wide_any {a b r s : Nat} (w : World) (h1 : Same .f64 r (wide a)) (h2 : Same .f64 s (wide b)) (h : Same .f32 a b) :
    Calls Try.prog 12 #[.float .f64 r, .float .f64 s] w (BRet true w) := by
  refine any r s w ?_
  rw [wide_same h] at h1
  exact h1.trans h2.symm
end Go.Proofs.Ytkmbfgnemamlfaa.SameFloat
