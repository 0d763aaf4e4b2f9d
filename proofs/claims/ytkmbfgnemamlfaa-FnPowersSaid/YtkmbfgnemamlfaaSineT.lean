/- The program's SineTurns and the reference's give the same number. -/
import Derived.Test.YtkmbfgnemamlfaaSineC
import Derived.Test.YtkmbfgnemamlfaaF32
import Derived.Test.YtkmbfgnemamlfaaAbs
namespace Go.Proofs.Ytkmbfgnemamlfaa.SineT
open Go.RowKit Go.Proofs.Ytkmbfgnemamlfaa.FW Go.Proofs.Ytkmbfgnemamlfaa.FT Go.Proofs.Ytkmbfgnemamlfaa.FB Go.Proofs.Ytkmbfgnemamlfaa.SineP Go.Proofs.Ytkmbfgnemamlfaa.Sine Go.Proofs.Ytkmbfgnemamlfaa.SineC Go.Proofs.Ytkmbfgnemamlfaa.F32
open Ieee (Datum)

theorem conv_wide {x : Nat} (h : isN .f32 x = false) (w : World) : (convert 22 25 (.float .f32 x)).run Try.prog w = .ok (.float .f64 (wide x)) w :=
  run_convert_float_float w 22 25 .f32 .f64 x _ SameFloat.some32 Try.underlying25 (wide_ok x h)

theorem fits_nan {x : Nat} (h : isN .f64 x = true) : Fits x := .inl h

/-! ### math.NaN -/
theorem nan_any (w : World) : Calls Try.prog 29 #[] w fun e w' => e = .returned (.float .f64 9221120237041090561) ∧ w = w' := by
  go_enter Try.func29, Try.ntmps29
  go_wp2
  go_ret
  exact ⟨rfl, rfl⟩
theorem nan_is : isN .f64 9221120237041090561 = true := by decide +kernel
theorem narrow_nan {x : Nat} (h : isN .f64 x = true) : isN .f32 (narrow x) = true := by
  obtain ⟨s, t, hd⟩ := decode_nan h
  have : narrow x = cnan .f32 := by simp [narrow, floatToFloatBits, hd]
  rw [this]; exact isN_cnan _

/-! ### Is it finite? -/
theorem self_nan32 {x : Nat} (h : 2139095040 ≤ rg x) : isN .f32 (fop .sub .f32 x x) = true := by
  rcases Nat.lt_or_ge 2139095040 (rg x) with h1 | h1
  · rw [fop_nan_left _ _ _ (nan_of h1)]; exact isN_cnan _
  · have hr := read_infinity (x := x) (by omega)
    have : fop .sub .f32 x x = cnan .f32 := by
      unfold fop floatBits
      show ((((Ieee.single.read x).sum (Ieee.single.read x).opposite)).map Ieee.single.write).getD _ = _
      rw [hr]
      cases sg x <;> rfl
    rw [this]; exact isN_cnan _
theorem self_nan64 {x : Nat} (h : 2139095040 ≤ rg x) : isN .f64 (fop .sub .f64 (wide x) (wide x)) = true := by
  rcases Nat.lt_or_ge 2139095040 (rg x) with h1 | h1
  · rw [fop_nan_left _ _ _ (nan_wide (nan_of h1))]; exact isN_cnan _
  · have hw := wide_inf (x := x) (by omega)
    have hr : Ieee.double.read (wide x) = .infinity (sg x) := by rw [hw]; exact read_inf (by decide) _
    have : fop .sub .f64 (wide x) (wide x) = cnan .f64 := by
      unfold fop floatBits
      show ((((Ieee.double.read (wide x)).sum (Ieee.double.read (wide x)).opposite)).map Ieee.double.write).getD _ = _
      rw [hr]
      cases sg x <;> rfl
    rw [this]; exact isN_cnan _

theorem finite_no (x : Nat) (w : World) (h : 2139095040 ≤ rg x) : Calls Try.prog 30 #[.float .f32 x] w (BRet false w) := by
  have hn := Lib.hid (self_nan32 h)
  clear h
  go_enter Try.func30, Try.ntmps30
  go_wp2_with ((with_reducible refine wpList_nan (by with_unfolding_all rfl) (by with_unfolding_all rfl) (by with_unfolding_all rfl) (by with_unfolding_all rfl) hn.out ?_); intro r n _ ho)
  go_ret
  exact bret rfl

theorem finite_yes (x : Nat) (w : World) (h : rg x < 2139095040) : Calls Try.prog 30 #[.float .f32 x] w fun e w' => e = .returned (.bool true) ∧ w = w' := by
  have hz : fop .sub .f32 x x = 0 := sub_self32 (read_fin h)
  have hs : ∀ w, (binOp .sub 22 (.float .f32 x) (.float .f32 x)).run Try.prog w = .ok (.float .f32 0) w := by
    intro w
    have := run_exact (P := Try.prog) (op := .sub) rfl (k := .f32) (x := x) (y := x) (by rw [hz]; decide +kernel) 22 w
    rw [hz] at this; exact this
  have hc : (FloatKind.f32.format.order 0 0 == some .eq) = true := by decide +kernel
  clear hz h
  go_enter Try.func30, Try.ntmps30
  go_wp2
  go_ret
  exact ⟨rfl, rfl⟩

/-! ### A NaN or an infinity -/
theorem impl_nan (x : Nat) (w : World) (h : 2139095040 ≤ rg x) : Calls Try.prog 18 #[.float .f32 x] w (FRet .f32 (cnan .f32) w) := by
  have F := Lib.hid (fun w => finite_no x w h)
  clear h
  go_enter Try.func18, Try.ntmps18
  go_wp2_with (first
    | (go_at_call 30; refine (F.out _).mono ?_; rintro e w' ⟨n, rfl, rfl⟩)
    | (go_at_call 29; refine (nan_any _).mono ?_; rintro e w' ⟨rfl, rfl⟩)
    | ((with_reducible refine wpList_narrow SameFloat.some64 Try.underlying22 (by with_unfolding_all rfl) (by with_unfolding_all rfl) (fits_nan nan_is) ?_); intro t n ht))
  go_ret
  exact fret (.inr ⟨by rw [ht.isN]; exact narrow_nan nan_is, isN_cnan _⟩)

theorem wide_nan (x : Nat) (w : World) (r : Nat) (h : 2139095040 ≤ rg x) (hr : Same .f64 r (wide x)) : Calls Try.prog 47 #[.float .f64 r] w (FRet .f64 (cnan .f64) w) := by
  have hn : isN .f64 (fop .sub .f64 r r) = true := by rw [fop_same .sub hr hr]; exact self_nan64 h
  have hn' := Lib.hid hn
  clear h hr hn
  go_enter Try.func47, Try.ntmps47
  go_wp2_with (first
    | (go_at_call 29; refine (nan_any _).mono ?_; rintro e w' ⟨rfl, rfl⟩)
    | ((with_reducible refine wpList_nan (by with_unfolding_all rfl) (by with_unfolding_all rfl) (by with_unfolding_all rfl) (by with_unfolding_all rfl) hn'.out ?_); intro r n _ ho))
  go_ret
  exact fret (.inr ⟨nan_is, isN_cnan _⟩)

theorem spec_nan (x : Nat) (w : World) (h : 2139095040 ≤ rg x) : Calls Try.prog 32 #[.float .f32 x] w (FRet .f32 (cnan .f32) w) := by
  have h' := Lib.hid h
  clear h
  go_enter Try.func32, Try.ntmps32
  go_wp2_with (first
    | ((with_reducible refine wpList_wide SameFloat.some32 Try.underlying25 (by with_unfolding_all rfl) (by with_unfolding_all rfl) ?_); intro r n hr)
    | (go_at_call 47; refine (wide_nan x _ _ h'.out hr).mono ?_; rintro e w' ⟨s, n, rfl, hs, rfl⟩)
    | (go_at_call 44; go_in)
    | ((with_reducible refine wpList_narrow SameFloat.some64 Try.underlying22 (by with_unfolding_all rfl) (by with_unfolding_all rfl) (fits_nan (by rw [hs.isN]; exact isN_cnan _)) ?_); intro t n ht))
  go_ret
  exact fret (.inr ⟨by rw [ht.isN]; exact narrow_nan (by rw [hs.isN]; exact isN_cnan _), isN_cnan _⟩)

/-! ### A number of 2 ^ 52 or more -/
theorem conv_zero (w : World) : (convert 25 22 (.float .f64 0)).run Try.prog w = .ok (.float .f32 0) w :=
  run_convert_float_float w 25 22 .f64 .f32 0 0 SameFloat.some64 Try.underlying22 (by decide +kernel)

/-- The word without its sign. -/
theorem mag_num {x : Nat} {s : Bool} {v : Nat} (h : N64 x s v) : N64 (Abs.mag63 x) false v := by
  obtain ⟨h1, h2, _⟩ := h.rung
  have hsw : Ieee.double.signWeight = 9223372036854775808 := by decide
  rw [hsw] at h1 h2
  have := of_word h1
  rw [← h2] at this
  exact this

theorem high_impl {x : Nat} {s : Bool} {v : Nat} (h : N64 x s v) (hv : p2 5052 ≤ v) :
    (FloatKind.f64.format.order (Abs.mag63 x) 4841369599423283200 == some .gt || FloatKind.f64.format.order (Abs.mag63 x) 4841369599423283200 == some .eq) = true := by
  have h1 : FloatKind.f64.format.order (Abs.mag63 x) 4841369599423283200 = some (compare (iv false v) (iv false (p2 5052))) := order_num good_double (mag_num h) n_c52
  rw [h1]
  rcases Nat.lt_or_ge (p2 5052) v with h2 | h2
  · rw [Int.compare_eq_gt.2 (by unfold iv; simp only [Bool.false_eq_true, if_false]; omega)]; rfl
  · rw [Int.compare_eq_eq.2 (by unfold iv; simp only [Bool.false_eq_true, if_false]; omega)]; rfl

theorem low_impl {x : Nat} (h : Small x) :
    (FloatKind.f64.format.order (Abs.mag63 x) 4841369599423283200 == some .gt || FloatKind.f64.format.order (Abs.mag63 x) 4841369599423283200 == some .eq) = false := by
  obtain ⟨s, v, h, hv⟩ := h
  have h1 : FloatKind.f64.format.order (Abs.mag63 x) 4841369599423283200 = some (compare (iv false v) (iv false (p2 5052))) := order_num good_double (mag_num h) n_c52
  rw [h1, Int.compare_eq_lt.2 (by unfold iv; simp only [Bool.false_eq_true, if_false]; omega)]; rfl

theorem high_spec {x : Nat} {s : Bool} {v : Nat} (h : N64 x s v) (hv : p2 5052 ≤ v) :
    (FloatKind.f64.format.order x 4841369599423283200 == some .gt || FloatKind.f64.format.order x 4841369599423283200 == some .eq) = true ∨
    ((FloatKind.f64.format.order x 4841369599423283200 == some .gt || FloatKind.f64.format.order x 4841369599423283200 == some .eq) = false ∧
      (FloatKind.f64.format.order x 14064741636278059008 == some .lt || FloatKind.f64.format.order x 14064741636278059008 == some .eq) = true) := by
  have h1 : FloatKind.f64.format.order x 4841369599423283200 = some (compare (iv s v) (iv false (p2 5052))) := order_num good_double h n_c52
  have h2 : FloatKind.f64.format.order x 14064741636278059008 = some (compare (iv s v) (iv true (p2 5052))) := order_num good_double h n_neg52
  have hp := p2_pos 5052
  rw [h1, h2]
  cases s
  · left
    rcases Nat.lt_or_ge (p2 5052) v with h3 | h3
    · rw [Int.compare_eq_gt.2 (by unfold iv; simp only [Bool.false_eq_true, if_false]; omega)]; rfl
    · rw [Int.compare_eq_eq.2 (by unfold iv; simp only [Bool.false_eq_true, if_false]; omega)]; rfl
  · right
    refine ⟨?_, ?_⟩
    · rw [Int.compare_eq_lt.2 (by unfold iv; simp only [Bool.false_eq_true, if_false, if_true]; omega)]; rfl
    · rcases Nat.lt_or_ge (p2 5052) v with h3 | h3
      · rw [Int.compare_eq_lt.2 (by unfold iv; simp only [if_true]; omega)]; rfl
      · rw [Int.compare_eq_eq.2 (by unfold iv; simp only [if_true]; omega)]; rfl

theorem impl_high (x : Nat) (w : World) (h : rg x < 2139095040) (hg : (FloatKind.f64.format.order (Abs.mag63 (wide x)) 4841369599423283200 == some .gt || FloatKind.f64.format.order (Abs.mag63 (wide x)) 4841369599423283200 == some .eq) = true) :
    Calls Try.prog 18 #[.float .f32 x] w (FRet .f32 0 w) := by
  have hcv := fun w => conv_wide (x := x) (not_nan (by omega)) w
  have A := Lib.hid (wide_lt (x := x) (by omega))
  have F := Lib.hid (fun w => finite_yes x w h)
  clear h
  generalize wide x = y at *
  go_enter Try.func18, Try.ntmps18
  go_wp2_with (first
    | (go_at_call 30; refine (F.out _).mono ?_; rintro e w' ⟨rfl, rfl⟩)
    | (go_at_call 33; refine (Abs.abs_any _ _ A).mono ?_; rintro e w' ⟨rfl, rfl⟩))
  go_ret
  exact fret0 (Same.refl _ _)

theorem wide_high (y : Nat) (w : World) (hz : fop .sub .f64 y y = 0)
    (hg : (FloatKind.f64.format.order y 4841369599423283200 == some .gt || FloatKind.f64.format.order y 4841369599423283200 == some .eq) = true ∨
      ((FloatKind.f64.format.order y 4841369599423283200 == some .gt || FloatKind.f64.format.order y 4841369599423283200 == some .eq) = false ∧
        (FloatKind.f64.format.order y 14064741636278059008 == some .lt || FloatKind.f64.format.order y 14064741636278059008 == some .eq) = true)) :
    Calls Try.prog 47 #[.float .f64 y] w fun e w' => e = .returned (.float .f64 0) ∧ w = w' := by
  have hs := fun w => arith (op := .sub) rfl (by rw [hz]; decide +kernel) hz w
  have z0 : (FloatKind.f64.format.order 0 0 != some .eq) = false := by decide +kernel
  clear hz
  rcases hg with hg | ⟨hg, hg'⟩
  · go_enter Try.func47, Try.ntmps47
    go_wp2
    go_ret
    exact ⟨rfl, rfl⟩
  · go_enter Try.func47, Try.ntmps47
    go_wp2
    go_ret
    exact ⟨rfl, rfl⟩

/-- Where the reference's wide sine gives a float64 that fits: narrowed. -/
theorem spec_of (x v : Nat) (w : World) (hx : isN .f32 x = false) (hv : Fits v) (hC : ∀ w, Calls Try.prog 47 #[.float .f64 (wide x)] w fun e w' => e = .returned (.float .f64 v) ∧ w = w') :
    Calls Try.prog 32 #[.float .f32 x] w (FRet .f32 (narrow v) w) := by
  have hcv := fun w => conv_wide (x := x) hx w
  have V := Lib.hid hv
  have C := Lib.hid hC
  clear hx hv hC
  generalize wide x = y at *
  go_enter Try.func32, Try.ntmps32
  go_wp2_with (first
    | (go_at_call 47; refine (C.out _).mono ?_; rintro e w' ⟨rfl, rfl⟩)
    | (go_at_call 44; go_in)
    | ((with_reducible refine wpList_narrow SameFloat.some64 Try.underlying22 (by with_unfolding_all rfl) (by with_unfolding_all rfl) V.out ?_); intro t n ht))
  go_ret
  exact fret ht

theorem impl_low (x : Nat) (w : World) (h : rg x < 2139095040) (hs : Small (wide x)) :
    Calls Try.prog 18 #[.float .f32 x] w (FRet .f32 (narrow (sineF (wide x))) w) := by
  have hcv := fun w => conv_wide (x := x) (not_nan (by omega)) w
  have A := Lib.hid (wide_lt (x := x) (by omega))
  have F := Lib.hid (fun w => finite_yes x w h)
  have hg := low_impl hs
  have V := Lib.hid ((bd_sine hs).fits (by omega))
  have C := Lib.hid (fun w => impl_any (wide x) w hs)
  clear h hs
  generalize wide x = y at *
  generalize sineF y = v at *
  go_enter Try.func18, Try.ntmps18
  go_wp2_with (first
    | (go_at_call 30; refine (F.out _).mono ?_; rintro e w' ⟨rfl, rfl⟩)
    | (go_at_call 33; refine (Abs.abs_any _ _ A).mono ?_; rintro e w' ⟨rfl, rfl⟩)
    | (go_at_call 34; refine (C.out _).mono ?_; rintro e w' ⟨rfl, rfl⟩)
    | ((with_reducible refine wpList_narrow SameFloat.some64 Try.underlying22 (by with_unfolding_all rfl) (by with_unfolding_all rfl) V.out ?_); intro t n ht))
  go_ret
  exact fret ht

/-- Both, whatever the number. -/
theorem both (x : Nat) : ∃ v, (∀ w, Calls Try.prog 32 #[.float .f32 x] w (FRet .f32 v w)) ∧ (∀ w, Calls Try.prog 18 #[.float .f32 x] w (FRet .f32 v w)) := by
  rcases Nat.lt_or_ge (rg x) 2139095040 with h | h
  · obtain ⟨R, hR, _, hw⟩ := wide_fin h
    have hn : N64 (wide x) (sg x) (val Ieee.double R) := by rw [hw]; exact read_word good_double _ hR
    have hx : isN .f32 x = false := not_nan (by omega)
    rcases Nat.lt_or_ge (val Ieee.double R) (p2 5052) with hv | hv
    · have hs : Small (wide x) := ⟨_, _, hn, hv⟩
      exact ⟨_, fun w => spec_of x _ w hx ((bd_sine hs).fits (by omega)) (fun w => SineC.spec_any _ w hs), fun w => impl_low x w h hs⟩
    · have h0 : narrow 0 = 0 := by decide +kernel
      refine ⟨0, fun w => ?_, fun w => impl_high x w h (high_impl hn hv)⟩
      have := spec_of x 0 w hx (.inr (by decide +kernel)) (fun w => wide_high _ w (sub_self64 hn) (high_spec hn hv))
      rw [h0] at this; exact this
  · exact ⟨_, fun w => spec_nan x w h, fun w => impl_nan x w h⟩

/-- The law's walk. -/
theorem walk (a0 : Nat) (w : World) (_ : (Lit.float .f32 a0).wf = true) :
    Calls Try.prog 5 #[.float .f32 a0] w fun e w' => e = .returned (.bool true) ∧ Below w.heap.size w w' := by
  obtain ⟨v, S, I⟩ := both a0
  have S' := Lib.hid S
  have I' := Lib.hid I
  clear S I
  go_enter Try.func5, Try.ntmps5
  go_wp2_with (first
    | (go_at_call 17; go_in)
    | (go_at_call 32; refine (S'.out _).mono ?_; rintro e w' ⟨r, n, rfl, hr, rfl⟩)
    | (go_at_call 18; refine (I'.out _).mono ?_; rintro e w' ⟨s, n, rfl, hs, rfl⟩)
    | ((with_reducible refine wpList_wide SameFloat.some32 Try.underlying25 (by with_unfolding_all rfl) (by with_unfolding_all rfl) ?_); intro r' n hr')
    | (go_at_call 12; refine (SameFloat.wide_any _ (by assumption) (by assumption) (hs.trans hr.symm)).mono ?_; rintro e w' ⟨n, rfl, rfl⟩))
  all_goals (go_ret; exact ⟨rfl, below_drewN (Below.refl _ _) _⟩)
end Go.Proofs.Ytkmbfgnemamlfaa.SineT
