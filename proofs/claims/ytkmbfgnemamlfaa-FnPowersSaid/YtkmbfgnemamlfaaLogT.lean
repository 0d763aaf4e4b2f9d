/- The program's LogNumber and the reference's give the same number. -/
import Derived.Test.YtkmbfgnemamlfaaLogI
import Derived.Test.YtkmbfgnemamlfaaAngleT
namespace Go.Proofs.Ytkmbfgnemamlfaa.LogT
open Go.RowKit Go.Proofs.Ytkmbfgnemamlfaa.FW Go.Proofs.Ytkmbfgnemamlfaa.FT Go.Proofs.Ytkmbfgnemamlfaa.FB Go.Proofs.Ytkmbfgnemamlfaa.SineP Go.Proofs.Ytkmbfgnemamlfaa.Sine Go.Proofs.Ytkmbfgnemamlfaa.F32 Go.Proofs.Ytkmbfgnemamlfaa.SineT Go.Proofs.Ytkmbfgnemamlfaa.AngleT Go.Proofs.Ytkmbfgnemamlfaa.LogP Go.Proofs.Ytkmbfgnemamlfaa.LogS Go.Proofs.Ytkmbfgnemamlfaa.LogI
open Ieee (Datum)

/-- The program, where the number is negative or none. -/
theorem impl_nan (x : Nat) (w : World) (h1 : (FloatKind.f32.format.order x 0 == some .eq) = false) (h2 : (FloatKind.f32.format.order x 0 == some .lt) = true ∨ ((FloatKind.f32.format.order x 0 == some .lt) = false ∧ (FloatKind.f32.format.order x x != some .eq) = true)) :
    Calls Try.prog 16 #[.float .f32 x] w (FRet .f32 (cnan .f32) w) := by
  rcases h2 with h2 | ⟨h2, h3⟩
  all_goals
    go_enter Try.func16, Try.ntmps16
    go_wp2_with (first
      | (go_at_call 29; refine (nan_any _).mono ?_; rintro e w' ⟨rfl, rfl⟩)
      | ((with_reducible refine wpList_narrow SameFloat.some64 Try.underlying22 (by with_unfolding_all rfl) (by with_unfolding_all rfl) (fits_nan nan_is) ?_); intro t n ht))
    go_ret
    exact fret (.inr ⟨by rw [ht.isN]; exact narrow_nan nan_is, isN_cnan _⟩)

theorem inf_fits : Fits 18442240474082181120 := .inr (by decide +kernel)

theorem impl_zero (x : Nat) (w : World) (h1 : (FloatKind.f32.format.order x 0 == some .eq) = true) :
    Calls Try.prog 16 #[.float .f32 x] w (FRet .f32 (narrow 18442240474082181120) w) := by
  go_enter Try.func16, Try.ntmps16
  go_wp2_with (first
    | (go_at_call 28; refine (inf_any _).mono ?_; rintro e w' ⟨rfl, rfl⟩)
    | ((with_reducible refine wpList_narrow SameFloat.some64 Try.underlying22 (by with_unfolding_all rfl) (by with_unfolding_all rfl) inf_fits ?_); intro t n ht))
  go_ret
  exact fret ht

theorem impl_inf (x : Nat) (w : World) (h1 : (FloatKind.f32.format.order x 0 == some .eq) = false) (h2 : (FloatKind.f32.format.order x 0 == some .lt) = false) (h3 : (FloatKind.f32.format.order x x != some .eq) = false) (h : 2139095040 ≤ rg x) :
    Calls Try.prog 16 #[.float .f32 x] w (FRet .f32 x w) := by
  have F := Lib.hid (fun w => finite_no x w h)
  clear h
  go_enter Try.func16, Try.ntmps16
  go_wp2_with (go_at_call 30; refine (F.out _).mono ?_; rintro e w' ⟨n, rfl, rfl⟩)
  go_ret
  exact fret (Same.refl _ _)

theorem impl_pos (x v : Nat) (w : World) (h1 : (FloatKind.f32.format.order x 0 == some .eq) = false) (h2 : (FloatKind.f32.format.order x 0 == some .lt) = false) (h3 : (FloatKind.f32.format.order x x != some .eq) = false) (h : rg x < 2139095040)
    (hv : Fits v) (hC : ∀ w, Calls Try.prog 31 #[.float .f64 (wide x)] w fun e w' => e = .returned (.float .f64 v) ∧ w = w') :
    Calls Try.prog 16 #[.float .f32 x] w (FRet .f32 (narrow v) w) := by
  have F := Lib.hid (fun w => finite_yes x w h)
  have hcv := fun w => conv_wide (x := x) (not_nan (by omega)) w
  have V := Lib.hid hv
  have C := Lib.hid hC
  clear h hv hC
  generalize wide x = X at *
  go_enter Try.func16, Try.ntmps16
  go_wp2_with (first
    | (go_at_call 30; refine (F.out _).mono ?_; rintro e w' ⟨rfl, rfl⟩)
    | (go_at_call 31; refine (C.out _).mono ?_; rintro e w' ⟨rfl, rfl⟩)
    | ((with_reducible refine wpList_narrow SameFloat.some64 Try.underlying22 (by with_unfolding_all rfl) (by with_unfolding_all rfl) V.out ?_); intro t n ht))
  go_ret
  exact fret ht

/-! ### The reference -/
theorem wide_nan (r : Nat) (w : World) (h : (FloatKind.f64.format.order r r != some .eq) = true ∨ ((FloatKind.f64.format.order r r != some .eq) = false ∧ (FloatKind.f64.format.order r 0 == some .lt) = true)) :
    Calls Try.prog 49 #[.float .f64 r] w fun e w' => e = .returned (.float .f64 9221120237041090561) ∧ w = w' := by
  rcases h with h | ⟨h1, h2⟩
  all_goals
    go_enter Try.func49, Try.ntmps49
    go_wp2_with (go_at_call 29; refine (nan_any _).mono ?_; rintro e w' ⟨rfl, rfl⟩)
    go_ret
    exact ⟨rfl, rfl⟩

theorem wide_zero (r : Nat) (w : World) (h1 : (FloatKind.f64.format.order r r != some .eq) = false) (h2 : (FloatKind.f64.format.order r 0 == some .lt) = false) (h3 : (FloatKind.f64.format.order r 0 == some .eq) = true) :
    Calls Try.prog 49 #[.float .f64 r] w fun e w' => e = .returned (.float .f64 18442240474082181120) ∧ w = w' := by
  go_enter Try.func49, Try.ntmps49
  go_wp2_with (go_at_call 28; refine (inf_any _).mono ?_; rintro e w' ⟨rfl, rfl⟩)
  go_ret
  exact ⟨rfl, rfl⟩

theorem wide_inf' (r : Nat) (w : World) (h1 : (FloatKind.f64.format.order r r != some .eq) = false) (h2 : (FloatKind.f64.format.order r 0 == some .lt) = false) (h3 : (FloatKind.f64.format.order r 0 == some .eq) = false)
    (h4 : (FloatKind.f64.format.order r 9218868437227405311 == some .gt) = true) :
    Calls Try.prog 49 #[.float .f64 r] w fun e w' => e = .returned (.float .f64 r) ∧ w = w' := by
  have I := Lib.hid (fun w => isInf_any r true w h4)
  clear h4
  go_enter Try.func49, Try.ntmps49
  go_wp2_with (go_at_call 55; refine (I.out _).mono ?_; rintro e w' ⟨rfl, rfl⟩)
  go_ret
  exact ⟨rfl, rfl⟩

/-- The reference's l01Log, from what the wide logarithm gives at each float64 that is the same number. -/
theorem spec_of (x v : Nat) (w : World) (hv : Fits v)
    (hC : ∀ w r, Same .f64 r (wide x) → Calls Try.prog 49 #[.float .f64 r] w fun e w' => e = .returned (.float .f64 v) ∧ w = w') :
    Calls Try.prog 35 #[.float .f32 x] w (FRet .f32 (narrow v) w) := by
  have V := Lib.hid hv
  have C := Lib.hid hC
  clear hv hC
  go_enter Try.func35, Try.ntmps35
  go_wp2_with (first
    | ((with_reducible refine wpList_wide SameFloat.some32 Try.underlying25 (by with_unfolding_all rfl) (by with_unfolding_all rfl) ?_); intro r n hr)
    | (go_at_call 49; refine (C.out _ _ hr).mono ?_; rintro e w' ⟨rfl, rfl⟩)
    | (go_at_call 44; go_in)
    | ((with_reducible refine wpList_narrow SameFloat.some64 Try.underlying22 (by with_unfolding_all rfl) (by with_unfolding_all rfl) V.out ?_); intro t n ht))
  go_ret
  exact fret ht

theorem val_ge {r : Nat} (h : r ≠ 0) : p2 4851 ≤ val Ieee.single r := by
  have h1 : val Ieee.single 1 ≤ val Ieee.single r := val_le.2 (by omega)
  have h2 : val Ieee.single 1 = 1 * 2 ^ lpN Ieee.single := by
    unfold val; rw [if_pos (by decide)]
  have h3 : p2 (lpN Ieee.single) = 2 ^ lpN Ieee.single := by unfold p2; exact rfl
  rw [h2, ← h3, lpN_single, Nat.one_mul] at h1
  exact h1

theorem both (x : Nat) (hx : x < 4294967296) : ∃ v, (∀ w, Calls Try.prog 35 #[.float .f32 x] w (FRet .f32 v w)) ∧ (∀ w, Calls Try.prog 16 #[.float .f32 x] w (FRet .f32 v w)) := by
  have nanfit : Fits 9221120237041090561 := fits_nan nan_is
  have toN : ∀ w e w', FRet .f32 (narrow 9221120237041090561) w e w' → FRet .f32 (cnan .f32) w e w' := by
    rintro w e w' ⟨r, n, rfl, hr, rfl⟩
    exact fret (.inr ⟨by rw [hr.isN]; exact narrow_nan nan_is, isN_cnan _⟩)
  rcases Nat.lt_or_ge 2139095040 (rg x) with h | h
  · have hn := nan_of h
    refine ⟨cnan .f32, fun w => (spec_of x _ w nanfit fun w r hr => wide_nan r w (.inl ?_)).mono (toN w), fun w => impl_nan x w ?_ (.inr ⟨?_, ?_⟩)⟩
    · rw [order_nan_left r (by rw [hr.isN]; exact nan_wide hn)]; rfl
    · rw [order_nan_left _ hn]; rfl
    · rw [order_nan_left _ hn]; rfl
    · rw [order_nan_left _ hn]; rfl
  · have hw : isN .f64 (wide x) = false := wide_num h
    rcases Nat.lt_or_ge (rg x) 2139095040 with h' | h'
    · have nx := n_wide h'
      have o32 := order_zero32 h'
      have o64 := order_zero nx
      have self32 : (FloatKind.f32.format.order x x != some .eq) = false := by rw [order_self (not_nan h)]; rfl
      have self64 : (FloatKind.f64.format.order (wide x) (wide x) != some .eq) = false := by rw [order_self hw]; rfl
      rcases Nat.eq_zero_or_pos (val Ieee.single (rg x)) with h0 | h0
      · have e : compare (iv (sg x) (val Ieee.single (rg x))) (iv false 0) = .eq := by
          rw [h0]; exact Int.compare_eq_eq.2 (by unfold iv; cases sg x <;> simp)
        rw [e] at o32 o64
        refine ⟨_, fun w => spec_of x _ w inf_fits fun w r hr => ?_, fun w => impl_zero x w (by rw [o32]; rfl)⟩
        obtain rfl := hr.eq hw
        exact wide_zero _ w self64 (by rw [o64]; rfl) (by rw [o64]; rfl)
      · cases hs : sg x with
        | true =>
          have e : compare (iv (sg x) (val Ieee.single (rg x))) (iv false 0) = .lt := by
            rw [hs]; exact Int.compare_eq_lt.2 (by unfold iv; simp only [Bool.false_eq_true, if_false, if_true]; omega)
          rw [e] at o32 o64
          refine ⟨cnan .f32, fun w => (spec_of x _ w nanfit fun w r hr => ?_).mono (toN w), fun w => impl_nan x w (by rw [o32]; rfl) (.inl (by rw [o32]; rfl))⟩
          obtain rfl := hr.eq hw
          exact wide_nan _ w (.inr ⟨self64, by rw [o64]; rfl⟩)
        | false =>
          have e : compare (iv (sg x) (val Ieee.single (rg x))) (iv false 0) = .gt := by
            rw [hs]; exact Int.compare_eq_gt.2 (by unfold iv; simp only [Bool.false_eq_true, if_false]; omega)
          rw [e] at o32 o64
          rw [hs] at nx
          have hr0 : rg x ≠ 0 := by
            intro hz; rw [hz, val_zero] at h0; omega
          have hX : ∃ v, N64 (wide x) false v ∧ v ≤ p2 5128 ∧ p2 4851 ≤ v := ⟨_, nx, Nat.le_of_lt (single_lt (w := x) h'), val_ge hr0⟩
          obtain ⟨y, n, m, hS, hz⟩ := Log.scale hX
          have hnm : ((n : Int) - (m : Int)).natAbs < 256 := by have := hS.le; have := hS.le'; omega
          obtain ⟨Z⟩ := Log.tail_of hz hnm
          have hf : Fits (l8 (uN y m) ((n : Int) - (m : Int))) := (bd_log hz hnm).2.2.2.2.2.2.2.fits (by omega)
          have hI : (FloatKind.f64.format.order (wide x) 9218868437227405311 == some .gt) = false := by
            have hmax := of_word (x := 9218868437227405311) (by decide)
            have ho : FloatKind.f64.format.order (wide x) 9218868437227405311 = some (compare (iv false (val Ieee.single (rg x))) (iv false (val Ieee.double 9218868437227405311))) := order_num good_double nx hmax
            obtain ⟨R, hR, hv, _⟩ := wide_fin h'
            have hle : val Ieee.double R ≤ val Ieee.double 9218868437227405311 := val_le.2 (by have : Ieee.double.infRung = 9218868437227405312 := by decide
                                                                                               omega)
            rw [ho, ← hv]
            rcases Nat.lt_or_eq_of_le hle with h1 | h1
            · rw [Int.compare_eq_lt.2 (by unfold iv; simp only [Bool.false_eq_true, if_false]; omega)]; rfl
            · rw [Int.compare_eq_eq.2 (by unfold iv; simp only [Bool.false_eq_true, if_false]; omega)]; rfl
          refine ⟨_, fun w => spec_of x _ w hf fun w r hr => ?_, fun w => impl_pos x _ w (by rw [o32]; rfl) (by rw [o32]; rfl) self32 h' hf fun w => Log.impl_core _ y _ n m _ _ w (Lib.hid hS) rfl (Lib.hid rfl) Z⟩
          obtain rfl := hr.eq hw
          exact Log.spec_core _ y _ n m _ _ w self64 (by rw [o64]; rfl) (by rw [o64]; rfl) (Lib.hid fun w => isInf_any _ false w hI) (Lib.hid hS) rfl (Lib.hid rfl) Z
    · have hx' : x = 2139095040 ∨ x = 4286578688 := by
        have : rg x = x % 2147483648 := rfl
        omega
      rcases hx' with rfl | rfl
      · refine ⟨2139095040, fun w => ?_, fun w => impl_inf _ w (by decide +kernel) (by decide +kernel) (by decide +kernel) h'⟩
        have e : narrow (wide 2139095040) = 2139095040 := by decide +kernel
        have := spec_of 2139095040 (wide 2139095040) w (.inr (by decide +kernel)) fun w r hr => by
          obtain rfl := hr.eq hw
          exact wide_inf' _ w (by decide +kernel) (by decide +kernel) (by decide +kernel) (by decide +kernel)
        rw [e] at this; exact this
      · refine ⟨cnan .f32, fun w => (spec_of _ _ w nanfit fun w r hr => ?_).mono (toN w), fun w => impl_nan _ w (by decide +kernel) (.inl (by decide +kernel))⟩
        obtain rfl := hr.eq hw
        exact wide_nan _ w (.inr ⟨by decide +kernel, by decide +kernel⟩)

/-- The law's walk. -/
theorem walk (a0 : Nat) (w : World) (hwf : (Lit.float .f32 a0).wf = true) :
    Calls Try.prog 6 #[.float .f32 a0] w fun e w' => e = .returned (.bool true) ∧ Below w.heap.size w w' := by
  have hx : a0 < 4294967296 := of_decide_eq_true hwf
  obtain ⟨v, S, I⟩ := both a0 hx
  have S' := Lib.hid S
  have I' := Lib.hid I
  clear S I hx hwf
  go_enter Try.func6, Try.ntmps6
  go_wp2_with (first
    | (go_at_call 19; go_in)
    | (go_at_call 35; refine (S'.out _).mono ?_; rintro e w' ⟨r, n, rfl, hr, rfl⟩)
    | (go_at_call 16; refine (I'.out _).mono ?_; rintro e w' ⟨s, n, rfl, hs, rfl⟩)
    | ((with_reducible refine wpList_wide SameFloat.some32 Try.underlying25 (by with_unfolding_all rfl) (by with_unfolding_all rfl) ?_); intro r' n hr')
    | (go_at_call 12; refine (SameFloat.wide_any _ (by assumption) (by assumption) (hs.trans hr.symm)).mono ?_; rintro e w' ⟨n, rfl, rfl⟩))
  all_goals (go_ret; exact ⟨rfl, below_drewN (Below.refl _ _) _⟩)
end Go.Proofs.Ytkmbfgnemamlfaa.LogT
