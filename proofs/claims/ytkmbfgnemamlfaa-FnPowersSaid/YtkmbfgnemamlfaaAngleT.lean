/- The program's AngleTurns and the reference's give the same number. -/
import Derived.Test.YtkmbfgnemamlfaaAngle
namespace Go.Proofs.Ytkmbfgnemamlfaa.AngleT
open Go.RowKit Go.Proofs.Ytkmbfgnemamlfaa.FW Go.Proofs.Ytkmbfgnemamlfaa.FT Go.Proofs.Ytkmbfgnemamlfaa.FB Go.Proofs.Ytkmbfgnemamlfaa.SineP Go.Proofs.Ytkmbfgnemamlfaa.Sine Go.Proofs.Ytkmbfgnemamlfaa.SineC Go.Proofs.Ytkmbfgnemamlfaa.AngP Go.Proofs.Ytkmbfgnemamlfaa.F32 Go.Proofs.Ytkmbfgnemamlfaa.SineT
open Ieee (Datum)

theorem n_zero : N64 0 false 0 := by
  have h := of_word (x := 0) (by decide)
  rw [val_zero] at h; exact h

/-! ### No number -/
theorem impl_nanX (y x : Nat) (w : World) (h : 2139095040 ≤ rg x) : Calls Try.prog 26 #[.float .f32 y, .float .f32 x] w (FRet .f32 (cnan .f32) w) := by
  have F := Lib.hid (fun w => finite_no x w h)
  clear h
  go_enter Try.func26, Try.ntmps26
  go_wp2_with (first
    | (go_at_call 30; refine (F.out _).mono ?_; rintro e w' ⟨n, rfl, rfl⟩)
    | (go_at_call 29; refine (nan_any _).mono ?_; rintro e w' ⟨rfl, rfl⟩)
    | ((with_reducible refine wpList_narrow SameFloat.some64 Try.underlying22 (by with_unfolding_all rfl) (by with_unfolding_all rfl) (fits_nan nan_is) ?_); intro t n ht))
  go_ret
  exact fret (.inr ⟨by rw [ht.isN]; exact narrow_nan nan_is, isN_cnan _⟩)

theorem impl_nanY (y x : Nat) (w : World) (hx : rg x < 2139095040) (h : 2139095040 ≤ rg y) : Calls Try.prog 26 #[.float .f32 y, .float .f32 x] w (FRet .f32 (cnan .f32) w) := by
  have F := Lib.hid (fun w => finite_no y w h)
  have G := Lib.hid (fun w => finite_yes x w hx)
  clear h hx
  go_enter Try.func26, Try.ntmps26
  go_wp2_with (first
    | (go_at_call 30; first | (with_reducible refine (G.out _).mono ?_; rintro e w' ⟨rfl, rfl⟩) | ((with_reducible refine (F.out _).mono ?_); rintro e w' ⟨n, rfl, rfl⟩))
    | (go_at_call 29; refine (nan_any _).mono ?_; rintro e w' ⟨rfl, rfl⟩)
    | ((with_reducible refine wpList_narrow SameFloat.some64 Try.underlying22 (by with_unfolding_all rfl) (by with_unfolding_all rfl) (fits_nan nan_is) ?_); intro t n ht))
  go_ret
  exact fret (.inr ⟨by rw [ht.isN]; exact narrow_nan nan_is, isN_cnan _⟩)

theorem wide_nanY (s r : Nat) (w : World) (h : isN .f64 (fop .sub .f64 s s) = true) : Calls Try.prog 53 #[.float .f64 s, .float .f64 r] w (FRet .f64 (cnan .f64) w) := by
  have hn' := Lib.hid h
  clear h
  go_enter Try.func53, Try.ntmps53
  go_wp2_with (first
    | (go_at_call 29; refine (nan_any _).mono ?_; rintro e w' ⟨rfl, rfl⟩)
    | ((with_reducible refine wpList_nan (by with_unfolding_all rfl) (by with_unfolding_all rfl) (by with_unfolding_all rfl) (by with_unfolding_all rfl) hn'.out ?_); intro r n _ ho))
  go_ret
  exact fret (.inr ⟨nan_is, isN_cnan _⟩)

theorem wide_nanX (s r : Nat) (w : World) (hz : fop .sub .f64 s s = 0) (h : isN .f64 (fop .sub .f64 r r) = true) : Calls Try.prog 53 #[.float .f64 s, .float .f64 r] w (FRet .f64 (cnan .f64) w) := by
  have hn' := Lib.hid h
  have hs := fun w => arith (op := .sub) rfl (by rw [hz]; decide +kernel) hz w
  have z0 : (FloatKind.f64.format.order 0 0 != some .eq) = false := by decide +kernel
  clear h hz
  go_enter Try.func53, Try.ntmps53
  go_wp2_with (first
    | (go_at_call 29; refine (nan_any _).mono ?_; rintro e w' ⟨rfl, rfl⟩)
    | ((with_reducible refine wpList_nan (x := r) (y := r) (by with_unfolding_all rfl) (by with_unfolding_all rfl) (by with_unfolding_all rfl) (by with_unfolding_all rfl) hn'.out ?_); intro r n _ ho))
  go_ret
  exact fret (.inr ⟨nan_is, isN_cnan _⟩)

/-- Whatever the wide angle is, where it is a NaN. -/
theorem spec_nan (y x : Nat) (w : World)
    (C : ∀ w s r, Same .f64 s (wide y) → Same .f64 r (wide x) → Calls Try.prog 53 #[.float .f64 s, .float .f64 r] w (FRet .f64 (cnan .f64) w)) :
    Calls Try.prog 42 #[.float .f32 y, .float .f32 x] w (FRet .f32 (cnan .f32) w) := by
  have C' := Lib.hid C
  clear C
  go_enter Try.func42, Try.ntmps42
  go_wp2_with (first
    | ((with_reducible refine wpList_wide SameFloat.some32 Try.underlying25 (by with_unfolding_all rfl) (by with_unfolding_all rfl) ?_); intro r n hr)
    | (go_at_call 53; refine (C'.out _ _ _ (by assumption) (by assumption)).mono ?_; rintro e w' ⟨s, n, rfl, hs, rfl⟩)
    | (go_at_call 44; go_in)
    | ((with_reducible refine wpList_narrow SameFloat.some64 Try.underlying22 (by with_unfolding_all rfl) (by with_unfolding_all rfl) (fits_nan (by rw [hs.isN]; exact isN_cnan _)) ?_); intro t n ht))
  go_ret
  exact fret (.inr ⟨by rw [ht.isN]; exact narrow_nan (by rw [hs.isN]; exact isN_cnan _), isN_cnan _⟩)

/-! ### Numbers -/
theorem spec_of (y x v : Nat) (w : World) (hy : isN .f32 y = false) (hx : isN .f32 x = false) (hv : Fits v)
    (hC : ∀ w, Calls Try.prog 53 #[.float .f64 (wide y), .float .f64 (wide x)] w fun e w' => e = .returned (.float .f64 v) ∧ w = w') :
    Calls Try.prog 42 #[.float .f32 y, .float .f32 x] w (FRet .f32 (narrow v) w) := by
  have hcv := fun w => conv_wide (x := x) hx w
  have hcy := fun w => conv_wide (x := y) hy w
  have V := Lib.hid hv
  have C := Lib.hid hC
  clear hx hy hv hC
  generalize wide x = X at *
  generalize wide y = Y at *
  go_enter Try.func42, Try.ntmps42
  go_wp2_with (first
    | (go_at_call 53; refine (C.out _).mono ?_; rintro e w' ⟨rfl, rfl⟩)
    | (go_at_call 44; go_in)
    | ((with_reducible refine wpList_narrow SameFloat.some64 Try.underlying22 (by with_unfolding_all rfl) (by with_unfolding_all rfl) V.out ?_); intro t n ht))
  go_ret
  exact fret ht

theorem impl_zero (y x : Nat) (w : World) (hy : rg y < 2139095040) (hx : rg x < 2139095040) (E1 : (FloatKind.f32.format.order x 0 == some .eq) = true) (E2 : (FloatKind.f32.format.order y 0 == some .eq) = true) :
    Calls Try.prog 26 #[.float .f32 y, .float .f32 x] w (FRet .f32 0 w) := by
  have F := Lib.hid (fun w => finite_yes y w hy)
  have G := Lib.hid (fun w => finite_yes x w hx)
  clear hy hx
  go_enter Try.func26, Try.ntmps26
  go_wp2_with (go_at_call 30; first | (with_reducible refine (G.out _).mono ?_; rintro e w' ⟨rfl, rfl⟩) | (with_reducible refine (F.out _).mono ?_; rintro e w' ⟨rfl, rfl⟩))
  go_ret
  exact fret0 (Same.refl _ _)

theorem wide_zero (Y X : Nat) (w : World) (hy : fop .sub .f64 Y Y = 0) (hx : fop .sub .f64 X X = 0) (E1 : (FloatKind.f64.format.order X 0 == some .eq) = true) (E2 : (FloatKind.f64.format.order Y 0 == some .eq) = true) :
    Calls Try.prog 53 #[.float .f64 Y, .float .f64 X] w fun e w' => e = .returned (.float .f64 0) ∧ w = w' := by
  have hs := fun w => arith (op := .sub) rfl (by rw [hy]; decide +kernel) hy w
  have hr := fun w => arith (op := .sub) rfl (by rw [hx]; decide +kernel) hx w
  have z0 : (FloatKind.f64.format.order 0 0 != some .eq) = false := by decide +kernel
  clear hy hx
  go_enter Try.func53, Try.ntmps53
  go_wp2
  go_ret
  exact ⟨rfl, rfl⟩

theorem order_zero {x : Nat} {s : Bool} {v : Nat} (h : N64 x s v) : FloatKind.f64.format.order x 0 = some (compare (iv s v) (iv false 0)) := order_num good_double h n_zero
theorem order_zero32 {x : Nat} (h : rg x < 2139095040) : FloatKind.f32.format.order x 0 = some (compare (iv (sg x) (val Ieee.single (rg x))) (iv false 0)) := order_num good_single (read_fin h) read_zero

theorem n_wide {x : Nat} (h : rg x < 2139095040) : N64 (wide x) (sg x) (val Ieee.single (rg x)) := by
  obtain ⟨R, hR, hv, hw⟩ := wide_fin h
  rw [hw, ← hv]; exact read_word good_double _ hR

theorem gt_mag {x y : Nat} {s t : Bool} {a b : Nat} (hx : N64 x s a) (hy : N64 y t b) : (FloatKind.f64.format.order (Abs.mag63 y) (Abs.mag63 x) == some .gt) = decide (a < b) := by
  have h : FloatKind.f64.format.order (Abs.mag63 y) (Abs.mag63 x) = some (compare (iv false b) (iv false a)) := order_num good_double (mag_num hy) (mag_num hx)
  rw [h]
  rcases Nat.lt_trichotomy a b with h1 | h1 | h1
  · rw [Int.compare_eq_gt.2 (by unfold iv; simp only [Bool.false_eq_true, if_false]; omega), decide_eq_true h1]; rfl
  · rw [Int.compare_eq_eq.2 (by unfold iv; simp only [Bool.false_eq_true, if_false]; omega), decide_eq_false (by omega)]; rfl
  · rw [Int.compare_eq_lt.2 (by unfold iv; simp only [Bool.false_eq_true, if_false]; omega), decide_eq_false (by omega)]; rfl

theorem eq_zero {x : Nat} {s : Bool} (h : N64 x s 0) : (FloatKind.f64.format.order x 0 == some .eq) = true := by
  rw [order_zero h, Int.compare_eq_eq.2 (by unfold iv; cases s <;> simp)]; rfl

theorem quot_unit {x y : Nat} {s t : Bool} {a b : Nat} (hx : N64 x s a) (hy : N64 y t b) (h : a ≤ b) (h0 : 0 < b) : Unit (fop .quo .f64 (Abs.mag63 x) (Abs.mag63 y)) := by
  obtain ⟨v, h1, h2⟩ := div_le (mag_num hx) (mag_num hy) (K := 5000) (by rw [Nat.mul_comm]; exact Nat.mul_le_mul_left _ h) h0 (by omega) (by omega)
  exact ⟨v, h1, h2⟩

theorem both (y x : Nat) : ∃ v, (∀ w, Calls Try.prog 42 #[.float .f32 y, .float .f32 x] w (FRet .f32 v w)) ∧ (∀ w, Calls Try.prog 26 #[.float .f32 y, .float .f32 x] w (FRet .f32 v w)) := by
  rcases Nat.lt_or_ge (rg y) 2139095040 with hy | hy
  · have ny := n_wide hy
    have zy := sub_self64 ny
    rcases Nat.lt_or_ge (rg x) 2139095040 with hx | hx
    · have nx := n_wide hx
      have zx := sub_self64 nx
      have ex : FloatKind.f32.format.order x 0 = FloatKind.f64.format.order (wide x) 0 := by rw [order_zero32 hx, order_zero nx]
      have ey : FloatKind.f32.format.order y 0 = FloatKind.f64.format.order (wide y) 0 := by rw [order_zero32 hy, order_zero ny]
      have iy : isN .f32 y = false := not_nan (by omega)
      have ix : isN .f32 x = false := not_nan (by omega)
      cases hE : ((FloatKind.f64.format.order (wide x) 0 == some .eq) && (FloatKind.f64.format.order (wide y) 0 == some .eq)) with
      | true =>
        rw [Bool.and_eq_true] at hE
        have h0 : narrow 0 = 0 := by decide +kernel
        refine ⟨0, fun w => ?_, fun w => impl_zero y x w hy hx (by rw [ex]; exact hE.1) (by rw [ey]; exact hE.2)⟩
        have := spec_of y x 0 w iy ix (.inr (by decide +kernel)) (fun w => wide_zero _ _ w zy zx hE.1 hE.2)
        rw [h0] at this; exact this
      | false =>
        have hD : ∃ t, Unit t ∧ (if (decide (val Ieee.single (rg x) < val Ieee.single (rg y))) = true then (∀ w, (binOp .quo 25 (.float .f64 (Abs.mag63 (wide x))) (.float .f64 (Abs.mag63 (wide y)))).run Try.prog w = .ok (.float .f64 t) w)
            else (∀ w, (binOp .quo 25 (.float .f64 (Abs.mag63 (wide y))) (.float .f64 (Abs.mag63 (wide x)))).run Try.prog w = .ok (.float .f64 t) w)) := by
          by_cases hlt : val Ieee.single (rg x) < val Ieee.single (rg y)
          · have hu := quot_unit nx ny (Nat.le_of_lt hlt) (by omega)
            exact ⟨_, hu, by rw [if_pos (decide_eq_true hlt)]; exact fun w => arith (op := .quo) rfl hu.bd.num rfl w⟩
          · have h0 : 0 < val Ieee.single (rg x) := by
              rcases Nat.eq_zero_or_pos (val Ieee.single (rg x)) with h0 | h0
              · exfalso
                have hy0 : val Ieee.single (rg y) = 0 := by omega
                rw [h0] at nx
                rw [hy0] at ny
                rw [eq_zero nx, eq_zero ny] at hE
                exact absurd hE (by decide)
              · exact h0
            have hu := quot_unit ny nx (by omega) h0
            exact ⟨_, hu, by rw [if_neg (by rw [decide_eq_false hlt]; exact Bool.false_ne_true)]; exact fun w => arith (op := .quo) rfl hu.bd.num rfl w⟩
        obtain ⟨t, ht, hD⟩ := hD
        obtain ⟨r, ⟨Z⟩⟩ := Angle.tail_of ht (decide (val Ieee.single (rg x) < val Ieee.single (rg y))) (FloatKind.f64.format.order (wide x) 0 == some .lt) (FloatKind.f64.format.order (wide y) 0 == some .lt)
        have HS := fun w => spec_of y x r w iy ix Z.fits fun w => Angle.spec_core (wide x) (wide y) t r _ _ _ _ _ w (fun w => arith (op := .sub) rfl (by rw [zx]; decide +kernel) zx w) (fun w => arith (op := .sub) rfl (by rw [zy]; decide +kernel) zy w) rfl rfl hE
          (Lib.hid (wide_lt (by omega))) (Lib.hid (wide_lt (by omega))) (gt_mag nx ny) hD (Lib.hid ht) rfl rfl Z
        have HI := fun w => Angle.impl_core x y (wide x) (wide y) t r _ _ _ _ _ w (Lib.hid fun w => finite_yes x w hx) (Lib.hid fun w => finite_yes y w hy) (by rw [ex]) (by rw [ey]) hE (fun w => conv_wide ix w) (fun w => conv_wide iy w)
          (Lib.hid (wide_lt (by omega))) (Lib.hid (wide_lt (by omega))) (gt_mag nx ny) hD (Lib.hid ht) (by rw [ex]) (by rw [ey]) Z
        exact ⟨_, HS, HI⟩
    · refine ⟨_, fun w => spec_nan y x w ?_, fun w => impl_nanX y x w hx⟩
      intro w s r hs hr
      refine wide_nanX s r w ?_ ?_
      · rw [fop_same .sub hs hs]; exact zy
      · rw [fop_same .sub hr hr]; exact self_nan64 hx
  · have HS := fun w => spec_nan y x w fun w s r hs hr => wide_nanY s r w (by rw [fop_same .sub hs hs]; exact self_nan64 hy)
    rcases Nat.lt_or_ge (rg x) 2139095040 with hx | hx
    · exact ⟨_, HS, fun w => impl_nanY y x w hx hy⟩
    · exact ⟨_, HS, fun w => impl_nanX y x w hx⟩

/-- The law's walk. -/
theorem walk (a0 a1 : Nat) (w : World) (_ : (Lit.float .f32 a0).wf = true) (_ : (Lit.float .f32 a1).wf = true) :
    Calls Try.prog 9 #[.float .f32 a0, .float .f32 a1] w fun e w' => e = .returned (.bool true) ∧ Below w.heap.size w w' := by
  obtain ⟨v, S, I⟩ := both a0 a1
  have S' := Lib.hid S
  have I' := Lib.hid I
  clear S I
  go_enter Try.func9, Try.ntmps9
  go_wp2_with (first
    | (go_at_call 25; go_in)
    | (go_at_call 42; refine (S'.out _).mono ?_; rintro e w' ⟨r, n, rfl, hr, rfl⟩)
    | (go_at_call 26; refine (I'.out _).mono ?_; rintro e w' ⟨s, n, rfl, hs, rfl⟩)
    | ((with_reducible refine wpList_wide SameFloat.some32 Try.underlying25 (by with_unfolding_all rfl) (by with_unfolding_all rfl) ?_); intro r' n hr')
    | (go_at_call 12; refine (SameFloat.wide_any _ (by assumption) (by assumption) (hs.trans hr.symm)).mono ?_; rintro e w' ⟨n, rfl, rfl⟩))
  all_goals (go_ret; exact ⟨rfl, below_drewN (Below.refl _ _) _⟩)
end Go.Proofs.Ytkmbfgnemamlfaa.AngleT
