/- The walks of the program's AngleTurns and of the reference's. -/
import Derived.Test.YtkmbfgnemamlfaaAngP
namespace Go.Proofs.Ytkmbfgnemamlfaa.Angle
open Go.RowKit Go.Proofs.Ytkmbfgnemamlfaa.FW Go.Proofs.Ytkmbfgnemamlfaa.FB Go.Proofs.Ytkmbfgnemamlfaa.SineP Go.Proofs.Ytkmbfgnemamlfaa.Sine Go.Proofs.Ytkmbfgnemamlfaa.SineC Go.Proofs.Ytkmbfgnemamlfaa.AngP

theorem run_sqrt {x r : Nat} (h : Ieee.double.sqrt x = some r) (w : World) : (callFunc 54 #[.float .f64 x]).run Try.prog w = .ok (.value (.float .f64 r)) w := by
  have h1 := run_callFunc_extern Try.func54 (by kernel_rfl) (by kernel_rfl) (by kernel_rfl) (e := Extern.MathSqrt.sqrt) (by kernel_rfl) #[.float .f64 x] w
  have e : Extern.MathSqrt.sqrt #[.float .f64 x] = (match FloatKind.f64.format.sqrt x with
      | some r => pure (.float .f64 r)
      | none => do pure (.float .f64 (← choose (.nanBits .f64 x x)))) := rfl
  have h' : FloatKind.f64.format.sqrt x = some r := h
  rw [h1, e, h']
  rfl

theorem sqrt_any {x r : Nat} (h : Ieee.double.sqrt x = some r) (w : World) : Calls Try.prog 43 #[.float .f64 x] w fun e w' => e = .returned (.float .f64 r) ∧ w = w' := by
  have hr := run_sqrt h
  clear h
  go_enter Try.func43, Try.ntmps43
  go_wp2
  go_ret
  exact ⟨rfl, rfl⟩

/-- What a round of halving reckons. -/
structure Halve (t h : Nat) where
  a : Nat
  b : Nat
  c : Nat
  d : Nat
  r1 : ∀ w, (binOp .mul 25 (.float .f64 t) (.float .f64 t)).run Try.prog w = .ok (.float .f64 a) w
  r2 : ∀ w, (binOp .add 25 (.float .f64 4607182418800017408) (.float .f64 a)).run Try.prog w = .ok (.float .f64 b) w
  r3 : Hid (∀ w, Calls Try.prog 43 #[.float .f64 b] w fun e w' => e = .returned (.float .f64 c) ∧ w = w')
  r4 : ∀ w, (binOp .add 25 (.float .f64 4607182418800017408) (.float .f64 c)).run Try.prog w = .ok (.float .f64 d) w
  r5 : ∀ w, (binOp .quo 25 (.float .f64 t) (.float .f64 d)).run Try.prog w = .ok (.float .f64 h) w

theorem halve_of {t : Nat} (h : Unit t) : Nonempty (Halve t (halve t)) := by
  obtain ⟨h1, h2, h3, h4, h5⟩ := unit_round h
  exact ⟨⟨s1 t, s2 t, s3 t, s4 t, fun w => arith (op := .mul) rfl h1.bd.num rfl w, fun w => arith (op := .add) rfl h2.num rfl w, Lib.hid fun w => sqrt_any h3 w,
    fun w => arith (op := .add) rfl h4.num rfl w, fun w => arith (op := .quo) rfl h5.bd.num rfl w⟩⟩

/-- What a round of the series reckons. -/
structure Term (u j : Nat) where
  a : Nat
  b : Nat
  r1 : ∀ w, (binOp .quo 25 (.float .f64 4607182418800017408) (.float .f64 (oF j))).run Try.prog w = .ok (.float .f64 a) w
  r2 : ∀ w, (binOp .mul 25 (.float .f64 u) (.float .f64 (pA u j))).run Try.prog w = .ok (.float .f64 b) w
  r3 : ∀ w, (binOp .sub 25 (.float .f64 a) (.float .f64 b)).run Try.prog w = .ok (.float .f64 (pA u (j + 1))) w

theorem term_of {u j : Nat} (h : Bd u 5000) (hj : j < 8) : Nonempty (Term u j) := by
  obtain ⟨h1, h2⟩ := bd_oround h j hj
  have h3 := bd_pA h (j + 1) (by omega)
  exact ⟨⟨_, _, fun w => arith (op := .quo) rfl h2.num rfl w, fun w => arith (op := .mul) rfl h1.num rfl w, fun w => arith (op := .sub) rfl h3.num rfl w⟩⟩

/-- What stands behind the loops. -/
structure Tail (t : Nat) (b1 b2 b3 : Bool) (r : Nat) where
  u : Nat
  a1 : Nat
  a2 : Nat
  a3 : Nat
  a4 : Nat
  a5 : Nat
  a6 : Nat
  a7 : Nat
  hu : Bd u 5000
  fits : Fits r
  m0 : ∀ w, (binOp .mul 25 (.float .f64 (tN t 3)) (.float .f64 (tN t 3))).run Try.prog w = .ok (.float .f64 u) w
  m1 : ∀ w, (binOp .mul 25 (.float .f64 (tN t 3)) (.float .f64 (pA u 8))).run Try.prog w = .ok (.float .f64 a1) w
  m2 : ∀ w, (binOp .mul 25 (.float .f64 4620693217682128896) (.float .f64 a1)).run Try.prog w = .ok (.float .f64 a2) w
  m3 : ∀ w, (binOp .quo 25 (.float .f64 a2) (.float .f64 4618760256179416344)).run Try.prog w = .ok (.float .f64 a3) w
  m4 : ∀ w, (binOp .sub 25 (.float .f64 4598175219545276416) (.float .f64 a3)).run Try.prog w = .ok (.float .f64 a4) w
  e5 : a5 = if b1 = true then a4 else a3
  m6 : ∀ w, (binOp .sub 25 (.float .f64 4602678819172646912) (.float .f64 a5)).run Try.prog w = .ok (.float .f64 a6) w
  e7 : a7 = if b2 = true then a6 else a5
  e8 : r = if b3 = true then Op.negFloat .f64 a7 else a7

theorem tail_of {t : Nat} (h : Unit t) (b1 b2 b3 : Bool) : ∃ r, Nonempty (Tail t b1 b2 b3 r) := by
  obtain ⟨h0, h1, h2, h3⟩ := bd_angle h
  have h4 := (PhasP.b_quarter.up (L := 5011) (by omega)).sub h3 (by omega) (by omega)
  have h5 : Bd (if b1 = true then fop .sub .f64 quarter (a3 t) else a3 t) 5012 := by
    split
    · exact h4
    · exact h3.up (by omega)
  have h6 := (b_half.up (L := 5012) (by omega)).sub h5 (by omega) (by omega)
  have h7 : Bd (if b2 = true then fop .sub .f64 half (if b1 = true then fop .sub .f64 quarter (a3 t) else a3 t) else (if b1 = true then fop .sub .f64 quarter (a3 t) else a3 t)) 5013 := by
    split
    · exact h6
    · exact h5.up (by omega)
  have h8 : Fits (if b3 = true then Op.negFloat .f64 (if b2 = true then fop .sub .f64 half (if b1 = true then fop .sub .f64 quarter (a3 t) else a3 t) else (if b1 = true then fop .sub .f64 quarter (a3 t) else a3 t)) else (if b2 = true then fop .sub .f64 half (if b1 = true then fop .sub .f64 quarter (a3 t) else a3 t) else (if b1 = true then fop .sub .f64 quarter (a3 t) else a3 t))) := by
    split
    · exact (neg_num h7).fits (by omega)
    · exact h7.fits (by omega)
  exact ⟨_, ⟨⟨_, _, _, _, _, _, _, _, h0, h8, fun w => arith (op := .mul) rfl h0.num rfl w, fun w => arith (op := .mul) rfl h1.num rfl w, fun w => arith (op := .mul) rfl h2.num rfl w,
    fun w => arith (op := .quo) rfl h3.num rfl w, fun w => arith (op := .sub) rfl h4.num rfl w, rfl, fun w => arith (op := .sub) rfl h6.num rfl w, rfl, rfl⟩⟩⟩

set_option maxHeartbeats 4000000 in
set_option maxRecDepth 100000 in
theorem impl_core (x y X Y t r : Nat) (e1 e2 b1 b2 b3 : Bool) (w : World)
    (FX : Hid (∀ w, Calls Try.prog 30 #[.float .f32 x] w fun e w' => e = .returned (.bool true) ∧ w = w'))
    (FY : Hid (∀ w, Calls Try.prog 30 #[.float .f32 y] w fun e w' => e = .returned (.bool true) ∧ w = w'))
    (E1 : (FloatKind.f32.format.order x 0 == some .eq) = e1) (E2 : (FloatKind.f32.format.order y 0 == some .eq) = e2) (hE : (e1 && e2) = false)
    (WX : ∀ w, (convert 22 25 (.float .f32 x)).run Try.prog w = .ok (.float .f64 X) w)
    (WY : ∀ w, (convert 22 25 (.float .f32 y)).run Try.prog w = .ok (.float .f64 Y) w)
    (AX : Hid (X < 18446744073709551616)) (AY : Hid (Y < 18446744073709551616))
    (G : (FloatKind.f64.format.order (Abs.mag63 Y) (Abs.mag63 X) == some .gt) = b1)
    (D : if b1 = true then (∀ w, (binOp .quo 25 (.float .f64 (Abs.mag63 X)) (.float .f64 (Abs.mag63 Y))).run Try.prog w = .ok (.float .f64 t) w)
      else (∀ w, (binOp .quo 25 (.float .f64 (Abs.mag63 Y)) (.float .f64 (Abs.mag63 X))).run Try.prog w = .ok (.float .f64 t) w))
    (T : Hid (Unit t))
    (L2 : (FloatKind.f32.format.order x 0 == some .lt) = b2) (L3 : (FloatKind.f32.format.order y 0 == some .lt) = b3)
    (Z : Tail t b1 b2 b3 r) :
    Calls Try.prog 26 #[.float .f32 y, .float .f32 x] w (FRet .f32 (narrow r) w) := by
  have ks := o_start
  have K0 : (.float .f64 4624633867356078080 : Value) = .float .f64 (oF 0) := by rw [ks]
  clear ks
  have K := Lib.hid K0
  clear K0
  have ke := o_end
  unfold geB one at ke
  obtain ⟨u, a1, a2, a3, a4, a5, a6, a7, hu, fits, m0, m1, m2, m3, m4, e5, m6, e7, e8⟩ := Z
  have V := Lib.hid fits
  have U := Lib.hid hu
  clear fits hu
  generalize hP8 : pA u 8 = p8 at m1
  generalize hT3 : tN t 3 = t3 at m0 m1
  have P8 := Lib.hid hP8
  have T3 := Lib.hid hT3
  clear hP8 hT3
  have TZ : Hid (t = tN t 0) := Lib.hid rfl
  generalize hma : Abs.mag63 Y = a at G D
  generalize hmb : Abs.mag63 X = b at G D
  have A1 : Hid (∀ w, Calls Try.prog 33 #[.float .f64 Y] w fun e w' => e = .returned (.float .f64 a) ∧ w = w') := Lib.hid fun w => by rw [← hma]; exact Abs.abs_any _ _ AY
  have A2 : Hid (∀ w, Calls Try.prog 33 #[.float .f64 X] w fun e w' => e = .returned (.float .f64 b) ∧ w = w') := Lib.hid fun w => by rw [← hmb]; exact Abs.abs_any _ _ AX
  clear hma hmb AX AY
  cases e1 <;> cases e2 <;> first | (exact absurd hE (by decide)) | skip
  all_goals clear hE
  all_goals
    cases b1
    case false =>
      simp only [Bool.false_eq_true, if_false] at D e5
      subst e5
      go_enter Try.func26, Try.ntmps26
      go_wp2_with (first
        | (go_at_call 30; first | (with_reducible refine (FX.out _).mono ?_; rintro e w' ⟨rfl, rfl⟩) | (with_reducible refine (FY.out _).mono ?_; rintro e w' ⟨rfl, rfl⟩))
        | (go_at_call 33; first | (with_reducible refine (A1.out _).mono ?_; rintro e w' ⟨rfl, rfl⟩) | (with_reducible refine (A2.out _).mono ?_; rintro e w' ⟨rfl, rfl⟩)))
      clear E1 E2 WX WY D
      go_loopg [7, 43] 3 (fun g p k wr => ∃ j : Nat, j + g = 3 ∧ p = .float .f64 (tN t j) ∧ k = .int .i64 (j : Int) ∧ ∃ n, wr = w.drewN n)
      case atStart => exact ⟨0, rfl, by rw [← TZ.out], rfl, ⟨0, rfl⟩⟩
      case round =>
        obtain ⟨j, hj, rfl, rfl, n, rfl⟩ := hrel
        by_cases hlt : j < 3
        · obtain ⟨⟨h1, h2, h3, h4, r1, r2, r3, r4, r5⟩⟩ := halve_of (unit_tN T.out j)
          clear m0 m1 m2 m3 m4 m6 e7 e8 G L2 L3 ke
          generalize hh : halve (tN t j) = th at r5
          generalize htj : tN t j = tj at r1 r5
          have HH : Hid (tN t (j + 1) = th) := Lib.hid (by show halve (tN t j) = th; exact hh)
          clear hh htj
          go_wp2_with (go_at_call 43; refine (r3.out _).mono ?_; rintro e w' ⟨rfl, rfl⟩)
          go_roundg (gk - 1)
          case measure => omega
          case rel => exact ⟨j + 1, by omega, by rw [HH.out], by simp, n, rfl⟩
        · obtain rfl : j = 3 := by omega
          clear hj hlt
          have T3' : tN t 3 = t3 := T3.out
          generalize tN t 3 = tt at T3'
          subst T3'
          go_wp2
          go_loopg [9, 10] 8 (fun g p k wr => ∃ j : Nat, j + g = 8 ∧ p = .float .f64 (pA u j) ∧ k = .float .f64 (oF j) ∧ wr = w.drewN n)
          case atStart => exact ⟨0, rfl, rfl, K.out, rfl⟩
          case round =>
            obtain ⟨j, hj, rfl, rfl, rfl⟩ := hrel
            by_cases hlt : j < 8
            · obtain ⟨⟨h1, h2, r1, r2, r3⟩⟩ := term_of U.out hlt
              have ge := o_ge hlt
              unfold geB one at ge
              have k4 := fun w => arith (op := .sub) (x := oF j) (y := 4611686018427387904) rfl (by rw [show fop .sub .f64 (oF j) 4611686018427387904 = oF (j + 1) from o_next hlt]; exact o_num (by omega)) (o_next hlt) w
              clear m0 m1 m2 m3 m4 m6 e7 e8 G L2 L3 ke
              generalize pA u j = pj at r2
              go_wp2
              go_roundg (gk - 1)
              case measure => omega
              case rel => exact ⟨j + 1, by omega, rfl, rfl, rfl⟩
            · obtain rfl : j = 8 := by omega
              clear hj hlt
              have P8' : pA u 8 = p8 := P8.out
              generalize pA u 8 = pp at P8'
              subst P8'
              cases b2 <;> simp only [Bool.false_eq_true, if_false, if_true] at e7 <;> subst e7 <;>
                cases b3 <;> simp only [Bool.false_eq_true, if_false, if_true] at e8 <;> subst e8
              all_goals
                go_wp2_with ((with_reducible refine wpList_narrow SameFloat.some64 Try.underlying22 (by with_unfolding_all rfl) (by with_unfolding_all rfl) V.out ?_); intro t n ht)
                go_ret
                exact fret ht
    case true =>
      simp only [if_true] at D e5
      subst e5
      go_enter Try.func26, Try.ntmps26
      go_wp2_with (first
        | (go_at_call 30; first | (with_reducible refine (FX.out _).mono ?_; rintro e w' ⟨rfl, rfl⟩) | (with_reducible refine (FY.out _).mono ?_; rintro e w' ⟨rfl, rfl⟩))
        | (go_at_call 33; first | (with_reducible refine (A1.out _).mono ?_; rintro e w' ⟨rfl, rfl⟩) | (with_reducible refine (A2.out _).mono ?_; rintro e w' ⟨rfl, rfl⟩))
        | ((with_reducible refine wpList_arith (op := .quo) (x := a) (y := b) (by with_unfolding_all rfl) (by with_unfolding_all rfl) (by with_unfolding_all rfl) (by with_unfolding_all rfl) ?_); intro q nq hq))
      clear E1 E2 WX WY D
      go_loopg [7, 43] 3 (fun g p k wr => ∃ j : Nat, j + g = 3 ∧ p = .float .f64 (tN t j) ∧ k = .int .i64 (j : Int) ∧ ∃ n, wr = w.drewN n)
      case atStart => exact ⟨0, rfl, by rw [← TZ.out], rfl, ⟨_, rfl⟩⟩
      case round =>
        obtain ⟨j, hj, rfl, rfl, n, rfl⟩ := hrel
        by_cases hlt : j < 3
        · obtain ⟨⟨h1, h2, h3, h4, r1, r2, r3, r4, r5⟩⟩ := halve_of (unit_tN T.out j)
          clear m0 m1 m2 m3 m4 m6 e7 e8 G L2 L3 ke
          generalize hh : halve (tN t j) = th at r5
          generalize htj : tN t j = tj at r1 r5
          have HH : Hid (tN t (j + 1) = th) := Lib.hid (by show halve (tN t j) = th; exact hh)
          clear hh htj
          go_wp2_with (go_at_call 43; refine (r3.out _).mono ?_; rintro e w' ⟨rfl, rfl⟩)
          go_roundg (gk - 1)
          case measure => omega
          case rel => exact ⟨j + 1, by omega, by rw [HH.out], by simp, n, rfl⟩
        · obtain rfl : j = 3 := by omega
          clear hj hlt
          have T3' : tN t 3 = t3 := T3.out
          generalize tN t 3 = tt at T3'
          subst T3'
          go_wp2
          go_loopg [9, 10] 8 (fun g p k wr => ∃ j : Nat, j + g = 8 ∧ p = .float .f64 (pA u j) ∧ k = .float .f64 (oF j) ∧ wr = w.drewN n)
          case atStart => exact ⟨0, rfl, rfl, K.out, rfl⟩
          case round =>
            obtain ⟨j, hj, rfl, rfl, rfl⟩ := hrel
            by_cases hlt : j < 8
            · obtain ⟨⟨h1, h2, r1, r2, r3⟩⟩ := term_of U.out hlt
              have ge := o_ge hlt
              unfold geB one at ge
              have k4 := fun w => arith (op := .sub) (x := oF j) (y := 4611686018427387904) rfl (by rw [show fop .sub .f64 (oF j) 4611686018427387904 = oF (j + 1) from o_next hlt]; exact o_num (by omega)) (o_next hlt) w
              clear m0 m1 m2 m3 m4 m6 e7 e8 G L2 L3 ke
              generalize pA u j = pj at r2
              go_wp2
              go_roundg (gk - 1)
              case measure => omega
              case rel => exact ⟨j + 1, by omega, rfl, rfl, rfl⟩
            · obtain rfl : j = 8 := by omega
              clear hj hlt
              have P8' : pA u 8 = p8 := P8.out
              generalize pA u 8 = pp at P8'
              subst P8'
              cases b2 <;> simp only [Bool.false_eq_true, if_false, if_true] at e7 <;> subst e7 <;>
                cases b3 <;> simp only [Bool.false_eq_true, if_false, if_true] at e8 <;> subst e8
              all_goals
                go_wp2_with ((with_reducible refine wpList_narrow SameFloat.some64 Try.underlying22 (by with_unfolding_all rfl) (by with_unfolding_all rfl) V.out ?_); intro t n ht)
                go_ret
                exact fret ht

set_option maxHeartbeats 4000000 in
set_option maxRecDepth 100000 in
theorem spec_core (x y t r : Nat) (e1 e2 b1 b2 b3 : Bool) (w : World)
    (ZX : ∀ w, (binOp .sub 25 (.float .f64 x) (.float .f64 x)).run Try.prog w = .ok (.float .f64 0) w)
    (ZY : ∀ w, (binOp .sub 25 (.float .f64 y) (.float .f64 y)).run Try.prog w = .ok (.float .f64 0) w)
    (E1 : (FloatKind.f64.format.order x 0 == some .eq) = e1) (E2 : (FloatKind.f64.format.order y 0 == some .eq) = e2) (hE : (e1 && e2) = false)
    (AX : Hid (x < 18446744073709551616)) (AY : Hid (y < 18446744073709551616))
    (G : (FloatKind.f64.format.order (Abs.mag63 y) (Abs.mag63 x) == some .gt) = b1)
    (D : if b1 = true then (∀ w, (binOp .quo 25 (.float .f64 (Abs.mag63 x)) (.float .f64 (Abs.mag63 y))).run Try.prog w = .ok (.float .f64 t) w)
      else (∀ w, (binOp .quo 25 (.float .f64 (Abs.mag63 y)) (.float .f64 (Abs.mag63 x))).run Try.prog w = .ok (.float .f64 t) w))
    (T : Hid (Unit t))
    (L2 : (FloatKind.f64.format.order x 0 == some .lt) = b2) (L3 : (FloatKind.f64.format.order y 0 == some .lt) = b3)
    (Z : Tail t b1 b2 b3 r) :
    Calls Try.prog 53 #[.float .f64 y, .float .f64 x] w fun e w' => e = .returned (.float .f64 r) ∧ w = w' := by
  have z0 : (FloatKind.f64.format.order 0 0 != some .eq) = false := by decide +kernel
  obtain ⟨u, a1, a2, a3, a4, a5, a6, a7, hu, fits, m0, m1, m2, m3, m4, e5, m6, e7, e8⟩ := Z
  have U := Lib.hid hu
  clear fits hu
  generalize hP8 : pA u 8 = p8 at m1
  generalize hT3 : tN t 3 = t3 at m0 m1
  have P8 := Lib.hid hP8
  have T3 := Lib.hid hT3
  clear hP8 hT3
  have TZ : Hid (t = tN t 0) := Lib.hid rfl
  generalize hma : Abs.mag63 y = a at G D
  generalize hmb : Abs.mag63 x = b at G D
  have A1 : Hid (∀ w, Calls Try.prog 33 #[.float .f64 y] w fun e w' => e = .returned (.float .f64 a) ∧ w = w') := Lib.hid fun w => by rw [← hma]; exact Abs.abs_any _ _ AY
  have A2 : Hid (∀ w, Calls Try.prog 33 #[.float .f64 x] w fun e w' => e = .returned (.float .f64 b) ∧ w = w') := Lib.hid fun w => by rw [← hmb]; exact Abs.abs_any _ _ AX
  clear hma hmb AX AY
  cases e1 <;> cases e2 <;> first | (exact absurd hE (by decide)) | skip
  all_goals clear hE
  all_goals
    cases b1
    case false =>
      simp only [Bool.false_eq_true, if_false] at D e5
      subst e5
      go_enter Try.func53, Try.ntmps53
      go_wp2_with (first
        | (go_at_call 33; first | (with_reducible refine (A1.out _).mono ?_; rintro e w' ⟨rfl, rfl⟩) | (with_reducible refine (A2.out _).mono ?_; rintro e w' ⟨rfl, rfl⟩)))
      clear E1 E2 ZX ZY z0 D
      go_loopg [8, 9] 3 (fun g p k wr => ∃ j : Nat, j + g = 3 ∧ p = .float .f64 (tN t j) ∧ k = .int .i64 (j : Int) ∧ w = wr)
      case atStart => exact ⟨0, rfl, by rw [← TZ.out], rfl, rfl⟩
      case round =>
        obtain ⟨j, hj, rfl, rfl, rfl⟩ := hrel
        by_cases hlt : j < 3
        · obtain ⟨⟨h1, h2, h3, h4, r1, r2, r3, r4, r5⟩⟩ := halve_of (unit_tN T.out j)
          clear m0 m1 m2 m3 m4 m6 e7 e8 G L2 L3
          generalize hh : halve (tN t j) = th at r5
          generalize htj : tN t j = tj at r1 r5
          have HH : Hid (tN t (j + 1) = th) := Lib.hid (by show halve (tN t j) = th; exact hh)
          clear hh htj
          go_wp2_with (go_at_call 43; refine (r3.out _).mono ?_; rintro e w' ⟨rfl, rfl⟩)
          go_roundg (gk - 1)
          case measure => omega
          case rel => exact ⟨j + 1, by omega, by rw [HH.out], by simp, rfl⟩
        · obtain rfl : j = 3 := by omega
          clear hj hlt
          have T3' : tN t 3 = t3 := T3.out
          generalize tN t 3 = tt at T3'
          subst T3'
          go_wp2
          go_loopg [11, 12] 8 (fun g p k wr => ∃ (j : Nat) (q : Int), j + g = 8 ∧ Hid (q = 15 - 2 * (j : Int)) ∧ -1 ≤ q ∧ q ≤ 15 ∧ p = .float .f64 (pA u j) ∧ k = .int .i64 q ∧ w = wr)
          case atStart => exact ⟨0, 15, rfl, Lib.hid rfl, by omega, by omega, rfl, rfl, rfl⟩
          case round =>
            obtain ⟨j, q, hj, hq, hq0, hq1, rfl, rfl, rfl⟩ := hrel
            by_cases hlt : 1 ≤ q
            · have hj8 : j < 8 := by have := hq.out; omega
              obtain ⟨⟨h1, h2, r1, r2, r3⟩⟩ := term_of U.out hj8
              have r1' : ∀ w, (binOp .quo 25 (.float .f64 4607182418800017408) (.float .f64 (floatOfInt .f64 q))).run Try.prog w = .ok (.float .f64 h1) w := by
                have := hq.out
                rw [this]; exact r1
              clear r1
              clear m0 m1 m2 m3 m4 m6 e7 e8 G L2 L3
              generalize pA u j = pj at r2
              go_wp2
              go_roundg (gk - 1)
              case measure => omega
              case rel => exact ⟨j + 1, q - 2, by omega, Lib.hid (by have := hq.out; omega), by omega, by omega, rfl, rfl, rfl⟩
            · obtain rfl : j = 8 := by have := hq.out; omega
              clear hj
              have P8' : pA u 8 = p8 := P8.out
              generalize pA u 8 = pp at P8'
              subst P8'
              cases b2 <;> simp only [Bool.false_eq_true, if_false, if_true] at e7 <;> subst e7 <;>
                cases b3 <;> simp only [Bool.false_eq_true, if_false, if_true] at e8 <;> subst e8
              all_goals
                go_wp2
                go_ret
                exact ⟨rfl, rfl⟩
    case true =>
      simp only [if_true] at D e5
      subst e5
      go_enter Try.func53, Try.ntmps53
      go_wp2_with (first
        | (go_at_call 33; first | (with_reducible refine (A1.out _).mono ?_; rintro e w' ⟨rfl, rfl⟩) | (with_reducible refine (A2.out _).mono ?_; rintro e w' ⟨rfl, rfl⟩)))
      clear E1 E2 ZX ZY z0 D
      go_loopg [8, 9] 3 (fun g p k wr => ∃ j : Nat, j + g = 3 ∧ p = .float .f64 (tN t j) ∧ k = .int .i64 (j : Int) ∧ w = wr)
      case atStart => exact ⟨0, rfl, by rw [← TZ.out], rfl, rfl⟩
      case round =>
        obtain ⟨j, hj, rfl, rfl, rfl⟩ := hrel
        by_cases hlt : j < 3
        · obtain ⟨⟨h1, h2, h3, h4, r1, r2, r3, r4, r5⟩⟩ := halve_of (unit_tN T.out j)
          clear m0 m1 m2 m3 m4 m6 e7 e8 G L2 L3
          generalize hh : halve (tN t j) = th at r5
          generalize htj : tN t j = tj at r1 r5
          have HH : Hid (tN t (j + 1) = th) := Lib.hid (by show halve (tN t j) = th; exact hh)
          clear hh htj
          go_wp2_with (go_at_call 43; refine (r3.out _).mono ?_; rintro e w' ⟨rfl, rfl⟩)
          go_roundg (gk - 1)
          case measure => omega
          case rel => exact ⟨j + 1, by omega, by rw [HH.out], by simp, rfl⟩
        · obtain rfl : j = 3 := by omega
          clear hj hlt
          have T3' : tN t 3 = t3 := T3.out
          generalize tN t 3 = tt at T3'
          subst T3'
          go_wp2
          go_loopg [11, 12] 8 (fun g p k wr => ∃ (j : Nat) (q : Int), j + g = 8 ∧ Hid (q = 15 - 2 * (j : Int)) ∧ -1 ≤ q ∧ q ≤ 15 ∧ p = .float .f64 (pA u j) ∧ k = .int .i64 q ∧ w = wr)
          case atStart => exact ⟨0, 15, rfl, Lib.hid rfl, by omega, by omega, rfl, rfl, rfl⟩
          case round =>
            obtain ⟨j, q, hj, hq, hq0, hq1, rfl, rfl, rfl⟩ := hrel
            by_cases hlt : 1 ≤ q
            · have hj8 : j < 8 := by have := hq.out; omega
              obtain ⟨⟨h1, h2, r1, r2, r3⟩⟩ := term_of U.out hj8
              have r1' : ∀ w, (binOp .quo 25 (.float .f64 4607182418800017408) (.float .f64 (floatOfInt .f64 q))).run Try.prog w = .ok (.float .f64 h1) w := by
                have := hq.out
                rw [this]; exact r1
              clear r1
              clear m0 m1 m2 m3 m4 m6 e7 e8 G L2 L3
              generalize pA u j = pj at r2
              go_wp2
              go_roundg (gk - 1)
              case measure => omega
              case rel => exact ⟨j + 1, q - 2, by omega, Lib.hid (by have := hq.out; omega), by omega, by omega, rfl, rfl, rfl⟩
            · obtain rfl : j = 8 := by have := hq.out; omega
              clear hj
              have P8' : pA u 8 = p8 := P8.out
              generalize pA u 8 = pp at P8'
              subst P8'
              cases b2 <;> simp only [Bool.false_eq_true, if_false, if_true] at e7 <;> subst e7 <;>
                cases b3 <;> simp only [Bool.false_eq_true, if_false, if_true] at e8 <;> subst e8
              all_goals
                go_wp2
                go_ret
                exact ⟨rfl, rfl⟩
end Go.Proofs.Ytkmbfgnemamlfaa.Angle
