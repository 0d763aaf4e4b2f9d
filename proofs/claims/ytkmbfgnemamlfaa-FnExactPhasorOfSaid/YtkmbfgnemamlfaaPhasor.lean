/- The walks of the program's PhasorOf and of the reference's. -/
import Derived.Test.YtkmbfgnemamlfaaPhasP
import Derived.Test.YtkmbfgnemamlfaaSineT
namespace Go.Proofs.Ytkmbfgnemamlfaa.Phasor
open Go.RowKit Go.Proofs.Ytkmbfgnemamlfaa.FW Go.Proofs.Ytkmbfgnemamlfaa.FT Go.Proofs.Ytkmbfgnemamlfaa.FB Go.Proofs.Ytkmbfgnemamlfaa.SineP Go.Proofs.Ytkmbfgnemamlfaa.Sine Go.Proofs.Ytkmbfgnemamlfaa.SineC Go.Proofs.Ytkmbfgnemamlfaa.PhasP
open Ieee (Datum)

@[go_sem] theorem run_from32 (n : Int) (w : World) : (callFunc 56 #[.int .u32 n]).run Try.prog w = .ok (.value (.float .f32 n.toNat)) w := by
  rw [run_callFunc_extern Try.func56 (by kernel_rfl) (by kernel_rfl) (by kernel_rfl) (e := Extern.MathFloatBits.float32frombits) (by kernel_rfl)]
  rfl

theorem from_any (w : World) : Calls Try.prog 50 #[.int .i64 2143289344] w fun e w' => e = .returned (.float .f32 2143289344) ∧ w = w' := by
  go_enter Try.func50, Try.ntmps50
  go_wp2
  go_ret
  exact ⟨rfl, rfl⟩

theorem narrow_any {x : Nat} (h : Fits x) (w : World) : Calls Try.prog 44 #[.float .f64 x] w (FRet .f32 (narrow x) w) := by
  have h' := Lib.hid h
  clear h
  go_enter Try.func44, Try.ntmps44
  go_wp2_with ((with_reducible refine wpList_narrow SameFloat.some64 Try.underlying22 (by with_unfolding_all rfl) (by with_unfolding_all rfl) h'.out ?_); intro t n ht)
  go_ret
  exact fret ht

/-! ### Finite? -/
theorem finite_no (x : Nat) (w : World) (h : isN .f64 (fop .sub .f64 x x) = true) : Calls Try.prog 37 #[.float .f64 x] w (BRet false w) := by
  have hn := Lib.hid h
  clear h
  go_enter Try.func37, Try.ntmps37
  go_wp2_with ((with_reducible refine wpList_nan (by with_unfolding_all rfl) (by with_unfolding_all rfl) (by with_unfolding_all rfl) (by with_unfolding_all rfl) hn.out ?_); intro r n _ ho)
  go_ret
  exact bret rfl
theorem finite_yes (x : Nat) (w : World) (hz : fop .sub .f64 x x = 0) : Calls Try.prog 37 #[.float .f64 x] w fun e w' => e = .returned (.bool true) ∧ w = w' := by
  have hs := fun w => arith (op := .sub) rfl (by rw [hz]; decide +kernel) hz w
  have hc : (FloatKind.f64.format.order 0 0 == some .eq) = true := by decide +kernel
  clear hz
  go_enter Try.func37, Try.ntmps37
  go_wp2
  go_ret
  exact ⟨rfl, rfl⟩

/-! ### No number -/
theorem impl_nan (x : Nat) (w : World) (h : isN .f64 (fop .sub .f64 x x) = true) : Calls Try.prog 21 #[.float .f64 x] w (CRet .f32 (cnan .f32) (cnan .f32) w) := by
  have F := Lib.hid (fun w => finite_no x w h)
  clear h
  go_enter Try.func21, Try.ntmps21
  go_wp2_with (first
    | (go_at_call 37; refine (F.out _).mono ?_; rintro e w' ⟨n, rfl, rfl⟩)
    | (go_at_call 29; refine (SineT.nan_any _).mono ?_; rintro e w' ⟨rfl, rfl⟩)
    | ((with_reducible refine wpList_narrow SameFloat.some64 Try.underlying22 (by with_unfolding_all rfl) (by with_unfolding_all rfl) (SineT.fits_nan SineT.nan_is) ?_); intro t n ht))
  go_ret
  have : Same .f32 t (cnan .f32) := .inr ⟨by rw [ht.isN]; exact SineT.narrow_nan SineT.nan_is, isN_cnan _⟩
  exact cret this this

theorem spec_nan (x : Nat) (w : World) (h : isN .f64 (fop .sub .f64 x x) = true) : Calls Try.prog 36 #[.float .f64 x] w (CRet .f32 (cnan .f32) (cnan .f32) w) := by
  have hn := Lib.hid h
  clear h
  go_enter Try.func36, Try.ntmps36
  go_wp2_with (first
    | (go_at_call 50; refine (from_any _).mono ?_; rintro e w' ⟨rfl, rfl⟩)
    | ((with_reducible refine wpList_nan (by with_unfolding_all rfl) (by with_unfolding_all rfl) (by with_unfolding_all rfl) (by with_unfolding_all rfl) hn.out ?_); intro r n _ ho))
  go_ret
  have : Same .f32 2143289344 (cnan .f32) := .inr ⟨by decide +kernel, isN_cnan _⟩
  exact cret this this

/-! ### 2 ^ 52 turns or more -/
theorem impl_high (x : Nat) (w : World) (hz : fop .sub .f64 x x = 0) (hx : x < 18446744073709551616) (hg : (FloatKind.f64.format.order (Abs.mag63 x) 4841369599423283200 == some .gt || FloatKind.f64.format.order (Abs.mag63 x) 4841369599423283200 == some .eq) = true) :
    Calls Try.prog 21 #[.float .f64 x] w (CRet .f32 1065353216 0 w) := by
  have F := Lib.hid (fun w => finite_yes x w hz)
  have A := Lib.hid hx
  clear hz hx
  go_enter Try.func21, Try.ntmps21
  go_wp2_with (first
    | (go_at_call 37; refine (F.out _).mono ?_; rintro e w' ⟨rfl, rfl⟩)
    | (go_at_call 33; refine (Abs.abs_any _ _ A).mono ?_; rintro e w' ⟨rfl, rfl⟩))
  go_ret
  exact cret0 (Same.refl _ _) (Same.refl _ _)

theorem spec_high (y : Nat) (w : World) (hz : fop .sub .f64 y y = 0)
    (hg : (FloatKind.f64.format.order y 4841369599423283200 == some .gt || FloatKind.f64.format.order y 4841369599423283200 == some .eq) = true ∨
      ((FloatKind.f64.format.order y 4841369599423283200 == some .gt || FloatKind.f64.format.order y 4841369599423283200 == some .eq) = false ∧
        (FloatKind.f64.format.order y 14064741636278059008 == some .lt || FloatKind.f64.format.order y 14064741636278059008 == some .eq) = true)) :
    Calls Try.prog 36 #[.float .f64 y] w (CRet .f32 1065353216 0 w) := by
  have hs := fun w => arith (op := .sub) rfl (by rw [hz]; decide +kernel) hz w
  have z0 : (FloatKind.f64.format.order 0 0 != some .eq) = false := by decide +kernel
  clear hz
  rcases hg with hg | ⟨hg, hg'⟩
  · go_enter Try.func36, Try.ntmps36
    go_wp2
    go_ret
    exact cret0 (Same.refl _ _) (Same.refl _ _)
  · go_enter Try.func36, Try.ntmps36
    go_wp2
    go_ret
    exact cret0 (Same.refl _ _) (Same.refl _ _)

/-! ### Below -/
/-- What the walk needs of the quarters. -/
structure Quarters (f n : Nat) : Prop where
  le : n ≤ 8
  ge : ∀ i, i < n → (FloatKind.f64.format.order (fS f i) 4598175219545276416 == some .gt || FloatKind.f64.format.order (fS f i) 4598175219545276416 == some .eq) = true
  stop : (FloatKind.f64.format.order (fS f n) 4598175219545276416 == some .gt || FloatKind.f64.format.order (fS f n) 4598175219545276416 == some .eq) = false
  step : ∀ i, i < n → ∀ w, (binOp .sub 25 (.float .f64 (fS f i)) (.float .f64 4598175219545276416)).run Try.prog w = .ok (.float .f64 (fS f (i + 1))) w

theorem quarters {f : Nat} (h : Bd f 5001) : ∃ n, Quarters f n ∧ Bd (fS f n) 5001 := by
  obtain ⟨n, h1, h2, h3⟩ := stops h
  exact ⟨n, ⟨h1, h2, h3, fun i hi w => arith (op := .sub) rfl (left_bd h (j := i + 1) (by omega) (fun k hk => h2 k (by omega))).num rfl w⟩, left_bd h h1 h2⟩

set_option maxHeartbeats 4000000 in
set_option maxRecDepth 100000 in
theorem impl_core (x f n g c s c' s' : Nat) (w : World)
    (F : Hid (∀ w, Calls Try.prog 37 #[.float .f64 x] w fun e w' => e = .returned (.bool true) ∧ w = w'))
    (A : Hid (x < 18446744073709551616))
    (hg : (FloatKind.f64.format.order (Abs.mag63 x) 4841369599423283200 == some .gt || FloatKind.f64.format.order (Abs.mag63 x) 4841369599423283200 == some .eq) = false)
    (R : Hid (∀ w, Calls Try.prog 38 #[.float .f64 x] w fun e w' => e = .returned (.float .f64 f) ∧ w = w'))
    (Q : Hid (Quarters f n))
    (G : ∀ w, (binOp .sub 25 (.float .f64 4598175219545276416) (.float .f64 (fS f n))).run Try.prog w = .ok (.float .f64 g) w)
    (C : Hid (∀ w, Calls Try.prog 34 #[.float .f64 g] w fun e w' => e = .returned (.float .f64 c) ∧ w = w'))
    (S : Hid (∀ w, Calls Try.prog 34 #[.float .f64 (fS f n)] w fun e w' => e = .returned (.float .f64 s) ∧ w = w'))
    (C' : ∀ w, (binOp .sub 25 (.float .f64 0) (.float .f64 c)).run Try.prog w = .ok (.float .f64 c') w)
    (S' : ∀ w, (binOp .sub 25 (.float .f64 0) (.float .f64 s)).run Try.prog w = .ok (.float .f64 s') w)
    (hc : Hid (Fits c)) (hs : Hid (Fits s)) (hc' : Hid (Fits c')) (hs' : Hid (Fits s')) :
    Calls Try.prog 21 #[.float .f64 x] w (CRet .f32 (narrow (pickRe n c s c' s')) (narrow (pickIm n c s c' s')) w) := by
  go_enter Try.func21, Try.ntmps21
  go_wp2_with (first
    | (go_at_call 37; refine (F.out _).mono ?_; rintro e w' ⟨rfl, rfl⟩)
    | (go_at_call 38; refine (R.out _).mono ?_; rintro e w' ⟨rfl, rfl⟩)
    | (go_at_call 33; refine (Abs.abs_any _ _ A).mono ?_; rintro e w' ⟨rfl, rfl⟩))
  go_loopg [4, 5] n (fun g p k wr => ∃ j : Nat, j + g = n ∧ p = .float .f64 (fS f j) ∧ k = .int .i64 (j : Int) ∧ wr = w)
  case atStart => exact ⟨0, by omega, rfl, rfl, rfl⟩
  case round =>
    obtain ⟨j, hj, rfl, rfl, rfl⟩ := hrel
    by_cases hlt : j < n
    · have q1 := Q.out.ge j hlt
      have q2 := Q.out.step j hlt
      have q3 := Q.out.le
      clear G C S C' S' hc hs hc' hs'
      generalize hfj : fS f j = fj at q1 q2
      generalize hfk : fS f (j + 1) = fk at q2
      have H := Lib.hid hfk
      clear hfk hfj
      go_wp2
      go_roundg (gk - 1)
      case measure => omega
      case rel => exact ⟨j + 1, by omega, by rw [H.out], by simp, rfl⟩
    · obtain rfl : j = n := by omega
      have q1 := Q.out.stop
      have q3 := Q.out.le
      clear hj hlt Q
      generalize fS f j = fj at *
      have : j = 0 ∨ j = 1 ∨ j = 2 ∨ j = 3 ∨ j = 4 ∨ j = 5 ∨ j = 6 ∨ j = 7 ∨ j = 8 := by omega
      clear q3
      rcases this with rfl | rfl | rfl | rfl | rfl | rfl | rfl | rfl | rfl
      all_goals
        go_wp2_with (first
          | (go_at_call 34; first | (with_reducible refine (C.out _).mono ?_; rintro e w' ⟨rfl, rfl⟩) | (with_reducible refine (S.out _).mono ?_; rintro e w' ⟨rfl, rfl⟩))
          | ((with_reducible refine wpList_narrow SameFloat.some64 Try.underlying22 (by with_unfolding_all rfl) (by with_unfolding_all rfl) (by first | exact hc.out | exact hs.out | exact hc'.out | exact hs'.out) ?_); intro t n ht))
        go_ret
        exact cret (by assumption) (by assumption)

set_option maxHeartbeats 4000000 in
set_option maxRecDepth 100000 in
theorem spec_core (x d g0 f n g c s c' s' : Nat) (b0 : Bool) (m : Int) (w : World)
    (Z : ∀ w, (binOp .sub 25 (.float .f64 x) (.float .f64 x)).run Try.prog w = .ok (.float .f64 0) w)
    (L1 : (FloatKind.f64.format.order x 4841369599423283200 == some .gt || FloatKind.f64.format.order x 4841369599423283200 == some .eq) = false)
    (L2 : (FloatKind.f64.format.order x 14064741636278059008 == some .lt || FloatKind.f64.format.order x 14064741636278059008 == some .eq) = false)
    (I : ∀ w, (convert 25 2 (.float .f64 x)).run Try.prog w = .ok (.int .i64 m) w)
    (D : ∀ w, (binOp .sub 25 (.float .f64 x) (.float .f64 (floatOfInt .f64 m))).run Try.prog w = .ok (.float .f64 d) w)
    (T0 : (FloatKind.f64.format.order d 0 == some .lt) = b0)
    (S0 : ∀ w, (binOp .add 25 (.float .f64 d) (.float .f64 4607182418800017408)).run Try.prog w = .ok (.float .f64 g0) w)
    (E0 : f = if b0 = true then g0 else d)
    (Q : Hid (Quarters f n))
    (G : ∀ w, (binOp .sub 25 (.float .f64 4598175219545276416) (.float .f64 (fS f n))).run Try.prog w = .ok (.float .f64 g) w)
    (C : Hid (∀ w, Calls Try.prog 47 #[.float .f64 g] w fun e w' => e = .returned (.float .f64 c) ∧ w = w'))
    (S : Hid (∀ w, Calls Try.prog 47 #[.float .f64 (fS f n)] w fun e w' => e = .returned (.float .f64 s) ∧ w = w'))
    (C' : ∀ w, (binOp .sub 25 (.float .f64 0) (.float .f64 c)).run Try.prog w = .ok (.float .f64 c') w)
    (S' : ∀ w, (binOp .sub 25 (.float .f64 0) (.float .f64 s)).run Try.prog w = .ok (.float .f64 s') w)
    (hc : Hid (Fits c)) (hs : Hid (Fits s)) (hc' : Hid (Fits c')) (hs' : Hid (Fits s')) :
    Calls Try.prog 36 #[.float .f64 x] w (CRet .f32 (narrow (pickRe n c s c' s')) (narrow (pickIm n c s c' s')) w) := by
  have z0 : (FloatKind.f64.format.order 0 0 != some .eq) = false := by decide +kernel
  cases b0 <;> simp only [Bool.false_eq_true, if_false, if_true] at E0 <;> subst E0
  all_goals
    go_enter Try.func36, Try.ntmps36
    go_wp2
    clear Z L1 L2 I D T0 S0 z0
    go_loopg [3, 4] n (fun g p k wr => ∃ j : Nat, j + g = n ∧ p = .float .f64 (fS f j) ∧ k = .int .i64 (j : Int) ∧ wr = w)
    case atStart => exact ⟨0, by omega, rfl, rfl, rfl⟩
    case round =>
      obtain ⟨j, hj, rfl, rfl, rfl⟩ := hrel
      by_cases hlt : j < n
      · have q1 := Q.out.ge j hlt
        have q2 := Q.out.step j hlt
        have q3 := Q.out.le
        clear G C S C' S' hc hs hc' hs'
        generalize hfj : fS f j = fj at q1 q2
        generalize hfk : fS f (j + 1) = fk at q2
        have H := Lib.hid hfk
        clear hfk hfj
        go_wp2
        go_roundg (gk - 1)
        case measure => omega
        case rel => exact ⟨j + 1, by omega, by rw [H.out], by simp, rfl⟩
      · obtain rfl : j = n := by omega
        have q1 := Q.out.stop
        have q3 := Q.out.le
        clear hj hlt Q
        generalize fS f j = fj at *
        have : j = 0 ∨ j = 1 ∨ j = 2 ∨ j = 3 ∨ j = 4 ∨ j = 5 ∨ j = 6 ∨ j = 7 ∨ j = 8 := by omega
        clear q3
        rcases this with rfl | rfl | rfl | rfl | rfl | rfl | rfl | rfl | rfl
        all_goals
          go_wp2_with (first
            | (go_at_call 47; first | (with_reducible refine (C.out _).mono ?_; rintro e w' ⟨rfl, rfl⟩) | (with_reducible refine (S.out _).mono ?_; rintro e w' ⟨rfl, rfl⟩))
            | (go_at_call 44; (first | (with_reducible refine (narrow_any hc.out _).mono ?_) | (with_reducible refine (narrow_any hs.out _).mono ?_) | (with_reducible refine (narrow_any hc'.out _).mono ?_) | (with_reducible refine (narrow_any hs'.out _).mono ?_)); rintro e w' ⟨t, n, rfl, ht, rfl⟩))
          go_ret
          exact cret (by assumption) (by assumption)

/-! ### Both -/
theorem sub_self_inf {x : Nat} {s : Bool} (hd : Ieee.double.read x = .infinity s) : isN .f64 (fop .sub .f64 x x) = true := by
  have : fop .sub .f64 x x = cnan .f64 := by
    unfold fop floatBits
    show ((((Ieee.double.read x).sum (Ieee.double.read x).opposite)).map Ieee.double.write).getD _ = _
    rw [hd]
    cases s <;> rfl
  rw [this]; exact isN_cnan _

theorem sub_self_nan {x : Nat} (h : ∀ s v, ¬ N64 x s v) : isN .f64 (fop .sub .f64 x x) = true := by
  rcases Nat.lt_or_ge (x % Ieee.double.signWeight) Ieee.double.infRung with h1 | h1
  · exact absurd (read_num good_double h1) (h _ _)
  · rcases Nat.lt_or_ge Ieee.double.infRung (x % Ieee.double.signWeight) with h2 | h2
    · rw [fop_nan_left _ _ _ (isN_of .f64 x h2)]; exact isN_cnan _
    · have h' : x % Ieee.double.signWeight = Ieee.double.infRung := by omega
      have hb : Ieee.double.binade ≤ Ieee.double.infRung := by decide
      have hr : ∃ s, Ieee.double.read x = .infinity s := by
        unfold Ieee.Format.read
        simp only [h']
        rw [if_neg (by omega), if_neg (by omega)]
        simp only [if_true]
        exact ⟨_, rfl⟩
      obtain ⟨s, hr⟩ := hr
      exact sub_self_inf hr

theorem both (x : Nat) (hx : x < 18446744073709551616) : ∃ a b, (∀ w, Calls Try.prog 36 #[.float .f64 x] w (CRet .f32 a b w)) ∧ (∀ w, Calls Try.prog 21 #[.float .f64 x] w (CRet .f32 a b w)) := by
  by_cases h : ∃ s v, N64 x s v
  · obtain ⟨s, v, h⟩ := h
    have hz := sub_self64 h
    rcases Nat.lt_or_ge v (p2 5052) with hv | hv
    · have hsm : Small x := ⟨s, v, h, hv⟩
      have hd := bd_fracD hsm
      have hf := bd_fracF hsm
      have s0 := hd.add b_one (by omega) (by omega)
      obtain ⟨n, hq, hb⟩ := quarters hf
      have hg := (b_quarter.up (L := 5001) (by omega)).sub hb (by omega) (by omega)
      have bc := bd_sine (PhasP.Bd.small hg (by omega))
      have bs := bd_sine (PhasP.Bd.small hb (by omega))
      have bc' := (b_zero 5110).sub bc (by omega) (by omega)
      have bs' := (b_zero 5110).sub bs (by omega) (by omega)
      obtain ⟨l1, l2⟩ := not_high hsm
      have HS := fun w => spec_core x (fracD x) _ (fracF x) n _ _ _ _ _ (ltB (fracD x) 0) (tr x) w
          (fun w => arith (op := .sub) rfl (by rw [hz]; decide +kernel) hz w) l1 l2 (fun w => conv_int (tr_some hsm) w) (fun w => arith (op := .sub) rfl hd.num rfl w) rfl
          (fun w => arith (op := .add) rfl s0.num rfl w) rfl (Lib.hid hq) (fun w => arith (op := .sub) rfl hg.num rfl w)
          (Lib.hid fun w => SineC.spec_any _ w (PhasP.Bd.small hg (by omega))) (Lib.hid fun w => SineC.spec_any _ w (PhasP.Bd.small hb (by omega)))
          (fun w => arith (op := .sub) rfl bc'.num rfl w) (fun w => arith (op := .sub) rfl bs'.num rfl w)
          (Lib.hid (bc.fits (by omega))) (Lib.hid (bs.fits (by omega))) (Lib.hid (bc'.fits (by omega))) (Lib.hid (bs'.fits (by omega)))
      have HI := fun w => impl_core x (fracF x) n _ _ _ _ _ w (Lib.hid fun w => finite_yes x w hz) (Lib.hid hx) (SineT.low_impl hsm) (Lib.hid fun w => frac_any x w hsm)
          (Lib.hid hq) (fun w => arith (op := .sub) rfl hg.num rfl w)
          (Lib.hid fun w => SineC.impl_any _ w (PhasP.Bd.small hg (by omega))) (Lib.hid fun w => SineC.impl_any _ w (PhasP.Bd.small hb (by omega)))
          (fun w => arith (op := .sub) rfl bc'.num rfl w) (fun w => arith (op := .sub) rfl bs'.num rfl w)
          (Lib.hid (bc.fits (by omega))) (Lib.hid (bs.fits (by omega))) (Lib.hid (bc'.fits (by omega))) (Lib.hid (bs'.fits (by omega)))
      exact ⟨_, _, HS, HI⟩
    · exact ⟨_, _, fun w => spec_high x w hz (SineT.high_spec h hv), fun w => impl_high x w hz hx (SineT.high_impl h hv)⟩
  · have hn := sub_self_nan (x := x) (fun s v hv => h ⟨s, v, hv⟩)
    exact ⟨_, _, fun w => spec_nan x w hn, fun w => impl_nan x w hn⟩

theorem some_c64 : (Try.prog.underlying 31).isSome = true := by rw [Try.underlying31]; rfl

theorem same_complex (a b c d : Nat) (w : World) (h : Same .f64 a c) (g : Same .f64 b d) :
    Calls Try.prog 22 #[.complex .f64 a b, .complex .f64 c d] w (BRet true w) := by
  have h' := Lib.hid h
  have g' := Lib.hid g
  clear h g
  go_enter Try.func22, Try.ntmps22
  go_wp2_with (go_at_call 12; refine (SameFloat.any _ _ _ (by first | exact h'.out | exact g'.out)).mono ?_; rintro e w' ⟨n, rfl, rfl⟩)
  go_ret
  exact bret rfl

theorem wide_eq {a b r s : Nat} (h1 : Same .f64 r (wide a)) (h2 : Same .f64 s (wide b)) (h : Same .f32 a b) : Same .f64 r s := by
  rw [wide_same h] at h1
  exact h1.trans h2.symm

/-- The law's walk. -/
theorem walk (a0 : Nat) (w : World) (hwf : (Lit.float .f64 a0).wf = true) :
    Calls Try.prog 7 #[.float .f64 a0] w fun e w' => e = .returned (.bool true) ∧ Below w.heap.size w w' := by
  have hx : a0 < 18446744073709551616 := by
    have := of_decide_eq_true hwf; exact this
  obtain ⟨a, b, S, I⟩ := both a0 hx
  have S' := Lib.hid S
  have I' := Lib.hid I
  clear S I hx hwf
  go_enter Try.func7, Try.ntmps7
  go_wp2_with (first
    | (go_at_call 20; go_in)
    | (go_at_call 36; refine (S'.out _).mono ?_; rintro e w' ⟨r, i, n, rfl, hr, hi, rfl⟩)
    | (go_at_call 21; refine (I'.out _).mono ?_; rintro e w' ⟨r', i', n, rfl, hr', hi', rfl⟩)
    | ((with_reducible refine wpList_cwide some_c64 Try.underlying34 (by with_unfolding_all rfl) (by with_unfolding_all rfl) ?_); intro u v n hu hv)
    | (go_at_call 22; refine (same_complex _ _ _ _ _ (wide_eq (by assumption) (by assumption) (hr'.trans hr.symm)) (wide_eq (by assumption) (by assumption) (hi'.trans hi.symm))).mono ?_; rintro e w' ⟨n, rfl, rfl⟩))
  all_goals (go_ret; exact ⟨rfl, below_drewN (Below.refl _ _) _⟩)
end Go.Proofs.Ytkmbfgnemamlfaa.Phasor
