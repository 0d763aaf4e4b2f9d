/- The walk of FnPowers. -/
import Derived.Test.YtkmbfgnemamlfaaPowE
import Derived.Test.YtkmbfgnemamlfaaLogT
import Derived.Test.YtkmbfgnemamlfaaSlB
namespace Go.Proofs.Ytkmbfgnemamlfaa.PowT
open Go.RowKit Go.Proofs.Ytkmbfgnemamlfaa.FW Go.Proofs.Ytkmbfgnemamlfaa.FT Go.Proofs.Ytkmbfgnemamlfaa.FB Go.Proofs.Ytkmbfgnemamlfaa.SineP Go.Proofs.Ytkmbfgnemamlfaa.Sine Go.Proofs.Ytkmbfgnemamlfaa.SineT Go.Proofs.Ytkmbfgnemamlfaa.F32 Go.Proofs.Ytkmbfgnemamlfaa.AngleT Go.Proofs.Ytkmbfgnemamlfaa.PhasP Go.Proofs.Ytkmbfgnemamlfaa.LogP Go.Proofs.Ytkmbfgnemamlfaa.LogS Go.Proofs.Ytkmbfgnemamlfaa.TenP Go.Proofs.Ytkmbfgnemamlfaa.PowP Go.Proofs.Ytkmbfgnemamlfaa.PowQ Go.Proofs.Ytkmbfgnemamlfaa.PowE
open Ieee (Datum)

/-! ### The law's own helpers -/
theorem long_any (a : Option Addr) (n c : Nat) (a' : Option Addr) (n' c' : Nat) (b : Bool) (w : World) (h : (decide (1048576 < (n : Int)) || decide (1048576 < (n' : Int))) = b) :
    Calls Try.prog 13 #[.slice a n c, .slice a' n' c'] w fun e w' => e = .returned (.bool b) ∧ w = w' := by
  cases d1 : decide (1048576 < (n : Int)) with
  | true =>
    rw [d1] at h
    subst h
    go_enter Try.func13, Try.ntmps13
    go_wp2
    go_ret
    exact ⟨rfl, rfl⟩
  | false =>
    rw [d1] at h
    cases d2 : decide (1048576 < (n' : Int)) with
    | true =>
      rw [d2] at h
      subst h
      go_enter Try.func13, Try.ntmps13
      go_wp2
      go_ret
      exact ⟨rfl, rfl⟩
    | false =>
      rw [d2] at h
      subst h
      go_enter Try.func13, Try.ntmps13
      go_wp2
      go_ret
      exact ⟨rfl, rfl⟩

theorem ret_int {k : IntKind} {a b : Int} (h : a = b) : Ending.returned (.int k a) = .returned (.int k b) := by rw [h]
def Small65 (w : World) (e : Ending) (w' : World) : Prop := ∃ i : Nat, i < 65 ∧ e = .returned (.int .i64 (i : Int)) ∧ w = w'

theorem at_any (a : Option Addr) (n c : Nat) (f : Nat → Int) (w : World) (R : SlB.Rd w a n f) :
    Calls Try.prog 14 #[.slice a n c, .int .i64 0, .int .i64 65] w (Small65 w) := by
  rcases Nat.eq_zero_or_pos n with rfl | hn
  · clear R
    go_enter Try.func14, Try.ntmps14
    go_wp2
    go_ret
    exact ⟨11, by omega, rfl, rfl⟩
  · obtain ⟨h0, h1, b, off, rfl, hb, hc⟩ := R 0 hn
    clear R
    generalize f 0 = v at *
    rw [Nat.add_zero] at hc
    go_enter Try.func14, Try.ntmps14
    go_wp2
    go_ret
    exact ⟨(v % 65).toNat, by omega, ret_int (by omega), rfl⟩

theorem gap_any (u v r : Nat) (w : World) (h : num (gapF u v) = true) (hr : gapF u v = r) :
    Calls Try.prog 15 #[.float .f64 u, .float .f64 v] w fun e w' => e = .returned (.float .f64 r) ∧ w = w' := by
  have hn : isN .f64 (gapF u v) = false := by unfold num at h; simpa using h
  clear h
  unfold gapF at hn hr
  cases hl : ltB u v with
  | true =>
    rw [if_pos hl] at hn hr
    have m := fun w => arith (op := .sub) rfl hn hr w
    unfold ltB at hl
    clear hn hr
    go_enter Try.func15, Try.ntmps15
    go_wp2
    go_ret
    exact ⟨rfl, rfl⟩
  | false =>
    rw [if_neg (by rw [hl]; decide)] at hn hr
    have m := fun w => arith (op := .sub) rfl hn hr w
    unfold ltB at hl
    clear hn hr
    go_enter Try.func15, Try.ntmps15
    go_wp2
    go_ret
    exact ⟨rfl, rfl⟩

/-! ### The logarithm of an exponential -/
theorem scale_at {x n m : Nat} (h : ∃ v, N64 x false v ∧ v ≤ p2 5128 ∧ p2 4851 ≤ v) (hn : n ≤ 128) (hm : m ≤ 149) (hb : scB x n m = true) :
    Log.Scale x (dN x n) n m ∧ ∃ v, N64 (uN (dN x n) m) false v ∧ v ≤ p2 5001 := by
  unfold scB at hb
  simp only [Bool.and_eq_true, Bool.not_eq_true'] at hb
  obtain ⟨⟨⟨g1, g2⟩, g3⟩, g4⟩ := hb
  have h2 : ∀ i, i < n → geB (dN x i) c15 = true := fun i hi => at_all g1 hi
  have h3 : ∀ i, i < m → ltB (uN (dN x n) i) c075 = true := fun i hi => at_all g3 hi
  obtain ⟨v, hv1, hv2, hv3⟩ := down h n hn h2
  obtain ⟨p1, p2', p3⟩ := p4998
  have h4 : ¬ 6 * p2 4998 ≤ v := by rw [ge_c15 hv1, decide_eq_false_iff_not] at g2; exact g2
  have hmid : ∃ v, N64 (dN x n) false v ∧ v ≤ p2 5001 ∧ p2 4851 ≤ v := ⟨v, hv1, by omega, hv3⟩
  obtain ⟨u, hu1, hu2, _⟩ := upward hmid m hm h3
  exact ⟨⟨hn, h2, g2, fun i hi => fun w => arith (op := .quo) rfl (dN_num h (j := i + 1) (by omega) (fun k hk => h2 k (by omega))) rfl w, rfl,
    hm, h3, g4, fun i hi => fun w => arith (op := .mul) rfl (uN_num hmid (j := i + 1) (by omega) (fun k hk => h3 k (by omega))) rfl w⟩, u, hu1, hu2⟩

theorem pos_num {x : Nat} (h' : rg x < 2139095040) (ho : FloatKind.f32.format.order x 0 = some .gt) : ∃ v, N64 (wide x) false v ∧ v ≤ p2 5128 ∧ p2 4851 ≤ v := by
  have nx := n_wide h'
  rw [order_zero32 h'] at ho
  have e : compare (iv (sg x) (val Ieee.single (rg x))) (iv false 0) = .gt := by injection ho
  have hgt := Int.compare_eq_gt.1 e
  have hs : sg x = false := by
    cases hs : sg x with
    | false => rfl
    | true => rw [hs] at hgt; unfold iv at hgt; simp only [Bool.false_eq_true, if_false, if_true] at hgt; omega
  rw [hs] at nx hgt
  have h0 : 0 < val Ieee.single (rg x) := by unfold iv at hgt; simp only [Bool.false_eq_true, if_false] at hgt; omega
  have hr0 : rg x ≠ 0 := by
    intro hz; rw [hz, val_zero] at h0; omega
  exact ⟨_, nx, Nat.le_of_lt (single_lt (w := x) h'), LogT.val_ge hr0⟩

theorem all_rg : (List.range 129).all (fun k => decide (rg (eT k) < 2139095040)) = true := by decide +kernel

theorem log_at {i : Nat} (hi : i < 65) (w : World) : Calls Try.prog 16 #[.float .f32 (eT (i + 32))] w (FRet .f32 (gT i) w) := by
  have hz := at_all all_z (i := i + 32) (by omega)
  have hl := at_all all_log hi
  have hrg : rg (eT (i + 32)) < 2139095040 := of_decide_eq_true (at_all all_rg (i := i + 32) (by omega))
  unfold logB at hl
  simp only [Bool.and_eq_true, beq_iff_eq, Bool.not_eq_true', decide_eq_true_eq] at hz hl
  obtain ⟨⟨⟨⟨⟨⟨⟨⟨⟨⟨z1, z2⟩, z3⟩, z4⟩, z5⟩, z6⟩, z7⟩, z8⟩, z9⟩, z10⟩, z11⟩ := hz
  obtain ⟨⟨⟨⟨⟨⟨⟨⟨l1, l2⟩, l3⟩, l4⟩, l5⟩, l6⟩, l7⟩, l8'⟩, l9⟩ := hl
  rw [← z2] at l1 l2
  have hX := pos_num hrg z11
  obtain ⟨hS, hy⟩ := scale_at hX (by omega) (by omega) l1
  have hnm : ((nT i : Int) - (mT i : Int)).natAbs < 256 := by omega
  obtain ⟨Z⟩ := Log.tail_of hy hnm
  have hf : Fits (l8 (uN (dN (wide (eT (i + 32))) (nT i)) (mT i)) ((nT i : Int) - (mT i : Int))) := (bd_log' hy hnm).fits (by omega)
  rw [← l2]
  exact LogT.impl_pos _ _ w (by rw [z11]; rfl) (by rw [z11]; rfl) (by rw [order_self z6]; rfl) hrg hf fun w => Log.impl_core _ _ _ _ _ _ _ w (Lib.hid hS) rfl (Lib.hid rfl) Z

/-- What the law asks of the float32 numbers. -/
theorem x_run {i : Nat} (hi : i < 65) (w : World) : (binOp .quo 22 (.float .f32 (floatOfInt .f32 ((i : Int) - 32))) (.float .f32 1090519040)).run Try.prog w = .ok (.float .f32 (zT (i + 32))) w := by
  have hz := at_all all_z (i := i + 32) (by omega)
  simp only [Bool.and_eq_true, beq_iff_eq, Bool.not_eq_true'] at hz
  obtain ⟨⟨⟨⟨⟨⟨⟨⟨⟨⟨z1, z2⟩, z3⟩, z4⟩, z5⟩, z6⟩, z7⟩, z8⟩, z9⟩, z10⟩, z11⟩ := hz
  have e : fop .quo .f32 (floatOfInt .f32 ((i : Int) - 32)) 1090519040 = zT (i + 32) := by
    rw [← z1]; unfold zw eight32
    rw [show ((i + 32 : Nat) : Int) - 64 = (i : Int) - 32 from by omega]
  have := run_exact (P := Try.prog) (op := .quo) rfl (k := .f32) (x := floatOfInt .f32 ((i : Int) - 32)) (y := 1090519040) (by rw [e]; exact z8) 22 w
  rw [e] at this; exact this
theorem add_run {i j : Nat} (hi : i < 65) (hj : j < 65) (w : World) : (binOp .add 22 (.float .f32 (zT (i + 32))) (.float .f32 (zT (j + 32)))).run Try.prog w = .ok (.float .f32 (zT (i + j))) w := by
  have hz := at_all all_z (i := i + j) (by omega)
  simp only [Bool.and_eq_true, beq_iff_eq, Bool.not_eq_true'] at hz
  obtain ⟨⟨⟨⟨⟨⟨⟨⟨⟨⟨z1, z2⟩, z3⟩, z4⟩, z5⟩, z6⟩, z7⟩, z8⟩, z9⟩, z10⟩, z11⟩ := hz
  have e : fop .add .f32 (zT (i + 32)) (zT (j + 32)) = zT (i + j) := by
    have := at_all (at_all all_add hi) hj
    exact beq_iff_eq.1 this
  have := run_exact (P := Try.prog) (op := .add) rfl (k := .f32) (x := zT (i + 32)) (y := zT (j + 32)) (by rw [e]; exact z8) 22 w
  rw [e] at this; exact this

/-- What the walk needs of two places. -/
structure Need (X Y Z A B C L XW LW AW BW CW P KC G1 G2 : Nat) : Prop where
  x2 : ∀ w, (binOp .add 22 (.float .f32 X) (.float .f32 Y)).run Try.prog w = .ok (.float .f32 Z) w
  ex : ∀ w, Calls Try.prog 11 #[.float .f32 X] w fun e w' => e = .returned (.float .f32 A) ∧ w = w'
  ey : ∀ w, Calls Try.prog 11 #[.float .f32 Y] w fun e w' => e = .returned (.float .f32 B) ∧ w = w'
  ez : ∀ w, Calls Try.prog 11 #[.float .f32 Z] w fun e w' => e = .returned (.float .f32 C) ∧ w = w'
  e0 : ∀ w, Calls Try.prog 11 #[.float .f32 0] w fun e w' => e = .returned (.float .f32 1065353216) ∧ w = w'
  lx : ∀ w, Calls Try.prog 16 #[.float .f32 A] w (FRet .f32 L w)
  l1 : ∀ w, Calls Try.prog 16 #[.float .f32 1065353216] w (FRet .f32 0 w)
  cl : ∀ w, (convert 22 25 (.float .f32 L)).run Try.prog w = .ok (.float .f64 LW) w
  cx : ∀ w, (convert 22 25 (.float .f32 X)).run Try.prog w = .ok (.float .f64 XW) w
  ca : ∀ w, (convert 22 25 (.float .f32 A)).run Try.prog w = .ok (.float .f64 AW) w
  cb : ∀ w, (convert 22 25 (.float .f32 B)).run Try.prog w = .ok (.float .f64 BW) w
  cc : ∀ w, (convert 22 25 (.float .f32 C)).run Try.prog w = .ok (.float .f64 CW) w
  mp : ∀ w, (binOp .mul 25 (.float .f64 AW) (.float .f64 BW)).run Try.prog w = .ok (.float .f64 P) w
  mc : ∀ w, (binOp .mul 25 (.float .f64 4562254508917369340) (.float .f64 CW)).run Try.prog w = .ok (.float .f64 KC) w
  g1 : ∀ w, Calls Try.prog 15 #[.float .f64 LW, .float .f64 XW] w fun e w' => e = .returned (.float .f64 G1) ∧ w = w'
  g2 : ∀ w, Calls Try.prog 15 #[.float .f64 P, .float .f64 CW] w fun e w' => e = .returned (.float .f64 G2) ∧ w = w'
  t1 : (FloatKind.f64.format.order G1 4562254508917369340 == some .lt) = true
  t2 : (FloatKind.f64.format.order G2 KC == some .lt) = true
  t3 : (FloatKind.f32.format.order A 0 == some .gt) = true
  nL : isN .f32 L = false

theorem need_of {i j : Nat} (hi : i < 65) (hj : j < 65) : ∃ A B C L XW LW AW BW CW P KC G1 G2, Need (zT (i + 32)) (zT (j + 32)) (zT (i + j)) A B C L XW LW AW BW CW P KC G1 G2 := by
  have hzi := at_all all_z (i := i + 32) (by omega)
  have hzj := at_all all_z (i := j + 32) (by omega)
  have hzk := at_all all_z (i := i + j) (by omega)
  have hl := at_all all_log hi
  have hp := at_all (at_all all_pair hi) hj
  unfold logB at hl
  unfold pairB at hp
  simp only [Bool.and_eq_true, beq_iff_eq, Bool.not_eq_true', decide_eq_true_eq] at hzi hzj hzk hl hp
  obtain ⟨⟨⟨⟨⟨⟨⟨⟨⟨⟨z1, z2⟩, z3⟩, z4⟩, z5⟩, z6⟩, z7⟩, z8⟩, z9⟩, z10⟩, z11⟩ := hzi
  obtain ⟨⟨⟨⟨⟨⟨⟨⟨⟨⟨y1, y2⟩, y3⟩, y4⟩, y5⟩, y6⟩, y7⟩, y8⟩, y9⟩, y10⟩, y11⟩ := hzj
  obtain ⟨⟨⟨⟨⟨⟨⟨⟨⟨⟨k1, k2⟩, k3⟩, k4⟩, k5⟩, k6⟩, k7⟩, k8⟩, k9⟩, k10⟩, k11⟩ := hzk
  obtain ⟨⟨⟨⟨⟨⟨⟨⟨l1, l2⟩, l3⟩, l4⟩, l5⟩, l6⟩, l7⟩, l8'⟩, l9⟩ := hl
  obtain ⟨⟨p1, p2'⟩, p3⟩ := hp
  have hz0 : zT 64 = 0 := by decide
  have he0 : eT 64 = 1065353216 := by decide
  have hg0 : gT 32 = 0 := by decide
  have e0 := fun w => exp_at (k := 64) (by omega) w
  have g0 := fun w => log_at (i := 32) (by omega) w
  rw [hz0, he0] at e0
  rw [he0, hg0] at g0
  refine ⟨_, _, _, _, _, _, _, _, _, _, _, _, _, ⟨fun w => add_run hi hj w, fun w => exp_at (by omega) w, fun w => exp_at (by omega) w, fun w => exp_at (by omega) w, e0, fun w => log_at hi w, g0,
    fun w => conv_wide l3 w, fun w => conv_wide z8 w, fun w => by rw [← z2]; exact conv_wide z6 w, fun w => by rw [← y2]; exact conv_wide y6 w, fun w => by rw [← k2]; exact conv_wide k6 w,
    fun w => arith (op := .mul) rfl (by unfold num at p1; simpa using p1) rfl w, fun w => arith (op := .mul) (x := c001) rfl (by rw [k3]; unfold num at k4; simpa using k4) k3 w,
    fun w => gap_any _ _ _ w l6 rfl, fun w => gap_any _ _ _ w p2' rfl, l7, p3, by rw [z11]; rfl, l3⟩⟩
/-- The law's walk. -/
theorem walk (a : Option Addr) (n c : Nat) (f : Nat → Int) (a' : Option Addr) (n' c' : Nat) (f' : Nat → Int) (w : World) (R : SlB.Rd w a n f) (R' : SlB.Rd w a' n' f') :
    Calls Try.prog 4 #[.slice a n c, .slice a' n' c'] w fun e w' => e = .returned (.bool true) ∧ Below w.heap.size w w' := by
  have R0 := Lib.hid R
  have R1 := Lib.hid R'
  clear R R'
  cases hb : (decide (1048576 < (n : Int)) || decide (1048576 < (n' : Int))) with
  | true =>
    have H := Lib.hid hb
    clear hb
    go_enter Try.func4, Try.ntmps4
    go_wp2_with (go_at_call 13; refine (long_any _ _ _ _ _ _ _ _ H.out).mono ?_; rintro e w' ⟨rfl, rfl⟩)
    go_ret
    exact ⟨rfl, Below.refl _ _⟩
  | false =>
    have H := Lib.hid hb
    clear hb
    have o1 : (FloatKind.f32.format.order 1065353216 1065353216 == some .eq) = true := by decide +kernel
    have o2 : (FloatKind.f32.format.order 0 0 == some .eq) = true := by decide +kernel
    go_enter Try.func4, Try.ntmps4
    go_wp2_with (first
      | (go_at_call 13; refine (long_any _ _ _ _ _ _ _ _ H.out).mono ?_; rintro e w' ⟨rfl, rfl⟩)
      | (go_at_call 14; ((with_reducible refine (at_any _ _ _ _ _ R0.out).mono ?_); rintro e w' ⟨i, hi, rfl, rfl⟩; have q1 := fun w => x_run hi w))
      | (go_at_call 14; ((with_reducible refine (at_any _ _ _ _ _ R1.out).mono ?_); rintro e w' ⟨j, hj, rfl, rfl⟩; have q2 := fun w => x_run hj w; obtain ⟨A, B, C, L, XW, LW, AW, BW, CW, P, KC, G1, G2, x2, ex, ey, ez, e0, lx, l1, cl, cx, ca, cb, cc, mp, mc, g1, g2, t1, t2, t3, nL⟩ := need_of hi hj; have EX := Lib.hid ex; have EY := Lib.hid ey; have EZ := Lib.hid ez; have E0 := Lib.hid e0; have LX := Lib.hid lx; have L1 := Lib.hid l1; have GA := Lib.hid g1; have GB := Lib.hid g2; have NL := Lib.hid nL; clear ex ey ez e0 lx l1 g1 g2 nL; generalize zT (i + 32) = X at *; generalize zT (j + 32) = Y at *; generalize zT (i + j) = Z at *))
      | (go_at_call 11; ((with_reducible refine (EX.out _).mono ?_); rintro e w' ⟨rfl, rfl⟩))
      | (go_at_call 11; ((with_reducible refine (EY.out _).mono ?_); rintro e w' ⟨rfl, rfl⟩))
      | (go_at_call 11; ((with_reducible refine (EZ.out _).mono ?_); rintro e w' ⟨rfl, rfl⟩))
      | (go_at_call 11; ((with_reducible refine (E0.out _).mono ?_); rintro e w' ⟨rfl, rfl⟩))
      | (go_at_call 16; ((with_reducible refine (LX.out _).mono ?_); rintro e w' ⟨r, m, rfl, hr, rfl⟩; obtain rfl := hr.eq NL.out))
      | (go_at_call 16; ((with_reducible refine (L1.out _).mono ?_); rintro e w' ⟨r', m', rfl, hr', rfl⟩; obtain rfl := hr'.eq (by decide +kernel)))
      | (go_at_call 15; ((with_reducible refine (GA.out _).mono ?_); rintro e w' ⟨rfl, rfl⟩))
      | (go_at_call 15; ((with_reducible refine (GB.out _).mono ?_); rintro e w' ⟨rfl, rfl⟩)))
    all_goals (go_ret; exact ⟨rfl, below_drewN (Below.refl _ _) _⟩)
end Go.Proofs.Ytkmbfgnemamlfaa.PowT
