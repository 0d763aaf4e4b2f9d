/- The walks of the program's sine and of the reference's, at a number of turns below 2 ^ 52. -/
import Derived.Test.YtkmbfgnemamlfaaSameFloat
import Derived.Test.YtkmbfgnemamlfaaSineP
import Derived.Deep.LoopGhost
namespace Go.Proofs.Ytkmbfgnemamlfaa.Sine
open Go.RowKit Go.Proofs.Ytkmbfgnemamlfaa.FW Go.Proofs.Ytkmbfgnemamlfaa.FB Go.Proofs.Ytkmbfgnemamlfaa.SineP

@[go_sem] theorem unary_neg_float (k : FloatKind) (b : Nat) : Op.unary .neg (.float k b) = pure (.float k (Op.negFloat k b)) := rfl

theorem conv_int {x : Nat} {n : Int} (h : floatToIntVal .f64 x .i64 = some n) (w : World) : (convert 25 2 (.float .f64 x)).run Try.prog w = .ok (.int .i64 n) w :=
  run_convert_float_int w 25 2 .f64 .i64 x n SameFloat.some64 Try.underlying2 h

theorem arith {op : BinOp} {x y r : Nat} (hop : isArith op = true) (h : isN .f64 (fop op .f64 x y) = false) (hr : fop op .f64 x y = r) (w : World) :
    (binOp op 25 (.float .f64 x) (.float .f64 y)).run Try.prog w = .ok (.float .f64 r) w := by
  rw [← hr]; exact run_exact hop h _ w

theorem ret_float {a b : Nat} (h : a = b) : Ending.returned (.float .f64 a) = Ending.returned (.float .f64 b) := by rw [h]

theorem frac_any (x : Nat) (w : World) (h : Small x) :
    Calls Try.prog 38 #[.float .f64 x] w fun e w' => e = .returned (.float .f64 (fracF x)) ∧ w = w' := by
  obtain ⟨n, hn⟩ : ∃ n, n = tr x := ⟨_, rfl⟩
  obtain ⟨d, hd⟩ : ∃ d, d = fracD x := ⟨_, rfl⟩
  have hc := fun w => conv_int (tr_some h) w
  have hs := fun w => arith (op := .sub) rfl (bd_fracD h).num rfl w
  have hbd := bd_fracD h
  rw [← hn] at hc hs
  have hs' : ∀ w, (binOp .sub 25 (.float .f64 x) (.float .f64 (floatOfInt .f64 n))).run Try.prog w = .ok (.float .f64 d) w := by
    intro w; rw [hd]; unfold fracD; rw [← hn]; exact hs w
  clear hs
  rw [← hd] at hbd
  cases hl : ltB d 0 with
  | true =>
    have hf : Hid (fracF x = fop .add .f64 d one) := Lib.hid (by unfold fracF; rw [← hd, if_pos hl])
    have ha := fun w => arith (op := .add) rfl (hbd.add b_one (by omega) (by omega)).num rfl w
    unfold ltB at hl
    unfold one at ha hf
    generalize hr : fop .add .f64 d 4607182418800017408 = r at ha hf
    clear hr hbd h hn hd
    go_enter Try.func38, Try.ntmps38
    go_wp2
    go_ret
    exact ⟨ret_float hf.out.symm, rfl⟩
  | false =>
    have hf : Hid (fracF x = d) := Lib.hid (by unfold fracF; rw [← hd, if_neg (by rw [hl]; exact Bool.false_ne_true)])
    unfold ltB at hl
    clear hbd h hn hd
    go_enter Try.func38, Try.ntmps38
    go_wp2
    go_ret
    exact ⟨ret_float hf.out.symm, rfl⟩

theorem k_num {j : Nat} (hj : j < 9) : isN .f64 (kF j) = false := int_num _ (by omega)
theorem d_num {j : Nat} (hj : j < 9) : isN .f64 (dF j) = false := int_num _ (by omega)
theorem e_num {j : Nat} (hj : j < 9) : isN .f64 (eF j) = false := int_num _ (by omega)
theorem c_num {j : Nat} (hj : j < 8) : isN .f64 (cF j) = false := by
  obtain ⟨s, v, h, _⟩ := big_cF j hj
  exact h.notNan

/-- What a round of the loop reckons. -/
structure Round (u j : Nat) where
  a : Nat
  q : Nat
  r1 : ∀ w, (binOp .mul 25 (.float .f64 u) (.float .f64 (pF u j))).run Try.prog w = .ok (.float .f64 a) w
  r5 : ∀ w, (binOp .quo 25 (.float .f64 a) (.float .f64 (cF j))).run Try.prog w = .ok (.float .f64 q) w
  r6 : ∀ w, (binOp .sub 25 (.float .f64 4607182418800017408) (.float .f64 q)).run Try.prog w = .ok (.float .f64 (pF u (j + 1))) w

theorem round_of {u j : Nat} (h : Bd u 5012) (hj : j < 8) : Nonempty (Round u j) := by
  obtain ⟨h1, h2⟩ := bd_round h j hj
  have h3 := bd_pF h (j + 1) (by omega)
  exact ⟨⟨_, _, fun w => arith rfl h1.num rfl w, fun w => arith rfl h2.num rfl w, fun w => arith (op := .sub) rfl h3.num rfl w⟩⟩

/-- The last line: a minus where the number was in the second half. -/
def last (b : Bool) (r : Nat) : Nat := if b = true then Op.negFloat .f64 r else r

set_option maxHeartbeats 1000000 in
set_option maxRecDepth 100000 in
theorem core (x f f1 f2 g1 g2 z u r : Nat) (b1 b2 : Bool) (w : World)
    (F : Hid (∀ w, Calls Try.prog 38 #[.float .f64 x] w fun e w' => e = .returned (.float .f64 f) ∧ w = w'))
    (T1 : (FloatKind.f64.format.order f 4602678819172646912 == some .gt || FloatKind.f64.format.order f 4602678819172646912 == some .eq) = b1)
    (T2 : (FloatKind.f64.format.order f1 4598175219545276416 == some .gt) = b2)
    (S1 : ∀ w, (binOp .sub 25 (.float .f64 f) (.float .f64 4602678819172646912)).run Try.prog w = .ok (.float .f64 g1) w)
    (E1 : f1 = if b1 = true then g1 else f)
    (S2 : ∀ w, (binOp .sub 25 (.float .f64 4602678819172646912) (.float .f64 f1)).run Try.prog w = .ok (.float .f64 g2) w)
    (E2 : f2 = if b2 = true then g2 else f1)
    (M1 : ∀ w, (binOp .mul 25 (.float .f64 f2) (.float .f64 4618760256179416344)).run Try.prog w = .ok (.float .f64 z) w)
    (M2 : ∀ w, (binOp .mul 25 (.float .f64 z) (.float .f64 z)).run Try.prog w = .ok (.float .f64 u) w)
    (hu : Bd u 5012)
    (M3 : ∀ w, (binOp .mul 25 (.float .f64 z) (.float .f64 (pF u 8))).run Try.prog w = .ok (.float .f64 r) w) :
    Calls Try.prog 34 #[.float .f64 x] w fun e w' => e = .returned (.float .f64 (last b1 r)) ∧ w = w' := by
  have U := Lib.hid hu
  clear hu
  have ks := k_start
  have K0 : (.float .f64 4620693217682128896 : Value) = .float .f64 (kF 0) := by rw [ks]
  clear ks
  have K := Lib.hid K0
  clear K0
  have ke := k_end
  unfold geB one at ke
  generalize hP8 : pF u 8 = p8 at M3
  have P8 := Lib.hid hP8
  clear hP8
  cases b1 <;> cases b2 <;> simp only [Bool.false_eq_true, if_false, if_true] at E1 E2
  all_goals
    subst E1
    subst E2
    go_enter Try.func34, Try.ntmps34
    go_wp2_with (go_at_call 38; refine (F.out _).mono ?_; rintro e w' ⟨rfl, rfl⟩)
    clear S1 S2 M1 M2 T2
    go_loopg [7, 8] 8 (fun g p k wr => ∃ j : Nat, j + g = 8 ∧ p = .float .f64 (pF u j) ∧ k = .float .f64 (kF j) ∧ wr = w)
    case atStart => exact ⟨0, rfl, rfl, K.out, rfl⟩
    case round =>
      obtain ⟨j, hj, rfl, rfl, rfl⟩ := hrel
      by_cases hlt : j < 8
      · obtain ⟨⟨a, q, r1, r5, r6⟩⟩ := round_of U.out hlt
        have t := k_ge hlt
        unfold geB one at t
        have k1 := fun w => arith (op := .mul) (x := 4611686018427387904) (y := kF j) rfl (by rw [show fop .mul .f64 4611686018427387904 (kF j) = dF j from k_two hlt]; exact d_num (by omega)) (k_two hlt) w
        have k2 := fun w => arith (op := .add) (x := dF j) (y := 4607182418800017408) rfl (by rw [show fop .add .f64 (dF j) 4607182418800017408 = eF j from k_one hlt]; exact e_num (by omega)) (k_one hlt) w
        have k3 := fun w => arith (op := .mul) (x := dF j) (y := eF j) rfl (by rw [k_mul hlt]; exact c_num hlt) (k_mul hlt) w
        have k4 := fun w => arith (op := .sub) (x := kF j) (y := 4607182418800017408) rfl (by rw [show fop .sub .f64 (kF j) 4607182418800017408 = kF (j + 1) from k_next hlt]; exact k_num (by omega)) (k_next hlt) w
        clear M3 T1 ke
        generalize pF u j = pj at r1
        go_wp2
        go_roundg (gk - 1)
        case measure => omega
        case rel => exact ⟨j + 1, by omega, rfl, rfl, rfl⟩
      · obtain rfl : j = 8 := by omega
        clear hj hlt
        have P8' : pF u 8 = p8 := P8.out
        generalize pF u 8 = pp at P8'
        subst P8'
        go_wp2
        go_ret
        exact ⟨rfl, rfl⟩

theorem prod_in {q : Int} (h0 : 0 ≤ q) (h1 : q ≤ 8) : 0 ≤ 2 * q * (2 * q + 1) ∧ 2 * q * (2 * q + 1) ≤ 1000 := by
  have : q = 0 ∨ q = 1 ∨ q = 2 ∨ q = 3 ∨ q = 4 ∨ q = 5 ∨ q = 6 ∨ q = 7 ∨ q = 8 := by omega
  rcases this with rfl | rfl | rfl | rfl | rfl | rfl | rfl | rfl | rfl <;> decide

set_option maxHeartbeats 1000000 in
set_option maxRecDepth 100000 in
theorem core_spec (x d f f1 f2 g0 g1 g2 z u r : Nat) (n : Int) (b0 b1 b2 : Bool) (w : World)
    (Z : ∀ w, (binOp .sub 25 (.float .f64 x) (.float .f64 x)).run Try.prog w = .ok (.float .f64 0) w)
    (L1 : (FloatKind.f64.format.order x 4841369599423283200 == some .gt || FloatKind.f64.format.order x 4841369599423283200 == some .eq) = false)
    (L2 : (FloatKind.f64.format.order x 14064741636278059008 == some .lt || FloatKind.f64.format.order x 14064741636278059008 == some .eq) = false)
    (C : ∀ w, (convert 25 2 (.float .f64 x)).run Try.prog w = .ok (.int .i64 n) w)
    (D : ∀ w, (binOp .sub 25 (.float .f64 x) (.float .f64 (floatOfInt .f64 n))).run Try.prog w = .ok (.float .f64 d) w)
    (T0 : (FloatKind.f64.format.order d 0 == some .lt) = b0)
    (S0 : ∀ w, (binOp .add 25 (.float .f64 d) (.float .f64 4607182418800017408)).run Try.prog w = .ok (.float .f64 g0) w)
    (E0 : f = if b0 = true then g0 else d)
    (T1 : (FloatKind.f64.format.order f 4602678819172646912 == some .gt || FloatKind.f64.format.order f 4602678819172646912 == some .eq) = b1)
    (T2 : (FloatKind.f64.format.order f1 4598175219545276416 == some .gt) = b2)
    (S1 : ∀ w, (binOp .sub 25 (.float .f64 f) (.float .f64 4602678819172646912)).run Try.prog w = .ok (.float .f64 g1) w)
    (E1 : f1 = if b1 = true then g1 else f)
    (S2 : ∀ w, (binOp .sub 25 (.float .f64 4602678819172646912) (.float .f64 f1)).run Try.prog w = .ok (.float .f64 g2) w)
    (E2 : f2 = if b2 = true then g2 else f1)
    (M1 : ∀ w, (binOp .mul 25 (.float .f64 f2) (.float .f64 4618760256179416344)).run Try.prog w = .ok (.float .f64 z) w)
    (M2 : ∀ w, (binOp .mul 25 (.float .f64 z) (.float .f64 z)).run Try.prog w = .ok (.float .f64 u) w)
    (hu : Bd u 5012)
    (M3 : ∀ w, (binOp .mul 25 (.float .f64 z) (.float .f64 (pF u 8))).run Try.prog w = .ok (.float .f64 r) w) :
    Calls Try.prog 47 #[.float .f64 x] w fun e w' => e = .returned (.float .f64 (last b1 r)) ∧ w = w' := by
  have U := Lib.hid hu
  clear hu
  have z0 : (FloatKind.f64.format.order 0 0 != some .eq) = false := by decide +kernel
  generalize hP8 : pF u 8 = p8 at M3
  have P8 := Lib.hid hP8
  clear hP8
  cases b0 <;> simp only [Bool.false_eq_true, if_false, if_true] at E0 <;> subst E0 <;>
    cases b1 <;> simp only [Bool.false_eq_true, if_false, if_true] at E1 <;> subst E1 <;>
    cases b2 <;> simp only [Bool.false_eq_true, if_false, if_true] at E2 <;> subst E2
  all_goals
    go_enter Try.func47, Try.ntmps47
    go_wp2
    clear S1 S2 M1 M2 T2 Z L1 L2 C D S0 T0 z0
    go_loopg [7, 8] 8 (fun g p k wr => ∃ (j : Nat) (q : Int), j + g = 8 ∧ Hid (q = 8 - (j : Int)) ∧ 0 ≤ q ∧ q ≤ 8 ∧ p = .float .f64 (pF u j) ∧ k = .int .i64 q ∧ wr = w)
    case atStart => exact ⟨0, 8, rfl, Lib.hid rfl, by omega, by omega, rfl, rfl, rfl⟩
    case round =>
      obtain ⟨j, q, hj, hq, hq0, hq1, rfl, rfl, rfl⟩ := hrel
      by_cases hlt : 1 ≤ q
      · obtain ⟨hm0, hm1⟩ := prod_in hq0 hq1
        have hj8 : j < 8 := by have := hq.out; omega
        obtain ⟨⟨a, qq, r1, r5, r6⟩⟩ := round_of U.out hj8
        have r5' : ∀ w, (binOp .quo 25 (.float .f64 a) (.float .f64 (floatOfInt .f64 (2 * q * (2 * q + 1))))).run Try.prog w = .ok (.float .f64 qq) w := by
          have := hq.out
          rw [this]; exact r5
        clear M3 T1 r5
        generalize pF u j = pj at r1
        go_wp2
        go_roundg (gk - 1)
        case measure => omega
        case rel => exact ⟨j + 1, q - 1, by omega, Lib.hid (by have := hq.out; omega), by omega, by omega, rfl, rfl, rfl⟩
      · obtain rfl : j = 8 := by have := hq.out; omega
        have P8' : pF u 8 = p8 := P8.out
        generalize pF u 8 = pp at P8'
        subst P8'
        go_wp2
        go_ret
        exact ⟨rfl, rfl⟩
end Go.Proofs.Ytkmbfgnemamlfaa.Sine
