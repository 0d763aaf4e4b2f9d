/- The walks of the program's logarithm and of the reference's, at a positive number. -/
import Derived.Test.YtkmbfgnemamlfaaLogS
namespace Go.Proofs.Ytkmbfgnemamlfaa.Log
open Go.RowKit Go.Proofs.Ytkmbfgnemamlfaa.FW Go.Proofs.Ytkmbfgnemamlfaa.FT Go.Proofs.Ytkmbfgnemamlfaa.FB Go.Proofs.Ytkmbfgnemamlfaa.SineP Go.Proofs.Ytkmbfgnemamlfaa.Sine Go.Proofs.Ytkmbfgnemamlfaa.LogP Go.Proofs.Ytkmbfgnemamlfaa.LogS

/-- What the walk needs of the scaling. -/
structure Scale (x y n m : Nat) : Prop where
  le : n ≤ 128
  ge : ∀ i, i < n → (FloatKind.f64.format.order (dN x i) 4609434218613702656 == some .gt || FloatKind.f64.format.order (dN x i) 4609434218613702656 == some .eq) = true
  stop : (FloatKind.f64.format.order (dN x n) 4609434218613702656 == some .gt || FloatKind.f64.format.order (dN x n) 4609434218613702656 == some .eq) = false
  step : ∀ i, i < n → ∀ w, (binOp .quo 25 (.float .f64 (dN x i)) (.float .f64 4611686018427387904)).run Try.prog w = .ok (.float .f64 (dN x (i + 1))) w
  mid : y = dN x n
  le' : m ≤ 149
  lt : ∀ i, i < m → (FloatKind.f64.format.order (uN y i) 4604930618986332160 == some .lt) = true
  stop' : (FloatKind.f64.format.order (uN y m) 4604930618986332160 == some .lt) = false
  step' : ∀ i, i < m → ∀ w, (binOp .mul 25 (.float .f64 (uN y i)) (.float .f64 4611686018427387904)).run Try.prog w = .ok (.float .f64 (uN y (i + 1))) w

theorem scale {x : Nat} (h : ∃ v, N64 x false v ∧ v ≤ p2 5128 ∧ p2 4851 ≤ v) : ∃ y n m, Scale x y n m ∧ ∃ v, N64 (uN y m) false v ∧ v ≤ p2 5001 := by
  obtain ⟨n, h1, h2, h3, hv⟩ := down_stops h
  obtain ⟨m, g1, g2, g3, hu⟩ := up_stops hv
  exact ⟨dN x n, n, m, ⟨h1, h2, h3, fun i hi w => arith (op := .quo) rfl (dN_num h (j := i + 1) (by omega) (fun k hk => h2 k (by omega))) rfl w, rfl,
    g1, g2, g3, fun i hi w => arith (op := .mul) rfl (uN_num hv (j := i + 1) (by omega) (fun k hk => g2 k (by omega))) rfl w⟩, hu⟩

theorem up_run {j : Nat} (h : j < 128) (w : World) : (binOp .add 25 (.float .f64 (cI (j : Int))) (.float .f64 4607182418800017408)).run Try.prog w = .ok (.float .f64 (cI ((j : Int) + 1))) w :=
  arith (op := .add) (y := 4607182418800017408) rfl (by rw [show fop .add .f64 (cI (j : Int)) 4607182418800017408 = cI ((j : Int) + 1) from c_up (by omega)]; exact int_num _ (by omega)) (c_up (by omega)) w
theorem down_run {n : Int} (h1 : -149 ≤ n) (h2 : n ≤ 130) (w : World) : (binOp .sub 25 (.float .f64 (cI n)) (.float .f64 4607182418800017408)).run Try.prog w = .ok (.float .f64 (cI (n - 1))) w :=
  arith (op := .sub) (y := 4607182418800017408) rfl (by rw [show fop .sub .f64 (cI n) 4607182418800017408 = cI (n - 1) from c_down (by omega) (by omega)]; exact int_num _ (by omega)) (c_down (by omega) (by omega)) w

/-- What a round of the series reckons. -/
structure Term (u j : Nat) where
  a : Nat
  b : Nat
  r1 : ∀ w, (binOp .quo 25 (.float .f64 4607182418800017408) (.float .f64 (oL j))).run Try.prog w = .ok (.float .f64 a) w
  r2 : ∀ w, (binOp .mul 25 (.float .f64 u) (.float .f64 (pL u j))).run Try.prog w = .ok (.float .f64 b) w
  r3 : ∀ w, (binOp .add 25 (.float .f64 a) (.float .f64 b)).run Try.prog w = .ok (.float .f64 (pL u (j + 1))) w
theorem term_of {u j : Nat} (h : Bd u 5004) (hj : j < 13) : Nonempty (Term u j) := by
  obtain ⟨h1, h2⟩ := bd_lround h j hj
  have h3 := bd_pL h (j + 1) (by omega)
  exact ⟨⟨_, _, fun w => arith (op := .quo) rfl h2.num rfl w, fun w => arith (op := .mul) rfl h1.num rfl w, fun w => arith (op := .add) rfl h3.num rfl w⟩⟩

/-- What stands behind the scaling. -/
structure Tail (z : Nat) (c : Nat) (r : Nat) where
  a1 : Nat
  a2 : Nat
  a3 : Nat
  u : Nat
  a5 : Nat
  a6 : Nat
  a7 : Nat
  hu : Bd u 5004
  m1 : ∀ w, (binOp .sub 25 (.float .f64 z) (.float .f64 4607182418800017408)).run Try.prog w = .ok (.float .f64 a1) w
  m2 : ∀ w, (binOp .add 25 (.float .f64 z) (.float .f64 4607182418800017408)).run Try.prog w = .ok (.float .f64 a2) w
  m3 : ∀ w, (binOp .quo 25 (.float .f64 a1) (.float .f64 a2)).run Try.prog w = .ok (.float .f64 a3) w
  m4 : ∀ w, (binOp .mul 25 (.float .f64 a3) (.float .f64 a3)).run Try.prog w = .ok (.float .f64 u) w
  m5 : ∀ w, (binOp .mul 25 (.float .f64 a3) (.float .f64 (pL u 13))).run Try.prog w = .ok (.float .f64 a5) w
  m6 : ∀ w, (binOp .mul 25 (.float .f64 4611686018427387904) (.float .f64 a5)).run Try.prog w = .ok (.float .f64 a6) w
  m7 : ∀ w, (binOp .mul 25 (.float .f64 c) (.float .f64 4604418534313441775)).run Try.prog w = .ok (.float .f64 a7) w
  m8 : ∀ w, (binOp .add 25 (.float .f64 a6) (.float .f64 a7)).run Try.prog w = .ok (.float .f64 r) w

theorem tail_of {z : Nat} (h : ∃ v, N64 z false v ∧ v ≤ p2 5001) {n : Int} (hn : n.natAbs < 256) : Nonempty (Tail z (cI n) (l8 z n)) := by
  obtain ⟨h1, h2, h3, h4, h5, h6, h7, h8⟩ := bd_log h hn
  exact ⟨⟨_, _, _, _, _, _, _, h4, fun w => arith (op := .sub) rfl h1.num rfl w, fun w => arith (op := .add) rfl h2.num rfl w, fun w => arith (op := .quo) rfl h3.num rfl w,
    fun w => arith (op := .mul) rfl h4.num rfl w, fun w => arith (op := .mul) rfl h5.num rfl w, fun w => arith (op := .mul) rfl h6.num rfl w,
    fun w => arith (op := .mul) rfl h7.num rfl w, fun w => arith (op := .add) rfl h8.num rfl w⟩⟩

set_option maxHeartbeats 4000000 in
set_option maxRecDepth 100000 in
theorem impl_core (x y z n m c r : Nat) (w : World) (S : Hid (Scale x y n m)) (hz : z = uN y m) (hc : Hid (c = cI ((n : Int) - (m : Int)))) (Z : Tail z c r) :
    Calls Try.prog 31 #[.float .f64 x] w fun e w' => e = .returned (.float .f64 r) ∧ w = w' := by
  have ks := ol_start
  have K0 : (.float .f64 4627730092099895296 : Value) = .float .f64 (oL 0) := by rw [ks]
  clear ks
  have K := Lib.hid K0
  clear K0
  have ke := ol_end
  unfold geB one at ke
  have cz := cI_zero
  have C0 : Hid ((.float .f64 0 : Value) = .float .f64 (cI ((0 : Nat) : Int))) := Lib.hid (by show _ = Value.float .f64 (cI 0); rw [cz])
  clear cz
  have X0 : Hid (dN x 0 = x) := Lib.hid rfl
  obtain ⟨a1, a2, a3, u, a5, a6, a7, hu, m1, m2, m3, m4, m5, m6, m7, m8⟩ := Z
  have U := Lib.hid hu
  have HZ := Lib.hid hz
  clear hu hz
  generalize hP : pL u 13 = p13 at m5
  have P13 := Lib.hid hP
  clear hP
  go_enter Try.func31, Try.ntmps31
  go_wp2
  go_loopg [0, 3] n (fun g p k wr => ∃ j : Nat, j + g = n ∧ p = .float .f64 (dN x j) ∧ k = .float .f64 (cI (j : Int)) ∧ w = wr)
  case atStart => exact ⟨0, by omega, by rw [X0.out], C0.out, rfl⟩
  case round =>
    obtain ⟨j, hj, rfl, rfl, rfl⟩ := hrel
    by_cases hlt : j < n
    · have q1 := S.out.ge j hlt
      have q2 := S.out.step j hlt
      have q3 := S.out.le
      have q4 := up_run (j := j) (by omega)
      clear m1 m2 m3 m4 m5 m6 m7 m8 ke
      generalize hfj : dN x j = fj at q1 q2
      generalize hfk : dN x (j + 1) = fk at q2
      have H := Lib.hid hfk
      clear hfk hfj
      go_wp2
      go_roundg (gk - 1)
      case measure => omega
      case rel => exact ⟨j + 1, by omega, by rw [H.out], by simp, rfl⟩
    · obtain rfl : j = n := by omega
      have q1 := S.out.stop
      have q3 := S.out.le
      have Y := Lib.hid S.out.mid
      have L := Lib.hid S.out.lt
      have L1 := Lib.hid S.out.stop'
      have L2 := Lib.hid S.out.step'
      have L3 := S.out.le'
      clear hj hlt S
      have hyy := Y.out
      rw [← hyy] at q1
      rw [← hyy]
      clear hyy Y X0
      have Y0 : Hid (uN y 0 = y) := Lib.hid rfl
      go_wp2
      go_loopg [0, 3] m (fun g p k wr => ∃ i : Nat, i + g = m ∧ p = .float .f64 (uN y i) ∧ k = .float .f64 (cI ((j : Int) - (i : Int))) ∧ w = wr)
      case atStart => exact ⟨0, by omega, by rw [Y0.out], by simp, rfl⟩
      case round =>
        obtain ⟨i, hj, rfl, rfl, rfl⟩ := hrel
        by_cases hlt : i < m
        · have q1 := L.out i hlt
          have q2 := L2.out i hlt
          have q4 := down_run (n := (j : Int) - (i : Int)) (by omega) (by omega)
          clear m1 m2 m3 m4 m5 m6 m7 m8 ke
          generalize hfj : uN y i = fj at q1 q2
          generalize hfk : uN y (i + 1) = fk at q2
          have H := Lib.hid hfk
          clear hfk hfj
          have hcc : (j : Int) - (i : Int) - 1 = (j : Int) - ((i + 1 : Nat) : Int) := by omega
          have HC := Lib.hid hcc
          clear hcc
          generalize (j : Int) - (i : Int) = d at *
          go_wp2
          go_roundg (gk - 1)
          case measure => omega
          case rel => exact ⟨i + 1, by omega, by rw [H.out], by rw [← HC.out], rfl⟩
        · obtain rfl : i = m := by omega
          have q1 := L1.out
          clear hj hlt L L1 L2 Y0
          have hzz := HZ.out
          rw [← hzz] at q1
          rw [← hzz]
          have hcc := hc.out
          rw [← hcc]
          clear hzz hcc HZ hc
          go_wp2
          go_loopg [6, 7] 13 (fun g p k wr => ∃ i : Nat, i + g = 13 ∧ p = .float .f64 (pL u i) ∧ k = .float .f64 (oL i) ∧ w = wr)
          case atStart => exact ⟨0, rfl, rfl, K.out, rfl⟩
          case round =>
            obtain ⟨i, hj, rfl, rfl, rfl⟩ := hrel
            by_cases hlt : i < 13
            · obtain ⟨⟨h1, h2, r1, r2, r3⟩⟩ := term_of U.out hlt
              have ge := ol_ge hlt
              unfold geB one at ge
              have k4 := fun w => arith (op := .sub) (x := oL i) (y := 4611686018427387904) rfl (by rw [show fop .sub .f64 (oL i) 4611686018427387904 = oL (i + 1) from ol_next hlt]; exact ol_num (by omega)) (ol_next hlt) w
              clear m1 m2 m3 m4 m5 m6 m7 m8 ke
              generalize pL u i = pj at r2
              go_wp2
              go_roundg (gk - 1)
              case measure => omega
              case rel => exact ⟨i + 1, by omega, rfl, rfl, rfl⟩
            · obtain rfl : i = 13 := by omega
              clear hj hlt
              have P13' : pL u 13 = p13 := P13.out
              generalize pL u 13 = pp at P13'
              subst P13'
              go_wp2
              go_ret
              exact ⟨rfl, rfl⟩

set_option maxHeartbeats 4000000 in
set_option maxRecDepth 100000 in
theorem spec_core (x y z n m c r : Nat) (w : World)
    (T1 : (FloatKind.f64.format.order x x != some .eq) = false) (T2 : (FloatKind.f64.format.order x 0 == some .lt) = false) (T3 : (FloatKind.f64.format.order x 0 == some .eq) = false)
    (IF : Hid (∀ w, Calls Try.prog 55 #[.float .f64 x, .int .i64 1] w fun e w' => e = .returned (.bool false) ∧ w = w')) (S : Hid (Scale x y n m)) (hz : z = uN y m) (hc : Hid (c = cI ((n : Int) - (m : Int)))) (Z : Tail z c r) :
    Calls Try.prog 49 #[.float .f64 x] w fun e w' => e = .returned (.float .f64 r) ∧ w = w' := by
  have X0 : Hid (dN x 0 = x) := Lib.hid rfl
  obtain ⟨a1, a2, a3, u, a5, a6, a7, hu, m1, m2, m3, m4, m5, m6, m7, m8⟩ := Z
  have U := Lib.hid hu
  have HZ := Lib.hid hz
  clear hu hz
  generalize hP : pL u 13 = p13 at m5
  have P13 := Lib.hid hP
  clear hP
  go_enter Try.func49, Try.ntmps49
  go_wp2_with (go_at_call 55; refine (IF.out _).mono ?_; rintro e w' ⟨rfl, rfl⟩)
  clear T1 T2 T3 IF
  go_loopg [0, 3] n (fun g p k wr => ∃ j : Nat, j + g = n ∧ p = .float .f64 (dN x j) ∧ k = .int .i64 (j : Int) ∧ w = wr)
  case atStart => exact ⟨0, by omega, by rw [X0.out], rfl, rfl⟩
  case round =>
    obtain ⟨j, hj, rfl, rfl, rfl⟩ := hrel
    by_cases hlt : j < n
    · have q1 := S.out.ge j hlt
      have q2 := S.out.step j hlt
      have q3 := S.out.le
      clear m1 m2 m3 m4 m5 m6 m7 m8
      generalize hfj : dN x j = fj at q1 q2
      generalize hfk : dN x (j + 1) = fk at q2
      have H := Lib.hid hfk
      clear hfk hfj
      go_wp2
      go_roundg (gk - 1)
      case measure => omega
      case rel => exact ⟨j + 1, by omega, by rw [H.out], by simp, rfl⟩
    · obtain rfl : j = n := by omega
      have q1 := S.out.stop
      have q3 := S.out.le
      have Y := Lib.hid S.out.mid
      have L := Lib.hid S.out.lt
      have L1 := Lib.hid S.out.stop'
      have L2 := Lib.hid S.out.step'
      have L3 := S.out.le'
      clear hj hlt S
      have hyy := Y.out
      rw [← hyy] at q1
      rw [← hyy]
      clear hyy Y X0
      have Y0 : Hid (uN y 0 = y) := Lib.hid rfl
      go_wp2
      go_loopg [0, 3] m (fun g p k wr => ∃ i : Nat, i + g = m ∧ p = .float .f64 (uN y i) ∧ k = .int .i64 ((j : Int) - (i : Int)) ∧ w = wr)
      case atStart => exact ⟨0, by omega, by rw [Y0.out], by simp, rfl⟩
      case round =>
        obtain ⟨i, hj, rfl, rfl, rfl⟩ := hrel
        by_cases hlt : i < m
        · have q1 := L.out i hlt
          have q2 := L2.out i hlt
          have q5 : -149 ≤ (j : Int) - (i : Int) := by omega
          have q6 : (j : Int) - (i : Int) ≤ 128 := by omega
          clear m1 m2 m3 m4 m5 m6 m7 m8
          generalize hfj : uN y i = fj at q1 q2
          generalize hfk : uN y (i + 1) = fk at q2
          have H := Lib.hid hfk
          clear hfk hfj
          have hcc : (j : Int) - (i : Int) - 1 = (j : Int) - ((i + 1 : Nat) : Int) := by omega
          have HC := Lib.hid hcc
          clear hcc
          generalize (j : Int) - (i : Int) = d at *
          go_wp2
          go_roundg (gk - 1)
          case measure => omega
          case rel => exact ⟨i + 1, by omega, by rw [H.out], by rw [← HC.out], rfl⟩
        · obtain rfl : i = m := by omega
          have q1 := L1.out
          clear hj hlt L L1 L2 Y0
          have hzz := HZ.out
          rw [← hzz] at q1
          rw [← hzz]
          have hcc := hc.out
          have hfc : floatOfInt .f64 ((j : Int) - (i : Int)) = c := hcc.symm
          generalize (j : Int) - (i : Int) = d at *
          subst hfc
          clear hzz hcc HZ hc
          go_wp2
          go_loopg [6, 7] 13 (fun g p k wr => ∃ (i : Nat) (q : Int), i + g = 13 ∧ Hid (q = 25 - 2 * (i : Int)) ∧ -1 ≤ q ∧ q ≤ 25 ∧ p = .float .f64 (pL u i) ∧ k = .int .i64 q ∧ w = wr)
          case atStart => exact ⟨0, 25, rfl, Lib.hid rfl, by omega, by omega, rfl, rfl, rfl⟩
          case round =>
            obtain ⟨i, q, hj, hq, hq0, hq1, rfl, rfl, rfl⟩ := hrel
            by_cases hlt : 1 ≤ q
            · have hi13 : i < 13 := by have := hq.out; omega
              obtain ⟨⟨h1, h2, r1, r2, r3⟩⟩ := term_of U.out hi13
              have r1' : ∀ w, (binOp .quo 25 (.float .f64 4607182418800017408) (.float .f64 (floatOfInt .f64 q))).run Try.prog w = .ok (.float .f64 h1) w := by
                have := hq.out
                rw [this]; exact r1
              clear r1
              clear m1 m2 m3 m4 m5 m6 m7 m8
              generalize pL u i = pj at r2
              go_wp2
              go_roundg (gk - 1)
              case measure => omega
              case rel => exact ⟨i + 1, q - 2, by omega, Lib.hid (by have := hq.out; omega), by omega, by omega, rfl, rfl, rfl⟩
            · obtain rfl : i = 13 := by have := hq.out; omega
              clear hj
              have P13' : pL u 13 = p13 := P13.out
              generalize pL u 13 = pp at P13'
              subst P13'
              go_wp2
              go_ret
              exact ⟨rfl, rfl⟩
end Go.Proofs.Ytkmbfgnemamlfaa.Log
