/- The program's DotNumbers and the reference's give the same number and the same Bool. -/
import Derived.Test.YtogclingihelaaaSum
namespace Go.Proofs.Ytogclingihelaaa.Dot
open Go.RowKit Go.Proofs.Ytogclingihelaaa.FW Go.Proofs.Ytogclingihelaaa.SlF Go.Proofs.Ytogclingihelaaa.Sum

@[go_sem] theorem add_eq (x y : Nat) (w : World) : (binOp .add 23 (.float .f32 x) (.float .f32 y)).run Try.prog w = .ok (.float .f32 (opR w .add .f32 x y)) (w.drewN (opN .add .f32 x y)) := run_arithR rfl ..
@[go_sem] theorem mul_eq (x y : Nat) (w : World) : (binOp .mul 23 (.float .f32 x) (.float .f32 y)).run Try.prog w = .ok (.float .f32 (opR w .mul .f32 x y)) (w.drewN (opN .mul .f32 x y)) := run_arithR rfl ..

/-- The sum of the products, from left to right. -/
def dotF (f g : Nat → Nat) : Nat → Nat
  | 0 => 0
  | k + 1 => fop .add .f32 (dotF f g k) (fop .mul .f32 (f k) (g k))

theorem dot_step {f g : Nat → Nat} {k r : Nat} {w w' : World} (h : Same .f32 r (dotF f g k)) : Same .f32 (opR w .add .f32 r (opR w' .mul .f32 (f k) (g k))) (dotF f g (k + 1)) := by
  refine (opR_same _ _ _ _ _).trans ?_
  rw [fop_same .add h (opR_same w' .mul .f32 (f k) (g k))]
  exact Same.refl _ _

set_option maxHeartbeats 1000000 in
set_option maxRecDepth 100000 in
theorem l01_any (a b : Option Addr) (n ca cb : Nat) (f g : Nat → Nat) (w : World) (ha : Rd w a n f) (hb : Rd w b n g) (hn : n ≤ 256) :
    Calls Try.prog 52 #[.slice a n ca, .slice b n cb] w (FRet .f32 (dotF f g n) w) := by
  go_enter Try.func52, Try.ntmps52
  go_wp2
  go_loopw [5, 6] (fun s i wr => ∃ k r m : Nat, k ≤ n ∧ i = .int .i64 k ∧ s = .float .f32 r ∧ Same .f32 r (dotF f g k) ∧ wr = w.drewN m) (fun _ i _ => n - (intOf i).toNat)
  case atStart => exact ⟨0, 0, 0, Nat.zero_le _, rfl, rfl, Same.refl _ _, rfl⟩
  case round =>
    obtain ⟨k, r0, m, hk, rfl, rfl, hr0, rfl⟩ := hrel
    by_cases hlt : k < n
    · obtain ⟨ba, oa, rfl, _, hca⟩ := ha k hlt
      obtain ⟨bb, ob, rfl, _, hcb⟩ := hb k hlt
      have H0 := Lib.hid hr0
      clear ha hb hr0
      have h0 : (0 : Int) ≤ (k : Int) := by omega
      have h1 : (k : Int) < (n : Int) := by omega
      go_wp2_with fail
      go_region_with (fail)
      all_goals
        go_wp2
        go_roundw
        case rel => exact ⟨k + 1, _, _, by omega, by go_num, rfl, dot_step H0.out, rfl⟩
        case measure => simp [intOf]; omega
    · obtain rfl : k = n := by omega
      have H0 := Lib.hid hr0
      clear ha hb hr0
      go_wp2
      go_ret
      exact fret H0.out

set_option maxHeartbeats 1000000 in
set_option maxRecDepth 100000 in
theorem impl_yes (a b : Option Addr) (n ca cb : Nat) (f g : Nat → Nat) (w : World) (ha : Rd w a n f) (hb : Rd w b n g) (hn : n ≤ 256) :
    Calls Try.prog 28 #[.slice a n ca, .slice b n cb] w (FRet2 (dotF f g n) true w) := by
  have hne : ((n : Int) != (n : Int)) = false := by simp
  have hle : decide ((256 : Int) < (n : Int)) = false := decide_eq_false (by omega)
  go_enter Try.func28, Try.ntmps28
  go_wp2
  clear hne hle
  go_loopw [6, 20] (fun s i wr => ∃ k r m : Nat, k ≤ n ∧ i = .int .i64 k ∧ s = .float .f32 r ∧ Same .f32 r (dotF f g k) ∧ wr = w.drewN m) (fun _ i _ => n - (intOf i).toNat)
  case atStart => exact ⟨0, 0, 0, Nat.zero_le _, rfl, rfl, Same.refl _ _, rfl⟩
  case round =>
    obtain ⟨k, r0, m, hk, rfl, rfl, hr0, rfl⟩ := hrel
    by_cases hlt : k < n
    · obtain ⟨ba, oa, rfl, _, hca⟩ := ha k hlt
      obtain ⟨bb, ob, rfl, _, hcb⟩ := hb k hlt
      have H0 := Lib.hid hr0
      clear ha hb hr0
      have h0 : (0 : Int) ≤ (k : Int) := by omega
      have h1 : (k : Int) < (n : Int) := by omega
      go_wp2_with fail
      go_region_with (fail)
      all_goals
        go_wp2
        go_roundw
        case rel => exact ⟨k + 1, _, _, by omega, by go_num, rfl, dot_step H0.out, rfl⟩
        case measure => simp [intOf]; omega
    · obtain rfl : k = n := by omega
      have H0 := Lib.hid hr0
      clear ha hb hr0
      go_wp2
      go_ret2
      exact ⟨r0, _, rfl, H0.out, rfl⟩

theorem spec_yes (a b : Option Addr) (n ca cb : Nat) (f g : Nat → Nat) (w : World) (ha : Rd w a n f) (hb : Rd w b n g) (hn : n ≤ 256) :
    Calls Try.prog 26 #[.slice a n ca, .slice b n cb] w (FRet2 (dotF f g n) true w) := by
  have ha' := Lib.hid ha
  have hb' := Lib.hid hb
  clear ha hb
  have hd : decide ((n : Int) ≤ 256) = true := decide_eq_true (by omega)
  have hne : ((n : Int) != (n : Int)) = false := by simp
  go_enter Try.func26, Try.ntmps26
  go_wp2_with (first
    | (go_at_call 51; go_in)
    | (go_at_call 52; refine (l01_any _ _ _ _ _ f g _ ha'.out hb'.out hn).mono ?_; rintro e w' ⟨r, m, rfl, hr, rfl⟩))
  go_ret2
  exact ⟨r, _, rfl, hr, rfl⟩

theorem impl_no (a b : Option Addr) (n n' ca cb : Nat) (w : World) (hn : n ≤ 1048576) (h : 256 < n ∨ n ≠ n') :
    Calls Try.prog 28 #[.slice a n ca, .slice b n' cb] w (FRet2 0 false w) := by
  by_cases h1 : 256 < n
  · clear h
    have hle : decide ((256 : Int) < (n : Int)) = true := decide_eq_true (by omega)
    go_enter Try.func28, Try.ntmps28
    go_wp2
    go_ret2
    exact ⟨0, 0, rfl, Same.refl _ _, rfl⟩
  · have hle : decide ((256 : Int) < (n : Int)) = false := decide_eq_false (by omega)
    have hne : ((n : Int) != (n' : Int)) = true := by rw [bne_iff_ne]; omega
    clear h h1
    go_enter Try.func28, Try.ntmps28
    go_wp2
    go_ret2
    exact ⟨0, 0, rfl, Same.refl _ _, rfl⟩

theorem spec_no (a b : Option Addr) (n n' ca cb : Nat) (w : World) (hn : n ≤ 1048576) (h : 256 < n ∨ n ≠ n') :
    Calls Try.prog 26 #[.slice a n ca, .slice b n' cb] w (FRet2 0 false w) := by
  by_cases h1 : 256 < n
  · clear h
    have hd : decide ((n : Int) ≤ 256) = false := decide_eq_false (by omega)
    go_enter Try.func26, Try.ntmps26
    go_wp2_with (go_at_call 51; go_in)
    go_ret2
    exact ⟨0, 0, rfl, Same.refl _ _, rfl⟩
  · have hd : decide ((n : Int) ≤ 256) = true := decide_eq_true (by omega)
    have hne : ((n : Int) != (n' : Int)) = true := by rw [bne_iff_ne]; omega
    clear h h1
    go_enter Try.func26, Try.ntmps26
    go_wp2_with (go_at_call 51; go_in)
    go_ret2
    exact ⟨0, 0, rfl, Same.refl _ _, rfl⟩

set_option maxHeartbeats 2000000 in
theorem walk_small (a b : Option Addr) (n n' ca cb : Nat) (f g : Nat → Nat) (w : World) (ha : Rd w a n f) (hb : Rd w b n' g) (hn : n ≤ 1048576) (hn' : n' ≤ 1048576) :
    Calls Try.prog 9 #[.slice a n ca, .slice b n' cb] w fun e w' => e = .returned (.bool true) ∧ Below w.heap.size w w' := by
  obtain ⟨v, bb, S, I⟩ : ∃ v bb, (∀ (x y : Option Addr) (c d : Nat) (w' : World), Rd w' x n f → Rd w' y n' g → Calls Try.prog 26 #[.slice x n c, .slice y n' d] w' (FRet2 v bb w')) ∧
      (∀ (x y : Option Addr) (c d : Nat) (w' : World), Rd w' x n f → Rd w' y n' g → Calls Try.prog 28 #[.slice x n c, .slice y n' d] w' (FRet2 v bb w')) := by
    by_cases h : 256 < n ∨ n ≠ n'
    · exact ⟨_, _, fun x y c d w' _ _ => spec_no x y n n' c d w' hn h, fun x y c d w' _ _ => impl_no x y n n' c d w' hn h⟩
    · obtain rfl : n = n' := by omega
      exact ⟨_, _, fun x y c d w' hx hy => spec_yes x y n c d f g w' hx hy (by omega), fun x y c d w' hx hy => impl_yes x y n c d f g w' hx hy (by omega)⟩
  have S' := Lib.hid S
  have I' := Lib.hid I
  clear S I
  go_enter Try.func9, Try.ntmps9
  go_wp2_with fail
  refine (copy_any _ _ _ f _ ha hn).mono ?_
  rintro e w1 ⟨g1, rfl, hg1, hr1, hb1⟩
  clear hg1
  go_wp2_with fail
  refine (copy_any _ _ _ g _ (hb.below hb1) hn').mono ?_
  rintro e w2 ⟨g2, rfl, hg2, hr2, hb2⟩
  have hr1' := hr1.below hb2
  have hb2' := chain 0 hb1 hb2
  clear hg2 hr1 hb1 hb2
  go_wp2_with fail
  refine (S'.out _ _ _ _ _ hr1' hr2).mono ?_
  rintro e w2' ⟨r, m1, rfl, hs, rfl⟩
  clear hr1' hr2 S'
  go_wp2_with fail
  refine (copy_any _ _ _ f _ ((ha.below hb2').drewN m1) hn).mono ?_
  rintro e w3 ⟨g3, rfl, hg3, hr3, hb3⟩
  have hb3' := chain _ hb2' hb3
  clear hg3 hb2' hb3
  go_wp2_with fail
  refine (copy_any _ _ _ g _ (hb.below hb3') hn').mono ?_
  rintro e w4 ⟨g4, rfl, hg4, hr4, hb4⟩
  have hr3' := hr3.below hb4
  have hb4' := chain 0 hb3' hb4
  clear hg4 hr3 hb3' hb4
  go_wp2_with fail
  refine (I'.out _ _ _ _ _ hr3' hr4).mono ?_
  rintro e w4' ⟨s, m2, rfl, hi, rfl⟩
  clear I'
  go_wp2_with (first
    | ((with_reducible refine wpList_wide SameFloat.some32 Try.underlying32 (by with_unfolding_all rfl) (by with_unfolding_all rfl) ?_); intro r' n hr')
    | (go_at_call 23; refine (SameFloat.wide_any _ (by assumption) (by assumption) (hi.trans hs.symm)).mono ?_; rintro e w' ⟨n, rfl, rfl⟩))
  have ha5 := fun m => (ha.below hb4').drewN m
  refine (copy_any _ _ _ f _ (ha5 _) hn).mono ?_
  rintro e w5 ⟨g5, rfl, hg5, hr5, hb5⟩
  have hr3'' := (hr3'.drewN _).below hb5
  have hr4' := (hr4.drewN _).below hb5
  have hb5' := chain _ hb4' hb5
  clear hg5 ha5 hr3' hr4 hb4' hb5
  go_wp2_with fail
  refine (EqF.eq_any _ _ _ _ _ f _ hr3'' hr5 hn).mono ?_
  rintro e w5' ⟨m5, rfl, rfl⟩
  clear hr3'' hr5
  go_wp2_with fail
  have hb6 := fun m => (hb.below hb5').drewN m
  refine (copy_any _ _ _ g _ (hb6 _) hn').mono ?_
  rintro e w6 ⟨g6, rfl, hg6, hr6, hb6'⟩
  have hr4'' := (hr4'.drewN _).below hb6'
  have hb6'' := chain _ hb5' hb6'
  clear hg6 hb6 hr4' hb5' hb6'
  go_wp2_with fail
  refine (EqF.eq_any _ _ _ _ _ g _ hr4'' hr6 hn').mono ?_
  rintro e w6' ⟨m6, rfl, rfl⟩
  go_wp2_with fail
  go_ret
  exact ⟨rfl, below_drewN hb6'' _⟩

/-- The law's walk. -/
theorem walk (a : Option Addr) (n ca : Nat) (f : Nat → Nat) (b : Option Addr) (n' cb : Nat) (g : Nat → Nat) (w : World) (ha : Rd w a n f) (hb : Rd w b n' g) :
    Calls Try.prog 9 #[.slice a n ca, .slice b n' cb] w fun e w' => e = .returned (.bool true) ∧ Below w.heap.size w w' := by
  by_cases h1 : n ≤ 1048576
  · by_cases h2 : n' ≤ 1048576
    · exact walk_small a b n n' ca cb f g w ha hb h1 h2
    · have h2' : 1048576 < n' := by omega
      clear ha hb h2
      go_enter Try.func9, Try.ntmps9
      go_wp2
      go_ret
      exact ⟨rfl, Below.refl _ _⟩
  · have h1' : 1048576 < n := by omega
    clear ha hb h1
    go_enter Try.func9, Try.ntmps9
    go_wp2
    go_ret
    exact ⟨rfl, Below.refl _ _⟩
end Go.Proofs.Ytogclingihelaaa.Dot
