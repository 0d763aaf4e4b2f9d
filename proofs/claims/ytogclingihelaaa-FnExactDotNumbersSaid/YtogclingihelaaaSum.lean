/- The program's SumNumbers and the reference's give the same sum and the same Bool. -/
import Derived.Test.YtogclingihelaaaSlF
import Derived.Test.YtogclingihelaaaEqF
namespace Go.Proofs.Ytogclingihelaaa.Sum
open Go.RowKit Go.Proofs.Ytogclingihelaaa.FW Go.Proofs.Ytogclingihelaaa.SlF

/-- The sum from left to right. -/
def sumF (f : Nat → Nat) : Nat → Nat
  | 0 => 0
  | k + 1 => fop .add .f32 (sumF f k) (f k)

theorem sum_step {f : Nat → Nat} {k r s : Nat} (h : Same .f32 r (sumF f k)) (hs : Same .f32 s (fop .add .f32 r (f k))) : Same .f32 s (sumF f (k + 1)) := by
  rw [fop_same .add h (Same.refl _ _)] at hs
  exact hs

/-- A sum and a Bool. -/
def FRet2 (v : Nat) (b : Bool) (w : World) (e : Ending) (w' : World) : Prop := ∃ r n, e = .returned (.tuple #[.float .f32 r, .bool b]) ∧ Same .f32 r v ∧ w' = w.drewN n

set_option maxHeartbeats 400000 in
theorem l01_any (a : Option Addr) (n cap : Nat) (f : Nat → Nat) (w : World) (h : Rd w a n f) (hn : n ≤ 1048576) :
    Calls Try.prog 53 #[.slice a n cap] w (FRet .f32 (sumF f n) w) := by
  go_enter Try.func53, Try.ntmps53
  go_wp2
  go_loopw [3, 4] (fun s i wr => ∃ k r m : Nat, k ≤ n ∧ i = .int .i64 k ∧ s = .float .f32 r ∧ Same .f32 r (sumF f k) ∧ wr = w.drewN m) (fun _ i _ => n - (intOf i).toNat)
  case atStart => exact ⟨0, 0, 0, Nat.zero_le _, rfl, rfl, Same.refl _ _, rfl⟩
  case round =>
    obtain ⟨k, r0, m, hk, rfl, rfl, hr0, rfl⟩ := hrel
    by_cases hlt : k < n
    · obtain ⟨b, off, rfl, hb, hc⟩ := h k hlt
      have H0 := Lib.hid hr0
      clear h hb hr0
      go_wp2_with ((with_reducible refine wpList_arith (by with_unfolding_all rfl) (by with_unfolding_all rfl) (by with_unfolding_all rfl) (by with_unfolding_all rfl) ?_); intro r n' hr)
      go_roundw
      case rel => exact ⟨k + 1, r, _, by omega, by go_num, rfl, sum_step H0.out hr, rfl⟩
      case measure => simp [intOf]; omega
    · obtain rfl : k = n := by omega
      have H0 := Lib.hid hr0
      clear h hr0
      go_wp2
      go_ret
      exact fret H0.out

theorem spec_yes (a : Option Addr) (n cap : Nat) (f : Nat → Nat) (w : World) (h : Rd w a n f) (hn : n ≤ 256) :
    Calls Try.prog 30 #[.slice a n cap] w (FRet2 (sumF f n) true w) := by
  have h' := Lib.hid h
  clear h
  have hd : decide ((n : Int) ≤ 256) = true := decide_eq_true (by omega)
  go_enter Try.func30, Try.ntmps30
  go_wp2_with (first
    | (go_at_call 51; go_in)
    | (go_at_call 53; refine (l01_any _ _ _ f _ h'.out (by omega)).mono ?_; rintro e w' ⟨r, m, rfl, hr, rfl⟩))
  go_ret2
  exact ⟨r, _, rfl, hr, rfl⟩

theorem spec_no (a : Option Addr) (n cap : Nat) (w : World) (hn : 256 < n) (hn' : n ≤ 1048576) :
    Calls Try.prog 30 #[.slice a n cap] w (FRet2 0 false w) := by
  have hd : decide ((n : Int) ≤ 256) = false := decide_eq_false (by omega)
  go_enter Try.func30, Try.ntmps30
  go_wp2_with (go_at_call 51; go_in)
  go_ret2
  exact ⟨0, 0, rfl, Same.refl _ _, rfl⟩

set_option maxHeartbeats 400000 in
theorem impl_yes (a : Option Addr) (n cap : Nat) (f : Nat → Nat) (w : World) (h : Rd w a n f) (hn : n ≤ 256) :
    Calls Try.prog 31 #[.slice a n cap] w (FRet2 (sumF f n) true w) := by
  go_enter Try.func31, Try.ntmps31
  go_wp2
  go_loopw [4, 12] (fun s i wr => ∃ k r m : Nat, k ≤ n ∧ i = .int .i64 k ∧ s = .float .f32 r ∧ Same .f32 r (sumF f k) ∧ wr = w.drewN m) (fun _ i _ => n - (intOf i).toNat)
  case atStart => exact ⟨0, 0, 0, Nat.zero_le _, rfl, rfl, Same.refl _ _, rfl⟩
  case round =>
    obtain ⟨k, r0, m, hk, rfl, rfl, hr0, rfl⟩ := hrel
    by_cases hlt : k < n
    · obtain ⟨b, off, rfl, hb, hc⟩ := h k hlt
      have H0 := Lib.hid hr0
      clear h hb hr0
      go_wp2_with ((with_reducible refine wpList_arith (by with_unfolding_all rfl) (by with_unfolding_all rfl) (by with_unfolding_all rfl) (by with_unfolding_all rfl) ?_); intro r n' hr)
      go_roundw
      case rel => exact ⟨k + 1, r, _, by omega, by go_num, rfl, sum_step H0.out hr, rfl⟩
      case measure => simp [intOf]; omega
    · obtain rfl : k = n := by omega
      have H0 := Lib.hid hr0
      clear h hr0
      go_wp2
      go_ret2
      exact ⟨r0, _, rfl, H0.out, rfl⟩

theorem impl_no (a : Option Addr) (n cap : Nat) (w : World) (hn : 256 < n) (hn' : n ≤ 1048576) :
    Calls Try.prog 31 #[.slice a n cap] w (FRet2 0 false w) := by
  go_enter Try.func31, Try.ntmps31
  go_wp2
  go_ret2
  exact ⟨0, 0, rfl, Same.refl _ _, rfl⟩

set_option maxHeartbeats 1000000 in
/-- The law's walk. -/
theorem walk (a : Option Addr) (n cap : Nat) (f : Nat → Nat) (w : World) (h : Rd w a n f) :
    Calls Try.prog 10 #[.slice a n cap] w fun e w' => e = .returned (.bool true) ∧ Below w.heap.size w w' := by
  by_cases hbig : 1048576 < n
  · clear h
    go_enter Try.func10, Try.ntmps10
    go_wp2
    go_ret
    exact ⟨rfl, Below.refl _ _⟩
  · have hn : n ≤ 1048576 := by omega
    clear hbig
    obtain ⟨v, b, S, I⟩ : ∃ v b, (∀ (g : Option Addr) (c : Nat) (w' : World), Rd w' g n f → Calls Try.prog 30 #[.slice g n c] w' (FRet2 v b w')) ∧
        (∀ (g : Option Addr) (c : Nat) (w' : World), Rd w' g n f → Calls Try.prog 31 #[.slice g n c] w' (FRet2 v b w')) := by
      by_cases h256 : n ≤ 256
      · exact ⟨_, _, fun g c w' hr => spec_yes g n c f w' hr h256, fun g c w' hr => impl_yes g n c f w' hr h256⟩
      · exact ⟨_, _, fun g c w' _ => spec_no g n c w' (by omega) hn, fun g c w' _ => impl_no g n c w' (by omega) hn⟩
    have S' := Lib.hid S
    have I' := Lib.hid I
    clear S I
    go_enter Try.func10, Try.ntmps10
    go_wp2_with fail
    refine (copy_any _ _ _ f _ h hn).mono ?_
    rintro e w1 ⟨g1, rfl, hg1, hr1, hb1⟩
    go_wp2_with fail
    refine (S'.out _ _ _ hr1).mono ?_
    rintro e w1' ⟨r, m1, rfl, hs, rfl⟩
    go_wp2_with fail
    have ha2 := (h.below hb1).drewN m1
    refine (copy_any _ _ _ f _ ha2 hn).mono ?_
    rintro e w2 ⟨g2, rfl, hg2, hr2, hb2⟩
    have hb2' := chain _ hb1 hb2
    clear hb1 hb2 hr1 ha2 hg1 hg2
    go_wp2_with fail
    refine (I'.out _ _ _ hr2).mono ?_
    rintro e w2' ⟨s, m2, rfl, hi, rfl⟩
    go_wp2_with (first
      | ((with_reducible refine wpList_wide SameFloat.some32 Try.underlying32 (by with_unfolding_all rfl) (by with_unfolding_all rfl) ?_); intro r' n hr')
      | (go_at_call 23; refine (SameFloat.wide_any _ (by assumption) (by assumption) (hi.trans hs.symm)).mono ?_; rintro e w' ⟨n, rfl, rfl⟩))
    have ha3 := fun m => (h.below hb2').drewN m
    refine (copy_any _ _ _ f _ (ha3 _) hn).mono ?_
    rintro e w3 ⟨g3, rfl, hg3, hr3, hb3⟩
    have hr2' := (hr2.drewN _).below hb3
    have hb3' := chain _ hb2' hb3
    clear hb2' hb3 hr2 ha3 hg3
    go_wp2_with fail
    refine (EqF.eq_any _ _ _ _ _ f _ hr2' hr3 hn).mono ?_
    rintro e w3' ⟨m3, rfl, rfl⟩
    go_wp2_with fail
    go_ret
    exact ⟨rfl, below_drewN hb3' _⟩
end Go.Proofs.Ytogclingihelaaa.Sum
