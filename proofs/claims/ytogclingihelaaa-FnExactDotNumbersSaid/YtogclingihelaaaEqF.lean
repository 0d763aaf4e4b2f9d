/- The law's eqFloat32S says true of two slices that read the same numbers. -/
import Derived.Test.YtogclingihelaaaSlF
import Derived.Deep.RegionWith
namespace Go.Proofs.Ytogclingihelaaa.EqF
open Go.RowKit Go.Proofs.Ytogclingihelaaa.FW Go.Proofs.Ytogclingihelaaa.SlF

@[go_sem] theorem conv_eq (x : Nat) (w : World) : (convert 23 32 (.float .f32 x)).run Try.prog w = .ok (.float .f64 (wideR w x)) (w.drewN (wideN x)) :=
  run_wideR SameFloat.some32 Try.underlying32 x w

theorem same_two (w w' : World) (x : Nat) : Same .f64 (wideR w x) (wideR w' x) := (wideR_same w x).trans (wideR_same w' x).symm

set_option maxHeartbeats 1000000 in
set_option maxRecDepth 100000 in
theorem eq_any (a b : Option Addr) (n ca cb : Nat) (f : Nat → Nat) (w : World) (ha : Rd w a n f) (hb : Rd w b n f) (hn : n ≤ 1048576) :
    Calls Try.prog 29 #[.slice a n ca, .slice b n cb] w (BRet true w) := by
  have hne : ((n : Int) != (n : Int)) = false := by simp
  go_enter Try.func29, Try.ntmps29
  go_wp2
  go_loopw [5] (fun i wr => ∃ k m : Nat, k ≤ n ∧ i = .int .i64 k ∧ wr = w.drewN m) (fun i _ => n - (intOf i).toNat)
  case atStart => exact ⟨0, 0, Nat.zero_le _, rfl, rfl⟩
  case round =>
    obtain ⟨k, m, hk, rfl, rfl⟩ := hrel
    by_cases hlt : k < n
    · obtain ⟨ba, oa, rfl, _, hca⟩ := ha k hlt
      obtain ⟨bb, ob, rfl, _, hcb⟩ := hb k hlt
      clear ha hb hne
      generalize f k = x at hca hcb
      have h0 : (0 : Int) ≤ (k : Int) := by omega
      have h1 : (k : Int) < (n : Int) := by omega
      go_wp2_with fail
      go_region_with (first | (go_at_call 23; refine (SameFloat.any _ _ _ (same_two _ _ _)).mono ?_; rintro e w' ⟨n', rfl, rfl⟩))
      all_goals
        go_wp2
        go_roundw
        case rel => exact ⟨k + 1, _, by omega, by go_num, rfl⟩
        case measure => simp [intOf]; omega
    · clear ha hb
      go_wp2
      go_ret
      exact bret rfl
end Go.Proofs.Ytogclingihelaaa.EqF
