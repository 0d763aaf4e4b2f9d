/- The program's FromBits and the reference's give the same float32 and the same Bool. -/
import Derived.Test.YtogclingihelaaaSameFloat
namespace Go.Proofs.Ytogclingihelaaa.FromBits
open Go.RowKit Go.Proofs.Ytogclingihelaaa.FW

@[go_sem] theorem run_from32 (n : Int) (w : World) : (callFunc 48 #[.int .u32 n]).run Try.prog w = .ok (.value (.float .f32 n.toNat)) w := by
  rw [run_callFunc_extern Try.func48 (by kernel_rfl) (by kernel_rfl) (by kernel_rfl) (e := Extern.MathFloatBits.float32frombits) (by kernel_rfl)]
  rfl

theorem spec_yes (n : Int) (w : World) (h0 : 0 ≤ n) (h1 : n ≤ 4294967295) :
    Calls Try.prog 21 #[.int .i64 n] w fun e w' => e = .returned (.tuple #[.float .f32 n.toNat, .bool true]) ∧ w = w' := by
  go_enter Try.func21, Try.ntmps21
  go_wp2
  go_ret2
  exact ⟨rfl, rfl⟩
theorem impl_yes (n : Int) (w : World) (h0 : 0 ≤ n) (h1 : n ≤ 4294967295) :
    Calls Try.prog 22 #[.int .i64 n] w fun e w' => e = .returned (.tuple #[.float .f32 n.toNat, .bool true]) ∧ w = w' := by
  go_enter Try.func22, Try.ntmps22
  go_wp2
  go_ret2
  exact ⟨rfl, rfl⟩
theorem spec_no (n : Int) (w : World) (h : n < 0 ∨ 4294967295 < n) :
    Calls Try.prog 21 #[.int .i64 n] w fun e w' => e = .returned (.tuple #[.float .f32 0, .bool false]) ∧ w = w' := by
  rcases h with h | h
  · go_enter Try.func21, Try.ntmps21
    go_wp2
    go_ret2
    exact ⟨rfl, rfl⟩
  · have h' : 0 ≤ n := by omega
    have hd : decide (n ≤ 4294967295) = false := decide_eq_false (by omega)
    go_enter Try.func21, Try.ntmps21
    go_wp2
    go_ret2
    exact ⟨rfl, rfl⟩
theorem impl_no (n : Int) (w : World) (h : n < 0 ∨ 4294967295 < n) :
    Calls Try.prog 22 #[.int .i64 n] w fun e w' => e = .returned (.tuple #[.float .f32 0, .bool false]) ∧ w = w' := by
  rcases h with h | h
  · go_enter Try.func22, Try.ntmps22
    go_wp2
    go_ret2
    exact ⟨rfl, rfl⟩
  · have h' : 0 ≤ n := by omega
    have hd : decide (n ≤ 4294967295) = false := decide_eq_false (by omega)
    go_enter Try.func22, Try.ntmps22
    go_wp2
    go_ret2
    exact ⟨rfl, rfl⟩

/-- The law's walk. -/
theorem walk (a0 : Int) (w : World) (_ : (Lit.int .i64 a0).wf = true) :
    Calls Try.prog 7 #[.int .i64 a0] w fun e w' => e = .returned (.bool true) ∧ Below w.heap.size w w' := by
  by_cases h : 0 ≤ a0 ∧ a0 ≤ 4294967295
  · obtain ⟨h0, h1⟩ := h
    go_enter Try.func7, Try.ntmps7
    go_wp2_with (first
      | (go_at_call 21; refine (spec_yes _ _ h0 h1).mono ?_; rintro e w' ⟨rfl, rfl⟩)
      | (go_at_call 22; refine (impl_yes _ _ h0 h1).mono ?_; rintro e w' ⟨rfl, rfl⟩)
      | ((with_reducible refine wpList_wide SameFloat.some32 Try.underlying32 (by with_unfolding_all rfl) (by with_unfolding_all rfl) ?_); intro r n hr)
      | (go_at_call 23; refine (SameFloat.any _ _ _ (Same.trans (by assumption) (Same.symm (by assumption)))).mono ?_; rintro e w' ⟨n, rfl, rfl⟩))
    all_goals (go_ret; exact ⟨rfl, below_drewN (Below.refl _ _) _⟩)
  · have h' : a0 < 0 ∨ 4294967295 < a0 := by omega
    clear h
    go_enter Try.func7, Try.ntmps7
    go_wp2_with (first
      | (go_at_call 21; refine (spec_no _ _ h').mono ?_; rintro e w' ⟨rfl, rfl⟩)
      | (go_at_call 22; refine (impl_no _ _ h').mono ?_; rintro e w' ⟨rfl, rfl⟩)
      | ((with_reducible refine wpList_wide SameFloat.some32 Try.underlying32 (by with_unfolding_all rfl) (by with_unfolding_all rfl) ?_); intro r n hr)
      | (go_at_call 23; refine (SameFloat.any _ _ _ (Same.trans (by assumption) (Same.symm (by assumption)))).mono ?_; rintro e w' ⟨n, rfl, rfl⟩))
    all_goals (go_ret; exact ⟨rfl, below_drewN (Below.refl _ _) _⟩)
end Go.Proofs.Ytogclingihelaaa.FromBits
