/- The two functions CheckOf, the program's and the reference's, give the same number and the same Bool. -/
import Derived.Test.YtogclingihelaaaRows
import Derived.WalkKit
import Derived.WalkSpells
import Derived.WalkLawsBesides
import Derived.Lib.Hide
namespace Go.Proofs.Ytogclingihelaaa.CheckOf
open Go.RowKit

def step (n : Int) (c : UInt8) : Int := (857 * n + (c.toNat : Int) + 149) % 65003
def chk (n : Int) (l : List UInt8) : Int := l.foldl step n

theorem chk_snoc (n : Int) (s : ByteArray) (k : Nat) (h : k < s.size) :
    chk n (s.data.toList.take (k + 1)) = step (chk n (s.data.toList.take k)) s[k] := by
  have : s.data.toList.take (k + 1) = s.data.toList.take k ++ [s[k]] := by
    rw [List.take_succ_eq_append_getElem (by simpa using h)]; rfl
  rw [this]; unfold chk; rw [List.foldl_append]; rfl

theorem chk_all (n : Int) (s : ByteArray) (k : Nat) (h : s.size ≤ k) : chk n (s.data.toList.take k) = chk n s.data.toList := by
  rw [List.take_of_length_le (by simpa using h)]

theorem step_in (n : Int) (c : UInt8) : 0 ≤ step n c ∧ step n c ≤ 65002 := by unfold step; omega

theorem chk_in (n : Int) (l : List UInt8) (h0 : 0 ≤ n) (h1 : n ≤ 65002) : 0 ≤ chk n l ∧ chk n l ≤ 65002 := by
  unfold chk
  induction l generalizing n with
  | nil => exact ⟨h0, h1⟩
  | cons c l ih => exact ih _ (step_in n c).1 (step_in n c).2

theorem int_eq {k : IntKind} {a b : Int} (h : a = b) : Value.int k a = Value.int k b := by rw [h]
theorem ret_int {k : IntKind} {a b : Int} (h : a = b) : Ending.returned (.int k a) = Ending.returned (.int k b) := by rw [h]
theorem ret_pair {k : IntKind} {a b : Int} {c : Bool} (h : a = b) : Ending.returned (.tuple #[.int k a, .bool c]) = Ending.returned (.tuple #[.int k b, .bool c]) := by rw [h]

set_option maxHeartbeats 400000 in
theorem check_any (n : Int) (s : ByteArray) (w : World) (hs : s.size ≤ maxLen) (h0 : 0 ≤ n) (h1 : n ≤ 65002) :
    Calls Try.prog 45 #[.int .i64 n, .string s] w fun e w' => e = .returned (.int .i64 (chk n s.data.toList)) ∧ w = w' := by
  unfold maxLen at hs
  go_enter Try.func45, Try.ntmps45
  go_wp2
  go_loop [0, 5] (fun m i => ∃ k : Nat, k ≤ s.size ∧ i = .int .i64 k ∧ m = .int .i64 (chk n (s.data.toList.take k))) (fun _ i => s.size - (intOf i).toNat)
  case atStart => exact ⟨0, Nat.zero_le _, rfl, rfl⟩
  case round =>
    obtain ⟨k, hk, rfl, rfl⟩ := hrel
    by_cases hlt : k < s.size
    · have hsn := chk_snoc n s k hlt
      have hb := chk_in n (s.data.toList.take k) h0 h1
      generalize hm : chk n (s.data.toList.take k) = m at *
      have H := Lib.hid hsn; clear hsn hm
      obtain ⟨hb0, hb1⟩ := hb
      have hc : (s[k].toNat : Int) < 256 := by have := s[k].toNat_lt; omega
      go_wp2
      go_round
      case rel => exact ⟨k + 1, by omega, by go_num, int_eq (by rw [H.out]; rfl)⟩
      case measure => simp [intOf]; omega
    · have hall := chk_all n s k (by omega)
      have H := Lib.hid hall; clear hall
      go_wp2
      go_ret
      exact ⟨ret_int H.out, rfl⟩

theorem spec_yes (n : Int) (s : ByteArray) (w : World) (hs : s.size ≤ maxLen) (h0 : 0 ≤ n) (h1 : n ≤ 65002) :
    Calls Try.prog 19 #[.int .i64 n, .string s] w fun e w' => e = .returned (.tuple #[.int .i64 (chk n s.data.toList), .bool true]) ∧ w = w' := by
  go_enter Try.func19, Try.ntmps19
  go_wp2_with (first
    | (go_at_call 45; refine (check_any _ _ _ hs h0 h1).mono ?_; rintro e w' ⟨rfl, rfl⟩)
    | (go_at_call 44; go_in))
  go_ret2
  exact ⟨rfl, rfl⟩

theorem spec_no (n : Int) (s : ByteArray) (w : World) (h : n < 0 ∨ 65002 < n) :
    Calls Try.prog 19 #[.int .i64 n, .string s] w fun e w' => e = .returned (.tuple #[.int .i64 0, .bool false]) ∧ w = w' := by
  rcases h with h | h
  · go_enter Try.func19, Try.ntmps19
    go_wp2
    go_ret2
    exact ⟨rfl, rfl⟩
  · have h' : 0 ≤ n := by omega
    have hd : decide (n ≤ 65002) = false := decide_eq_false (by omega)
    go_enter Try.func19, Try.ntmps19
    go_wp2
    go_ret2
    exact ⟨rfl, rfl⟩

set_option maxHeartbeats 400000 in
theorem impl_yes (n : Int) (s : ByteArray) (w : World) (hs : s.size ≤ maxLen) (h0 : 0 ≤ n) (h1 : n ≤ 65002) :
    Calls Try.prog 20 #[.int .i64 n, .string s] w fun e w' => e = .returned (.tuple #[.int .i64 (chk n s.data.toList), .bool true]) ∧ w = w' := by
  unfold maxLen at hs
  go_enter Try.func20, Try.ntmps20
  go_wp2
  go_loop [0, 12] (fun m i => ∃ k : Nat, k ≤ s.size ∧ i = .int .i64 k ∧ m = .int .i64 (chk n (s.data.toList.take k))) (fun _ i => s.size - (intOf i).toNat)
  case atStart => exact ⟨0, Nat.zero_le _, rfl, rfl⟩
  case round =>
    obtain ⟨k, hk, rfl, rfl⟩ := hrel
    by_cases hlt : k < s.size
    · have hsn := chk_snoc n s k hlt
      have hb := chk_in n (s.data.toList.take k) h0 h1
      generalize hm : chk n (s.data.toList.take k) = m at *
      have H := Lib.hid hsn; clear hsn hm
      obtain ⟨hb0, hb1⟩ := hb
      have hc : (s[k].toNat : Int) < 256 := by have := s[k].toNat_lt; omega
      go_wp2
      go_round
      case rel => exact ⟨k + 1, by omega, by go_num, int_eq (by rw [H.out]; rfl)⟩
      case measure => simp [intOf]; omega
    · have hall := chk_all n s k (by omega)
      have H := Lib.hid hall; clear hall
      go_wp2
      go_ret2
      exact ⟨ret_pair H.out, rfl⟩

theorem impl_no (n : Int) (s : ByteArray) (w : World) (h : n < 0 ∨ 65002 < n) :
    Calls Try.prog 20 #[.int .i64 n, .string s] w fun e w' => e = .returned (.tuple #[.int .i64 0, .bool false]) ∧ w = w' := by
  rcases h with h | h
  · go_enter Try.func20, Try.ntmps20
    go_wp2
    go_ret2
    exact ⟨rfl, rfl⟩
  · have h' : 0 ≤ n := by omega
    have hd : decide (n ≤ 65002) = false := decide_eq_false (by omega)
    go_enter Try.func20, Try.ntmps20
    go_wp2
    go_ret2
    exact ⟨rfl, rfl⟩

/-- The law's walk. -/
theorem walk (a0 : Int) (a1 : ByteArray) (w : World) (_ : (Lit.int .i64 a0).wf = true) (w1 : a1.size ≤ maxLen) :
    Calls Try.prog 6 #[.int .i64 a0, .string a1] w fun e w' => e = .returned (.bool true) ∧ Below w.heap.size w w' := by
  have w1' := w1
  unfold maxLen at w1'
  by_cases h : 0 ≤ a0 ∧ a0 ≤ 65002
  · obtain ⟨h0, h1⟩ := h
    go_enter Try.func6, Try.ntmps6
    go_wp2_with (first
      | (go_at_call 19; refine (spec_yes _ _ _ w1 h0 h1).mono ?_; rintro e w' ⟨rfl, rfl⟩)
      | (go_at_call 20; refine (impl_yes _ _ _ w1 h0 h1).mono ?_; rintro e w' ⟨rfl, rfl⟩))
    all_goals (go_ret; exact ⟨rfl, Below.refl _ _⟩)
  · have h' : a0 < 0 ∨ 65002 < a0 := by omega
    clear h
    go_enter Try.func6, Try.ntmps6
    go_wp2_with (first
      | (go_at_call 19; refine (spec_no _ _ _ h').mono ?_; rintro e w' ⟨rfl, rfl⟩)
      | (go_at_call 20; refine (impl_no _ _ _ h').mono ?_; rintro e w' ⟨rfl, rfl⟩))
    all_goals (go_ret; exact ⟨rfl, Below.refl _ _⟩)
end Go.Proofs.Ytogclingihelaaa.CheckOf
