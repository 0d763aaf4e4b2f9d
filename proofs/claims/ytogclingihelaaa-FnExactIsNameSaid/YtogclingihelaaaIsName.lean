/- The two functions IsName, the program's and the reference's, give the same Bool: every byte a small letter, 1 to 8 of them. -/
import Derived.Test.YtogclingihelaaaRows
import Derived.WalkKit
import Derived.WalkSpells
import Derived.WalkLawsBesides
import Derived.Lib.Hide
namespace Go.Proofs.Ytogclingihelaaa.IsName
open Go.RowKit

def okB (c : UInt8) : Bool := decide (97 ≤ (c.toNat : Int) ∧ (c.toNat : Int) ≤ 122)
def isNameB (l : List UInt8) : Bool := l.all okB && decide (1 ≤ l.length ∧ l.length ≤ 8)

theorem bad (s : ByteArray) (k : Nat) (h : k < s.size) (hb : okB s[k] = false) : isNameB s.data.toList = false := by
  unfold isNameB
  have : s.data.toList.all okB = false := by
    rw [List.all_eq_false]
    refine ⟨s[k], ?_, by simp [hb]⟩
    have : s[k] = s.data.toList[k]'(by simpa using h) := rfl
    rw [this]; exact List.getElem_mem _
  rw [this]; rfl

theorem good (s : ByteArray) (h : ∀ j, (hj : j < s.size) → okB s[j] = true) : isNameB s.data.toList = decide (1 ≤ s.size ∧ s.size ≤ 8) := by
  unfold isNameB
  have : s.data.toList.all okB = true := by
    rw [List.all_eq_true]
    intro x hx
    obtain ⟨j, hj, rfl⟩ := List.getElem_of_mem hx
    exact h j (by simpa using hj)
  rw [this, Bool.true_and]
  simp

def AllOk (s : ByteArray) (k : Nat) : Prop := ∀ j, (hj : j < s.size) → j < k → okB s[j] = true

theorem AllOk.succ {s : ByteArray} {k : Nat} (h : AllOk s k) (hk : k < s.size) (hb : okB s[k] = true) : AllOk s (k + 1) := by
  intro j hj hjk
  by_cases e : j = k
  · subst e; exact hb
  · exact h j hj (by omega)

theorem okB_iff {c : UInt8} : okB c = true ↔ 97 ≤ (c.toNat : Int) ∧ (c.toNat : Int) ≤ 122 := by simp [okB]

theorem ret_bool {a b : Bool} (h : a = b) : Ending.returned (.bool a) = Ending.returned (.bool b) := by rw [h]

set_option maxHeartbeats 400000 in
theorem spec_any (s : ByteArray) (w : World) (hs : s.size ≤ maxLen) :
    Calls Try.prog 13 #[.string s] w fun e w' => e = .returned (.bool (isNameB s.data.toList)) ∧ w = w' := by
  unfold maxLen at hs
  go_enter Try.func13, Try.ntmps13
  go_wp2
  go_loop [3] (fun i => ∃ k : Nat, k ≤ s.size ∧ AllOk s k ∧ i = .int .i64 k) (fun i => s.size - (intOf i).toNat)
  case atStart => exact ⟨0, Nat.zero_le _, fun j _ h => absurd h (Nat.not_lt_zero _), rfl⟩
  case round =>
    obtain ⟨k, hk, hall, rfl⟩ := hrel
    by_cases hlt : k < s.size
    · by_cases h1 : 97 ≤ (s[k].toNat : Int)
      · by_cases h2 : (s[k].toNat : Int) ≤ 122
        · go_wp2
          go_round
          case rel => exact ⟨k + 1, by omega, hall.succ hlt (okB_iff.2 ⟨h1, h2⟩), by go_num⟩
          case measure => simp [intOf]; omega
        · have hbad : isNameB s.data.toList = false := bad s k hlt (by rw [Bool.eq_false_iff]; intro h; exact h2 (okB_iff.1 h).2)
          have H := Lib.hid hbad; clear hbad
          go_wp2
          go_ret
          exact ⟨ret_bool H.out.symm, rfl⟩
      · have hbad : isNameB s.data.toList = false := bad s k hlt (by rw [Bool.eq_false_iff]; intro h; exact h1 (okB_iff.1 h).1)
        have H := Lib.hid hbad; clear hbad
        go_wp2
        go_ret
        exact ⟨ret_bool H.out.symm, rfl⟩
    · have hgood : isNameB s.data.toList = decide (1 ≤ s.size ∧ s.size ≤ 8) := good s fun j hj => hall j hj (by omega)
      have H := Lib.hid hgood; clear hgood
      by_cases h1 : 1 ≤ s.size
      · go_wp2
        go_ret
        exact ⟨ret_bool (by rw [H.out]; exact decide_eq_decide.2 (by omega)), rfl⟩
      · go_wp2
        go_ret
        exact ⟨ret_bool (by rw [H.out]; exact (decide_eq_false (by omega)).symm), rfl⟩

set_option maxHeartbeats 400000 in
theorem impl_any (s : ByteArray) (w : World) (hs : s.size ≤ maxLen) :
    Calls Try.prog 14 #[.string s] w fun e w' => e = .returned (.bool (isNameB s.data.toList)) ∧ w = w' := by
  unfold maxLen at hs
  go_enter Try.func14, Try.ntmps14
  go_wp2
  go_loop [6] (fun i => ∃ k : Nat, k ≤ s.size ∧ AllOk s k ∧ i = .int .i64 k) (fun i => s.size - (intOf i).toNat)
  case atStart => exact ⟨0, Nat.zero_le _, fun j _ h => absurd h (Nat.not_lt_zero _), rfl⟩
  case round =>
    obtain ⟨k, hk, hall, rfl⟩ := hrel
    by_cases hlt : k < s.size
    · by_cases h1 : 97 ≤ (s[k].toNat : Int)
      · by_cases h2 : (s[k].toNat : Int) ≤ 122
        · go_wp2
          go_round
          case rel => exact ⟨k + 1, by omega, hall.succ hlt (okB_iff.2 ⟨h1, h2⟩), by go_num⟩
          case measure => simp [intOf]; omega
        · have hbad : isNameB s.data.toList = false := bad s k hlt (by rw [Bool.eq_false_iff]; intro h; exact h2 (okB_iff.1 h).2)
          have H := Lib.hid hbad; clear hbad
          go_wp2
          go_ret
          exact ⟨ret_bool H.out.symm, rfl⟩
      · have hbad : isNameB s.data.toList = false := bad s k hlt (by rw [Bool.eq_false_iff]; intro h; exact h1 (okB_iff.1 h).1)
        have H := Lib.hid hbad; clear hbad
        go_wp2
        go_ret
        exact ⟨ret_bool H.out.symm, rfl⟩
    · have hgood : isNameB s.data.toList = decide (1 ≤ s.size ∧ s.size ≤ 8) := good s fun j hj => hall j hj (by omega)
      have H := Lib.hid hgood; clear hgood
      by_cases h1 : 1 ≤ s.size
      · go_wp2
        go_ret
        exact ⟨ret_bool (by rw [H.out]; exact decide_eq_decide.2 (by omega)), rfl⟩
      · go_wp2
        go_ret
        exact ⟨ret_bool (by rw [H.out]; exact (decide_eq_false (by omega)).symm), rfl⟩

/-- The law's walk. -/
theorem walk (a0 : ByteArray) (w : World) (w0 : a0.size ≤ maxLen) :
    Calls Try.prog 3 #[.string a0] w fun e w' => e = .returned (.bool true) ∧ Below w.heap.size w w' := by
  have w0' := w0
  unfold maxLen at w0'
  go_enter Try.func3, Try.ntmps3
  generalize hb : isNameB a0.data.toList = b
  have H := Lib.hid hb; clear hb
  go_wp2_with (first
    | (go_at_call 13; refine (spec_any _ _ w0).mono ?_; rintro e w' ⟨rfl, rfl⟩)
    | (go_at_call 14; refine (impl_any _ _ w0).mono ?_; rintro e w' ⟨rfl, rfl⟩))
  all_goals (go_ret; exact ⟨rfl, Below.refl _ _⟩)
end Go.Proofs.Ytogclingihelaaa.IsName
