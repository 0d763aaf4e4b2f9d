/- The program's SameNumber and the reference's answer the same Bool. -/
import Derived.Test.YtogclingihelaaaBits
import Derived.Test.YtogclingihelaaaM
import Derived.Test.YtogclingihelaaaF32
namespace Go.Proofs.Ytogclingihelaaa.SameNumber
open Go.RowKit Go.Proofs.Ytogclingihelaaa.FW Go.Proofs.Ytogclingihelaaa.Bits Go.Proofs.Ytogclingihelaaa.F32

def sameB (a b : Nat) : Bool := bitsOf a == bitsOf b

theorem same_nan {a b : Nat} (ha : isN .f32 a = true) (hb : isN .f32 b = true) : sameB a b = true := by
  unfold sameB; rw [bits_nan ha, bits_nan hb]; rfl
theorem canon {b : Nat} (hb : isN .f32 b = false) : b ≠ 2143289344 := by
  rintro rfl; revert hb; decide
theorem same_left {a b : Nat} (ha : isN .f32 a = true) (hb : isN .f32 b = false) : sameB a b = false := by
  have := canon hb
  unfold sameB; rw [bits_nan ha, bits_num hb]; rw [beq_eq_false_iff_ne]; omega
theorem same_right {a b : Nat} (ha : isN .f32 a = false) (hb : isN .f32 b = true) : sameB a b = false := by
  have := canon ha
  unfold sameB; rw [bits_num ha, bits_nan hb]; rw [beq_eq_false_iff_ne]; omega
theorem same_num {a b : Nat} (ha : isN .f32 a = false) (hb : isN .f32 b = false) : sameB a b = decide (a = b) := by
  unfold sameB; rw [bits_num ha, bits_num hb]
  by_cases h : a = b
  · subst h; simp
  · rw [decide_eq_false h, beq_eq_false_iff_ne]; omega

theorem wf_lt {x : Nat} (h : (Lit.float .f32 x).wf = true) : x < 4294967296 := by simp [Lit.wf] at h; omega

theorem rg_le {x : Nat} (h : isN .f32 x = false) : rg x ≤ 2139095040 := by
  rw [isN_iff] at h
  have := of_decide_eq_false h
  omega

theorem eq_self {k : FloatKind} {x : Nat} (h : isN k x = false) : (k.format.order x x == some .eq) = true := by rw [order_self h]; rfl

/-- Where '==' says yes the words are one just where the signs are. -/
theorem num_yes {a b : Nat} (wa : a < 4294967296) (wb : b < 4294967296) (ha : isN .f32 a = false) (hb : isN .f32 b = false) (he : (FloatKind.f32.format.order a b == some .eq) = true) :
    (M.neg63 (wide a) == M.neg63 (wide b)) = sameB a b := by
  obtain ⟨R, hR, hw⟩ := wide_word (rg_le ha)
  obtain ⟨R', hR', hw'⟩ := wide_word (rg_le hb)
  have n1 : M.neg63 (wide a) = sg a := by unfold M.neg63; rw [hw]; exact (word64 _ (Nat.lt_of_le_of_lt hR inf64_lt)).2.2.1
  have n2 : M.neg63 (wide b) = sg b := by unfold M.neg63; rw [hw']; exact (word64 _ (Nat.lt_of_le_of_lt hR' inf64_lt)).2.2.1
  rw [n1, n2, same_num ha hb]
  by_cases h : sg a = sg b
  · rw [decide_eq_true (eq_word wa wb (rg_le ha) (rg_le hb) he h), h]; simp
  · rw [decide_eq_false (by rintro rfl; exact h rfl), beq_false_of_ne h]

theorem num_no {a b : Nat} (ha : isN .f32 a = false) (hb : isN .f32 b = false) (he : (FloatKind.f32.format.order a b == some .eq) = false) : sameB a b = false := by
  rw [same_num ha hb]
  refine decide_eq_false ?_
  rintro rfl
  rw [eq_self ha] at he; cases he

theorem sign_same {c : Nat} (hc : Hid (isN .f64 c = false ∧ c < 18446744073709551616)) {x : Nat} {w : World} (h : Same .f64 x c) :
    Calls Try.prog 43 #[.float .f64 x] w fun e w' => e = .returned (.bool (M.neg63 c)) ∧ w = w' := by
  obtain ⟨h1, h2⟩ := hc.out
  obtain rfl := h.eq h1
  exact M.sign_any x w (Lib.hid h2)

theorem spec_l01 (a b : Nat) (w : World) (wa : (Lit.float .f32 a).wf = true) (wb : (Lit.float .f32 b).wf = true) :
    Calls Try.prog 42 #[.float .f32 a, .float .f32 b] w fun e w' => e = .returned (.bool (sameB a b)) ∧ w = w' := by
  go_enter Try.func42, Try.ntmps42
  go_wp2_with fail
  refine (l01_any _ _ wa).mono ?_
  rintro e w' ⟨rfl, rfl⟩
  go_wp2_with fail
  refine (l01_any _ _ wb).mono ?_
  rintro e w' ⟨rfl, rfl⟩
  go_wp2_with fail
  go_ret
  exact ⟨rfl, rfl⟩

theorem spec_any (a b : Nat) (w : World) (wa : (Lit.float .f32 a).wf = true) (wb : (Lit.float .f32 b).wf = true) :
    Calls Try.prog 17 #[.float .f32 a, .float .f32 b] w fun e w' => e = .returned (.bool (sameB a b)) ∧ w = w' := by
  go_enter Try.func17, Try.ntmps17
  go_wp2_with (go_at_call 42; refine (spec_l01 _ _ _ wa wb).mono ?_; rintro e w' ⟨rfl, rfl⟩)
  go_ret
  exact ⟨rfl, rfl⟩

theorem impl_any (a b : Nat) (w : World) (wa : (Lit.float .f32 a).wf = true) (wb : (Lit.float .f32 b).wf = true) :
    Calls Try.prog 18 #[.float .f32 a, .float .f32 b] w (BRet (sameB a b) w) := by
  have la := wf_lt wa
  have lb := wf_lt wb
  clear wa wb
  cases ha : isN .f32 a with
  | true =>
    have n1 := neq_nan ha
    cases hb : isN .f32 b with
    | true =>
      have n2 := neq_nan hb
      have H := Lib.hid (same_nan ha hb)
      clear ha hb
      go_enter Try.func18, Try.ntmps18
      go_wp2
      go_ret
      exact bret0 H.out.symm
    | false =>
      have n2 := neq_num hb
      have H := Lib.hid (same_left ha hb)
      clear ha hb
      go_enter Try.func18, Try.ntmps18
      go_wp2
      go_ret
      exact bret0 H.out.symm
  | false =>
    have n1 := neq_num ha
    cases hb : isN .f32 b with
    | true =>
      have n2 := neq_nan hb
      have H := Lib.hid (same_right ha hb)
      clear ha hb
      go_enter Try.func18, Try.ntmps18
      go_wp2
      go_ret
      exact bret0 H.out.symm
    | false =>
      have n2 := neq_num hb
      cases he : (FloatKind.f32.format.order a b == some .eq) with
      | false =>
        have H := Lib.hid (num_no ha hb he)
        clear ha hb
        go_enter Try.func18, Try.ntmps18
        go_wp2
        go_ret
        exact bret0 H.out.symm
      | true =>
        have H := Lib.hid (num_yes la lb ha hb he)
        have Ha := Lib.hid (p := isN .f64 (wide a) = false ∧ wide a < 18446744073709551616) ⟨wide_num (rg_le ha), wide_lt (rg_le ha)⟩
        have Hb := Lib.hid (p := isN .f64 (wide b) = false ∧ wide b < 18446744073709551616) ⟨wide_num (rg_le hb), wide_lt (rg_le hb)⟩
        clear ha hb la lb
        go_enter Try.func18, Try.ntmps18
        go_wp2_with (first
          | ((with_reducible refine wpList_wide SameFloat.some32 Try.underlying32 (by with_unfolding_all rfl) (by with_unfolding_all rfl) ?_); intro r n hr)
          | (go_at_call 43; refine (sign_same Ha (by assumption)).mono ?_; rintro e w' ⟨rfl, rfl⟩)
          | (go_at_call 43; refine (sign_same Hb (by assumption)).mono ?_; rintro e w' ⟨rfl, rfl⟩))
        go_ret
        exact bret H.out

/-- The law's walk. -/
theorem walk (a0 a1 : Nat) (w : World) (w0 : (Lit.float .f32 a0).wf = true) (w1 : (Lit.float .f32 a1).wf = true) :
    Calls Try.prog 5 #[.float .f32 a0, .float .f32 a1] w fun e w' => e = .returned (.bool true) ∧ Below w.heap.size w w' := by
  go_enter Try.func5, Try.ntmps5
  generalize hb : sameB a0 a1 = b
  have H := Lib.hid hb; clear hb
  go_wp2_with (first
    | (go_at_call 17; refine (spec_any _ _ _ w0 w1).mono ?_; rw [H.out]; rintro e w' ⟨rfl, rfl⟩)
    | (go_at_call 18; refine (impl_any _ _ _ w0 w1).mono ?_; rw [H.out]; rintro e w' ⟨n, rfl, rfl⟩))
  all_goals (go_ret; exact ⟨rfl, below_drewN (Below.refl _ _) _⟩)
end Go.Proofs.Ytogclingihelaaa.SameNumber
