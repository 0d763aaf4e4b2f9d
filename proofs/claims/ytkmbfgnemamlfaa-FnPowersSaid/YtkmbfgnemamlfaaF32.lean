/- Plain facts on float32 words: what they stand for, what they are as float64, how they stand to each other. No program in sight. -/
import Derived.Test.YtkmbfgnemamlfaaFW
namespace Go.Proofs.Ytkmbfgnemamlfaa.F32
open Go.Proofs.Ytkmbfgnemamlfaa.FW Go.Proofs.Ytkmbfgnemamlfaa.FT
open Ieee (Datum)

/-- The word without its sign; the sign. -/
def rg (x : Nat) : Nat := x % 2147483648
def sg (x : Nat) : Bool := x / 2147483648 % 2 == 1

theorem split {x : Nat} (h : x < 4294967296) : x = Ieee.single.word (sg x) (rg x) := by
  unfold Ieee.Format.word sg rg
  show x = if (x / 2147483648 % 2 == 1) = true then 2147483648 + x % 2147483648 else x % 2147483648
  by_cases h1 : x / 2147483648 % 2 = 1
  · rw [if_pos (by simpa using h1)]; omega
  · rw [if_neg (by simpa using h1)]; omega

theorem rg_lt (x : Nat) : rg x < 2147483648 := Nat.mod_lt _ (by omega)

theorem nan_of {x : Nat} (h : 2139095040 < rg x) : isN .f32 x = true := isN_of .f32 x h

theorem read_fin {x : Nat} (h : rg x < 2139095040) : Num Ieee.single (Ieee.single.read x) (sg x) (val Ieee.single (rg x)) := read_num good_single h

theorem read_infinity {x : Nat} (h : rg x = 2139095040) : Ieee.single.read x = .infinity (sg x) := by
  have h' : x % Ieee.single.signWeight = Ieee.single.infRung := h
  have hb : Ieee.single.binade ≤ Ieee.single.infRung := by decide
  unfold Ieee.Format.read
  simp only [h']
  rw [if_neg (by omega), if_neg (by omega)]
  simp only [if_true]
  rfl

theorem not_nan {x : Nat} (h : rg x ≤ 2139095040) : isN .f32 x = false := by
  unfold isN
  rcases Nat.lt_or_ge (rg x) 2139095040 with h1 | h1
  · obtain ⟨m, e, hd, _⟩ := read_fin h1
    show (Ieee.single.read x).isNaN = false
    rw [hd]; rfl
  · show (Ieee.single.read x).isNaN = false
    rw [read_infinity (by omega)]; rfl

theorem isN_iff (x : Nat) : isN .f32 x = decide (2139095040 < rg x) := by
  by_cases h : 2139095040 < rg x
  · rw [nan_of h, decide_eq_true h]
  · rw [not_nan (by omega), decide_eq_false h]

/-- As a float64: the same number. -/
theorem wide_fin {x : Nat} (h : rg x < 2139095040) :
    ∃ R, R < Ieee.double.infRung ∧ val Ieee.double R = val Ieee.single (rg x) ∧ wide x = Ieee.double.word (sg x) R := by
  obtain ⟨m, e, hd, he, hm, hv⟩ := read_fin h
  have hlt : val Ieee.single (rg x) < p2 5128 := single_lt (w := x) h
  have hlp : Ieee.single.leastPlace = -149 := by decide
  have hld : Ieee.double.leastPlace = -1074 := by decide
  obtain ⟨B, hB, hvB⟩ := double_pow (K := 5128) (by omega) (by omega)
  have hm' : m < 2 * Ieee.double.binade := Nat.lt_of_lt_of_le hm (by decide)
  obtain ⟨R, hR, hvR, hn⟩ := exact_word good_double (neg := sg x) (m := m) (e := e) hm' (by omega) (Nat.le_of_lt hB) (by rw [hvB, hv]; exact hlt)
  refine ⟨R, hR, by rw [hvR, hv], ?_⟩
  have hw := wide_ok x (not_nan (by omega))
  unfold floatToFloatBits at hw
  rw [if_neg (by decide)] at hw
  have hd' : FloatKind.f32.decode x = .number (sg x) m e := hd
  simp only [hd'] at hw
  split at hw
  · cases hw
  · injection hw with hw
    rw [← hw]; exact hn

theorem wide_inf {x : Nat} (h : rg x = 2139095040) : wide x = Ieee.double.word (sg x) Ieee.double.infRung := by
  have hd' : FloatKind.f32.decode x = .infinity (sg x) := read_infinity h
  unfold wide floatToFloatBits
  rw [if_neg (by decide)]
  simp only [hd']
  rfl

theorem inf64_lt : Ieee.double.infRung < 9223372036854775808 := by decide

/-- The word of a sign and a rung, in numbers. -/
theorem word64 (s : Bool) {R : Nat} (h : R < 9223372036854775808) : Ieee.double.word s R % 9223372036854775808 = R ∧ Ieee.double.word s R < 18446744073709551616 ∧
    decide (9223372036854775808 ≤ Ieee.double.word s R) = s ∧ Ieee.double.word s R / 9223372036854775808 * 9223372036854775808 = (if s then 9223372036854775808 else 0) := by
  have e : Ieee.double.word s R = if s then 9223372036854775808 + R else R := rfl
  rw [e]
  cases s
  · simp; omega
  · simp; omega

theorem wide_word {x : Nat} (h : rg x ≤ 2139095040) : ∃ R, R ≤ Ieee.double.infRung ∧ wide x = Ieee.double.word (sg x) R := by
  rcases Nat.lt_or_ge (rg x) 2139095040 with h1 | h1
  · obtain ⟨R, hR, _, hw⟩ := wide_fin h1
    exact ⟨R, Nat.le_of_lt hR, hw⟩
  · exact ⟨_, Nat.le_refl _, wide_inf (by omega)⟩

theorem wide_lt {x : Nat} (h : rg x ≤ 2139095040) : wide x < 18446744073709551616 := by
  obtain ⟨R, hR, hw⟩ := wide_word h
  rw [hw]; exact (word64 _ (Nat.lt_of_le_of_lt hR inf64_lt)).2.1

theorem wide_num {x : Nat} (h : rg x ≤ 2139095040) : isN .f64 (wide x) = false := by
  rcases Nat.lt_or_ge (rg x) 2139095040 with h1 | h1
  · obtain ⟨R, hR, _, hw⟩ := wide_fin h1
    obtain ⟨m, e, hd, _⟩ := read_word good_double (sg x) hR
    unfold isN
    show (Ieee.double.read (wide x)).isNaN = false
    rw [hw, hd]; rfl
  · unfold isN
    show (Ieee.double.read (wide x)).isNaN = false
    rw [wide_inf (by omega), read_inf (by decide)]; rfl

theorem read_zero : Num Ieee.single (Ieee.single.read 0) false 0 := by
  have h := read_num good_single (w := 0) (by decide)
  have e : val Ieee.single (0 % Ieee.single.signWeight) = 0 := by rw [Nat.zero_mod]; exact val_zero _
  rw [e] at h
  exact h

theorem iv_eq {s t : Bool} {a b : Nat} : iv s a = iv t b → a = b := by unfold iv; split <;> split <;> omega

/-- 'x != 0'. -/
theorem ne_zero (x : Nat) : (FloatKind.f32.format.order x 0 != some .eq) = decide (rg x ≠ 0) := by
  show ((Ieee.single.read x).order (Ieee.single.read 0) != some .eq) = _
  rcases Nat.lt_trichotomy (rg x) 2139095040 with h | h | h
  · rw [order_num good_single (read_fin h) read_zero]
    by_cases h0 : rg x = 0
    · rw [h0, val_zero]
      have e : iv (sg x) 0 = iv false 0 := by unfold iv; split <;> rfl
      rw [e, decide_eq_false (by omega)]
      simp
    · have hp := val_pos (f := Ieee.single) (r := rg x) (by omega)
      rw [decide_eq_true h0]
      cases hc : compare (iv (sg x) (val Ieee.single (rg x))) (iv false 0) with
      | lt => rfl
      | gt => rfl
      | eq =>
        exfalso
        have := iv_eq (Int.compare_eq_eq.1 hc)
        omega
  · obtain ⟨m, e, hd, _⟩ := read_zero
    rw [read_infinity h, hd, decide_eq_true (by omega)]
    cases sg x <;> rfl
  · have := order_nan_left (k := .f32) 0 (nan_of h)
    have h' : (Ieee.single.read x).order (Ieee.single.read 0) = none := this
    rw [h', decide_eq_true (by omega)]; rfl

/-- 'x == y' and the same sign: the same word. -/
theorem eq_word {x y : Nat} (hx : x < 4294967296) (hy : y < 4294967296) (nx : rg x ≤ 2139095040) (ny : rg y ≤ 2139095040)
    (he : (FloatKind.f32.format.order x y == some .eq) = true) (hs : sg x = sg y) : x = y := by
  have he' : (Ieee.single.read x).order (Ieee.single.read y) = some .eq := eq_of_beq he
  have key : rg x = rg y := by
    rcases Nat.lt_or_ge (rg x) 2139095040 with h1 | h1
    · rcases Nat.lt_or_ge (rg y) 2139095040 with h2 | h2
      · rw [order_num good_single (read_fin h1) (read_fin h2)] at he'
        injection he' with he'
        exact val_inj (iv_eq (Int.compare_eq_eq.1 he'))
      · exfalso
        obtain ⟨m, e, hd, _⟩ := read_fin h1
        rw [hd, read_infinity (by omega)] at he'
        unfold Datum.order at he'
        generalize sg y = b at he'
        cases b <;> simp at he'
    · rcases Nat.lt_or_ge (rg y) 2139095040 with h2 | h2
      · exfalso
        obtain ⟨m, e, hd, _⟩ := read_fin h2
        rw [hd, read_infinity (by omega)] at he'
        unfold Datum.order at he'
        generalize sg x = b at he'
        cases b <;> simp at he'
      · omega
  rw [split hx, split hy, key, hs]
end Go.Proofs.Ytkmbfgnemamlfaa.F32
