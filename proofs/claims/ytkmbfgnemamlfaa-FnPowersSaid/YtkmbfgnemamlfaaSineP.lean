/- The sine of a number of turns as a plain function on float64 words, and bounds on all that it passes through. No program in sight. -/
import Derived.Test.YtkmbfgnemamlfaaFB
namespace Go.Proofs.Ytkmbfgnemamlfaa.SineP
open Go.Proofs.Ytkmbfgnemamlfaa.FW Go.Proofs.Ytkmbfgnemamlfaa.FT Go.Proofs.Ytkmbfgnemamlfaa.FB
open Ieee (Datum)

def one : Nat := 4607182418800017408
def half : Nat := 4602678819172646912
def quarter : Nat := 4598175219545276416
def turn : Nat := 4618760256179416344
def c52 : Nat := 4841369599423283200

def ltB (x y : Nat) : Bool := FloatKind.f64.format.order x y == some .lt
def gtB (x y : Nat) : Bool := FloatKind.f64.format.order x y == some .gt
def geB (x y : Nat) : Bool := FloatKind.f64.format.order x y == some .gt || FloatKind.f64.format.order x y == some .eq

theorem of_word {x : Nat} (h : x < Ieee.double.infRung) : N64 x false (val Ieee.double x) := by
  have hs := Ieee.double.infRung_lt
  have hm : x % Ieee.double.signWeight = x := Nat.mod_eq_of_lt (by omega)
  have hd : (x / Ieee.double.signWeight % 2 == 1) = false := by rw [Nat.div_eq_of_lt (by omega)]; rfl
  have := read_num good_double (w := x) (by rw [hm]; exact h)
  rw [hm, hd] at this
  exact this

/-- A constant that is a power of two. -/
theorem val_word {x K : Nat} (h1 : 3978 ≤ K) (h2 : x = (K - 3926 - 52 + 1) * 2 ^ 52) : val Ieee.double x = p2 K := by
  have := val_pow (f := Ieee.double) (K := K) (by rw [lpN_double]; show 3926 + 52 ≤ K; omega)
  rw [lpN_double] at this
  rw [h2]; exact this

theorem n_one : N64 one false (p2 5000) := by rw [← val_word (x := one) (K := 5000) (by decide) (by decide)]; exact of_word (by decide)
theorem n_half : N64 half false (p2 4999) := by rw [← val_word (x := half) (K := 4999) (by decide) (by decide)]; exact of_word (by decide)
theorem n_quarter : N64 quarter false (p2 4998) := by rw [← val_word (x := quarter) (K := 4998) (by decide) (by decide)]; exact of_word (by decide)
theorem n_c52 : N64 c52 false (p2 5052) := by rw [← val_word (x := c52) (K := 5052) (by decide) (by decide)]; exact of_word (by decide)
theorem n_turn : ∃ v, N64 turn false v ∧ v ≤ p2 5003 := by
  refine ⟨_, of_word (by decide), ?_⟩
  rw [← val_word (x := 4620693217682128896) (K := 5003) (by decide) (by decide)]
  exact val_le.2 (by decide)

/-! ### Whole numbers -/
theorem cut_zero (neg : Bool) (n d : Nat) : Ieee.Toward.zero.cut neg n d = n / 2 ^ d := by
  have hlt : n < 2 ^ (n.log2 + 1) := Nat.lt_log2_self
  unfold Ieee.Toward.cut
  simp only [Nat.one_shiftLeft]
  by_cases h : d ≤ n.log2 + 2
  · rw [Nat.min_eq_left h]; simp
  · have h' : n.log2 + 2 ≤ d := by omega
    have e2 : 2 ^ (n.log2 + 2) = 2 * 2 ^ (n.log2 + 1) := by rw [Nat.pow_succ]; omega
    have e3 : 2 ^ (n.log2 + 2) ≤ 2 ^ d := Nat.pow_le_pow_right (by omega) h'
    rw [Nat.min_eq_right h', Nat.div_eq_of_lt (by omega), Nat.div_eq_of_lt (by omega : n < 2 ^ d)]
    rfl

/-- The number cut towards zero. -/
theorem trunc_fact {x : Nat} {s : Bool} {v : Nat} (h : N64 x s v) (hv : v < p2 5052) :
    ∃ t : Nat, floatToIntVal .f64 x .i64 = some (if s then -(t : Int) else (t : Int)) ∧ t * p2 5000 ≤ v ∧ v < (t + 1) * p2 5000 ∧ t < 4503599627370496 := by
  obtain ⟨m, e, hd, he, _, rfl⟩ := h
  rw [ld] at he
  have hd' : FloatKind.f64.decode x = .number s m e := hd
  obtain ⟨c, hc⟩ : ∃ c, c = (m <<< e.toNat) / 2 ^ (-e).toNat := ⟨_, rfl⟩
  have ht : (FloatKind.f64.decode x).toInt .zero = some (if s then -(c : Int) else (c : Int)) := by
    rw [hd']
    unfold Datum.toInt Datum.integral
    simp only [cut_zero]
    rw [← hc]
    simp [Ieee.signed]
  have key : sc m e * 2 ^ (-e).toNat = (m <<< e.toNat) * p2 5000 := by
    show m * p2 (up e) * p2 (-e).toNat = _
    rw [Nat.shiftLeft_eq]
    show _ = m * p2 e.toNat * p2 5000
    rw [Nat.mul_assoc, p2_add, Nat.mul_assoc, p2_add]
    congr 2; unfold up; omega
  have hdm := Nat.div_add_mod (m <<< e.toNat) (2 ^ (-e).toNat)
  have hml := Nat.mod_lt (m <<< e.toNat) (Nat.two_pow_pos (-e).toNat)
  rw [← hc] at hdm
  have hk : 0 < 2 ^ (-e).toNat := Nat.two_pow_pos _
  generalize 2 ^ (-e).toNat = k at *
  have h1 : c * p2 5000 ≤ sc m e := by
    refine Nat.le_of_mul_le_mul_right (a := c * p2 5000) ?_ hk
    rw [key, Nat.mul_right_comm]
    exact Nat.mul_le_mul_right _ (by rw [Nat.mul_comm]; omega)
  have h2 : sc m e < (c + 1) * p2 5000 := by
    refine Nat.lt_of_mul_lt_mul_right (a := k) ?_
    rw [key, Nat.mul_right_comm]
    refine Nat.mul_lt_mul_of_pos_right ?_ (p2_pos _)
    rw [Nat.add_mul, Nat.mul_comm]; omega
  have h3 : c < 4503599627370496 := by
    have h4 : c * p2 5000 < p2 52 * p2 5000 := by
      rw [p2_add]; exact Nat.lt_of_le_of_lt h1 hv
    have e52 : p2 52 = 4503599627370496 := by decide
    rw [← e52]
    exact Nat.lt_of_mul_lt_mul_right h4
  refine ⟨c, ?_, h1, h2, h3⟩
  unfold floatToIntVal
  rw [ht]
  have hmin : IntKind.i64.min = -9223372036854775808 := by decide
  have hmax : IntKind.i64.max = 9223372036854775807 := by decide
  simp only [hmin, hmax]
  rw [if_pos]
  cases s
  · simp only [Bool.false_eq_true, if_false]; omega
  · simp only [if_true]; omega

theorem sc_zero (m : Nat) : sc m 0 = m * p2 5000 := by
  have h : up 0 = 5000 := by decide
  show m * p2 (up 0) = _
  rw [h]

/-- An integer as a float64, exactly. -/
theorem ofInt_exact (n : Int) (h : n.natAbs < 9007199254740992) : N64 (floatOfInt .f64 n) (n < 0) (n.natAbs * p2 5000) := by
  obtain ⟨B, hB, hvB⟩ := double_pow (K := 5060) (by omega) (by omega)
  have hbin : 2 * Ieee.double.binade = 9007199254740992 := by decide
  have hlt : sc n.natAbs 0 < val Ieee.double B := by
    rw [hvB, sc_zero]
    have : p2 5060 = p2 60 * p2 5000 := by rw [p2_add]
    rw [this]
    refine Nat.mul_lt_mul_of_pos_right ?_ (p2_pos _)
    have : p2 60 = 1152921504606846976 := by decide
    omega
  obtain ⟨R, hR, hv, hn⟩ := exact_word good_double (neg := n < 0) (m := n.natAbs) (e := 0) (by rw [hbin]; exact h) (by rw [ld]; omega) (Nat.le_of_lt hB) hlt
  unfold N64
  show Num _ (Ieee.double.read (Ieee.double.nearest (n < 0) n.natAbs 0)) _ _
  rw [hn]
  have := read_word good_double (decide (n < 0)) hR
  rw [hv, sc_zero] at this
  exact this

def tr (x : Nat) : Int := (floatToIntVal .f64 x .i64).getD 0
def fracD (x : Nat) : Nat := fop .sub .f64 x (floatOfInt .f64 (tr x))
def fracF (x : Nat) : Nat := if ltB (fracD x) 0 = true then fop .add .f64 (fracD x) one else fracD x

/-- A number below 2 ^ 52. -/
def Small (x : Nat) : Prop := ∃ s v, N64 x s v ∧ v < p2 5052

theorem tr_some {x : Nat} (h : Small x) : floatToIntVal .f64 x .i64 = some (tr x) := by
  obtain ⟨s, v, hn, hv⟩ := h
  obtain ⟨t, ht, _⟩ := trunc_fact hn hv
  unfold tr; rw [ht]; rfl

/-- At most 'p2 K'. -/
def Bd (x K : Nat) : Prop := ∃ s v, N64 x s v ∧ v ≤ p2 K
theorem Bd.num {x K : Nat} (h : Bd x K) : isN .f64 x = false := by
  obtain ⟨s, v, h, _⟩ := h
  exact h.notNan
theorem Bd.up {x K L : Nat} (h : Bd x K) (hl : K ≤ L) : Bd x L := by
  obtain ⟨s, v, h, hv⟩ := h
  exact ⟨s, v, h, Nat.le_trans hv (pw hl)⟩
theorem Bd.add {x y K : Nat} (hx : Bd x K) (hy : Bd y K) (h1 : 3978 ≤ K) (h2 : K ≤ 6022) : Bd (fop .add .f64 x y) (K + 1) := by
  obtain ⟨s, v, hx, hv⟩ := hx
  obtain ⟨t, u, hy, hu⟩ := hy
  exact add_crude hx hy hv hu h1 h2
theorem Bd.sub {x y K : Nat} (hx : Bd x K) (hy : Bd y K) (h1 : 3978 ≤ K) (h2 : K ≤ 6022) : Bd (fop .sub .f64 x y) (K + 1) := by
  obtain ⟨s, v, hx, hv⟩ := hx
  obtain ⟨t, u, hy, hu⟩ := hy
  exact sub_crude hx hy hv hu h1 h2
theorem Bd.mul {x y A B K : Nat} (hx : Bd x A) (hy : Bd y B) (hK : K + 5000 = A + B) (h1 : 3978 ≤ K) (h2 : K ≤ 6023) : Bd (fop .mul .f64 x y) K := by
  obtain ⟨s, v, hx, hv⟩ := hx
  obtain ⟨t, u, hy, hu⟩ := hy
  obtain ⟨r, h, hr⟩ := mul_le hx hy hv hu hK h1 h2
  exact ⟨_, r, h, hr⟩
/-- A number that is 1 or more, in magnitude. -/
def Big (x : Nat) : Prop := ∃ s v, N64 x s v ∧ p2 5000 ≤ v
theorem Bd.div {x y K : Nat} (hx : Bd x K) (hy : Big y) (h1 : 3978 ≤ K) (h2 : K ≤ 6023) : Bd (fop .quo .f64 x y) K := by
  obtain ⟨s, v, hx, hv⟩ := hx
  obtain ⟨t, u, hy, hu⟩ := hy
  obtain ⟨r, h, hr⟩ := div_one hx hy hv hu h1 h2
  exact ⟨_, r, h, hr⟩
theorem Bd.fits {x K : Nat} (h : Bd x K) (hK : K ≤ 5127) : Fits x := by
  obtain ⟨s, v, h, hv⟩ := h
  exact fits_le' h hv hK

theorem b_one : Bd one 5000 := ⟨_, _, n_one, Nat.le_refl _⟩
theorem b_half : Bd half 4999 := ⟨_, _, n_half, Nat.le_refl _⟩
theorem b_turn : Bd turn 5003 := by obtain ⟨v, h, hv⟩ := n_turn; exact ⟨_, v, h, hv⟩

/-- What is left behind the whole turns is at most 1. -/
theorem bd_fracD {x : Nat} (h : Small x) : Bd (fracD x) 5000 := by
  obtain ⟨s, v, hn, hv⟩ := h
  obtain ⟨t, ht, h1, h2, h3⟩ := trunc_fact hn hv
  have htr : tr x = if s then -(t : Int) else (t : Int) := by unfold tr; rw [ht]; rfl
  have hab : (tr x).natAbs = t := by rw [htr]; cases s <;> simp
  have ho := ofInt_exact (tr x) (by rw [hab]; omega)
  rw [hab] at ho
  refine sub_le hn ho (by omega) (by omega) ?_
  have h4 : (t + 1) * p2 5000 = t * p2 5000 + p2 5000 := by rw [Nat.add_mul, Nat.one_mul]
  have e : iv (decide (tr x < 0)) (t * p2 5000) = iv s (t * p2 5000) := by
    rw [htr]
    cases s
    · simp only [Bool.false_eq_true, if_false]
      rw [decide_eq_false (by omega)]
    · simp only [if_true]
      by_cases h0 : t = 0
      · subst h0; simp [iv]
      · rw [decide_eq_true (by omega)]
  rw [e]
  generalize t * p2 5000 = q at *
  cases s <;> simp only [iv, Bool.false_eq_true, if_false, if_true] <;> omega

theorem bd_fracF {x : Nat} (h : Small x) : Bd (fracF x) 5001 := by
  have hd := bd_fracD h
  unfold fracF
  split
  · exact hd.add b_one (by omega) (by omega)
  · exact hd.up (by omega)

/-! ### The sine -/
def foldA (f : Nat) : Nat := if geB f half = true then fop .sub .f64 f half else f
def foldB (f : Nat) : Nat := if gtB f quarter = true then fop .sub .f64 half f else f
/-- The divisors, from the last factor on: 2k(2k + 1) at k = 8 - j. -/
def cF (j : Nat) : Nat := floatOfInt .f64 (2 * (8 - (j : Int)) * (2 * (8 - (j : Int)) + 1))
def pF (u : Nat) : Nat → Nat
  | 0 => one
  | j + 1 => fop .sub .f64 one (fop .quo .f64 (fop .mul .f64 u (pF u j)) (cF j))
def zF (f : Nat) : Nat := fop .mul .f64 (foldB (foldA f)) turn
def sineF (x : Nat) : Nat :=
  if geB (fracF x) half = true then Op.negFloat .f64 (fop .mul .f64 (zF (fracF x)) (pF (fop .mul .f64 (zF (fracF x)) (zF (fracF x))) 8))
  else fop .mul .f64 (zF (fracF x)) (pF (fop .mul .f64 (zF (fracF x)) (zF (fracF x))) 8)

theorem bd_foldA {f : Nat} (h : Bd f 5001) : Bd (foldA f) 5002 := by
  unfold foldA
  split
  · exact h.sub (b_half.up (by omega)) (by omega) (by omega)
  · exact h.up (by omega)
theorem bd_foldB {f : Nat} (h : Bd f 5002) : Bd (foldB f) 5003 := by
  unfold foldB
  split
  · exact (b_half.up (by omega)).sub h (by omega) (by omega)
  · exact h.up (by omega)
theorem bd_zF {f : Nat} (h : Bd f 5001) : Bd (zF f) 5006 := (bd_foldB (bd_foldA h)).mul b_turn (by omega) (by omega) (by omega)

theorem big_cF (j : Nat) (hj : j < 8) : Big (cF j) := by
  refine ⟨_, _, ofInt_exact _ ?_, ?_⟩
  · have : j = 0 ∨ j = 1 ∨ j = 2 ∨ j = 3 ∨ j = 4 ∨ j = 5 ∨ j = 6 ∨ j = 7 := by omega
    rcases this with rfl | rfl | rfl | rfl | rfl | rfl | rfl | rfl <;> decide
  · have h1 : 1 ≤ (2 * (8 - (j : Int)) * (2 * (8 - (j : Int)) + 1)).natAbs := by
      have : j = 0 ∨ j = 1 ∨ j = 2 ∨ j = 3 ∨ j = 4 ∨ j = 5 ∨ j = 6 ∨ j = 7 := by omega
      rcases this with rfl | rfl | rfl | rfl | rfl | rfl | rfl | rfl <;> decide
    have := Nat.mul_le_mul_right (p2 5000) h1
    rwa [Nat.one_mul] at this

/-- All that a round passes through. -/
theorem bd_pF {u : Nat} (h : Bd u 5012) : ∀ j, j ≤ 8 → Bd (pF u j) (5000 + 13 * j)
  | 0, _ => b_one
  | j + 1, hj => by
    have ih := bd_pF h j (by omega)
    have h1 := h.mul ih (K := 5012 + 13 * j) (by omega) (by omega) (by omega)
    have h2 := h1.div (big_cF j (by omega)) (by omega) (by omega)
    have h3 := (b_one.up (L := 5012 + 13 * j) (by omega)).sub h2 (by omega) (by omega)
    rw [show 5000 + 13 * (j + 1) = 5012 + 13 * j + 1 by omega]
    exact h3
theorem bd_round {u : Nat} (h : Bd u 5012) (j : Nat) (hj : j < 8) : Bd (fop .mul .f64 u (pF u j)) (5012 + 13 * j) ∧ Bd (fop .quo .f64 (fop .mul .f64 u (pF u j)) (cF j)) (5012 + 13 * j) := by
  have ih := bd_pF h j (by omega)
  have h1 := h.mul ih (K := 5012 + 13 * j) (by omega) (by omega) (by omega)
  exact ⟨h1, h1.div (big_cF j hj) (by omega) (by omega)⟩

theorem neg_num {x K : Nat} (h : Bd x K) : Bd (Op.negFloat .f64 x) K := by
  obtain ⟨s, v, h, hv⟩ := h
  obtain ⟨h1, h2, h3⟩ := h.rung
  have e : Op.negFloat .f64 x = x ^^^ 9223372036854775808 := rfl
  have hsw : Ieee.double.signWeight = 9223372036854775808 := by decide
  rw [hsw] at h1 h2 h3
  have hm : (x ^^^ 9223372036854775808) % 9223372036854775808 = x % 9223372036854775808 := by
    rw [show (9223372036854775808 : Nat) = 2 ^ 63 from rfl, Nat.xor_mod_two_pow]; simp
  refine ⟨(x ^^^ 9223372036854775808) / 9223372036854775808 % 2 == 1, v, ?_, hv⟩
  rw [e, h2, ← hm, ← hsw]
  exact read_num good_double (by rw [hsw, hm]; exact h1)

theorem bd_sine {x : Nat} (h : Small x) : Bd (sineF x) 5110 := by
  have hf := bd_fracF h
  have hz := bd_zF hf
  have hu := hz.mul hz (K := 5012) (by omega) (by omega) (by omega)
  have hr := hz.mul (bd_pF hu 8 (by omega)) (K := 5110) (by omega) (by omega) (by omega)
  unfold sineF
  split
  · exact neg_num hr
  · exact hr

/-! ### The counter of the program's loop, a float64 -/
def two : Nat := 4611686018427387904
def kF (j : Nat) : Nat := floatOfInt .f64 (8 - (j : Int))
def dF (j : Nat) : Nat := floatOfInt .f64 (2 * (8 - (j : Int)))
def eF (j : Nat) : Nat := floatOfInt .f64 (2 * (8 - (j : Int)) + 1)

theorem lt8 {j : Nat} (hj : j < 8) : j = 0 ∨ j = 1 ∨ j = 2 ∨ j = 3 ∨ j = 4 ∨ j = 5 ∨ j = 6 ∨ j = 7 := by omega

theorem k_two {j : Nat} (hj : j < 8) : fop .mul .f64 two (kF j) = dF j := by
  rcases lt8 hj with rfl | rfl | rfl | rfl | rfl | rfl | rfl | rfl <;> decide +kernel
theorem k_one {j : Nat} (hj : j < 8) : fop .add .f64 (dF j) one = eF j := by
  rcases lt8 hj with rfl | rfl | rfl | rfl | rfl | rfl | rfl | rfl <;> decide +kernel
theorem k_mul {j : Nat} (hj : j < 8) : fop .mul .f64 (dF j) (eF j) = cF j := by
  rcases lt8 hj with rfl | rfl | rfl | rfl | rfl | rfl | rfl | rfl <;> decide +kernel
theorem k_next {j : Nat} (hj : j < 8) : fop .sub .f64 (kF j) one = kF (j + 1) := by
  rcases lt8 hj with rfl | rfl | rfl | rfl | rfl | rfl | rfl | rfl <;> decide +kernel
theorem k_ge {j : Nat} (hj : j < 8) : geB (kF j) one = true := by
  rcases lt8 hj with rfl | rfl | rfl | rfl | rfl | rfl | rfl | rfl <;> decide +kernel
theorem k_end : geB (kF 8) one = false := by decide +kernel
theorem k_start : kF 0 = 4620693217682128896 := by decide +kernel

theorem int_num (n : Int) (h : n.natAbs < 9007199254740992) : isN .f64 (floatOfInt .f64 n) = false := (ofInt_exact n h).notNan
end Go.Proofs.Ytkmbfgnemamlfaa.SineP
