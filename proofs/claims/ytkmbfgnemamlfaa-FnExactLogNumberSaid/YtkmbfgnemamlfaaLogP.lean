/- Lower bounds of products and quotients, and the scaling of the logarithm, in plain words. -/
import Derived.Test.YtkmbfgnemamlfaaAngP
namespace Go.Proofs.Ytkmbfgnemamlfaa.LogP
open Go.RowKit Go.Proofs.Ytkmbfgnemamlfaa.FW Go.Proofs.Ytkmbfgnemamlfaa.FT Go.Proofs.Ytkmbfgnemamlfaa.FB Go.Proofs.Ytkmbfgnemamlfaa.SineP Go.Proofs.Ytkmbfgnemamlfaa.PhasP
open Ieee (Datum)

/-- A product between two powers. -/
theorem mul_in {x y : Nat} {s t : Bool} {a b A B K A' B' L : Nat} (hx : N64 x s a) (hy : N64 y t b) (ha : a ≤ p2 A) (hb : b ≤ p2 B) (hK : K + 5000 = A + B) (h1 : 3978 ≤ K) (h2 : K ≤ 6023)
    (ha' : p2 A' ≤ a) (hb' : p2 B' ≤ b) (hL : L + 5000 = A' + B') (h3 : 3978 ≤ L) (h4 : L ≤ 6023) :
    ∃ v, N64 (fop .mul .f64 x y) (s ^^ t) v ∧ v ≤ p2 K ∧ p2 L ≤ v := by
  obtain ⟨m, i, hd, hi, _, rfl⟩ := hx
  obtain ⟨n, j, hd', hj, _, rfl⟩ := hy
  rw [ld] at hi hj
  obtain ⟨r, hr, hvr⟩ := double_pow h1 h2
  obtain ⟨q, hq, hvq⟩ := double_pow h3 h4
  have e : sc (m * n) (i + j) * p2 5000 = sc m i * sc n j := by
    show m * n * p2 (up (i + j)) * p2 5000 = m * p2 (up i) * (n * p2 (up j))
    have h3 : p2 (up i) * p2 (up j) = p2 (up (i + j)) * p2 5000 := by rw [p2_add, p2_add]; congr 1; unfold up; omega
    calc m * n * p2 (up (i + j)) * p2 5000 = m * n * (p2 (up (i + j)) * p2 5000) := by rw [Nat.mul_assoc]
      _ = m * n * (p2 (up i) * p2 (up j)) := by rw [h3]
      _ = m * p2 (up i) * (n * p2 (up j)) := by simp only [Nat.mul_assoc, Nat.mul_left_comm]
  have hsc : sc (m * n) (i + j) ≤ p2 K := by
    have h4 : sc m i * sc n j ≤ p2 A * p2 B := Nat.mul_le_mul ha hb
    rw [p2_add, ← hK, ← p2_add, ← e] at h4
    exact Nat.le_of_mul_le_mul_right h4 (p2_pos 5000)
  have hsc' : p2 L ≤ sc (m * n) (i + j) := by
    have h4 : p2 A' * p2 B' ≤ sc m i * sc n j := Nat.mul_le_mul ha' hb'
    rw [p2_add, ← hL, ← p2_add, ← e] at h4
    exact Nat.le_of_mul_le_mul_right h4 (p2_pos 5000)
  have hm : m * n ≠ 0 := by
    intro h0
    rw [h0] at hsc'
    have : sc 0 (i + j) = 0 := by unfold sc; exact Nat.zero_mul _
    have := p2_pos L
    omega
  have hle := rungN_le (f := Ieee.double) (m := m * n) (P := up (i + j)) (r := r) hm (by rw [hvr]; exact hsc)
  have hge := le_rungN (f := Ieee.double) (m := m * n) (P := up (i + j)) (r := q) hm (by rw [hvq]; exact hsc')
  have hn := near_fin good_double (neg := s ^^ t) hm (e := i + j) (by omega) (by omega)
  have hf : fop .mul .f64 x y = Ieee.double.nearest (s ^^ t) (m * n) (i + j) := by
    unfold fop floatBits
    show ((((Ieee.double.read x).product (Ieee.double.read y))).map Ieee.double.write).getD _ = _
    rw [hd, hd']; rfl
  refine ⟨_, by unfold N64; rw [hf]; exact hn, ?_, ?_⟩
  · rw [← hvr]; exact val_le.2 hle
  · rw [← hvq]; exact val_le.2 hge

theorem read_two : Ieee.double.read two = .number false 4503599627370496 (-51) := by decide +kernel

/-- Half of a number between two powers. -/
theorem half_in {x : Nat} {s : Bool} {a K L : Nat} (hx : N64 x s a) (ha : a ≤ p2 (K + 1)) (h1 : 3978 ≤ K) (h2 : K ≤ 6023) (ha' : p2 (L + 1) ≤ a) (h3 : 3978 ≤ L) (h4 : L ≤ 6023) :
    ∃ v, N64 (fop .quo .f64 x two) s v ∧ v ≤ p2 K ∧ p2 L ≤ v := by
  obtain ⟨m, i, hd, hi, hm2, rfl⟩ := hx
  rw [ld] at hi
  obtain ⟨r, hr, hvr⟩ := double_pow h1 h2
  obtain ⟨q, hq, hvq⟩ := double_pow h3 h4
  have hm0 : m ≠ 0 := by
    rintro rfl
    have h0 : sc 0 i = 0 := by unfold sc; exact Nat.zero_mul _
    have := p2_pos (L + 1)
    omega
  have hbin : Ieee.double.binade = 2 ^ 52 := rfl
  have hml : m.log2 < 53 := by rw [Nat.log2_lt hm0]; rw [hbin] at hm2; omega
  obtain ⟨more, hmore⟩ : ∃ more, more = 54 + (4503599627370496 : Nat).log2 - m.log2 := ⟨_, rfl⟩
  have hl : (4503599627370496 : Nat).log2 = 52 := by decide +kernel
  have hmr : 54 ≤ more ∧ more ≤ 106 := by rw [hl] at hmore; omega
  have hf : fop .quo .f64 x two = Ieee.double.nearest (s ^^ false) (2 * ((m <<< more) / 4503599627370496) + ((m <<< more) % 4503599627370496 != 0).toNat) (i - (-51) - more - 1) := by
    unfold fop floatBits
    show ((((Ieee.double.read x).quotient (Ieee.double.fractionBits + 2) (Ieee.double.read two))).map Ieee.double.write).getD _ = _
    rw [hd, read_two]
    unfold Datum.quotient
    simp only []
    rw [if_neg (by decide), hmore]
    rfl
  obtain ⟨k, hk⟩ : ∃ k, more = k + 52 := ⟨more - 52, by omega⟩
  have hsh : m <<< more = m * 2 ^ k * 4503599627370496 := by
    rw [Nat.shiftLeft_eq, hk, Nat.pow_add, ← Nat.mul_assoc]
  rw [hsh, Nat.mul_div_cancel _ (by decide), Nat.mul_mod_left] at hf
  have hz : ((0 : Nat) != 0).toNat = 0 := rfl
  rw [hz, Nat.add_zero] at hf
  have hM : 2 * (m * 2 ^ k) ≠ 0 := by
    have := Nat.mul_pos (Nat.pos_of_ne_zero hm0) (Nat.two_pow_pos k)
    omega
  have hs : sc (2 * (m * 2 ^ k)) (i - (-51) - more - 1) * 2 = sc m i := by
    show 2 * (m * p2 k) * p2 (up (i - (-51) - more - 1)) * 2 = m * p2 (up i)
    have e1 : up i = k + up (i - (-51) - more - 1) + 1 + 1 := by unfold up; omega
    rw [e1, p2_succ, p2_succ, ← p2_add]
    generalize p2 k = A
    generalize p2 (up (i - (-51) - more - 1)) = B
    simp only [Nat.mul_assoc, Nat.mul_comm, Nat.mul_left_comm]
  have hK : p2 (K + 1) = 2 * p2 K := p2_succ K
  have hL : p2 (L + 1) = 2 * p2 L := p2_succ L
  have hle := rungN_le (f := Ieee.double) (m := 2 * (m * 2 ^ k)) (P := up (i - (-51) - more - 1)) (r := r) hM (by rw [hvr]; show sc (2 * (m * 2 ^ k)) (i - (-51) - more - 1) ≤ _; omega)
  have hge := le_rungN (f := Ieee.double) (m := 2 * (m * 2 ^ k)) (P := up (i - (-51) - more - 1)) (r := q) hM (by rw [hvq]; show _ ≤ sc (2 * (m * 2 ^ k)) (i - (-51) - more - 1); omega)
  have hn := near_fin good_double (neg := s ^^ false) hM (e := i - (-51) - more - 1) (by omega) (by omega)
  rw [← hf, Bool.xor_false] at hn
  refine ⟨_, hn, ?_, ?_⟩
  · rw [← hvr]; exact val_le.2 hle
  · rw [← hvq]; exact val_le.2 hge

theorem n_two : N64 two false (p2 5001) := by rw [← val_word (x := two) (K := 5001) (by decide) (by decide)]; exact of_word (by decide)

/-- Twice a number between two powers. -/
theorem twice_in {x : Nat} {a K L : Nat} (hx : N64 x false a) (ha : a ≤ p2 K) (h1 : 3978 ≤ K) (h2 : K ≤ 6022) (ha' : p2 L ≤ a) (h3 : 3978 ≤ L) (h4 : L ≤ 6022) :
    ∃ v, N64 (fop .mul .f64 x two) false v ∧ v ≤ p2 (K + 1) ∧ p2 (L + 1) ≤ v :=
  mul_in hx n_two ha (Nat.le_refl _) (by omega) (by omega) (by omega) ha' (Nat.le_refl _) (by omega) (by omega) (by omega)

/-! ### The two loops of the scaling -/
def c15 : Nat := 4609434218613702656
def c075 : Nat := 4604930618986332160
theorem n_c15 : N64 c15 false (6 * p2 4998) := by
  have h := of_word (x := c15) (by decide)
  rw [show c15 = qW 6 from rfl, (qW_val 6 (by omega)).1] at h; exact h
theorem n_c075 : N64 c075 false (3 * p2 4998) := by
  have h := of_word (x := c075) (by decide)
  rw [show c075 = qW 3 from rfl, (qW_val 3 (by omega)).1] at h; exact h

def dN (x : Nat) : Nat → Nat
  | 0 => x
  | j + 1 => fop .quo .f64 (dN x j) two
def uN (x : Nat) : Nat → Nat
  | 0 => x
  | j + 1 => fop .mul .f64 (uN x j) two

theorem ge_c15 {x v : Nat} (h : N64 x false v) : geB x c15 = decide (6 * p2 4998 ≤ v) := by
  have h1 : FloatKind.f64.format.order x c15 = some (compare (iv false v) (iv false (6 * p2 4998))) := order_num good_double h n_c15
  unfold geB
  rw [h1]
  rcases Nat.lt_trichotomy v (6 * p2 4998) with h2 | h2 | h2
  · rw [Int.compare_eq_lt.2 (by unfold iv; simp only [Bool.false_eq_true, if_false]; omega), decide_eq_false (by omega)]; rfl
  · rw [Int.compare_eq_eq.2 (by unfold iv; simp only [Bool.false_eq_true, if_false]; omega), decide_eq_true (by omega)]; rfl
  · rw [Int.compare_eq_gt.2 (by unfold iv; simp only [Bool.false_eq_true, if_false]; omega), decide_eq_true (by omega)]; rfl
theorem lt_c075 {x v : Nat} (h : N64 x false v) : ltB x c075 = decide (v < 3 * p2 4998) := by
  have h1 : FloatKind.f64.format.order x c075 = some (compare (iv false v) (iv false (3 * p2 4998))) := order_num good_double h n_c075
  unfold ltB
  rw [h1]
  rcases Nat.lt_trichotomy v (3 * p2 4998) with h2 | h2 | h2
  · rw [Int.compare_eq_lt.2 (by unfold iv; simp only [Bool.false_eq_true, if_false]; omega), decide_eq_true (by omega)]; rfl
  · rw [Int.compare_eq_eq.2 (by unfold iv; simp only [Bool.false_eq_true, if_false]; omega), decide_eq_false (by omega)]; rfl
  · rw [Int.compare_eq_gt.2 (by unfold iv; simp only [Bool.false_eq_true, if_false]; omega), decide_eq_false (by omega)]; rfl

/-- The first place where a test says no. -/
theorem first_no (B : Nat → Bool) (N : Nat) (hN : (∀ i, i < N → B i = true) → B N = false) : ∃ n, n ≤ N ∧ (∀ i, i < n → B i = true) ∧ B n = false := by
  have go : ∀ k j, j + k = N → (∀ i, i < j → B i = true) → ∃ n, n ≤ N ∧ (∀ i, i < n → B i = true) ∧ B n = false := by
    intro k
    induction k with
    | zero =>
      intro j hj hg
      obtain rfl : j = N := by omega
      exact ⟨j, Nat.le_refl _, hg, hN hg⟩
    | succ k ih =>
      intro j hj hg
      cases e : B j with
      | false => exact ⟨j, by omega, hg, e⟩
      | true =>
        refine ih (j + 1) (by omega) fun i hi => ?_
        rcases Nat.lt_or_ge i j with h | h
        · exact hg i h
        · rw [show i = j from by omega]; exact e
  exact go N 0 (by omega) fun i hi => absurd hi (by omega)

theorem p4998 : p2 4999 = 2 * p2 4998 ∧ p2 5000 = 4 * p2 4998 ∧ p2 5001 = 8 * p2 4998 := by
  have h1 : p2 4999 = 2 * p2 4998 := p2_succ 4998
  have h2 : p2 5000 = 2 * p2 4999 := p2_succ 4999
  have h3 : p2 5001 = 2 * p2 5000 := p2_succ 5000
  omega

theorem down {x : Nat} (h : ∃ v, N64 x false v ∧ v ≤ p2 5128 ∧ p2 4851 ≤ v) : ∀ j, j ≤ 128 → (∀ i, i < j → geB (dN x i) c15 = true) → ∃ v, N64 (dN x j) false v ∧ v ≤ p2 (5128 - j) ∧ p2 4851 ≤ v
  | 0, _, _ => h
  | j + 1, hj, hg => by
    obtain ⟨v, hn, hv, hv'⟩ := down h j (by omega) fun i hi => hg i (by omega)
    have hq := hg j (by omega)
    rw [ge_c15 hn, decide_eq_true_eq] at hq
    obtain ⟨p1, p2', _⟩ := p4998
    obtain ⟨u, hu, hu1, hu2⟩ := half_in (K := 5128 - (j + 1)) (L := 4999) hn (by rw [show 5128 - (j + 1) + 1 = 5128 - j from by omega]; exact hv) (by omega) (by omega) (by show p2 5000 ≤ v; omega) (by omega) (by omega)
    exact ⟨u, hu, hu1, Nat.le_trans (pw (by omega)) hu2⟩

theorem down_stops {x : Nat} (h : ∃ v, N64 x false v ∧ v ≤ p2 5128 ∧ p2 4851 ≤ v) :
    ∃ n, n ≤ 128 ∧ (∀ i, i < n → geB (dN x i) c15 = true) ∧ geB (dN x n) c15 = false ∧ ∃ v, N64 (dN x n) false v ∧ v ≤ p2 5001 ∧ p2 4851 ≤ v := by
  obtain ⟨p1, p2', p3⟩ := p4998
  obtain ⟨n, h1, h2, h3⟩ := first_no (fun i => geB (dN x i) c15) 128 (fun hg => by
    obtain ⟨v, hn, hv, _⟩ := down h 128 (by omega) hg
    have hv1 : v ≤ p2 5000 := hv
    show geB (dN x 128) c15 = false
    have hp := p2_pos 4998
    rw [ge_c15 hn]; exact decide_eq_false (by omega))
  obtain ⟨v, hn, hv, hv'⟩ := down h n h1 h2
  refine ⟨n, h1, h2, h3, v, hn, ?_, hv'⟩
  have h3' : geB (dN x n) c15 = false := h3
  rw [ge_c15 hn, decide_eq_false_iff_not] at h3'
  omega

theorem upward {x : Nat} (h : ∃ v, N64 x false v ∧ v ≤ p2 5001 ∧ p2 4851 ≤ v) : ∀ j, j ≤ 149 → (∀ i, i < j → ltB (uN x i) c075 = true) → ∃ v, N64 (uN x j) false v ∧ v ≤ p2 5001 ∧ p2 (4851 + j) ≤ v
  | 0, _, _ => h
  | j + 1, hj, hg => by
    obtain ⟨v, hn, hv, hv'⟩ := upward h j (by omega) fun i hi => hg i (by omega)
    have hq := hg j (by omega)
    rw [lt_c075 hn, decide_eq_true_eq] at hq
    obtain ⟨p1, p2', _⟩ := p4998
    obtain ⟨u, hu, hu1, hu2⟩ := twice_in (K := 5000) (L := 4851 + j) hn (by omega) (by omega) (by omega) hv' (by omega) (by omega)
    exact ⟨u, hu, hu1, hu2⟩

theorem up_stops {x : Nat} (h : ∃ v, N64 x false v ∧ v ≤ p2 5001 ∧ p2 4851 ≤ v) :
    ∃ n, n ≤ 149 ∧ (∀ i, i < n → ltB (uN x i) c075 = true) ∧ ltB (uN x n) c075 = false ∧ ∃ v, N64 (uN x n) false v ∧ v ≤ p2 5001 := by
  obtain ⟨p1, p2', p3⟩ := p4998
  obtain ⟨n, h1, h2, h3⟩ := first_no (fun i => ltB (uN x i) c075) 149 (fun hg => by
    obtain ⟨v, hn, _, hv⟩ := upward h 149 (by omega) hg
    have hv1 : p2 5000 ≤ v := hv
    show ltB (uN x 149) c075 = false
    rw [lt_c075 hn]; exact decide_eq_false (by omega))
  obtain ⟨v, hn, hv, _⟩ := upward h n h1 h2
  exact ⟨n, h1, h2, h3, v, hn, hv⟩

/-- Each number on the way is one. -/
theorem dN_num {x : Nat} (h : ∃ v, N64 x false v ∧ v ≤ p2 5128 ∧ p2 4851 ≤ v) {j : Nat} (hj : j ≤ 128) (hg : ∀ i, i < j → geB (dN x i) c15 = true) : isN .f64 (dN x j) = false := by
  obtain ⟨v, hn, _⟩ := down h j hj hg
  exact hn.notNan
theorem uN_num {x : Nat} (h : ∃ v, N64 x false v ∧ v ≤ p2 5001 ∧ p2 4851 ≤ v) {j : Nat} (hj : j ≤ 149) (hg : ∀ i, i < j → ltB (uN x i) c075 = true) : isN .f64 (uN x j) = false := by
  obtain ⟨v, hn, _⟩ := upward h j hj hg
  exact hn.notNan
end Go.Proofs.Ytkmbfgnemamlfaa.LogP
