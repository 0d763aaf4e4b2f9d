/- The tenths of decibels: tighter bounds on the logarithm, and the floor of a number, in plain words. -/
import Derived.Test.YtkmbfgnemamlfaaLogS
namespace Go.Proofs.Ytkmbfgnemamlfaa.TenP
open Go.RowKit Go.Proofs.Ytkmbfgnemamlfaa.FW Go.Proofs.Ytkmbfgnemamlfaa.FT Go.Proofs.Ytkmbfgnemamlfaa.FB Go.Proofs.Ytkmbfgnemamlfaa.SineP Go.Proofs.Ytkmbfgnemamlfaa.PhasP Go.Proofs.Ytkmbfgnemamlfaa.LogP Go.Proofs.Ytkmbfgnemamlfaa.LogS
open Ieee (Datum)

theorem bd_pL' {u : Nat} (h : Bd u 5000) : ∀ j, j ≤ 13 → Bd (pL u j) (5000 + j)
  | 0, _ => b_zero _
  | j + 1, hj => by
    have ih := bd_pL' h j (by omega)
    have h1 := h.mul ih (K := 5000 + j) (by omega) (by omega) (by omega)
    have h2 := (b_one.div (big_oL j (by omega)) (by omega) (by omega)).up (L := 5000 + j) (by omega)
    exact (h2.add h1 (by omega) (by omega)).up (by omega)

theorem bd_log' {x : Nat} (h : ∃ v, N64 x false v ∧ v ≤ p2 5001) {n : Int} (hn : n.natAbs < 256) : Bd (l8 x n) 5015 := by
  obtain ⟨v, hx, hv⟩ := h
  have bx : Bd x 5001 := ⟨_, _, hx, hv⟩
  have h1 : Bd (l1 x) 5000 := by
    refine sub_le hx n_one (by omega) (by omega) ?_
    have := p4998
    simp only [iv, Bool.false_eq_true, if_false]
    omega
  have hb : Big (l2 x) := by
    obtain ⟨u, hu, hu1, _⟩ := AngP.add_one_ge hx hv (by omega) (by omega)
    rw [sum_comm n_one hx] at hu
    exact ⟨_, u, hu, hu1⟩
  have h3 : Bd (l3 x) 5000 := h1.div hb (by omega) (by omega)
  have h4 : Bd (l4 x) 5000 := h3.mul h3 (by omega) (by omega) (by omega)
  have h5 : Bd (l5 x) 5013 := h3.mul (bd_pL' h4 13 (by omega)) (by omega) (by omega) (by omega)
  have h6 : Bd (l6 x) 5014 := b_two.mul h5 (by omega) (by omega) (by omega)
  have h7 : Bd (l7 n) 5008 := (bd_cI hn).mul b_ln2 (by omega) (by omega) (by omega)
  exact h6.add (h7.up (by omega)) (by omega) (by omega)

/-- The factor of the decibels. -/
def dB : Nat := 4631308968768463603
theorem b_dB : Bd dB 5006 := by
  refine ⟨_, _, of_word (by decide), ?_⟩
  rw [← val_word (x := 4634204016564240384) (K := 5006) (by decide) (by decide)]
  exact val_le.2 (by decide)

/-- The float64 below a number, whole. -/
def fl (x : Nat) : Nat := FloatKind.f64.encode ((FloatKind.f64.decode x).integral .down)

theorem cut_down_le (neg : Bool) (n d c : Nat) (h : n ≤ c * 2 ^ d) : Ieee.Toward.down.cut neg n d ≤ c := by
  have hlt : n < 2 ^ (n.log2 + 1) := Nat.lt_log2_self
  unfold Ieee.Toward.cut
  simp only [Nat.one_shiftLeft]
  by_cases hd : d ≤ n.log2 + 2
  · rw [Nat.min_eq_left hd]
    have hp : 0 < 2 ^ d := Nat.two_pow_pos d
    generalize 2 ^ d = g at *
    have hdm := Nat.div_add_mod n g
    have hml := Nat.mod_lt n hp
    have hq : n / g ≤ c := by
      rw [Nat.div_le_iff_le_mul_add_pred hp]
      have := Nat.mul_comm c g
      omega
    by_cases hr : n % g = 0
    · rw [hr]; simp; exact hq
    · have hlt : n / g < c := by
        rcases Nat.lt_or_ge (n / g) c with h1 | h1
        · exact h1
        · exfalso
          have e : n / g = c := by omega
          rw [e] at hdm
          have := Nat.mul_comm c g
          omega
      have hb : (neg && n % g != 0).toNat ≤ 1 := by cases (neg && n % g != 0) <;> simp
      omega
  · have h' : n.log2 + 2 ≤ d := by omega
    have e2 : 2 ^ (n.log2 + 2) = 2 * 2 ^ (n.log2 + 1) := by rw [Nat.pow_succ]; omega
    rw [Nat.min_eq_right h', Nat.div_eq_of_lt (by omega), Nat.mod_eq_of_lt (by omega)]
    by_cases h0 : n = 0
    · subst h0; simp
    · have : 1 ≤ c := by
        rcases Nat.eq_zero_or_pos c with h1 | h1
        · exfalso; rw [h1, Nat.zero_mul] at h; omega
        · exact h1
      have hb : (neg && n != 0).toNat ≤ 1 := by cases (neg && n != 0) <;> simp
      omega

/-- The floor of a number that is not great can be had as an int64. -/
theorem floor_some {x : Nat} (h : Bd x 5052) : ∃ t, floatToIntVal .f64 (fl x) .i64 = some t := by
  obtain ⟨s, v, ⟨m, e, hd, he, _, rfl⟩, hv⟩ := h
  rw [ld] at he
  have hd' : FloatKind.f64.decode x = .number s m e := hd
  obtain ⟨c, hc⟩ : ∃ c, c = Ieee.Toward.down.cut s (m <<< e.toNat) (-e).toNat := ⟨_, rfl⟩
  have e52 : p2 52 = 4503599627370496 := by decide
  have hcle : c ≤ 4503599627370496 := by
    rw [hc, ← e52]
    refine cut_down_le _ _ _ _ ?_
    have key : sc m e * 2 ^ (-e).toNat = (m <<< e.toNat) * p2 5000 := by
      show m * p2 (up e) * p2 (-e).toNat = _
      rw [Nat.shiftLeft_eq]
      show _ = m * p2 e.toNat * p2 5000
      rw [Nat.mul_assoc, p2_add, Nat.mul_assoc, p2_add]
      congr 2; unfold up; omega
    refine Nat.le_of_mul_le_mul_right (a := m <<< e.toNat) ?_ (p2_pos 5000)
    rw [← key]
    have h2 : p2 52 * 2 ^ (-e).toNat * p2 5000 = p2 5052 * 2 ^ (-e).toNat := by
      rw [Nat.mul_right_comm, p2_add]
    rw [h2]
    exact Nat.mul_le_mul_right _ hv
  have hfl : fl x = Ieee.double.nearest s c 0 := by
    unfold fl
    rw [hd']
    unfold Datum.integral
    simp only []
    rw [← hc]
    rfl
  obtain ⟨B, hB, hvB⟩ := double_pow (K := 5060) (by omega) (by omega)
  have hbin : 2 * Ieee.double.binade = 9007199254740992 := by decide
  have hlt : sc c 0 < val Ieee.double B := by
    rw [hvB, sc_zero]
    have : p2 5060 = p2 60 * p2 5000 := by rw [p2_add]
    rw [this]
    refine Nat.mul_lt_mul_of_pos_right ?_ (p2_pos _)
    have : p2 60 = 1152921504606846976 := by decide
    omega
  obtain ⟨R, hR, hvR, hn⟩ := exact_word good_double (neg := s) (m := c) (e := 0) (by rw [hbin]; omega) (by rw [ld]; omega) (Nat.le_of_lt hB) hlt
  have hN : N64 (fl x) s (sc c 0) := by
    unfold N64
    rw [hfl, hn, ← hvR]
    exact read_word good_double s hR
  rcases Nat.lt_or_ge (sc c 0) (p2 5052) with h1 | h1
  · obtain ⟨t, ht, _⟩ := trunc_fact hN h1
    exact ⟨_, ht⟩
  · have hceq : c = 4503599627370496 := by
      rw [sc_zero] at h1
      have h2 : p2 52 * p2 5000 ≤ c * p2 5000 := by rw [p2_add]; exact h1
      have h3 := Nat.le_of_mul_le_mul_right h2 (p2_pos 5000)
      rw [e52] at h3
      omega
    rw [hfl, hceq]
    cases s
    · exact ⟨4503599627370496, by decide +kernel⟩
    · exact ⟨-4503599627370496, by decide +kernel⟩

/-- What the two functions reckon behind the logarithm. -/
def t1 (r : Nat) : Nat := fop .mul .f64 r dB
def t2 (r : Nat) : Nat := fop .add .f64 (t1 r) half
def t3 (r : Nat) : Int := (floatToIntVal .f64 (fl (t2 r)) .i64).getD 0

theorem bd_ten {r : Nat} (h : Bd r 5015) : Bd (t1 r) 5021 ∧ Bd (t2 r) 5022 ∧ floatToIntVal .f64 (fl (t2 r)) .i64 = some (t3 r) := by
  have h1 : Bd (t1 r) 5021 := h.mul b_dB (by omega) (by omega) (by omega)
  have h2 : Bd (t2 r) 5022 := h1.add (b_half.up (by omega)) (by omega) (by omega)
  refine ⟨h1, h2, ?_⟩
  obtain ⟨t, ht⟩ := floor_some (h2.up (L := 5052) (by omega))
  unfold t3; rw [ht]; rfl
end Go.Proofs.Ytkmbfgnemamlfaa.TenP
