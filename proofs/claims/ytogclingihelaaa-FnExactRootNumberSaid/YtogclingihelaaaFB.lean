/- Plain bounds on the results of float64 operations: no overflow where the operands are not too great. No program in sight. -/
import Derived.Test.YtogclingihelaaaFW
namespace Go.Proofs.Ytogclingihelaaa.FB
open Go.Proofs.Ytogclingihelaaa.FW Go.Proofs.Ytogclingihelaaa.FT
open Ieee (Datum)

/-- The word is a number of float64, of sign 's' and magnitude 'v' (in units of 2 ^ -5000). -/
def N64 (x : Nat) (s : Bool) (v : Nat) : Prop := Num Ieee.double (Ieee.double.read x) s v

theorem N64.notNan {x : Nat} {s : Bool} {v : Nat} (h : N64 x s v) : isN .f64 x = false := by
  obtain ⟨m, e, hd, _⟩ := h
  unfold isN
  show (Ieee.double.read x).isNaN = false
  rw [hd]; rfl

theorem ld : Ieee.double.leastPlace = -1074 := by decide
theorem ls : Ieee.single.leastPlace = -149 := by decide

/-- A number at most 2 ^ 127 becomes a float32 without overflow. -/
theorem fits_le {x : Nat} {s : Bool} {v : Nat} (h : N64 x s v) (hv : v ≤ p2 5127) : Fits x := by
  obtain ⟨m, e, hd, he, hm, rfl⟩ := h
  rw [ld] at he
  obtain ⟨r, hr, hvr⟩ := single_pow (K := 5127) (by omega) (by omega)
  obtain ⟨v', _, m', e', hn, _⟩ := near_le good_single (neg := s) (m := m) (e := e) (r := r) (by omega) hr (by rw [hvr]; exact hv)
  right
  have hd' : FloatKind.f64.decode x = .number s m e := hd
  have hq : FloatKind.f32.decode (FloatKind.f32.encode (.number s m e)) = .number s m' e' := hn
  unfold floatToFloatBits
  rw [if_neg (by decide)]
  simp only [hd', hq]
  rfl

theorem fits_inf {x : Nat} {s : Bool} (h : Ieee.double.read x = .infinity s) : Fits x := by
  right
  have hd' : FloatKind.f64.decode x = .infinity s := h
  unfold floatToFloatBits
  rw [if_neg (by decide)]
  simp only [hd']
  rfl

theorem rootFrom_le (n : Nat) : ∀ (todo root : Nat), root * root ≤ n → Datum.rootFrom n todo root * Datum.rootFrom n todo root ≤ n
  | 0, root, h => h
  | todo + 1, root, h => by
    unfold Datum.rootFrom
    simp only []
    by_cases hc : (root + 1 <<< todo) * (root + 1 <<< todo) ≤ n
    · rw [if_pos hc]; exact rootFrom_le n todo _ hc
    · rw [if_neg hc]; exact rootFrom_le n todo _ h

theorem root_bound {w n T : Nat} (h : w * w ≤ n) (hT : n ≤ T * T) : 2 * w + (w * w != n).toNat ≤ 2 * T := by
  have hw : w ≤ T := by
    rcases Nat.lt_or_ge T w with h1 | h1
    · exfalso
      have := Nat.mul_lt_mul_of_lt_of_lt h1 h1
      omega
    · exact h1
  by_cases e : w = T
  · subst e
    have : w * w = n := by omega
    rw [this]; simp
  · have : (w * w != n).toNat ≤ 1 := by cases (w * w != n) <;> simp
    omega

/-- The square root of a number at most 4 ^ A is at most 2 ^ A. -/
theorem sqrt_le {x v A : Nat} (h : N64 x false v) (hv : v ≤ p2 (5000 + 2 * A)) (hA : A ≤ 1000) :
    ∃ r v', Ieee.double.sqrt x = some r ∧ N64 r false v' ∧ v' ≤ p2 (5000 + A) := by
  unfold p2 at hv ⊢
  obtain ⟨m, i, hd, hi, hm, rfl⟩ := h
  rw [ld] at hi
  obtain ⟨r0, hr0, hvr0⟩ := double_pow (K := 5000 + A) (by omega) (by omega)
  unfold Ieee.Format.sqrt
  rw [hd]
  unfold Datum.root
  simp only []
  by_cases h0 : m = 0
  · subst h0
    rw [if_pos rfl]
    refine ⟨_, 0, rfl, ?_, Nat.zero_le _⟩
    unfold N64
    show Num _ (Ieee.double.read (Ieee.double.nearest false 0 i)) false 0
    rw [near_zero]
    have := read_word good_double false (r := 0) (by decide)
    rw [val_zero] at this
    exact this
  · rw [if_neg h0]
    simp only [Bool.false_eq_true, if_false]
    have hd2 : Ieee.double.fractionBits + 2 = 54 := rfl
    rw [hd2]
    have hdm : 2 * 54 - m.log2 ≤ 108 := by omega
    generalize 2 * 54 - m.log2 = q at *
    have hmod : 0 ≤ (i - (q : Int)) % 2 ∧ (i - (q : Int)) % 2 < 2 := by omega
    obtain ⟨more, hmore⟩ : ∃ more : Nat, more = q + ((i - (q : Int)) % 2).toNat := ⟨_, rfl⟩
    rw [← hmore]
    obtain ⟨t, ht⟩ : ∃ t : Int, i = 2 * t + more := ⟨(i - more) / 2, by omega⟩
    have hdiv : (i - (more : Int)) / 2 = t := by omega
    rw [hdiv]
    have hw := rootFrom_le (m <<< more) ((m <<< more).log2 / 2 + 1) 0 (Nat.zero_le _)
    generalize Datum.rootFrom (m <<< more) ((m <<< more).log2 / 2 + 1) 0 = whole at *
    rw [Nat.shiftLeft_eq] at *
    have hk : up i = more + (2 * t + 5000).toNat := by unfold up; omega
    have hle : m * 2 ^ more * 2 ^ (2 * t + 5000).toNat ≤ 2 ^ (5000 + 2 * A) := by
      have : sc m i = m * 2 ^ more * 2 ^ (2 * t + 5000).toNat := by unfold sc; rw [hk, Nat.pow_add, Nat.mul_assoc]
      rw [← this]; exact hv
    have hpos : 1 ≤ m * 2 ^ more := Nat.mul_pos (Nat.pos_of_ne_zero h0) (Nat.two_pow_pos _)
    have hkA : (2 * t + 5000).toNat ≤ 5000 + 2 * A := by
      rcases Nat.lt_or_ge (5000 + 2 * A) (2 * t + 5000).toNat with h1 | h1
      · exfalso
        have h2 : 2 ^ (5000 + 2 * A) < 2 ^ (2 * t + 5000).toNat := Nat.pow_lt_pow_right (by omega) h1
        have h3 : 1 * 2 ^ (2 * t + 5000).toNat ≤ m * 2 ^ more * 2 ^ (2 * t + 5000).toNat := Nat.mul_le_mul_right _ hpos
        omega
      · exact h1
    have hT : m * 2 ^ more ≤ 2 ^ (A - t).toNat * 2 ^ (A - t).toNat := by
      refine Nat.le_of_mul_le_mul_right (Nat.le_trans hle ?_) (Nat.two_pow_pos (2 * t + 5000).toNat)
      rw [← Nat.pow_add, ← Nat.pow_add]
      exact Nat.pow_le_pow_right (by omega) (by omega)
    have hb := root_bound hw hT
    obtain ⟨v', hv', hn⟩ := near_le good_double (neg := false) (m := 2 * whole + (whole * whole != m * 2 ^ more).toNat) (e := t - 1) (r := r0) (by omega) hr0 (by
      rw [hvr0]
      unfold sc
      refine Nat.le_trans (Nat.mul_le_mul_right _ hb) ?_
      have : 2 * 2 ^ (A - t).toNat = 2 ^ ((A - t).toNat + 1) := by rw [Nat.pow_succ]; omega
      rw [this, ← Nat.pow_add]
      exact Nat.pow_le_pow_right (by omega) (by unfold up; omega))
    exact ⟨_, v', rfl, hn, by rw [hvr0] at hv'; exact hv'⟩

theorem fits_le' {x : Nat} {s : Bool} {v A : Nat} (h : N64 x s v) (hv : v ≤ p2 A) (hA : A ≤ 5127) : Fits x := fits_le h (Nat.le_trans hv (pw hA))

theorem sqrt_fits {x v A B : Nat} (h : N64 x false v) (hv : v ≤ p2 B) (hB : B = 5000 + 2 * A) (hA : A ≤ 127) : ∃ r, Ieee.double.sqrt x = some r ∧ Fits r := by
  subst hB
  obtain ⟨r, v', h1, h2, h3⟩ := sqrt_le h hv (by omega)
  exact ⟨r, h1, fits_le' h2 h3 (by omega)⟩
end Go.Proofs.Ytogclingihelaaa.FB
