/- Plain bounds on the results of float64 operations: no overflow where the operands are not too great. No program in sight. -/
import Derived.Test.YtkmbfgnemamlfaaFW
namespace Go.Proofs.Ytkmbfgnemamlfaa.FB
open Go.Proofs.Ytkmbfgnemamlfaa.FW Go.Proofs.Ytkmbfgnemamlfaa.FT
open Ieee (Datum)

/-- The word is a number of float64, of sign 's' and magnitude 'v' (in units of 2 ^ -5000). -/
def N64 (x : Nat) (s : Bool) (v : Nat) : Prop := Num Ieee.double (Ieee.double.read x) s v

theorem N64.notNan {x : Nat} {s : Bool} {v : Nat} (h : N64 x s v) : isN .f64 x = false := by
  obtain ⟨m, e, hd, _⟩ := h
  unfold isN
  show (Ieee.double.read x).isNaN = false
  rw [hd]; rfl

theorem ld : Ieee.double.leastPlace = -1074 := by decide
theorem ls : Ieee.single.leastPlace = -149 := by decide

/-- A number at most 2 ^ 127 becomes a float32 without overflow. -/
theorem fits_le {x : Nat} {s : Bool} {v : Nat} (h : N64 x s v) (hv : v ≤ p2 5127) : Fits x := by
  obtain ⟨m, e, hd, he, hm, rfl⟩ := h
  rw [ld] at he
  obtain ⟨r, hr, hvr⟩ := single_pow (K := 5127) (by omega) (by omega)
  obtain ⟨v', _, m', e', hn, _⟩ := near_le good_single (neg := s) (m := m) (e := e) (r := r) (by omega) hr (by rw [hvr]; exact hv)
  right
  have hd' : FloatKind.f64.decode x = .number s m e := hd
  have hq : FloatKind.f32.decode (FloatKind.f32.encode (.number s m e)) = .number s m' e' := hn
  unfold floatToFloatBits
  rw [if_neg (by decide)]
  simp only [hd', hq]
  rfl

theorem fits_inf {x : Nat} {s : Bool} (h : Ieee.double.read x = .infinity s) : Fits x := by
  right
  have hd' : FloatKind.f64.decode x = .infinity s := h
  unfold floatToFloatBits
  rw [if_neg (by decide)]
  simp only [hd']
  rfl

theorem rootFrom_le (n : Nat) : ∀ (todo root : Nat), root * root ≤ n → Datum.rootFrom n todo root * Datum.rootFrom n todo root ≤ n
  | 0, root, h => h
  | todo + 1, root, h => by
    unfold Datum.rootFrom
    simp only []
    by_cases hc : (root + 1 <<< todo) * (root + 1 <<< todo) ≤ n
    · rw [if_pos hc]; exact rootFrom_le n todo _ hc
    · rw [if_neg hc]; exact rootFrom_le n todo _ h

theorem root_bound {w n T : Nat} (h : w * w ≤ n) (hT : n ≤ T * T) : 2 * w + (w * w != n).toNat ≤ 2 * T := by
  have hw : w ≤ T := by
    rcases Nat.lt_or_ge T w with h1 | h1
    · exfalso
      have := Nat.mul_lt_mul_of_lt_of_lt h1 h1
      omega
    · exact h1
  by_cases e : w = T
  · subst e
    have : w * w = n := by omega
    rw [this]; simp
  · have : (w * w != n).toNat ≤ 1 := by cases (w * w != n) <;> simp
    omega

/-- The square root of a number at most 4 ^ A is at most 2 ^ A. -/
theorem sqrt_le {x v A : Nat} (h : N64 x false v) (hv : v ≤ p2 (5000 + 2 * A)) (hA : A ≤ 1000) :
    ∃ r v', Ieee.double.sqrt x = some r ∧ N64 r false v' ∧ v' ≤ p2 (5000 + A) := by
  unfold p2 at hv ⊢
  obtain ⟨m, i, hd, hi, hm, rfl⟩ := h
  rw [ld] at hi
  obtain ⟨r0, hr0, hvr0⟩ := double_pow (K := 5000 + A) (by omega) (by omega)
  unfold Ieee.Format.sqrt
  rw [hd]
  unfold Datum.root
  simp only []
  by_cases h0 : m = 0
  · subst h0
    rw [if_pos rfl]
    refine ⟨_, 0, rfl, ?_, Nat.zero_le _⟩
    unfold N64
    show Num _ (Ieee.double.read (Ieee.double.nearest false 0 i)) false 0
    rw [near_zero]
    have := read_word good_double false (r := 0) (by decide)
    rw [val_zero] at this
    exact this
  · rw [if_neg h0]
    simp only [Bool.false_eq_true, if_false]
    have hd2 : Ieee.double.fractionBits + 2 = 54 := rfl
    rw [hd2]
    have hdm : 2 * 54 - m.log2 ≤ 108 := by omega
    generalize 2 * 54 - m.log2 = q at *
    have hmod : 0 ≤ (i - (q : Int)) % 2 ∧ (i - (q : Int)) % 2 < 2 := by omega
    obtain ⟨more, hmore⟩ : ∃ more : Nat, more = q + ((i - (q : Int)) % 2).toNat := ⟨_, rfl⟩
    rw [← hmore]
    obtain ⟨t, ht⟩ : ∃ t : Int, i = 2 * t + more := ⟨(i - more) / 2, by omega⟩
    have hdiv : (i - (more : Int)) / 2 = t := by omega
    rw [hdiv]
    have hw := rootFrom_le (m <<< more) ((m <<< more).log2 / 2 + 1) 0 (Nat.zero_le _)
    generalize Datum.rootFrom (m <<< more) ((m <<< more).log2 / 2 + 1) 0 = whole at *
    rw [Nat.shiftLeft_eq] at *
    have hk : up i = more + (2 * t + 5000).toNat := by unfold up; omega
    have hle : m * 2 ^ more * 2 ^ (2 * t + 5000).toNat ≤ 2 ^ (5000 + 2 * A) := by
      have : sc m i = m * 2 ^ more * 2 ^ (2 * t + 5000).toNat := by unfold sc; rw [hk, Nat.pow_add, Nat.mul_assoc]
      rw [← this]; exact hv
    have hpos : 1 ≤ m * 2 ^ more := Nat.mul_pos (Nat.pos_of_ne_zero h0) (Nat.two_pow_pos _)
    have hkA : (2 * t + 5000).toNat ≤ 5000 + 2 * A := by
      rcases Nat.lt_or_ge (5000 + 2 * A) (2 * t + 5000).toNat with h1 | h1
      · exfalso
        have h2 : 2 ^ (5000 + 2 * A) < 2 ^ (2 * t + 5000).toNat := Nat.pow_lt_pow_right (by omega) h1
        have h3 : 1 * 2 ^ (2 * t + 5000).toNat ≤ m * 2 ^ more * 2 ^ (2 * t + 5000).toNat := Nat.mul_le_mul_right _ hpos
        omega
      · exact h1
    have hT : m * 2 ^ more ≤ 2 ^ (A - t).toNat * 2 ^ (A - t).toNat := by
      refine Nat.le_of_mul_le_mul_right (Nat.le_trans hle ?_) (Nat.two_pow_pos (2 * t + 5000).toNat)
      rw [← Nat.pow_add, ← Nat.pow_add]
      exact Nat.pow_le_pow_right (by omega) (by omega)
    have hb := root_bound hw hT
    obtain ⟨v', hv', hn⟩ := near_le good_double (neg := false) (m := 2 * whole + (whole * whole != m * 2 ^ more).toNat) (e := t - 1) (r := r0) (by omega) hr0 (by
      rw [hvr0]
      unfold sc
      refine Nat.le_trans (Nat.mul_le_mul_right _ hb) ?_
      have : 2 * 2 ^ (A - t).toNat = 2 ^ ((A - t).toNat + 1) := by rw [Nat.pow_succ]; omega
      rw [this, ← Nat.pow_add]
      exact Nat.pow_le_pow_right (by omega) (by unfold up; omega))
    exact ⟨_, v', rfl, hn, by rw [hvr0] at hv'; exact hv'⟩

theorem fits_le' {x : Nat} {s : Bool} {v A : Nat} (h : N64 x s v) (hv : v ≤ p2 A) (hA : A ≤ 5127) : Fits x := fits_le h (Nat.le_trans hv (pw hA))

theorem sqrt_fits {x v A B : Nat} (h : N64 x false v) (hv : v ≤ p2 B) (hB : B = 5000 + 2 * A) (hA : A ≤ 127) : ∃ r, Ieee.double.sqrt x = some r ∧ Fits r := by
  subst hB
  obtain ⟨r, v', h1, h2, h3⟩ := sqrt_le h hv (by omega)
  exact ⟨r, h1, fits_le' h2 h3 (by omega)⟩

/-! ### The four operations on numbers of float64 -/
theorem N64.rung {x : Nat} {s : Bool} {v : Nat} (h : N64 x s v) : x % Ieee.double.signWeight < Ieee.double.infRung ∧ v = val Ieee.double (x % Ieee.double.signWeight) ∧ s = (x / Ieee.double.signWeight % 2 == 1) := by
  have hlt : x % Ieee.double.signWeight < Ieee.double.infRung := by
    rcases Nat.lt_or_ge (x % Ieee.double.signWeight) Ieee.double.infRung with h1 | h1
    · exact h1
    · exfalso
      obtain ⟨m, e, hd, _⟩ := h
      have hb : Ieee.double.binade ≤ Ieee.double.infRung := by decide
      unfold Ieee.Format.read at hd
      simp only [] at hd
      rw [if_neg (by omega), if_neg (by omega)] at hd
      split at hd <;> cases hd
  refine ⟨hlt, ?_⟩
  obtain ⟨m, e, hd, _, _, hv⟩ := h
  obtain ⟨m', e', hd', _, _, hv'⟩ := read_num good_double hlt
  rw [hd] at hd'
  injection hd' with h1 h2 h3
  subst h2; subst h3
  exact ⟨hv.symm.trans hv', h1⟩

theorem N64.lt {x : Nat} {s : Bool} {v : Nat} (h : N64 x s v) : v < p2 6024 := by
  obtain ⟨h1, h2, _⟩ := h.rung
  have h3 := val_lt (f := Ieee.double) h1
  have h4 := val_pow (f := Ieee.double) (K := 6024) (by decide)
  have h5 : (6024 - lpN Ieee.double - Ieee.double.fractionBits + 1) * Ieee.double.binade = Ieee.double.infRung := by decide
  rw [h5] at h4
  rw [h2, ← h4]; exact h3

theorem sum_exact {d₁ d₂ : Datum} {s t : Bool} {a b : Nat} (h1 : Num Ieee.double d₁ s a) (h2 : Num Ieee.double d₂ t b) :
    ∃ sg m e, d₁.sum d₂ = some (.number sg m e) ∧ -1074 ≤ e ∧ sc m e = (iv s a + iv t b).natAbs ∧ sg = (if iv s a + iv t b = 0 then s && t else decide (iv s a + iv t b < 0)) := by
  obtain ⟨m, i, rfl, hi, _, rfl⟩ := h1
  obtain ⟨n, j, rfl, hj, _, rfl⟩ := h2
  rw [ld] at hi hj
  have e1 := signed_mul s m (b := min i j) (by omega) (Int.min_le_left _ _)
  have e2 := signed_mul t n (b := min i j) (by omega) (Int.min_le_right _ _)
  have hpos : (0 : Int) < ((2 ^ up (min i j) : Nat) : Int) := by have := Nat.two_pow_pos (up (min i j)); omega
  unfold Datum.sum
  simp only []
  refine ⟨_, _, _, rfl, by omega, ?_, ?_⟩
  · rw [← e1, ← e2, ← Int.add_mul, Int.natAbs_mul]
    unfold sc
    congr 1
  · rw [← e1, ← e2, ← Int.add_mul]
    generalize Ieee.signed s m (i - min i j).toNat + Ieee.signed t n (j - min i j).toNat = T
    by_cases h0 : T = 0
    · subst h0; simp
    · rw [if_neg h0, if_neg (by intro h; rcases Int.mul_eq_zero.1 h with h | h <;> omega)]
      by_cases hn : T < 0
      · rw [decide_eq_true hn, decide_eq_true (Int.mul_neg_of_neg_of_pos hn hpos)]
      · rw [decide_eq_false hn, decide_eq_false]
        have := Int.mul_nonneg (show 0 ≤ T by omega) (Int.le_of_lt hpos)
        omega

theorem Num.opp {d : Datum} {s : Bool} {v : Nat} (h : Num Ieee.double d s v) : Num Ieee.double d.opposite (!s) v := by
  obtain ⟨m, e, rfl, h⟩ := h
  exact ⟨m, e, rfl, h⟩
theorem iv_not (s : Bool) (v : Nat) : iv (!s) v = -iv s v := by cases s <;> simp [iv]

/-- A sum that is at most 2 ^ K. -/
theorem add_le {x y : Nat} {s t : Bool} {a b K : Nat} (hx : N64 x s a) (hy : N64 y t b) (h1 : 3978 ≤ K) (h2 : K ≤ 6023) (h : (iv s a + iv t b).natAbs ≤ p2 K) :
    ∃ sg v, N64 (fop .add .f64 x y) sg v ∧ v ≤ p2 K := by
  obtain ⟨sg, m, e, he, hlo, hv, _⟩ := sum_exact hx hy
  obtain ⟨r, hr, hvr⟩ := double_pow h1 h2
  obtain ⟨v, hv', hn⟩ := near_le good_double (neg := sg) (m := m) (e := e) (r := r) (by omega) hr (by rw [hv, hvr]; exact h)
  have hf : fop .add .f64 x y = Ieee.double.nearest sg m e := by
    unfold fop floatBits
    show ((((Ieee.double.read x).sum (Ieee.double.read y))).map Ieee.double.write).getD _ = _
    rw [he]; rfl
  rw [hf]
  exact ⟨sg, v, hn, by rw [← hvr]; exact hv'⟩

theorem sub_le {x y : Nat} {s t : Bool} {a b K : Nat} (hx : N64 x s a) (hy : N64 y t b) (h1 : 3978 ≤ K) (h2 : K ≤ 6023) (h : (iv s a - iv t b).natAbs ≤ p2 K) :
    ∃ sg v, N64 (fop .sub .f64 x y) sg v ∧ v ≤ p2 K := by
  obtain ⟨sg, m, e, he, hlo, hv, _⟩ := sum_exact hx (Num.opp hy)
  rw [iv_not, ← Int.sub_eq_add_neg] at hv
  obtain ⟨r, hr, hvr⟩ := double_pow h1 h2
  obtain ⟨v, hv', hn⟩ := near_le good_double (neg := sg) (m := m) (e := e) (r := r) (by omega) hr (by rw [hv, hvr]; exact h)
  have hf : fop .sub .f64 x y = Ieee.double.nearest sg m e := by
    unfold fop floatBits
    show ((((Ieee.double.read x).sum (Ieee.double.read y).opposite)).map Ieee.double.write).getD _ = _
    rw [he]; rfl
  rw [hf]
  exact ⟨sg, v, hn, by rw [← hvr]; exact hv'⟩

theorem iv_abs (s : Bool) (v : Nat) : (iv s v).natAbs = v := by cases s <;> simp [iv]
theorem p2_succ (K : Nat) : p2 (K + 1) = 2 * p2 K := by unfold p2; rw [Nat.pow_succ]; omega

/-- Crude: one power more than the greater operand. -/
theorem add_crude {x y : Nat} {s t : Bool} {a b K : Nat} (hx : N64 x s a) (hy : N64 y t b) (ha : a ≤ p2 K) (hb : b ≤ p2 K) (h1 : 3978 ≤ K) (h2 : K ≤ 6022) :
    ∃ sg v, N64 (fop .add .f64 x y) sg v ∧ v ≤ p2 (K + 1) := by
  refine add_le hx hy (by omega) (by omega) ?_
  have := p2_succ K
  have := iv_abs s a
  have := iv_abs t b
  omega
theorem sub_crude {x y : Nat} {s t : Bool} {a b K : Nat} (hx : N64 x s a) (hy : N64 y t b) (ha : a ≤ p2 K) (hb : b ≤ p2 K) (h1 : 3978 ≤ K) (h2 : K ≤ 6022) :
    ∃ sg v, N64 (fop .sub .f64 x y) sg v ∧ v ≤ p2 (K + 1) := by
  refine sub_le hx hy (by omega) (by omega) ?_
  have := p2_succ K
  have := iv_abs s a
  have := iv_abs t b
  omega

theorem mul_le {x y : Nat} {s t : Bool} {a b A B K : Nat} (hx : N64 x s a) (hy : N64 y t b) (ha : a ≤ p2 A) (hb : b ≤ p2 B) (hK : K + 5000 = A + B) (h1 : 3978 ≤ K) (h2 : K ≤ 6023) :
    ∃ v, N64 (fop .mul .f64 x y) (s ^^ t) v ∧ v ≤ p2 K := by
  obtain ⟨m, i, hd, hi, _, rfl⟩ := hx
  obtain ⟨n, j, hd', hj, _, rfl⟩ := hy
  rw [ld] at hi hj
  obtain ⟨r, hr, hvr⟩ := double_pow h1 h2
  have hsc : sc (m * n) (i + j) ≤ p2 K := by
    have e : sc (m * n) (i + j) * p2 5000 = sc m i * sc n j := by
      show m * n * p2 (up (i + j)) * p2 5000 = m * p2 (up i) * (n * p2 (up j))
      have h3 : p2 (up i) * p2 (up j) = p2 (up (i + j)) * p2 5000 := by rw [p2_add, p2_add]; congr 1; unfold up; omega
      calc m * n * p2 (up (i + j)) * p2 5000 = m * n * (p2 (up (i + j)) * p2 5000) := by rw [Nat.mul_assoc]
        _ = m * n * (p2 (up i) * p2 (up j)) := by rw [h3]
        _ = m * p2 (up i) * (n * p2 (up j)) := by simp only [Nat.mul_assoc, Nat.mul_left_comm]
    have h4 : sc m i * sc n j ≤ p2 A * p2 B := Nat.mul_le_mul ha hb
    rw [p2_add, ← hK, ← p2_add, ← e] at h4
    exact Nat.le_of_mul_le_mul_right h4 (p2_pos 5000)
  obtain ⟨v, hv', hn⟩ := near_le good_double (neg := s ^^ t) (m := m * n) (e := i + j) (r := r) (by omega) hr (by rw [hvr]; exact hsc)
  have hf : fop .mul .f64 x y = Ieee.double.nearest (s ^^ t) (m * n) (i + j) := by
    unfold fop floatBits
    show ((((Ieee.double.read x).product (Ieee.double.read y))).map Ieee.double.write).getD _ = _
    rw [hd, hd']; rfl
  rw [hf]
  exact ⟨v, hn, by rw [← hvr]; exact hv'⟩

theorem quot_bound {D n T : Nat} (hn : 0 < n) (h : D ≤ T * n) : 2 * (D / n) + (D % n != 0).toNat ≤ 2 * T := by
  have h1 := Nat.div_add_mod D n
  have h2 : D / n ≤ T := by rw [Nat.div_le_iff_le_mul_add_pred hn]; have := Nat.mul_comm T n; omega
  by_cases e : D / n = T
  · rw [e] at h1
    have : D % n = 0 := by have := Nat.mul_comm T n; omega
    rw [e, this]; simp
  · have : (D % n != 0).toNat ≤ 1 := by cases (D % n != 0) <;> simp
    omega

/-- A quotient by a number that is 1 or more. -/
theorem div_le {x y : Nat} {s t : Bool} {a b K : Nat} (hx : N64 x s a) (hy : N64 y t b) (hq : a * p2 5000 ≤ p2 K * b) (hb0 : 0 < b) (h1 : 3978 ≤ K) (h2 : K ≤ 6023) :
    ∃ v, N64 (fop .quo .f64 x y) (s ^^ t) v ∧ v ≤ p2 K := by
  have hblt := hy.lt
  obtain ⟨m, i, hd, hi, hm, rfl⟩ := hx
  obtain ⟨n, j, hd', hj, hn, rfl⟩ := hy
  rw [ld] at hi hj
  obtain ⟨r, hr, hvr⟩ := double_pow h1 h2
  have hn0 : n ≠ 0 := by rintro rfl; simp [sc] at hb0
  have hbin : Ieee.double.binade = 2 ^ 52 := rfl
  have hnl : n.log2 < 53 := by rw [Nat.log2_lt hn0]; rw [hbin] at hn; omega
  have hj' : up j < 6024 := by
    rcases Nat.lt_or_ge (up j) 6024 with h | h
    · exact h
    · exfalso
      have h3 : p2 6024 ≤ p2 (up j) := pw h
      have h4 : 1 * p2 (up j) ≤ n * p2 (up j) := Nat.mul_le_mul_right _ (by omega)
      have h5 : sc n j = n * p2 (up j) := rfl
      omega
  have hf : ∀ more, more = 54 + n.log2 - m.log2 → fop .quo .f64 x y = Ieee.double.nearest (s ^^ t) (2 * ((m <<< more) / n) + ((m <<< more) % n != 0).toNat) (i - j - more - 1) := by
    intro more hmore
    unfold fop floatBits
    show ((((Ieee.double.read x).quotient (Ieee.double.fractionBits + 2) (Ieee.double.read y))).map Ieee.double.write).getD _ = _
    rw [hd, hd']
    unfold Datum.quotient
    simp only []
    rw [if_neg hn0, hmore]
    rfl
  obtain ⟨more, hmore⟩ : ∃ more, more = 54 + n.log2 - m.log2 := ⟨_, rfl⟩
  rw [hf more hmore]
  have hm107 : more ≤ 107 := by omega
  have hup : up j = (j + 5000).toNat := rfl
  have hplace : -5000 ≤ i - j - more - 1 := by unfold up at hj'; omega
  have hsc : sc (2 * ((m <<< more) / n) + ((m <<< more) % n != 0).toNat) (i - j - more - 1) ≤ p2 K := by
    rw [Nat.shiftLeft_eq]
    by_cases h0 : m = 0
    · subst h0; simp [sc]
    · -- the dividend is at least the divisor
      have hD : n ≤ m * 2 ^ more := by
        have h3 : 2 ^ m.log2 ≤ m := Nat.log2_self_le h0
        have h4 : n < 2 ^ (n.log2 + 1) := Nat.lt_log2_self
        have h5 : 2 ^ (n.log2 + 1) ≤ 2 ^ m.log2 * 2 ^ more := by rw [← Nat.pow_add]; exact Nat.pow_le_pow_right (by omega) (by omega)
        have h6 : 2 ^ m.log2 * 2 ^ more ≤ m * 2 ^ more := Nat.mul_le_mul_right _ h3
        omega
      have hq' : m * p2 (up i + 5000) ≤ n * p2 (K + up j) := by
        have e1 : m * p2 (up i + 5000) = sc m i * p2 5000 := by
          show _ = m * p2 (up i) * p2 5000
          rw [Nat.mul_assoc, p2_add]
        rw [e1]
        refine Nat.le_trans hq ?_
        show p2 K * (n * p2 (up j)) ≤ _
        rw [Nat.mul_left_comm, p2_add]
        exact Nat.le_refl _
      have hDp : m * 2 ^ more = m * p2 more := rfl
      rw [hDp] at hD ⊢
      generalize hU : up i + 5000 = U at hq'
      -- the exponent of the bound on the whole quotient
      have hge : U ≤ K + up j + more := by
        rcases Nat.lt_or_ge (K + up j + more) U with h | h
        · exfalso
          have h3 : m * p2 more * p2 (U - more) ≤ n * p2 (K + up j) := by
            rw [Nat.mul_assoc, p2_add, show more + (U - more) = U by omega]; exact hq'
          have h4 : n * p2 (U - more) ≤ m * p2 more * p2 (U - more) := Nat.mul_le_mul_right _ hD
          have h5 : p2 (K + up j) < p2 (U - more) := Nat.pow_lt_pow_right (by decide) (by omega)
          have h6 : n * p2 (K + up j) < n * p2 (U - more) := Nat.mul_lt_mul_of_pos_left h5 (by omega)
          omega
        · exact h
      have hT : m * p2 more ≤ p2 (K + up j + more - U) * n := by
        refine Nat.le_of_mul_le_mul_right (a := m * p2 more) ?_ (p2_pos U)
        have e1 : m * p2 more * p2 U = m * p2 U * p2 more := by simp only [Nat.mul_assoc, Nat.mul_comm (p2 more)]
        have e2 : p2 (K + up j + more - U) * n * p2 U = n * p2 (K + up j) * p2 more := by
          rw [Nat.mul_comm (p2 (K + up j + more - U)) n, Nat.mul_assoc, p2_add, Nat.mul_assoc, p2_add]
          congr 2; omega
        rw [e1, e2]
        exact Nat.mul_le_mul_right _ hq'
      have hb := quot_bound (by omega : 0 < n) hT
      show (2 * (m * p2 more / n) + (m * p2 more % n != 0).toNat) * p2 (up (i - j - more - 1)) ≤ p2 K
      refine Nat.le_trans (Nat.mul_le_mul_right _ hb) ?_
      rw [← p2_succ, p2_add]
      exact pw (by unfold up at *; omega)
  obtain ⟨v, hv', hn'⟩ := near_le good_double (neg := s ^^ t) (r := r) hplace hr (by rw [hvr]; exact hsc)
  exact ⟨v, hn', by rw [← hvr]; exact hv'⟩

/-- The divisor is 1 or more. -/
theorem div_one {x y : Nat} {s t : Bool} {a b K : Nat} (hx : N64 x s a) (hy : N64 y t b) (ha : a ≤ p2 K) (hb : p2 5000 ≤ b) (h1 : 3978 ≤ K) (h2 : K ≤ 6023) :
    ∃ v, N64 (fop .quo .f64 x y) (s ^^ t) v ∧ v ≤ p2 K :=
  div_le hx hy (Nat.mul_le_mul ha hb) (Nat.lt_of_lt_of_le (p2_pos _) hb) h1 h2
end Go.Proofs.Ytkmbfgnemamlfaa.FB
