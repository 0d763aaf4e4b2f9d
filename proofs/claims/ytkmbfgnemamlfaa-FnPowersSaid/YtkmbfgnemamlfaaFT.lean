/- Plain facts on binary floating point after the model's Ieee: rounding is monotone and leaves what a format has. No program in sight. -/
import Derived.Laws.FloatArith
namespace Go.Proofs.Ytkmbfgnemamlfaa.FT
open Ieee (Format Datum)

/-- A power of two, kept closed: Lean would reckon it out. -/
def p2 (a : Nat) : Nat := 2 ^ a
theorem pw {a b : Nat} (h : a ≤ b) : p2 a ≤ p2 b := Nat.pow_le_pow_right (by decide) h
theorem p2_add (a b : Nat) : p2 a * p2 b = p2 (a + b) := (Nat.pow_add 2 a b).symm
theorem p2_pos (a : Nat) : 0 < p2 a := Nat.two_pow_pos a

/-- 'n / g' rounded to the nearest whole number, ties to even. -/
def rne (n g : Nat) : Nat := n / g + (if g < 2 * (n % g) ∨ (g = 2 * (n % g) ∧ (n / g) % 2 = 1) then 1 else 0)

theorem le_rne {n g j : Nat} (hg : 0 < g) (hj : 1 ≤ j) :
    j ≤ rne n g ↔ ((2 * j - 1) * g < 2 * n ∨ ((2 * j - 1) * g = 2 * n ∧ j % 2 = 0)) := by
  have hn := Nat.div_add_mod n g
  have hr := Nat.mod_lt n hg
  have e : (2 * j - 1) * g = 2 * (g * j) - g := by rw [Nat.sub_mul, Nat.one_mul, Nat.mul_assoc, Nat.mul_comm j g]
  unfold rne
  rw [e]
  generalize n / g = q at *
  generalize n % g = r at *
  subst hn
  rcases Nat.lt_trichotomy j (q + 1) with h | h | h
  · obtain ⟨d, rfl⟩ : ∃ d, q = j + d := ⟨q - j, by omega⟩
    have h1 : g * (j + d) = g * j + g * d := Nat.mul_add ..
    have h2 : g * 1 ≤ g * j := Nat.mul_le_mul_left g hj
    rw [h1]
    constructor
    · intro _; left; omega
    · intro _; omega
  · subst h
    have h1 : g * (q + 1) = g * q + g := Nat.mul_succ ..
    rw [h1]
    split
    · rename_i h; constructor
      · intro _; omega
      · intro _; omega
    · rename_i h; constructor
      · intro _; omega
      · intro _; omega
  · obtain ⟨d, rfl⟩ : ∃ d, j = q + 2 + d := ⟨j - q - 2, by omega⟩
    have h1 : g * (q + 2 + d) = g * q + g * 2 + g * d := by rw [Nat.mul_add, Nat.mul_add]
    rw [h1]
    constructor
    · intro h; split at h <;> omega
    · intro _; omega

theorem rne_mono {n₁ g₁ n₂ g₂ : Nat} (h1 : 0 < g₁) (h2 : 0 < g₂) (h : n₁ * g₂ ≤ n₂ * g₁) : rne n₁ g₁ ≤ rne n₂ g₂ := by
  by_cases hj : rne n₁ g₁ = 0
  · omega
  · have hj1 : 1 ≤ rne n₁ g₁ := by omega
    have a := (le_rne h1 hj1).1 (Nat.le_refl _)
    generalize rne n₁ g₁ = j at *
    refine (le_rne h2 hj1).2 ?_
    generalize 2 * j - 1 = c at *
    have key : c * g₁ ≤ 2 * n₁ := by omega
    have k1 : c * g₁ * g₂ ≤ 2 * n₁ * g₂ := Nat.mul_le_mul_right _ key
    have k2 : 2 * n₁ * g₂ ≤ 2 * n₂ * g₁ := by rw [Nat.mul_assoc, Nat.mul_assoc]; exact Nat.mul_le_mul_left 2 h
    have k3 : c * g₂ * g₁ = c * g₁ * g₂ := by rw [Nat.mul_assoc, Nat.mul_comm g₂, Nat.mul_assoc]
    have k4' : c * g₂ * g₁ ≤ 2 * n₂ * g₁ := by omega
    have k4 : c * g₂ ≤ 2 * n₂ := Nat.le_of_mul_le_mul_right k4' h1
    rcases Nat.lt_or_ge (c * g₂) (2 * n₂) with hlt | hge
    · exact .inl hlt
    · have e2 : c * g₂ = 2 * n₂ := by omega
      refine .inr ⟨e2, ?_⟩
      rcases a with a | a
      · exfalso
        have : c * g₁ * g₂ < 2 * n₁ * g₂ := Nat.mul_lt_mul_of_pos_right a h2
        rw [← e2] at k2
        omega
      · exact a.2

theorem rne_one (m : Nat) : rne m 1 = m := by unfold rne; simp [Nat.mod_one]

theorem rne_le {n g m : Nat} (hg : 0 < g) (h : n ≤ m * g) : rne n g ≤ m := by
  have := rne_mono (n₁ := n) (n₂ := m) hg Nat.one_pos (by omega)
  rwa [rne_one] at this

theorem le_rne' {n g m : Nat} (hg : 0 < g) (h : m * g ≤ n) : m ≤ rne n g := by
  have := rne_mono (n₁ := m) (n₂ := n) Nat.one_pos hg (by omega)
  rwa [rne_one] at this

theorem cut_even (neg : Bool) (n d : Nat) : Ieee.Toward.even.cut neg n d = rne n (2 ^ d) := by
  have hlt : n < 2 ^ (n.log2 + 1) := Nat.lt_log2_self
  unfold Ieee.Toward.cut rne
  simp only [Nat.one_shiftLeft]
  by_cases h : d ≤ n.log2 + 2
  · rw [Nat.min_eq_left h]
    congr 1
    generalize n % 2 ^ d = r
    generalize n / 2 ^ d % 2 = q
    generalize 2 ^ d = G
    by_cases h1 : G < 2 * r
    · rw [decide_eq_true h1, if_pos (.inl h1)]; rfl
    · rw [decide_eq_false h1, Bool.false_or]
      by_cases h2 : G = 2 * r
      · by_cases h3 : q = 1
        · rw [if_pos (.inr ⟨h2, h3⟩), beq_iff_eq.2 h2, beq_iff_eq.2 h3]; rfl
        · rw [if_neg (by omega), beq_false_of_ne h3, Bool.and_false]; rfl
      · rw [if_neg (by omega), beq_false_of_ne h2]; rfl
  · have h' : n.log2 + 2 ≤ d := by omega
    rw [Nat.min_eq_right h']
    have e2 : 2 ^ (n.log2 + 2) = 2 * 2 ^ (n.log2 + 1) := by rw [Nat.pow_succ]; omega
    have e3 : 2 ^ (n.log2 + 2) ≤ 2 ^ d := Nat.pow_le_pow_right (by omega) h'
    rw [Nat.div_eq_of_lt (by omega), Nat.mod_eq_of_lt (by omega), Nat.div_eq_of_lt (by omega : n < 2 ^ d), Nat.mod_eq_of_lt (by omega : n < 2 ^ d)]
    rw [if_neg (by omega)]
    have g1 : ¬ 2 ^ (n.log2 + 2) < 2 * n := by omega
    have g2 : ¬ 2 ^ (n.log2 + 2) = 2 * n := by omega
    rw [decide_eq_false g1, beq_false_of_ne g2]
    rfl

/-! ### The units: every place is told upwards from -5000 -/
def up (e : Int) : Nat := (e + 5000).toNat
def sc (m : Nat) (e : Int) : Nat := m * 2 ^ up e

structure Good (f : Format) : Prop where
  lo : -4000 ≤ f.leastPlace
  hi : f.leastPlace ≤ 0
  fb : f.fractionBits ≤ 100
  eb : 2 ≤ f.exponentBits

theorem good_single : Good Ieee.single := ⟨by decide, by decide, by decide, by decide⟩
theorem good_double : Good Ieee.double := ⟨by decide, by decide, by decide, by decide⟩

def lpN (f : Format) : Nat := up f.leastPlace
def lastN (f : Format) (m P : Nat) : Nat := max (P + m.log2 - f.fractionBits) (lpN f)
def rungN (f : Format) (m P : Nat) : Nat := (lastN f m P - lpN f) * f.binade + rne (m * 2 ^ (P - lastN f m P)) (2 ^ (lastN f m P - P))

theorem nearest_eq {f : Format} (g : Good f) {neg : Bool} {m : Nat} {e : Int} (hm : m ≠ 0) (he : -5000 ≤ e) :
    f.nearest neg m e = f.word neg (min (rungN f m (up e)) f.infRung) := by
  have hfb := g.fb
  have hlo := g.lo
  have hhi := g.hi
  unfold Format.nearest rungN
  rw [if_neg hm]
  simp only [cut_even, Nat.shiftLeft_eq]
  have hl : max (e + (m.log2 : Int) - (f.fractionBits : Int)) f.leastPlace = (lastN f m (up e) : Int) - 5000 := by
    unfold lastN lpN up
    omega
  rw [hl]
  have h1 : ((lastN f m (up e) : Int) - 5000 - f.leastPlace).toNat = lastN f m (up e) - lpN f := by unfold lpN up; omega
  have h2 : (e - ((lastN f m (up e) : Int) - 5000)).toNat = up e - lastN f m (up e) := by unfold up; omega
  have h3 : ((lastN f m (up e) : Int) - 5000 - e).toNat = lastN f m (up e) - up e := by unfold up; omega
  rw [h1, h2, h3]

theorem binade_pos (f : Format) : 0 < f.binade := Nat.two_pow_pos _

section
variable {f : Format}

theorem lastN_ge (m P : Nat) : P + m.log2 ≤ lastN f m P + f.fractionBits ∧ lpN f ≤ lastN f m P := by unfold lastN; omega

/-- What is kept is at most two binades. -/
theorem kept_le {m : Nat} (P : Nat) : rne (m * 2 ^ (P - lastN f m P)) (2 ^ (lastN f m P - P)) ≤ 2 * f.binade := by
  refine rne_le (Nat.two_pow_pos _) ?_
  have h1 := (lastN_ge (f := f) m P).1
  generalize lastN f m P = L at *
  have h2 : m < 2 ^ (m.log2 + 1) := Nat.lt_log2_self
  have h3 : m * 2 ^ (P - L) ≤ 2 ^ (m.log2 + 1) * 2 ^ (P - L) := Nat.mul_le_mul_right _ (by omega)
  have h4 : 2 * f.binade * 2 ^ (L - P) = 2 ^ (f.fractionBits + 1 + (L - P)) := by
    unfold Format.binade; rw [Nat.pow_add, Nat.pow_succ]; congr 1; omega
  rw [← Nat.pow_add] at h3
  rw [h4]
  exact Nat.le_trans h3 (Nat.pow_le_pow_right (by omega) (by omega))

theorem kept_ge {m : Nat} (hm : m ≠ 0) {P : Nat} (h : lpN f < lastN f m P) : f.binade ≤ rne (m * 2 ^ (P - lastN f m P)) (2 ^ (lastN f m P - P)) := by
  refine le_rne' (Nat.two_pow_pos _) ?_
  have h1 : lastN f m P + f.fractionBits = P + m.log2 := by unfold lastN at *; omega
  generalize lastN f m P = L at *
  have h2 : 2 ^ m.log2 ≤ m := Nat.log2_self_le hm
  refine Nat.le_trans ?_ (Nat.mul_le_mul_right _ h2)
  unfold Format.binade
  rw [← Nat.pow_add, ← Nat.pow_add]
  exact Nat.pow_le_pow_right (by omega) (by omega)

theorem pow_split {P L : Nat} : 2 ^ (P - L) * 2 ^ L = 2 ^ P * 2 ^ (L - P) := by
  rw [← Nat.pow_add, ← Nat.pow_add]; congr 1; omega

/-- ROUNDING IS MONOTONE. -/
theorem rungN_mono {m₁ P₁ m₂ P₂ : Nat} (h1 : m₁ ≠ 0) (h2 : m₂ ≠ 0) (h : m₁ * 2 ^ P₁ ≤ m₂ * 2 ^ P₂) : rungN f m₁ P₁ ≤ rungN f m₂ P₂ := by
  have hb := binade_pos f
  unfold rungN
  rcases Nat.lt_trichotomy (lastN f m₁ P₁) (lastN f m₂ P₂) with hl | hl | hl
  · have k1 := kept_le (f := f) (m := m₁) P₁
    have lp1 := (lastN_ge (f := f) m₁ P₁).2
    have k2 := kept_ge (f := f) h2 (P := P₂) (by omega)
    generalize rne (m₁ * _) _ = K1 at *
    generalize rne (m₂ * _) _ = K2 at *
    generalize lastN f m₁ P₁ = L1 at *
    generalize lastN f m₂ P₂ = L2 at *
    obtain ⟨d, hd⟩ : ∃ d, L2 - lpN f = L1 - lpN f + 1 + d := ⟨L2 - lpN f - (L1 - lpN f + 1), by omega⟩
    rw [hd, Nat.add_mul, Nat.add_mul, Nat.one_mul]
    omega
  · rw [← hl]
    refine Nat.add_le_add_left (rne_mono (Nat.two_pow_pos _) (Nat.two_pow_pos _) ?_) _
    generalize lastN f m₁ P₁ = L at *
    have s1 : 2 ^ (P₁ - L) * 2 ^ L = 2 ^ P₁ * 2 ^ (L - P₁) := pow_split
    have s2 : 2 ^ (P₂ - L) * 2 ^ L = 2 ^ P₂ * 2 ^ (L - P₂) := pow_split
    refine (Nat.mul_le_mul_right_iff (Nat.two_pow_pos L)).1 ?_
    have e1 : m₁ * 2 ^ (P₁ - L) * 2 ^ (L - P₂) * 2 ^ L = m₁ * 2 ^ P₁ * (2 ^ (L - P₁) * 2 ^ (L - P₂)) := by
      calc m₁ * 2 ^ (P₁ - L) * 2 ^ (L - P₂) * 2 ^ L = m₁ * (2 ^ (P₁ - L) * 2 ^ L) * 2 ^ (L - P₂) := by simp only [Nat.mul_assoc, Nat.mul_comm, Nat.mul_left_comm]
        _ = _ := by rw [s1]; simp only [Nat.mul_assoc]
    have e2 : m₂ * 2 ^ (P₂ - L) * 2 ^ (L - P₁) * 2 ^ L = m₂ * 2 ^ P₂ * (2 ^ (L - P₁) * 2 ^ (L - P₂)) := by
      calc m₂ * 2 ^ (P₂ - L) * 2 ^ (L - P₁) * 2 ^ L = m₂ * (2 ^ (P₂ - L) * 2 ^ L) * 2 ^ (L - P₁) := by simp only [Nat.mul_assoc, Nat.mul_comm, Nat.mul_left_comm]
        _ = _ := by rw [s2, Nat.mul_comm (2 ^ (L - P₁))]; simp only [Nat.mul_assoc]
    rw [e1, e2]
    exact Nat.mul_le_mul_right _ h
  · exfalso
    have lp2 := lastN_ge (f := f) m₂ P₂
    have h3 : P₂ + m₂.log2 < P₁ + m₁.log2 := by unfold lastN at *; omega
    have h4 : m₂ < 2 ^ (m₂.log2 + 1) := Nat.lt_log2_self
    have h5 : 2 ^ m₁.log2 ≤ m₁ := Nat.log2_self_le h1
    have h6 : m₂ * 2 ^ P₂ < 2 ^ (m₂.log2 + 1) * 2 ^ P₂ := Nat.mul_lt_mul_of_pos_right h4 (Nat.two_pow_pos _)
    have h7 : 2 ^ m₁.log2 * 2 ^ P₁ ≤ m₁ * 2 ^ P₁ := Nat.mul_le_mul_right _ h5
    have h8 : 2 ^ (m₂.log2 + 1) * 2 ^ P₂ ≤ 2 ^ m₁.log2 * 2 ^ P₁ := by
      rw [← Nat.pow_add, ← Nat.pow_add]; exact Nat.pow_le_pow_right (by omega) (by omega)
    omega

/-- What a rung stands for. -/
def val (f : Format) (r : Nat) : Nat :=
  if r < f.binade then r * 2 ^ lpN f else (f.binade + r % f.binade) * 2 ^ (lpN f + (r / f.binade - 1))

theorem val_at {L K : Nat} (hL : lpN f ≤ L) (hK : K ≤ 2 * f.binade) (h : L = lpN f ∨ f.binade ≤ K) : val f ((L - lpN f) * f.binade + K) = K * 2 ^ L := by
  have hb := binade_pos f
  unfold val
  generalize hB : f.binade = b at *
  generalize hl : lpN f = l at *
  obtain ⟨d, rfl⟩ : ∃ d, L = l + d := ⟨L - l, by omega⟩
  rw [Nat.add_sub_cancel_left]
  by_cases hd : d = 0
  · subst hd
    simp only [Nat.zero_mul, Nat.zero_add, Nat.add_zero]
    by_cases h1 : K < b
    · rw [if_pos h1]
    · rw [if_neg h1]
      by_cases h2 : K = 2 * b
      · subst h2
        rw [Nat.mul_mod_left, Nat.mul_div_cancel _ hb, Nat.pow_succ]
        simp only [Nat.add_zero, Nat.mul_assoc, Nat.mul_comm]
      · have h3 : K / b = 1 := by
          rw [Nat.div_eq_iff hb]; omega
        have h4 : K % b = K - b := by
          have := Nat.div_add_mod K b; rw [h3] at this; omega
        rw [h3, h4]
        simp only [Nat.sub_self, Nat.add_zero]
        congr 1; omega
  · have hK' : b ≤ K := by omega
    have hge : b ≤ d * b := Nat.le_mul_of_pos_left b (by omega)
    rw [if_neg (by omega)]
    by_cases h2 : K = 2 * b
    · subst h2
      rw [← Nat.add_mul, Nat.mul_mod_left, Nat.mul_div_cancel _ hb]
      have e1 : l + (d + 2 - 1) = (l + d) + 1 := by omega
      rw [e1, Nat.pow_succ]
      simp only [Nat.add_zero, Nat.mul_assoc, Nat.mul_comm]
    · obtain ⟨s, rfl⟩ : ∃ s, K = b + s := ⟨K - b, by omega⟩
      have e0 : d * b + (b + s) = s + (d + 1) * b := by rw [Nat.add_mul]; omega
      rw [e0, Nat.add_mul_mod_self_right, Nat.add_mul_div_right _ _ hb, Nat.mod_eq_of_lt (by omega), Nat.div_eq_of_lt (by omega)]
      congr 2; omega

/-- Every rung, written out. -/
theorem rung_form (r : Nat) : ∃ L K, lpN f ≤ L ∧ K < 2 * f.binade ∧ (L = lpN f ∨ f.binade ≤ K) ∧ r = (L - lpN f) * f.binade + K ∧ val f r = K * 2 ^ L := by
  have hb := binade_pos f
  by_cases h : r < f.binade
  · refine ⟨lpN f, r, Nat.le_refl _, by omega, .inl rfl, by simp, ?_⟩
    unfold val; rw [if_pos h]
  · have h1 := Nat.div_add_mod r f.binade
    have h2 := Nat.mod_lt r hb
    have h3 : 1 ≤ r / f.binade := by rw [Nat.le_div_iff_mul_le hb]; omega
    refine ⟨lpN f + (r / f.binade - 1), f.binade + r % f.binade, by omega, by omega, .inr (by omega), ?_, ?_⟩
    · rw [Nat.add_sub_cancel_left, Nat.sub_mul, Nat.one_mul]
      have : f.binade ≤ r / f.binade * f.binade := Nat.le_mul_of_pos_left _ h3
      rw [Nat.mul_comm] at h1
      omega
    · unfold val; rw [if_neg h]

theorem rungN_form {L K : Nat} (hL : lpN f ≤ L) (hK : K < 2 * f.binade) (h : L = lpN f ∨ f.binade ≤ K) (h0 : K ≠ 0) : rungN f K L = (L - lpN f) * f.binade + K := by
  have hlast : lastN f K L = L := by
    unfold lastN
    have h1 : K.log2 < f.fractionBits + 1 := by
      rw [Nat.log2_lt h0, Nat.pow_succ]
      unfold Format.binade at hK; omega
    rcases h with h | h
    · omega
    · have h2 : f.fractionBits ≤ K.log2 := by
        rw [Nat.le_log2 h0]; exact h
      omega
  unfold rungN
  rw [hlast, Nat.sub_self]
  simp [rne_one]

/-- A bound that the format has, above. -/
theorem rungN_le {m P r : Nat} (hm : m ≠ 0) (h : m * 2 ^ P ≤ val f r) : rungN f m P ≤ r := by
  obtain ⟨L, K, hL, hK, hor, hr, hv⟩ := rung_form (f := f) r
  rw [hv] at h
  have h0 : K ≠ 0 := by
    rintro rfl
    have := Nat.mul_pos (Nat.pos_of_ne_zero hm) (Nat.two_pow_pos P)
    omega
  rw [hr, ← rungN_form hL hK hor h0]
  exact rungN_mono hm h0 h

/-- .. and below. -/
theorem le_rungN {m P r : Nat} (hm : m ≠ 0) (h : val f r ≤ m * 2 ^ P) : r ≤ rungN f m P := by
  obtain ⟨L, K, hL, hK, hor, hr, hv⟩ := rung_form (f := f) r
  rw [hv] at h
  by_cases h0 : K = 0
  · subst h0
    have hb := binade_pos f
    have : L = lpN f := by omega
    rw [hr, this]; simp
  · rw [hr, ← rungN_form hL hK hor h0]
    exact rungN_mono h0 hm h

theorem val_pos {r : Nat} (h : 0 < r) : 0 < val f r := by
  obtain ⟨L, K, hL, hK, hor, hr, hv⟩ := rung_form (f := f) r
  have hb := binade_pos f
  rw [hv]
  refine Nat.mul_pos ?_ (Nat.two_pow_pos _)
  rcases hor with h1 | h1
  · subst h1; simp at hr; omega
  · omega

theorem val_lt {r₁ r₂ : Nat} (h : r₁ < r₂) : val f r₁ < val f r₂ := by
  rcases Nat.lt_or_ge (val f r₁) (val f r₂) with h1 | h1
  · exact h1
  · exfalso
    obtain ⟨L, K, hL, hK, hor, hr, hv⟩ := rung_form (f := f) r₁
    have hp := val_pos (f := f) (r := r₂) (by omega)
    have h0 : K ≠ 0 := by rintro rfl; rw [hv] at h1; simp at h1; omega
    have := le_rungN (f := f) (m := K) (P := L) (r := r₂) h0 (by rw [← hv]; exact h1)
    rw [rungN_form hL hK hor h0, ← hr] at this
    omega

theorem val_le {r₁ r₂ : Nat} : val f r₁ ≤ val f r₂ ↔ r₁ ≤ r₂ := by
  constructor
  · intro h
    rcases Nat.lt_or_ge r₂ r₁ with h1 | h1
    · have := val_lt (f := f) h1; omega
    · exact h1
  · intro h
    rcases Nat.lt_or_ge r₁ r₂ with h1 | h1
    · exact Nat.le_of_lt (val_lt h1)
    · have : r₁ = r₂ := by omega
      rw [this]; exact Nat.le_refl _

theorem val_inj {r₁ r₂ : Nat} (h : val f r₁ = val f r₂) : r₁ = r₂ := by
  have a := (val_le (f := f) (r₁ := r₁) (r₂ := r₂)).1 (by omega)
  have b := (val_le (f := f) (r₁ := r₂) (r₂ := r₁)).1 (by omega)
  omega
end

/-! ### Words and data -/
/-- The datum is a number of sign 's' and magnitude 'v' (in the units above), at a place that the format has. -/
def Num (f : Format) (d : Datum) (s : Bool) (v : Nat) : Prop := ∃ m e, d = .number s m e ∧ f.leastPlace ≤ e ∧ m < 2 * f.binade ∧ sc m e = v

section
variable {f : Format}

theorem read_num (g : Good f) {w : Nat} (h : w % f.signWeight < f.infRung) : Num f (f.read w) (w / f.signWeight % 2 == 1) (val f (w % f.signWeight)) := by
  have hlo := g.lo
  unfold Format.read val
  simp only []
  by_cases h1 : w % f.signWeight < f.binade
  · rw [if_pos h1, if_pos h1]
    exact ⟨_, _, rfl, Int.le_refl _, by omega, rfl⟩
  · rw [if_neg h1, if_pos h, if_neg h1]
    have hmod := Nat.mod_lt (w % f.signWeight) (binade_pos f)
    refine ⟨_, _, rfl, by omega, by omega, ?_⟩
    unfold sc
    have : up (f.leastPlace + ↑(w % f.signWeight / f.binade - 1)) = lpN f + (w % f.signWeight / f.binade - 1) := by unfold lpN up; omega
    rw [this]

theorem sw_pos (f : Format) : 0 < f.signWeight := Nat.two_pow_pos _

theorem word_mod {r : Nat} (neg : Bool) (h : r < f.signWeight) : f.word neg r % f.signWeight = r := by
  unfold Format.word
  cases neg
  · simpa using Nat.mod_eq_of_lt h
  · simp only [if_true, Nat.add_mod_left]; exact Nat.mod_eq_of_lt h

theorem word_sign {r : Nat} (neg : Bool) (h : r < f.signWeight) : (f.word neg r / f.signWeight % 2 == 1) = neg := by
  have hp := sw_pos f
  unfold Format.word
  cases neg
  · simp [Nat.div_eq_of_lt h]
  · simp only [if_true]
    rw [Nat.add_div_left _ hp, Nat.div_eq_of_lt h]; rfl

theorem read_word (g : Good f) {r : Nat} (neg : Bool) (h : r < f.infRung) : Num f (f.read (f.word neg r)) neg (val f r) := by
  have hs := f.infRung_lt
  have hm := word_mod (f := f) neg (r := r) (by omega)
  have hn := read_num g (w := f.word neg r) (by omega)
  rw [hm, word_sign neg (by omega)] at hn
  exact hn

theorem read_inf (hb : f.binade ≤ f.infRung) (neg : Bool) : f.read (f.word neg f.infRung) = .infinity neg := by
  have hs := f.infRung_lt
  unfold Format.read
  simp only [word_mod neg hs, word_sign neg hs]
  rw [if_neg (by omega), if_neg (by omega)]
  simp

theorem near_fin (g : Good f) {neg : Bool} {m : Nat} {e : Int} (hm : m ≠ 0) (he : -5000 ≤ e) (h : rungN f m (up e) < f.infRung) :
    Num f (f.read (f.nearest neg m e)) neg (val f (rungN f m (up e))) := by
  rw [nearest_eq g hm he, Nat.min_eq_left (Nat.le_of_lt h)]
  exact read_word g neg h

theorem val_zero (f : Format) : val f 0 = 0 := by
  unfold val; rw [if_pos (binade_pos f)]; simp

theorem near_zero (f : Format) (neg : Bool) (e : Int) : f.nearest neg 0 e = f.word neg 0 := by unfold Format.nearest; rw [if_pos rfl]

theorem near_le (g : Good f) {neg : Bool} {m r : Nat} {e : Int} (he : -5000 ≤ e) (hr : r < f.infRung) (h : sc m e ≤ val f r) :
    ∃ v, v ≤ val f r ∧ Num f (f.read (f.nearest neg m e)) neg v := by
  by_cases hm : m = 0
  · subst hm
    rw [near_zero]
    exact ⟨_, by rw [val_zero]; exact Nat.zero_le _, read_word g neg (by omega)⟩
  · have h1 := rungN_le (f := f) hm h
    exact ⟨_, val_le.2 h1, near_fin g hm he (by omega)⟩

theorem near_ge (g : Good f) (hb : f.binade ≤ f.infRung) {neg : Bool} {m r : Nat} {e : Int} (he : -5000 ≤ e) (h : val f r ≤ sc m e) :
    (∃ v, val f r ≤ v ∧ Num f (f.read (f.nearest neg m e)) neg v) ∨ f.read (f.nearest neg m e) = .infinity neg := by
  by_cases hm : m = 0
  · subst hm
    rw [near_zero]
    refine .inl ⟨_, ?_, read_word g neg (by have := binade_pos f; omega)⟩
    have : val f r ≤ 0 := by simpa [sc] using h
    omega
  · have h1 := le_rungN (f := f) hm h
    by_cases h2 : rungN f m (up e) < f.infRung
    · exact .inl ⟨_, val_le.2 h1, near_fin g hm he h2⟩
    · right
      rw [nearest_eq g hm he, Nat.min_eq_right (by omega)]
      exact read_inf hb neg

theorem near_exact (g : Good f) {neg : Bool} {m r : Nat} {e : Int} (he : -5000 ≤ e) (hr : r < f.infRung) (h : sc m e = val f r) : f.nearest neg m e = f.word neg r := by
  by_cases hm : m = 0
  · subst hm
    have h0 : val f r = 0 := by rw [← h]; simp [sc]
    have : r = 0 := by
      rcases Nat.eq_zero_or_pos r with h1 | h1
      · exact h1
      · have := val_pos (f := f) h1; omega
    subst this
    rw [near_zero]
  · have h1 := rungN_le (f := f) hm (Nat.le_of_eq h)
    have h2 := le_rungN (f := f) hm (Nat.le_of_eq h.symm)
    rw [nearest_eq g hm he]
    unfold up at *
    rw [Nat.min_eq_left (by omega)]
    congr 1; omega

/-- Where no digit is dropped rounding changes nothing. -/
theorem rungN_exact {m P : Nat} (hm : m ≠ 0) (h : lastN f m P ≤ P) : val f (rungN f m P) = m * 2 ^ P := by
  have h1 := (lastN_ge (f := f) m P).2
  have h2 := kept_le (f := f) (m := m) P
  have h3 : lastN f m P = lpN f ∨ f.binade ≤ rne (m * 2 ^ (P - lastN f m P)) (2 ^ (lastN f m P - P)) := by
    rcases Nat.lt_or_ge (lpN f) (lastN f m P) with h4 | h4
    · exact .inr (kept_ge hm h4)
    · exact .inl (by omega)
  unfold rungN
  rw [val_at h1 h2 h3]
  have e0 : lastN f m P - P = 0 := by omega
  rw [e0, Nat.pow_zero, rne_one, Nat.mul_assoc, ← Nat.pow_add]
  congr 2; omega

/-- A number of few digits that is not too small or great has a word of its own. -/
theorem exact_word (g : Good f) {neg : Bool} {m : Nat} {e : Int} (hm : m < 2 * f.binade) (he : f.leastPlace ≤ e) {B : Nat} (hB : B ≤ f.infRung) (hlt : sc m e < val f B) :
    ∃ R, R < f.infRung ∧ val f R = sc m e ∧ f.nearest neg m e = f.word neg R := by
  have hlo := g.lo
  by_cases h0 : m = 0
  · subst h0
    refine ⟨0, ?_, by rw [val_zero]; simp [sc], near_zero f neg e⟩
    rcases Nat.eq_zero_or_pos f.infRung with h | h
    · exfalso
      have : B = 0 := by omega
      rw [this, val_zero] at hlt; omega
    · exact h
  · have hl : m.log2 ≤ f.fractionBits := by
      have : m.log2 < f.fractionBits + 1 := by
        rw [Nat.log2_lt h0, Nat.pow_succ]; unfold Format.binade at hm; omega
      omega
    have hP : lpN f ≤ up e := by unfold lpN up; omega
    have hx := rungN_exact (f := f) (m := m) (P := up e) h0 (by unfold lastN; omega)
    have hR : rungN f m (up e) < B := by
      rcases Nat.lt_or_ge (rungN f m (up e)) B with h | h
      · exact h
      · have := (val_le (f := f)).2 h
        rw [hx] at this; unfold sc at hlt; omega
    refine ⟨rungN f m (up e), by omega, hx, ?_⟩
    rw [nearest_eq g h0 (by omega), Nat.min_eq_left (by omega)]

/-- A power of two is a rung. -/
theorem val_pow {K : Nat} (h : lpN f + f.fractionBits ≤ K) : val f ((K - lpN f - f.fractionBits + 1) * f.binade) = p2 K := by
  have := val_at (f := f) (L := K - f.fractionBits) (K := f.binade) (by omega) (by have := binade_pos f; omega) (.inr (Nat.le_refl _))
  have e1 : (K - f.fractionBits - lpN f) * f.binade + f.binade = (K - lpN f - f.fractionBits + 1) * f.binade := by
    rw [Nat.add_mul, Nat.one_mul]; congr 2; omega
  rw [e1] at this
  rw [this]
  unfold Format.binade p2
  rw [← Nat.pow_add]; congr 1; omega
end

theorem lpN_single : lpN Ieee.single = 4851 := by decide
theorem lpN_double : lpN Ieee.double = 3926 := by decide

/-- A number of float32 is below 2 ^ 128. -/
theorem single_lt {w : Nat} (h : w % Ieee.single.signWeight < Ieee.single.infRung) : val Ieee.single (w % Ieee.single.signWeight) < p2 5128 := by
  have h1 := val_lt (f := Ieee.single) h
  have h2 := val_pow (f := Ieee.single) (K := 5128) (by decide)
  have h3 : (5128 - lpN Ieee.single - Ieee.single.fractionBits + 1) * Ieee.single.binade = Ieee.single.infRung := by decide
  rw [h3] at h2
  rw [← h2]; exact h1


/-- Powers of two as rungs of float64. -/
theorem double_pow {K : Nat} (h1 : 3978 ≤ K) (h2 : K ≤ 6023) : ∃ r, r < Ieee.double.infRung ∧ val Ieee.double r = p2 K := by
  refine ⟨_, ?_, val_pow (f := Ieee.double) (K := K) (by rw [lpN_double]; show 3926 + 52 ≤ K; omega)⟩
  rw [lpN_double]
  show (K - 3926 - 52 + 1) * 2 ^ 52 < 2047 * 2 ^ 52
  exact Nat.mul_lt_mul_of_pos_right (by omega) (by decide)
theorem single_pow {K : Nat} (h1 : 4874 ≤ K) (h2 : K ≤ 5127) : ∃ r, r < Ieee.single.infRung ∧ val Ieee.single r = p2 K := by
  refine ⟨_, ?_, val_pow (f := Ieee.single) (K := K) (by rw [lpN_single]; show 4851 + 23 ≤ K; omega)⟩
  rw [lpN_single]
  show (K - 4851 - 23 + 1) * 2 ^ 23 < 255 * 2 ^ 23
  exact Nat.mul_lt_mul_of_pos_right (by omega) (by decide)

/-! ### How two numbers stand to each other -/
def iv (s : Bool) (v : Nat) : Int := if s then -(v : Int) else (v : Int)

theorem compare_mul (a b c : Int) (hc : 0 < c) : compare (a * c) (b * c) = compare a b := by
  rcases Int.lt_trichotomy a b with h | h | h
  · have h' : a * c < b * c := Int.mul_lt_mul_of_pos_right h hc
    rw [show compare a b = .lt from Int.compare_eq_lt.2 h, show compare (a * c) (b * c) = .lt from Int.compare_eq_lt.2 h']
  · subst h; simp
  · have h' : b * c < a * c := Int.mul_lt_mul_of_pos_right h hc
    rw [show compare a b = .gt from Int.compare_eq_gt.2 h, show compare (a * c) (b * c) = .gt from Int.compare_eq_gt.2 h']

theorem signed_mul (s : Bool) (m : Nat) {e b : Int} (hb : -5000 ≤ b) (h : b ≤ e) : Ieee.signed s m (e - b).toNat * ((2 ^ up b : Nat) : Int) = iv s (sc m e) := by
  have h1 : m * 2 ^ (e - b).toNat * 2 ^ up b = sc m e := by
    unfold sc
    rw [Nat.mul_assoc, ← Nat.pow_add]
    congr 2; unfold up; omega
  unfold Ieee.signed iv
  cases s
  · simp only [Bool.false_eq_true, if_false, Nat.shiftLeft_eq]
    rw [← h1]; simp
  · simp only [if_true, Nat.shiftLeft_eq]
    rw [← h1, Int.neg_mul]; simp

theorem order_num {f : Format} (g : Good f) {d₁ d₂ : Datum} {s₁ s₂ : Bool} {v₁ v₂ : Nat} (h1 : Num f d₁ s₁ v₁) (h2 : Num f d₂ s₂ v₂) :
    d₁.order d₂ = some (compare (iv s₁ v₁) (iv s₂ v₂)) := by
  have hlo := g.lo
  obtain ⟨m, i, rfl, hi, _, rfl⟩ := h1
  obtain ⟨n, j, rfl, hj, _, rfl⟩ := h2
  unfold Datum.order
  simp only []
  rw [← signed_mul s₁ m (b := min i j) (by omega) (Int.min_le_left _ _), ← signed_mul s₂ n (b := min i j) (by omega) (Int.min_le_right _ _)]
  rw [compare_mul _ _ _ (by have := Nat.two_pow_pos (up (min i j)); omega)]
end Go.Proofs.Ytkmbfgnemamlfaa.FT
