/- The angle of a point, in plain Lean, and its bounds. -/
import Derived.Test.YtkmbfgnemamlfaaPhasP
import Derived.Test.YtkmbfgnemamlfaaSineT
namespace Go.Proofs.Ytkmbfgnemamlfaa.AngP
open Go.RowKit Go.Proofs.Ytkmbfgnemamlfaa.FW Go.Proofs.Ytkmbfgnemamlfaa.FT Go.Proofs.Ytkmbfgnemamlfaa.FB Go.Proofs.Ytkmbfgnemamlfaa.SineP Go.Proofs.Ytkmbfgnemamlfaa.PhasP Go.Proofs.Ytkmbfgnemamlfaa.F32
open Ieee (Datum)

/-- 1 and something that is not below 0: not below 1. -/
theorem add_one_ge {y : Nat} {v K : Nat} (hy : N64 y false v) (hv : v ≤ p2 K) (hK0 : 5000 ≤ K) (hK : K ≤ 6000) :
    ∃ u, N64 (fop .add .f64 one y) false u ∧ p2 5000 ≤ u ∧ u ≤ p2 (K + 1) := by
  obtain ⟨sg, m, e, he, hlo, hsc, hsg⟩ := sum_exact n_one hy
  have hp := p2_pos 5000
  have hsum : iv false (p2 5000) + iv false v = ((p2 5000 + v : Nat) : Int) := by unfold iv; simp
  rw [hsum] at hsc hsg
  have hsg' : sg = false := by
    rw [hsg, if_neg (by omega)]
    exact decide_eq_false (by omega)
  subst hsg'
  have hsc' : sc m e = p2 5000 + v := by rw [hsc]; exact Int.natAbs_natCast _
  have hm : m ≠ 0 := by
    intro h0
    rw [h0] at hsc'
    have : sc 0 e = 0 := by unfold sc; exact Nat.zero_mul _
    omega
  obtain ⟨r, hr, hvr⟩ := double_pow (K := K + 1) (by omega) (by omega)
  have h1 := pw hK0
  have h2 : p2 (K + 1) = 2 * p2 K := p2_succ K
  have hle := rungN_le (f := Ieee.double) (m := m) (P := up e) (r := r) hm (by rw [hvr]; show sc m e ≤ _; omega)
  obtain ⟨q, hq, hvq⟩ := double_pow (K := 5000) (by omega) (by omega)
  have hge := le_rungN (f := Ieee.double) (m := m) (P := up e) (r := q) hm (by rw [hvq]; show _ ≤ sc m e; omega)
  have hn := near_fin good_double (neg := false) hm (e := e) (by omega) (by omega)
  have hf : fop .add .f64 one y = Ieee.double.nearest false m e := by
    unfold fop floatBits
    show (((Ieee.double.read one).sum (Ieee.double.read y)).map Ieee.double.write).getD _ = _
    rw [he]; rfl
  refine ⟨_, by unfold N64; rw [hf]; exact hn, ?_, ?_⟩
  · rw [← hvq]; exact val_le.2 hge
  · rw [← hvr]; exact val_le.2 hle

/-- A number that is not below 0, at most 1. -/
def Unit (x : Nat) : Prop := ∃ v, N64 x false v ∧ v ≤ p2 5000
theorem Unit.bd {x : Nat} (h : Unit x) : Bd x 5000 := by obtain ⟨v, h, hv⟩ := h; exact ⟨_, v, h, hv⟩

/-- A round of halving. -/
def s1 (t : Nat) : Nat := fop .mul .f64 t t
def s2 (t : Nat) : Nat := fop .add .f64 one (s1 t)
def s3 (t : Nat) : Nat := fsqrt (s2 t)
def s4 (t : Nat) : Nat := fop .add .f64 one (s3 t)
def halve (t : Nat) : Nat := fop .quo .f64 t (s4 t)
def tN (t : Nat) : Nat → Nat
  | 0 => t
  | j + 1 => halve (tN t j)

theorem unit_round {t : Nat} (h : Unit t) : Unit (s1 t) ∧ Bd (s2 t) 5001 ∧ Ieee.double.sqrt (s2 t) = some (s3 t) ∧ Bd (s4 t) 5002 ∧ Unit (halve t) := by
  obtain ⟨v, h, hv⟩ := h
  obtain ⟨a, ha, hav⟩ := mul_le h h hv hv (K := 5000) (by omega) (by omega) (by omega)
  have ha' : N64 (s1 t) false a := ha
  obtain ⟨b, hb, hb1, hb2⟩ := add_one_ge ha' hav (by omega) (by omega)
  have hb' : N64 (s2 t) false b := hb
  obtain ⟨r, c, hr, hc, hcv⟩ := sqrt_le (A := 1) hb' (Nat.le_trans hb2 (pw (by omega))) (by omega)
  have hs : s3 t = r := by
    unfold s3 fsqrt
    show (Ieee.double.sqrt (s2 t)).getD _ = _
    rw [hr]; rfl
  rw [← hs] at hc hr
  obtain ⟨d, hd, hd1, hd2⟩ := add_one_ge hc hcv (by omega) (by omega)
  have hd' : N64 (s4 t) false d := hd
  obtain ⟨e, he, hev⟩ := div_one h hd' hv hd1 (by omega) (by omega)
  exact ⟨⟨_, ha', hav⟩, ⟨_, _, hb', hb2⟩, hr, ⟨_, _, hd', hd2⟩, ⟨_, he, hev⟩⟩

theorem unit_tN {t : Nat} (h : Unit t) : ∀ j, Unit (tN t j)
  | 0 => h
  | j + 1 => (unit_round (unit_tN h j)).2.2.2.2

/-- The odd numbers from 15 down. -/
def oF (j : Nat) : Nat := floatOfInt .f64 (15 - 2 * (j : Int))
def pA (u : Nat) : Nat → Nat
  | 0 => 0
  | j + 1 => fop .sub .f64 (fop .quo .f64 one (oF j)) (fop .mul .f64 u (pA u j))

theorem big_oF (j : Nat) (hj : j < 8) : Big (oF j) := by
  refine ⟨_, _, ofInt_exact _ (by omega), ?_⟩
  have h1 : 1 ≤ (15 - 2 * (j : Int)).natAbs := by omega
  calc p2 5000 = 1 * p2 5000 := (Nat.one_mul _).symm
    _ ≤ _ := Nat.mul_le_mul_right _ h1

theorem bd_pA {u : Nat} (h : Bd u 5000) : ∀ j, j ≤ 8 → Bd (pA u j) (5000 + j)
  | 0, _ => b_zero _
  | j + 1, hj => by
    have ih := bd_pA h j (by omega)
    have h1 := h.mul ih (K := 5000 + j) (by omega) (by omega) (by omega)
    have h2 := (b_one.div (big_oF j (by omega)) (by omega) (by omega)).up (L := 5000 + j) (by omega)
    exact h2.sub h1 (by omega) (by omega)

theorem bd_oround {u : Nat} (h : Bd u 5000) (j : Nat) (hj : j < 8) : Bd (fop .mul .f64 u (pA u j)) (5000 + j) ∧ Bd (fop .quo .f64 one (oF j)) 5000 :=
  ⟨h.mul (bd_pA h j (by omega)) (by omega) (by omega) (by omega), b_one.div (big_oF j hj) (by omega) (by omega)⟩

theorem o_next {j : Nat} (hj : j < 8) : fop .sub .f64 (oF j) two = oF (j + 1) := by
  rcases lt8 hj with rfl | rfl | rfl | rfl | rfl | rfl | rfl | rfl <;> decide +kernel
theorem o_ge {j : Nat} (hj : j < 8) : geB (oF j) one = true := by
  rcases lt8 hj with rfl | rfl | rfl | rfl | rfl | rfl | rfl | rfl <;> decide +kernel
theorem o_end : geB (oF 8) one = false := by decide +kernel
theorem o_start : oF 0 = 4624633867356078080 := by decide +kernel
theorem o_num {j : Nat} (hj : j < 9) : isN .f64 (oF j) = false := int_num _ (by omega)

/-! ### The angle -/
def eight : Nat := 4620693217682128896
theorem b_eight : Bd eight 5003 := by
  refine ⟨_, _, of_word (by decide), ?_⟩
  rw [val_word (x := eight) (K := 5003) (by decide) (by decide)]
  exact Nat.le_refl _
theorem big_turn : Big turn := by
  refine ⟨_, _, of_word (by decide), ?_⟩
  rw [← val_word (x := one) (K := 5000) (by decide) (by decide)]
  exact val_le.2 (by decide)

def aU (t : Nat) : Nat := fop .mul .f64 (tN t 3) (tN t 3)
def a1 (t : Nat) : Nat := fop .mul .f64 (tN t 3) (pA (aU t) 8)
def a2 (t : Nat) : Nat := fop .mul .f64 eight (a1 t)
def a3 (t : Nat) : Nat := fop .quo .f64 (a2 t) turn

theorem bd_angle {t : Nat} (h : Unit t) : Bd (aU t) 5000 ∧ Bd (a1 t) 5008 ∧ Bd (a2 t) 5011 ∧ Bd (a3 t) 5011 := by
  have h3 := (unit_tN h 3).bd
  have hu : Bd (aU t) 5000 := h3.mul h3 (by omega) (by omega) (by omega)
  have h1 : Bd (a1 t) 5008 := h3.mul (bd_pA hu 8 (by omega)) (by omega) (by omega) (by omega)
  have h2 : Bd (a2 t) 5011 := b_eight.mul h1 (by omega) (by omega) (by omega)
  exact ⟨hu, h1, h2, h2.div big_turn (by omega) (by omega)⟩
end Go.Proofs.Ytkmbfgnemamlfaa.AngP
