/- The series of the logarithm and its counters, in plain words. -/
import Derived.Test.YtkmbfgnemamlfaaLogP
namespace Go.Proofs.Ytkmbfgnemamlfaa.LogS
open Go.RowKit Go.Proofs.Ytkmbfgnemamlfaa.FW Go.Proofs.Ytkmbfgnemamlfaa.FT Go.Proofs.Ytkmbfgnemamlfaa.FB Go.Proofs.Ytkmbfgnemamlfaa.SineP Go.Proofs.Ytkmbfgnemamlfaa.PhasP Go.Proofs.Ytkmbfgnemamlfaa.LogP
open Ieee (Datum)

theorem sum_comm {x y : Nat} {s t : Bool} {a b : Nat} (hx : N64 x s a) (hy : N64 y t b) : fop .add .f64 x y = fop .add .f64 y x := by
  obtain ⟨m, i, hd, _⟩ := hx
  obtain ⟨n, j, hd', _⟩ := hy
  unfold fop floatBits
  show (((Ieee.double.read x).sum (Ieee.double.read y)).map Ieee.double.write).getD _ = (((Ieee.double.read y).sum (Ieee.double.read x)).map Ieee.double.write).getD _
  rw [hd, hd']
  unfold Datum.sum
  simp only [Int.min_comm i j, Int.add_comm (Ieee.signed s m _), Bool.and_comm s t]

/-- The counter, up and down. -/
def cI (n : Int) : Nat := floatOfInt .f64 n
theorem c_up {j : Nat} (h : j < 130) : fop .add .f64 (cI (j : Int)) one = cI ((j : Int) + 1) := by
  have : ∀ k : Fin 130, fop .add .f64 (cI (k.val : Int)) one = cI ((k.val : Int) + 1) := by decide +kernel
  exact this ⟨j, h⟩
theorem c_down {n : Int} (h1 : -150 < n) (h2 : n ≤ 130) : fop .sub .f64 (cI n) one = cI (n - 1) := by
  have h : ∀ k : Fin 281, fop .sub .f64 (cI ((k.val : Int) - 150)) one = cI ((k.val : Int) - 150 - 1) := by decide +kernel
  have := h ⟨(n + 150).toNat, by omega⟩
  have e : ((n + 150).toNat : Int) - 150 = n := by omega
  simp only [e] at this
  exact this
theorem bd_cI {n : Int} (h : n.natAbs < 256) : Bd (cI n) 5008 := by
  refine ⟨_, _, ofInt_exact n (by omega), ?_⟩
  have e : p2 5008 = 256 * p2 5000 := by
    have := p2_add 8 5000
    rw [show p2 8 = 256 from by decide] at this
    exact this.symm
  rw [e]
  exact Nat.mul_le_mul_right _ (by omega)
theorem cI_zero : cI 0 = 0 := by decide +kernel

/-- The odd numbers from 25 down. -/
def oL (j : Nat) : Nat := floatOfInt .f64 (25 - 2 * (j : Int))
def pL (u : Nat) : Nat → Nat
  | 0 => 0
  | j + 1 => fop .add .f64 (fop .quo .f64 one (oL j)) (fop .mul .f64 u (pL u j))

theorem big_oL (j : Nat) (hj : j < 13) : Big (oL j) := by
  refine ⟨_, _, ofInt_exact _ (by omega), ?_⟩
  have h1 : 1 ≤ (25 - 2 * (j : Int)).natAbs := by omega
  calc p2 5000 = 1 * p2 5000 := (Nat.one_mul _).symm
    _ ≤ _ := Nat.mul_le_mul_right _ h1

theorem bd_pL {u : Nat} (h : Bd u 5004) : ∀ j, j ≤ 13 → Bd (pL u j) (5000 + 5 * j)
  | 0, _ => b_zero _
  | j + 1, hj => by
    have ih := bd_pL h j (by omega)
    have h1 := h.mul ih (K := 5004 + 5 * j) (by omega) (by omega) (by omega)
    have h2 := (b_one.div (big_oL j (by omega)) (by omega) (by omega)).up (L := 5004 + 5 * j) (by omega)
    exact (h2.add h1 (by omega) (by omega)).up (by omega)

theorem bd_lround {u : Nat} (h : Bd u 5004) (j : Nat) (hj : j < 13) : Bd (fop .mul .f64 u (pL u j)) (5004 + 5 * j) ∧ Bd (fop .quo .f64 one (oL j)) 5000 :=
  ⟨h.mul (bd_pL h j (by omega)) (by omega) (by omega) (by omega), b_one.div (big_oL j hj) (by omega) (by omega)⟩

theorem ol_next {j : Nat} (hj : j < 13) : fop .sub .f64 (oL j) two = oL (j + 1) := by
  have : ∀ k : Fin 13, fop .sub .f64 (oL k.val) two = oL (k.val + 1) := by decide +kernel
  exact this ⟨j, hj⟩
theorem ol_ge {j : Nat} (hj : j < 13) : geB (oL j) one = true := by
  have : ∀ k : Fin 13, geB (oL k.val) one = true := by decide +kernel
  exact this ⟨j, hj⟩
theorem ol_end : geB (oL 13) one = false := by decide +kernel
theorem ol_start : oL 0 = 4627730092099895296 := by decide +kernel
theorem ol_num {j : Nat} (hj : j < 14) : isN .f64 (oL j) = false := int_num _ (by omega)

/-! ### The logarithm of a scaled number -/
def ln2 : Nat := 4604418534313441775
theorem b_ln2 : Bd ln2 5000 := by
  refine ⟨_, _, of_word (by decide), ?_⟩
  rw [← val_word (x := one) (K := 5000) (by decide) (by decide)]
  exact val_le.2 (by decide)
theorem b_two : Bd two 5001 := ⟨_, _, n_two, Nat.le_refl _⟩

def l1 (x : Nat) : Nat := fop .sub .f64 x one
def l2 (x : Nat) : Nat := fop .add .f64 x one
def l3 (x : Nat) : Nat := fop .quo .f64 (l1 x) (l2 x)
def l4 (x : Nat) : Nat := fop .mul .f64 (l3 x) (l3 x)
def l5 (x : Nat) : Nat := fop .mul .f64 (l3 x) (pL (l4 x) 13)
def l6 (x : Nat) : Nat := fop .mul .f64 two (l5 x)
def l7 (n : Int) : Nat := fop .mul .f64 (cI n) ln2
def l8 (x : Nat) (n : Int) : Nat := fop .add .f64 (l6 x) (l7 n)

theorem bd_log {x : Nat} (h : ∃ v, N64 x false v ∧ v ≤ p2 5001) {n : Int} (hn : n.natAbs < 256) :
    Bd (l1 x) 5002 ∧ Bd (l2 x) 5002 ∧ Bd (l3 x) 5002 ∧ Bd (l4 x) 5004 ∧ Bd (l5 x) 5067 ∧ Bd (l6 x) 5068 ∧ Bd (l7 n) 5008 ∧ Bd (l8 x n) 5069 := by
  obtain ⟨v, hx, hv⟩ := h
  have bx : Bd x 5001 := ⟨_, _, hx, hv⟩
  have h1 : Bd (l1 x) 5002 := bx.sub (b_one.up (by omega)) (by omega) (by omega)
  have h2 : Bd (l2 x) 5002 := bx.add (b_one.up (by omega)) (by omega) (by omega)
  have hb : Big (l2 x) := by
    obtain ⟨u, hu, hu1, _⟩ := AngP.add_one_ge hx hv (by omega) (by omega)
    rw [sum_comm n_one hx] at hu
    exact ⟨_, u, hu, hu1⟩
  have h3 : Bd (l3 x) 5002 := h1.div hb (by omega) (by omega)
  have h4 : Bd (l4 x) 5004 := h3.mul h3 (by omega) (by omega) (by omega)
  have h5 : Bd (l5 x) 5067 := h3.mul (bd_pL h4 13 (by omega)) (by omega) (by omega) (by omega)
  have h6 : Bd (l6 x) 5068 := b_two.mul h5 (by omega) (by omega) (by omega)
  have h7 : Bd (l7 n) 5008 := (bd_cI hn).mul b_ln2 (by omega) (by omega) (by omega)
  exact ⟨h1, h2, h3, h4, h5, h6, h7, h6.add (h7.up (by omega)) (by omega) (by omega)⟩
end Go.Proofs.Ytkmbfgnemamlfaa.LogS
