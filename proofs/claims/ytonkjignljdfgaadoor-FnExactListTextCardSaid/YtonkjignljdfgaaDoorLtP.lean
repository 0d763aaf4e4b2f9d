/- The text of a list of numbers, in plain words. -/
import Derived.Lib.ItoaLen
import Derived.Lib.Join
namespace Go.Proofs.YtonkjignljdfgaaDoor.LtP
open Go.Lib

def inB (v : Int) : Bool := decide (-1000000000000000 ≤ v) && decide (v ≤ 1000000000000000)
theorem inB_fit {v : Int} (h : inB v = true) : -1000000000000000 ≤ v ∧ v ≤ 1000000000000000 := by
  unfold inB at h
  rw [Bool.and_eq_true] at h
  exact ⟨of_decide_eq_true h.1, of_decide_eq_true h.2⟩

/-- All in range, and few. -/
def valsB (n : Nat) (f : Nat → Int) : Bool := (List.range n).all (fun i => inB (f i)) && decide (n ≤ 64)
theorem vals_no {n : Nat} {f : Nat → Int} {k : Nat} (hk : k < n) (h : inB (f k) = false) : valsB n f = false := by
  unfold valsB
  rw [Bool.and_eq_false_iff]
  left
  rw [List.all_eq_false]
  exact ⟨k, List.mem_range.2 hk, by rw [h]; decide⟩
theorem vals_all {n : Nat} {f : Nat → Int} (h : ∀ i, i < n → inB (f i) = true) : valsB n f = decide (n ≤ 64) := by
  unfold valsB
  have : (List.range n).all (fun i => inB (f i)) = true := List.all_eq_true.2 fun i hi => h i (List.mem_range.1 hi)
  rw [this, Bool.true_and]
theorem vals_yes {n : Nat} {f : Nat → Int} (h : valsB n f = true) : n ≤ 64 ∧ ∀ i, i < n → inB (f i) = true := by
  unfold valsB at h
  rw [Bool.and_eq_true] at h
  exact ⟨of_decide_eq_true h.2, fun i hi => List.all_eq_true.1 h.1 i (List.mem_range.2 hi)⟩

/-- The numerals of the first k numbers. -/
def strs (f : Nat → Int) (k : Nat) : List (List UInt8) := (List.range k).map fun i => itoa (f i)
theorem strs_succ (f : Nat → Int) (k : Nat) : strs f (k + 1) = strs f k ++ [itoa (f k)] := by
  unfold strs
  rw [List.range_succ, List.map_append]; rfl
theorem strs_len (f : Nat → Int) (k : Nat) : (strs f k).length = k := by unfold strs; simp

/-- .. with commas between them. -/
def J (f : Nat → Int) (k : Nat) : List UInt8 := join (strs f k) [44]
theorem J_one (f : Nat → Int) : J f 1 = itoa (f 0) := join_one _ _
theorem join_snoc (x : List UInt8) (r : List (List UInt8)) (y sep : List UInt8) : join (x :: r ++ [y]) sep = join (x :: r) sep ++ (sep ++ y) := by
  rw [List.cons_append, join_cons, join_cons]
  unfold joinTail
  simp
theorem J_succ (f : Nat → Int) {k : Nat} (hk : 1 ≤ k) : J f (k + 1) = J f k ++ ([44] ++ itoa (f k)) := by
  unfold J
  rw [strs_succ]
  cases h : strs f k with
  | nil =>
    have := congrArg List.length h
    rw [strs_len] at this
    simp at this; omega
  | cons x r => exact join_snoc x r _ _

theorem itoa_le (v : Int) (h : inB v = true) : (itoa v).length ≤ 21 := by
  have := inB_fit h
  exact itoa_length_le v (by omega) (by omega)

theorem J_len {n : Nat} {f : Nat → Int} (h : ∀ i, i < n → inB (f i) = true) : ∀ k, 1 ≤ k → k ≤ n → (J f k).length ≤ 22 * k
  | 0, h0, _ => by omega
  | 1, _, hn => by
    rw [J_one]
    have := itoa_le (f 0) (h 0 (by omega))
    omega
  | k + 2, _, hn => by
    have ih := J_len h (k + 1) (by omega) (by omega)
    rw [J_succ f (by omega), List.length_append, List.length_append]
    have := itoa_le (f (k + 1)) (h (k + 1) (by omega))
    simp only [List.length_cons, List.length_nil]
    omega

def textL (n : Nat) (f : Nat → Int) : List UInt8 := if n = 0 then [110, 111, 110, 101] else J f n
theorem text_zero (f : Nat → Int) : textL 0 f = [110, 111, 110, 101] := rfl
theorem text_pos (f : Nat → Int) {n : Nat} (h : 1 ≤ n) : textL n f = J f n := by unfold textL; rw [if_neg (by omega)]
end Go.Proofs.YtonkjignljdfgaaDoor.LtP
