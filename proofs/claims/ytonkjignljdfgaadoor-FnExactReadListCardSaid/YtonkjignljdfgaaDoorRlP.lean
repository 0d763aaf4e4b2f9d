/- A text cut at its commas, and the numbers of the pieces, in plain words. -/
import Derived.Test.YtonkjignljdfgaaDoorRdP
import Derived.Lib.SplitLaws
namespace Go.Proofs.YtonkjignljdfgaaDoor.RlP
open Go.Lib Go.Proofs.YtonkjignljdfgaaDoor.RdP

/-- The pieces of a text between commas; 'p' is the piece so far. -/
def cutsW (p : List UInt8) : List UInt8 → List (List UInt8)
  | [] => [p]
  | c :: r => if c = 44 then p :: cutsW [] r else cutsW (p ++ [c]) r
theorem cutsW_nil (p : List UInt8) : cutsW p [] = [p] := rfl
theorem cutsW_cons (p : List UInt8) (c : UInt8) (r : List UInt8) : cutsW p (c :: r) = if c = 44 then p :: cutsW [] r else cutsW (p ++ [c]) r := rfl

def app (p : List UInt8) : List (List UInt8) → List (List UInt8)
  | [] => [p]
  | h :: t => (p ++ h) :: t
theorem cutsW_app : ∀ (l p : List UInt8), cutsW p l = app p (cutsW [] l)
  | [], p => by rw [cutsW_nil, cutsW_nil]; show [p] = [p ++ []]; rw [List.append_nil]
  | c :: r, p => by
    rw [cutsW_cons, cutsW_cons]
    by_cases h : c = 44
    · rw [if_pos h, if_pos h]; show _ = (p ++ []) :: _; rw [List.append_nil]
    · rw [if_neg h, if_neg h, cutsW_app r (p ++ [c]), List.nil_append, cutsW_app r [c]]
      cases cutsW [] r with
      | nil => rfl
      | cons x t => show (p ++ [c] ++ x) :: t = (p ++ ([c] ++ x)) :: t; rw [List.append_assoc]

theorem count_index {l : List UInt8} (h : 0 < count l [44]) : ∃ j : Nat, index l [44] = j := by
  have hge := index_ge l [44]
  by_cases hm : index l [44] = -1
  · rw [count_miss hm] at h; omega
  · exact ⟨(index l [44]).toNat, by omega⟩
theorem index_hit (l : List UInt8) : index (44 :: l) [44] = 0 := by rw [index]; simp [List.isPrefixOf]
theorem index_next {b : UInt8} (l : List UInt8) (h : b ≠ 44) : index (b :: l) [44] = if index l [44] == -1 then -1 else index l [44] + 1 := by
  have hp : ([44] : List UInt8).isPrefixOf (b :: l) = false := by simp [List.isPrefixOf, Ne.symm h]
  rw [index, hp]; simp

/-- What strings.Split gives is the same. -/
theorem split_cuts : ∀ l : List UInt8, splitK [44] 0 (count l [44]) l = cutsW [] l
  | [] => by
    have : count [] [44] = 0 := count_miss (by simp [index])
    rw [this]; rfl
  | b :: l => by
    have ih := split_cuts l
    by_cases h : b = 44
    · subst h
      rw [count_cons_eq, Nat.add_comm, cutsW_cons, if_pos rfl, ← ih]
      show (if index (44 :: l) [44] == -1 then _ else _) = _
      rw [index_hit, if_neg (by decide)]
      rfl
    · rw [count_cons_ne b 44 l h, cutsW_cons, if_neg h, List.nil_append, cutsW_app l [b], ← ih]
      cases hk : count l [44] with
      | zero => rfl
      | succ k =>
        obtain ⟨j, hj⟩ := count_index (l := l) (by omega)
        have e1 : index (b :: l) [44] = ((j + 1 : Nat) : Int) := by
          rw [index_next l h, if_neg (by rw [hj]; simp), hj]; omega
        show (if index (b :: l) [44] == -1 then _ else _) = app [b] (if index l [44] == -1 then _ else _)
        rw [e1, hj, if_neg (by simp; omega), if_neg (by simp)]
        show _ = ([b] ++ _) :: _
        simp

/-- The pieces as strings, as the library gives them. -/
theorem splitB_cuts (s : ByteArray) : (splitB ⟨#[44]⟩ 0 (countB s ⟨#[44]⟩) s).map (·.data.toList) = cutsW [] s.data.toList := by
  rw [splitB_data]
  exact split_cuts _
theorem splitB_len (s : ByteArray) : (splitB ⟨#[44]⟩ 0 (countB s ⟨#[44]⟩) s).length = countB s ⟨#[44]⟩ + 1 := splitB_all ⟨#[44]⟩ (by decide) 0 _ s rfl

theorem cutsW_len : ∀ (l p : List UInt8), (cutsW p l).length ≤ l.length + 1
  | [], p => by rw [cutsW_nil]; exact Nat.le_refl _
  | c :: r, p => by
    rw [cutsW_cons]
    split
    · have := cutsW_len r []; simp only [List.length_cons]; omega
    · have := cutsW_len r (p ++ [c]); simp only [List.length_cons]; omega
theorem cutsW_mem : ∀ (l p : List UInt8), ∀ x ∈ cutsW p l, x.length ≤ p.length + l.length
  | [], p => by intro x hx; rw [cutsW_nil] at hx; obtain rfl := List.mem_singleton.1 hx; simp
  | c :: r, p => by
    intro x hx
    rw [cutsW_cons] at hx
    split at hx
    · rcases List.mem_cons.1 hx with rfl | hx
      · simp
      · have := cutsW_mem r [] x hx; simp only [List.length_cons, List.length_nil] at *; omega
    · have := cutsW_mem r (p ++ [c]) x hx; simp only [List.length_cons, List.length_append, List.length_nil] at *; omega

/-! ### The numbers -/
def noneL : List UInt8 := [110, 111, 110, 101]
def parts (l : List UInt8) : List (List UInt8) := if l = noneL then [] else cutsW [] l
def part (l : List UInt8) (i : Nat) : List UInt8 := (parts l).getD i []
def F (l : List UInt8) (i : Nat) : Int := (rdF (part l i)).getD 0
def good (l : List UInt8) (i : Nat) : Bool := (rdF (part l i)).isSome
def okB (l : List UInt8) : Bool := (List.range (parts l).length).all (good l) && decide ((parts l).length ≤ 64)
def nN (l : List UInt8) : Nat := if okB l = true then (parts l).length else 0

theorem ok_no {l : List UInt8} {k : Nat} (hk : k < (parts l).length) (h : good l k = false) : okB l = false := by
  unfold okB
  rw [Bool.and_eq_false_iff]
  left
  rw [List.all_eq_false]
  exact ⟨k, List.mem_range.2 hk, by rw [h]; decide⟩
theorem ok_many {l : List UInt8} (h : 64 < (parts l).length) : okB l = false := by
  unfold okB
  rw [Bool.and_eq_false_iff]
  right
  exact decide_eq_false (by omega)
theorem ok_yes {l : List UInt8} (h : ∀ i, i < (parts l).length → good l i = true) (h64 : (parts l).length ≤ 64) : okB l = true := by
  unfold okB
  rw [Bool.and_eq_true]
  exact ⟨List.all_eq_true.2 fun i hi => h i (List.mem_range.1 hi), decide_eq_true h64⟩
theorem nN_no {l : List UInt8} (h : okB l = false) : nN l = 0 := by unfold nN; rw [h]; rfl
theorem nN_yes {l : List UInt8} (h : okB l = true) : nN l = (parts l).length := by unfold nN; rw [if_pos h]
theorem nN_le (l : List UInt8) : nN l ≤ 64 := by
  unfold nN
  split
  · rename_i h
    unfold okB at h
    rw [Bool.and_eq_true] at h
    exact of_decide_eq_true h.2
  · omega
theorem parts_none : parts noneL = [] := by unfold parts; rw [if_pos rfl]
theorem parts_cut {l : List UInt8} (h : l ≠ noneL) : parts l = cutsW [] l := by unfold parts; rw [if_neg h]
theorem parts_len (l : List UInt8) : (parts l).length ≤ l.length + 1 := by
  unfold parts
  split
  · simp
  · exact cutsW_len l []
theorem part_len (l : List UInt8) (i : Nat) : (part l i).length ≤ l.length := by
  unfold part
  rcases Nat.lt_or_ge i (parts l).length with h | h
  · have e : (parts l).getD i [] = (parts l)[i] := by simp [h]
    rw [e]
    have hm : (parts l)[i] ∈ parts l := List.getElem_mem h
    generalize (parts l)[i] = x at hm
    unfold parts at hm
    split at hm
    · cases hm
    · have := cutsW_mem l [] x hm; simpa using this
  · have e : (parts l).getD i [] = [] := by simp [List.getElem?_eq_none h]
    rw [e]; simp
end Go.Proofs.YtonkjignljdfgaaDoor.RlP
