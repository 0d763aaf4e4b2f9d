/- The digits of a number, laid one by one ahead of one another, in plain words. -/
import Derived.Lib.ItoaNum
import Derived.Lib.ItoaLen
namespace Go.Proofs.YtonkjignljdfgaaDoor.DecP
open Go.Lib

/-- What is still to come ahead of the digits that are there. -/
def toCome (l : List UInt8) (u : Nat) : List UInt8 := if l ≠ [] ∧ u = 0 then [] else decDigits u

theorem come_step (l : List UInt8) (u : Nat) (c : UInt8) (h : l = [] ∨ u ≠ 0) (hc : c = UInt8.ofNat (48 + u % 10)) : toCome (c :: l) (u / 10) ++ c :: l = toCome l u ++ l := by
  have e1 : toCome l u = decDigits u := by
    unfold toCome; rw [if_neg]
    rintro ⟨h1, h2⟩
    rcases h with h | h
    · exact h1 h
    · exact h h2
  rw [e1, hc]
  by_cases h10 : u < 10
  · have e2 : u / 10 = 0 := by omega
    have e3 : u % 10 = u := by omega
    rw [e2, e3]
    have : toCome (UInt8.ofNat (48 + u) :: l) 0 = [] := by unfold toCome; rw [if_pos ⟨by simp, rfl⟩]
    rw [this, decDigits, dif_pos h10]; rfl
  · have e2 : u / 10 ≠ 0 := by omega
    have : toCome (UInt8.ofNat (48 + u % 10) :: l) (u / 10) = decDigits (u / 10) := by unfold toCome; rw [if_neg (by rintro ⟨_, h⟩; exact e2 h)]
    rw [this]
    conv => rhs; rw [decDigits, dif_neg h10]
    simp

/-- How it stands: the digits 'l' are there, 'q' is left of 'n'. -/
structure St (n q : Int) (l : List UInt8) : Prop where
  neg : n < 0 → q ≤ 0
  pos : 0 ≤ n → 0 ≤ q
  lo : n.natAbs ≥ q.natAbs
  all : toCome l q.natAbs ++ l = decDigits n.natAbs

theorem St.start (n : Int) : St n n [] := ⟨fun h => by omega, fun h => h, Nat.le_refl _, by simp [toCome]⟩

theorem St.step {n q : Int} {l : List UInt8} (h : St n q l) (hq : l = [] ∨ q ≠ 0) {c : UInt8} {q' : Int} (hc : c.toNat = 48 + q.natAbs % 10) (hq' : q'.natAbs = q.natAbs / 10) (h1 : n < 0 → q' ≤ 0) (h2 : 0 ≤ n → 0 ≤ q') : St n q' (c :: l) := by
  refine ⟨h1, h2, ?_, ?_⟩
  · have := h.lo; omega
  · rw [hq', come_step l q.natAbs c (hq.imp id (by omega)) (by rw [← hc]; simp), h.all]

theorem St.len {n q : Int} {l : List UInt8} (h : St n q l) (h0 : -9223372036854775808 ≤ n) (h1 : n ≤ 9223372036854775807) : l.length ≤ 20 := by
  have h2 := congrArg List.length h.all
  rw [List.length_append, decDigits_length] at h2
  have h3 := nDigits_le20 n.natAbs (by omega)
  omega

theorem St.done {n : Int} {l : List UInt8} (h : St n 0 l) (hl : l ≠ []) : l = decDigits n.natAbs := by
  have := h.all
  unfold toCome at this
  rw [if_pos ⟨hl, rfl⟩] at this
  simpa using this

theorem itoa_of (n : Int) : itoa n = if n < 0 then 45 :: decDigits n.natAbs else decDigits n.natAbs := by
  unfold itoa
  by_cases h : n < 0
  · rw [if_pos h, if_pos h]
  · rw [if_neg h, if_neg h]
    congr 1
    omega
end Go.Proofs.YtonkjignljdfgaaDoor.DecP
