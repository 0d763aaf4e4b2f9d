/- A slice of int64 that came in as an argument, opened: its elements by an index function. -/
import Derived.Test.YtonkjignljdfgaaDoorSlI
import Derived.ProofKit
import Derived.Deep.Slices
namespace Go.Proofs.YtonkjignljdfgaaDoor.OpenI
open Go.ChangeShapes Go.WideShapes Go.Deep

section
variable {H : Type} {enc : TypeId × Value → H} {P : Program} {w : World} {base : Nat} {spare : Nat → Bool} {held : Bool}

/-- The elements. -/
theorem open_ints64 {t e : TypeId} {fuel : Nat} {a : Option Addr} {len cap : Nat} {x : DataW H × List MemPlace} (ht : P.underlying t = some (.slice e)) (he : P.underlying e = some (.int .i64)) (hc : P.cellsOf e = 1)
    (h : DataW.trod enc P w base spare held fuel t [.slice a len cap] = some x) : ∃ f : Nat → Int, SlI.Rd w a len f := by
  rcases open_slice1 ht hc h with ⟨h0, _⟩ | ⟨a', len', cap', m, n, V, D, Pl, h0, _, hl, _, hm, _, hx⟩
  · simp at h0
    obtain ⟨rfl, rfl, rfl⟩ := h0
    exact ⟨fun _ => 0, fun i hi => absurd hi (Nat.not_lt_zero _)⟩
  · simp at h0
    obtain ⟨rfl, rfl, rfl⟩ := h0
    have hlm : len ≤ m := by rw [hm]; split <;> omega
    refine ⟨fun i => match V i with | .int _ b => b | _ => 0, fun i hi => ?_⟩
    obtain ⟨hcell, htr⟩ := hx i (by omega)
    obtain ⟨b, hb, _, _⟩ := DataW.trod_int he htr
    have hV : V i = .int .i64 b := by simpa using hb
    have hs : a'.spot = none := by
      have h0 := (hx 0 (by omega)).1
      simpa [Addr.add] using World.cell?_spot h0
    obtain ⟨bl, off, spot⟩ := a'
    simp only at hs
    subst hs
    have hadd : (⟨bl, off, none⟩ : Addr).add i = ⟨bl, off + i, none⟩ := by unfold Addr.add; split <;> simp_all
    rw [hadd, hV] at hcell
    refine ⟨bl, off, rfl, block_lt_of_cell (a := ⟨bl, off + i, none⟩) hcell, ?_⟩
    rw [hcell]
    simp only [hV]
end
end Go.Proofs.YtonkjignljdfgaaDoor.OpenI
