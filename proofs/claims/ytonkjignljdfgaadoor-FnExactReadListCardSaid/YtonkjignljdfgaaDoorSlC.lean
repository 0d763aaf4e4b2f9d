/- Slices of int64 whose row may be longer than they are: marked and held. -/
import Derived.Test.YtonkjignljdfgaaDoorSlI
namespace Go.Proofs.YtonkjignljdfgaaDoor.SlC
open Go.RowKit Go.Proofs.YtonkjignljdfgaaDoor.SlI

/-- Block 'g' is a row of int64 of the call's own, whose first n cells read 'f 0 .. f (n - 1)'. -/
def OwnC (w : World) (g n : Nat) (f : Nat → Int) : Prop :=
  ∃ cur, w.heap[g]? = some (.cells cur 2 (0, 0)) ∧ n ≤ cur.size ∧ ∀ i, i < n → cur[i]? = some (.int .i64 (f i))

theorem OwnC.lt {w : World} {g n : Nat} {f : Nat → Int} (h : OwnC w g n f) : g < w.heap.size := by
  obtain ⟨cur, h1, _⟩ := h
  exact (Array.getElem?_eq_some_iff.1 h1).1
theorem OwnC.cell {w : World} {g n : Nat} {f : Nat → Int} (h : OwnC w g n f) (i : Nat) (hi : i < n) : w.cell? ⟨g, i, none⟩ = some (.int .i64 (f i)) := by
  obtain ⟨cur, h1, _, h3⟩ := h
  rw [cell_of_row w g i cur _ _ h1]; exact h3 i hi
theorem OwnC.free {w : World} {g n : Nat} {f : Nat → Int} (h : OwnC w g n f) (i : Nat) : w.frozen? ⟨g, i, none⟩ = false := by
  obtain ⟨cur, h1, _⟩ := h
  exact frozen_of_row w g i cur _ h1
theorem OwnC.rd {w : World} {g n : Nat} {f : Nat → Int} (h : OwnC w g n f) : Rd w (some ⟨g, 0, none⟩) n f :=
  fun i hi => ⟨g, 0, rfl, h.lt, by rw [Nat.zero_add]; exact h.cell i hi⟩
theorem OwnC.of_block {w w' : World} {g n : Nat} {f : Nat → Int} (h : OwnC w g n f) (hb : w'.heap[g]? = w.heap[g]?) : OwnC w' g n f := by
  obtain ⟨cur, h1, h2⟩ := h
  exact ⟨cur, hb.trans h1, h2⟩
theorem OwnC.below {w w' : World} {g n : Nat} {f : Nat → Int} (h : OwnC w g n f) (hb : Below w.heap.size w w') : OwnC w' g n f := h.of_block (hb.block g h.lt)
theorem OwnC.store {w : World} {g n : Nat} {f f' : Nat → Int} (h : OwnC w g n f) (j : Nat) (v : Int) (hj : j < n) (h1 : ∀ i, i < n → f' i = if i = j then v else f i) : OwnC (w.setCell ⟨g, j, none⟩ (.int .i64 v)) g n f' := by
  obtain ⟨cur, h2, h3, h4⟩ := h
  refine ⟨cur.setIfInBounds j (.int .i64 v), heap_setCell_same w g j cur _ _ h2, by simpa using h3, ?_⟩
  intro i hi
  rw [h1 i hi, Array.getElem?_setIfInBounds]
  by_cases e : i = j
  · subst e; simp; omega
  · rw [if_neg (fun h => e h.symm), if_neg e]; exact h4 i hi

/-- A slice of the call's own, or one of no element. -/
def SlC (w : World) (a : Option Addr) (n : Nat) (f : Nat → Int) (g : Nat) : Prop := n = 0 ∨ (a = some ⟨g, 0, none⟩ ∧ OwnC w g n f)
theorem SlC.rd {w : World} {a : Option Addr} {n g : Nat} {f : Nat → Int} (h : SlC w a n f g) : Rd w a n f := by
  rcases h with rfl | ⟨rfl, h⟩
  · exact fun i hi => absurd hi (Nat.not_lt_zero _)
  · exact h.rd
theorem SlC.below {w w' : World} {a : Option Addr} {n g : Nat} {f : Nat → Int} (h : SlC w a n f g) (hb : Below w.heap.size w w') : SlC w' a n f g :=
  h.elim .inl fun h => .inr ⟨h.1, h.2.below hb⟩
theorem SlC.drewN {w : World} {a : Option Addr} {n g : Nat} {f : Nat → Int} (h : SlC w a n f g) (m : Nat) : SlC (w.drewN m) a n f g := h
theorem SlC.ne {w : World} {a : Option Addr} {n g g' : Nat} {f : Nat → Int} (h : SlC w a n f g) (hg : w.heap.size ≤ g') : n = 0 ∨ g ≠ g' := by
  rcases h with h | ⟨_, h⟩
  · exact .inl h
  · have := h.lt; right; omega
theorem SlC.other {w w' : World} {a : Option Addr} {n g g' : Nat} {f : Nat → Int} (h : SlC w a n f g) (ho : Only g' w w') (hne : n = 0 ∨ g ≠ g') : SlC w' a n f g := by
  rcases hne with rfl | hne
  · exact .inl rfl
  · exact h.elim .inl fun h => .inr ⟨h.1, h.2.of_block (ho.block g hne)⟩

/-- The call returns '1 + n'; the slice holds the marks; nothing else has changed. -/
def MarkedC (w : World) (a : Option Addr) (n g : Nat) (e : Ending) (w' : World) : Prop :=
  e = .returned (.int .i64 (1 + (n : Int))) ∧ SlC w' a n (marks 1) g ∧ Only g w w'

set_option maxHeartbeats 400000 in
theorem markC (a : Option Addr) (n cap g : Nat) (f : Nat → Int) (w : World) (h : SlC w a n f g) (hn : n ≤ 1048576) :
    Calls Tryd.prog 15 #[.slice a n cap, .int .i64 1] w (MarkedC w a n g) := by
  rcases h with rfl | ⟨rfl, ho⟩
  · go_enter Tryd.func15, Tryd.ntmps15
    go_wp2
    go_loopw [1, 5] (fun q i wr => i = .int .i64 0 ∧ q = .int .i64 1 ∧ wr = w) (fun _ _ _ => 0)
    case atStart => exact ⟨rfl, rfl, rfl⟩
    case round =>
      obtain ⟨rfl, rfl, rfl⟩ := hrel
      go_wp2
      go_ret
      exact ⟨rfl, .inl rfl, Only.refl _ _⟩
  · go_enter Tryd.func15, Tryd.ntmps15
    go_wp2
    go_loopw [1, 5] (fun q i wr => ∃ j : Nat, j ≤ n ∧ i = .int .i64 j ∧ q = .int .i64 ((1 + j : Nat) : Int) ∧ OwnC wr g n (mk f 1 j) ∧ Only g w wr) (fun _ i _ => n - (intOf i).toNat)
    case atStart => exact ⟨0, Nat.zero_le _, rfl, rfl, ho, Only.refl _ _⟩
    case round =>
      clear ho
      obtain ⟨j, hj, rfl, rfl, hp, hon⟩ := hrel
      by_cases hlt : j < n
      · have hv := hp.cell j hlt
        have hf := hp.free j
        have hstep := Lib.hid (hp.store (f' := mk f 1 (j + 1)) j ((1 + j : Nat) : Int) hlt (fun i _ => by unfold mk marks; split <;> split <;> (try split) <;> first | rfl | omega | (subst_vars; omega)))
        have hon' := Lib.hid (hon.store j (.int .i64 ((1 + j : Nat) : Int)))
        clear hp hon
        generalize mk f 1 j j = old at hv
        go_wp2
        go_roundw
        case rel => exact ⟨j + 1, by omega, by go_num, by go_num, by simpa using hstep.out, by simpa using hon'.out⟩
        case measure => simp [intOf]; omega
      · obtain rfl : j = n := by omega
        have hd : OwnC wr g j (marks 1) := by
          obtain ⟨cur, h1, h2, h3⟩ := hp
          exact ⟨cur, h1, h2, fun i hi => by rw [h3 i hi]; unfold mk; rw [if_pos hi]⟩
        have hd' := Lib.hid hd
        have hon' := Lib.hid hon
        clear hp hd hon
        go_wp2
        go_ret
        exact ⟨congrArg Ending.returned (congrArg (Value.int .i64) (by simp)), .inr ⟨rfl, hd'.out⟩, hon'.out⟩

theorem heldC (a : Option Addr) (n cap : Nat) (w : World) (h : Rd w a n (marks 1)) (hn : n ≤ 1048576) :
    Calls Tryd.prog 16 #[.slice a n cap, .int .i64 1] w fun e w' => e = .returned (.int .i64 (1 + (n : Int))) ∧ w = w' := by
  have := held_any a n cap 1 w h hn (by omega)
  refine (show Calls Tryd.prog 16 #[.slice a n cap, .int .i64 1] w _ from this).mono ?_
  rintro e w' ⟨rfl, h1⟩
  exact ⟨by simp, h1⟩

/-- The numbers as cells. -/
def intV (f : Nat → Int) (k : Nat) : List Value := (List.range k).map fun i => Value.int .i64 (f i)
theorem intV_succ (f : Nat → Int) (k : Nat) : intV f (k + 1) = intV f k ++ [.int .i64 (f k)] := by unfold intV; rw [List.range_succ, List.map_append]; rfl
theorem own_of {w : World} {base g n cap : Nat} {f : Nat → Int} (h : w.ownsRow base 2 1 (.slice (some ⟨g, 0, none⟩) n cap) n (intV f n)) : OwnC w g n f := by
  rcases h.2 with ⟨h0, _⟩ | ⟨g1, c1, cur, h1, _, hg, hcap, _, hsz, htk⟩
  · cases h0
  · injection h1 with e1 _ e3
    injection e1 with e1
    injection e1 with e1 _
    subst e1; subst e3
    refine ⟨cur, hg, by omega, fun i hi => ?_⟩
    have h2 : (cur.toList.take (n * 1))[i]? = some (.int .i64 (f i)) := by
      rw [htk]
      unfold intV
      rw [List.getElem?_map, List.getElem?_range hi]; rfl
    rw [List.getElem?_take, if_pos (by omega)] at h2
    simpa using h2
end Go.Proofs.YtonkjignljdfgaaDoor.SlC
