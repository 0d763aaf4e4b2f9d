/- Slices of int64 in the law's hands: copied, compared, marked, held. -/
import Derived.Test.YtonkjignljdfgaaDoorRows
import Derived.WalkKit
import Derived.WalkSpells
import Derived.WalkLawsBesides
import Derived.Deep.Draws
import Derived.Deep.QuietTactic
import Derived.BigQuiet
import Derived.Lib.Hide
namespace Go.Proofs.YtonkjignljdfgaaDoor.SlI
open Go.RowKit

/-- The slice at 'a' reads 'f 0 .. f (n - 1)'. -/
def Rd (w : World) (a : Option Addr) (n : Nat) (f : Nat → Int) : Prop :=
  ∀ i, i < n → ∃ b off, a = some ⟨b, off, none⟩ ∧ b < w.heap.size ∧ w.cell? ⟨b, off + i, none⟩ = some (.int .i64 (f i))

theorem below_drewN {B : Nat} {a w : World} (h : Below B a w) (n : Nat) : Below B a (w.drewN n) := ⟨h.os, h.tape, h.output, h.size, h.block⟩

theorem Rd.below {w w' : World} {a : Option Addr} {n : Nat} {f : Nat → Int} (h : Rd w a n f) (hb : Below w.heap.size w w') : Rd w' a n f := by
  intro i hi
  obtain ⟨b, off, rfl, hlt, hc⟩ := h i hi
  exact ⟨b, off, rfl, Nat.lt_of_lt_of_le hlt hb.size, (hb.cell hlt).trans hc⟩

/-- Block 'g' is a row of int64 of the call's own, which reads 'f 0 .. f (n - 1)'. -/
def Own (w : World) (g n : Nat) (f : Nat → Int) : Prop :=
  ∃ cur, w.heap[g]? = some (.cells cur 2 (0, 0)) ∧ cur.size = n ∧ ∀ i, i < n → cur[i]? = some (.int .i64 (f i))

theorem Own.lt {w : World} {g n : Nat} {f : Nat → Int} (h : Own w g n f) : g < w.heap.size := by
  obtain ⟨cur, h1, _⟩ := h
  exact (Array.getElem?_eq_some_iff.1 h1).1
theorem Own.cell {w : World} {g n : Nat} {f : Nat → Int} (h : Own w g n f) (i : Nat) (hi : i < n) : w.cell? ⟨g, i, none⟩ = some (.int .i64 (f i)) := by
  obtain ⟨cur, h1, _, h3⟩ := h
  rw [cell_of_row w g i cur _ _ h1]; exact h3 i hi
theorem Own.free {w : World} {g n : Nat} {f : Nat → Int} (h : Own w g n f) (i : Nat) : w.frozen? ⟨g, i, none⟩ = false := by
  obtain ⟨cur, h1, _⟩ := h
  exact frozen_of_row w g i cur _ h1
theorem Own.rd {w : World} {g n : Nat} {f : Nat → Int} (h : Own w g n f) : Rd w (some ⟨g, 0, none⟩) n f :=
  fun i hi => ⟨g, 0, rfl, h.lt, by rw [Nat.zero_add]; exact h.cell i hi⟩
theorem Own.of_block {w w' : World} {g n : Nat} {f : Nat → Int} (h : Own w g n f) (hb : w'.heap[g]? = w.heap[g]?) : Own w' g n f := by
  obtain ⟨cur, h1, h2⟩ := h
  exact ⟨cur, hb.trans h1, h2⟩
theorem Own.below {w w' : World} {g n : Nat} {f : Nat → Int} (h : Own w g n f) (hb : Below w.heap.size w w') : Own w' g n f := h.of_block (hb.block g h.lt)
theorem Own.store {w : World} {g n : Nat} {f f' : Nat → Int} (h : Own w g n f) (j : Nat) (v : Int) (h1 : ∀ i, i < n → f' i = if i = j then v else f i) : Own (w.setCell ⟨g, j, none⟩ (.int .i64 v)) g n f' := by
  obtain ⟨cur, h2, h3, h4⟩ := h
  refine ⟨cur.setIfInBounds j (.int .i64 v), heap_setCell_same w g j cur _ _ h2, by simpa using h3, ?_⟩
  intro i hi
  rw [h1 i hi, Array.getElem?_setIfInBounds]
  by_cases e : i = j
  · subst e; simp; omega
  · rw [if_neg (fun h => e h.symm), if_neg e]; exact h4 i hi

/-- Nothing but block 'g' has changed. -/
structure Only (g : Nat) (w w' : World) : Prop where
  os : w'.os = w.os
  tape : w'.tape = w.tape
  output : w'.output = w.output
  size : w'.heap.size = w.heap.size
  block : ∀ b, b ≠ g → w'.heap[b]? = w.heap[b]?
theorem Only.refl (g : Nat) (w : World) : Only g w w := ⟨rfl, rfl, rfl, rfl, fun _ _ => rfl⟩
theorem Only.store {g : Nat} {w w' : World} (h : Only g w w') (j : Nat) (v : Value) : Only g w (w'.setCell ⟨g, j, none⟩ v) :=
  ⟨h.os, h.tape, h.output, by rw [← h.size]; simp, fun b hb => (heap_setCell_other w' ⟨g, j, none⟩ b v hb).trans (h.block b hb)⟩
theorem Only.below {g B : Nat} {a w w' : World} (h : Only g w w') (hb : Below B a w) (hg : B ≤ g) : Below B a w' :=
  hb.trans ⟨h.os, h.tape, h.output, by rw [h.size]; exact Nat.le_refl _, fun b hlt => h.block b (by omega)⟩

/-- A slice of the call's own, or one of no element. -/
def Sl (w : World) (a : Option Addr) (n : Nat) (f : Nat → Int) (g : Nat) : Prop := n = 0 ∨ (a = some ⟨g, 0, none⟩ ∧ Own w g n f)
theorem Sl.rd {w : World} {a : Option Addr} {n g : Nat} {f : Nat → Int} (h : Sl w a n f g) : Rd w a n f := by
  rcases h with rfl | ⟨rfl, h⟩
  · exact fun i hi => absurd hi (Nat.not_lt_zero _)
  · exact h.rd
theorem Sl.below {w w' : World} {a : Option Addr} {n g : Nat} {f : Nat → Int} (h : Sl w a n f g) (hb : Below w.heap.size w w') : Sl w' a n f g :=
  h.elim .inl fun h => .inr ⟨h.1, h.2.below hb⟩
theorem Sl.only {w w' : World} {a : Option Addr} {n g g' : Nat} {f : Nat → Int} (h : Sl w a n f g) (ho : Only g' w w') (hne : g ≠ g') : Sl w' a n f g :=
  h.elim .inl fun h => .inr ⟨h.1, h.2.of_block (ho.block g hne)⟩

theorem info : (Tryd.prog.info? 2).map (fun i => (i.zero, i.size, i.bytes)) = some (some (.int .i64 0), 1, 8) := by kernel_rfl

/-- 'make' of n zeros. -/
theorem own_made {w w0 : World} {n : Nat} (h : w0.ownsRow w.heap.size 2 1 (.slice (some ⟨w.heap.size, 0, none⟩) n n) n (madeCells #[Value.int .i64 0] n).toList) : Own w0 w.heap.size n fun _ => 0 := by
  obtain ⟨hlen, h⟩ := h
  rcases h with ⟨h, _⟩ | ⟨g, cap, cur, h, _, hg, _, _, hs, ht⟩
  · simp at h
  · simp only [Value.slice.injEq, Option.some.injEq, Addr.mk.injEq, and_true, true_and] at h
    obtain ⟨h1, h2⟩ := h
    subst h1; subst h2
    refine ⟨cur, hg, by omega, fun i hi => ?_⟩
    rw [toList_madeCells_one] at ht
    have h3 : cur.toList[i]? = some (.int .i64 0) := by
      have : (cur.toList.take (n * 1))[i]? = some (.int .i64 0) := by rw [ht, List.getElem?_replicate, if_pos hi]
      rw [List.getElem?_take] at this
      rw [if_pos (by omega)] at this
      exact this
    simpa using h3

/-- What the copy's loop has done. -/
def part (f : Nat → Int) (k i : Nat) : Int := if i < k then f i else 0

def Copied (w : World) (n : Nat) (f : Nat → Int) (e : Ending) (w' : World) : Prop :=
  ∃ g, e = .returned (.slice (some ⟨g, 0, none⟩) n n) ∧ w.heap.size ≤ g ∧ Own w' g n f ∧ Below w.heap.size w w'

set_option maxHeartbeats 400000 in
theorem copy_any (a : Option Addr) (n cap : Nat) (f : Nat → Int) (w : World) (h : Rd w a n f) (hn : n ≤ 1048576) :
    Calls Tryd.prog 8 #[.slice a n cap] w (Copied w n f) := by
  obtain ⟨i0, hi, hz0, hz1, hz2⟩ := info_parts info
  go_enter Tryd.func8, Tryd.ntmps8
  go_wp2_with (at_make; refine wpList_make_full _ rfl _ _ 22 rfl w.heap.size 2 i0 (.int .i64 0) 1 Tryd.underlying22 hi hz0 hz1 _ _ _ _ n rfl rfl rfl rfl (by rw [hz2]; omega) (by unfold maxLen; omega) (Nat.le_refl _) ?_)
  intro w0 hown0 hgrow0
  have ho : Own w0 w.heap.size n (part f 0) := own_made hown0
  have hb0 : Below w.heap.size w w0 := (Below.refl _ _).grown hgrow0 (Nat.le_refl _) (fun k h => by cases h)
  clear hown0 hgrow0 hz0 hz1 hz2 hi
  go_wp2
  go_loopw [4] (fun i wr => ∃ k : Nat, k ≤ n ∧ i = .int .i64 k ∧ Own wr w.heap.size n (part f k) ∧ Below w.heap.size w wr) (fun i _ => n - (intOf i).toNat)
  case atStart => exact ⟨0, Nat.zero_le _, rfl, ho, hb0⟩
  case round =>
    clear ho hb0
    obtain ⟨k, hk, rfl, hp, hbel⟩ := hrel
    by_cases hlt : k < n
    · obtain ⟨b, off, rfl, hb, hc⟩ := h k hlt
      have hc' : wr.cell? ⟨b, off + k, none⟩ = some (.int .i64 (f k)) := (hbel.cell (p := ⟨b, off + k, none⟩) hb).trans hc
      have hv := hp.cell k hlt
      have hf := hp.free k
      have hstep := Lib.hid (hp.store (f' := part f (k + 1)) k (f k) (fun i _ => by unfold part; split <;> split <;> (try split) <;> first | rfl | omega | (subst_vars; rfl)))
      have hbel' := Lib.hid (hbel.setCell (p := ⟨w.heap.size, k, none⟩) (Nat.le_refl _) (.int .i64 (f k)))
      clear hp hbel hc hb h
      go_wp2
      go_roundw
      case rel => exact ⟨k + 1, by omega, by go_num, hstep.out, hbel'.out⟩
      case measure => simp [intOf]; omega
    · obtain rfl : k = n := by omega
      have hd : Own wr w.heap.size k f := by
        obtain ⟨cur, h1, h2, h3⟩ := hp
        exact ⟨cur, h1, h2, fun i hi => by rw [h3 i hi]; unfold part; rw [if_pos hi]⟩
      clear hp h
      have hd' := Lib.hid hd
      have hbel' := Lib.hid hbel
      clear hd hbel
      go_wp2
      go_ret
      exact ⟨w.heap.size, rfl, Nat.le_refl _, hd'.out, hbel'.out⟩

/-- The call returns this Bool; the world may have been asked some answers. -/
def BRet (b : Bool) (w : World) (e : Ending) (w' : World) : Prop := ∃ n, e = .returned (.bool b) ∧ w' = w.drewN n

set_option maxHeartbeats 1000000 in
theorem eq_any (a b : Option Addr) (n ca cb : Nat) (f : Nat → Int) (w : World) (ha : Rd w a n f) (hb : Rd w b n f) (hn : n ≤ 1048576) :
    Calls Tryd.prog 10 #[.slice a n ca, .slice b n cb] w (BRet true w) := by
  have hne : ((n : Int) != (n : Int)) = false := by simp
  go_enter Tryd.func10, Tryd.ntmps10
  go_wp2
  go_loopw [5] (fun i wr => ∃ k m : Nat, k ≤ n ∧ i = .int .i64 k ∧ wr = w.drewN m) (fun i _ => n - (intOf i).toNat)
  case atStart => exact ⟨0, 0, Nat.zero_le _, rfl, rfl⟩
  case round =>
    obtain ⟨k, m, hk, rfl, rfl⟩ := hrel
    by_cases hlt : k < n
    · obtain ⟨ba, oa, rfl, _, hca⟩ := ha k hlt
      obtain ⟨bb, ob, rfl, _, hcb⟩ := hb k hlt
      clear ha hb hne
      generalize f k = x at hca hcb
      have hx : (x != x) = false := by simp
      have h0 : (0 : Int) ≤ (k : Int) := by omega
      have h1 : (k : Int) < (n : Int) := by omega
      go_wp2_with fail
      go_quiet (fail)
      go_wp2
      go_roundw
      case rel => exact ⟨k + 1, _, by omega, by go_num, rfl⟩
      case measure => simp [intOf]; omega
    · clear ha hb
      go_wp2
      go_ret
      exact ⟨_, rfl, rfl⟩

/-- The marks. -/
def marks (k0 : Nat) (i : Nat) : Int := (k0 : Int) + (i : Int)
def mk (f : Nat → Int) (k0 j i : Nat) : Int := if i < j then marks k0 i else f i

/-- The call returns 'k0 + n'; the slice holds the marks; nothing else has changed. -/
def Marked (w : World) (a : Option Addr) (n g k0 : Nat) (e : Ending) (w' : World) : Prop :=
  e = .returned (.int .i64 ((k0 + n : Nat) : Int)) ∧ Sl w' a n (marks k0) g ∧ Only g w w'

set_option maxHeartbeats 400000 in
theorem mark_any (a : Option Addr) (n cap g k0 : Nat) (f : Nat → Int) (w : World) (h : Sl w a n f g) (hn : n ≤ 1048576) (hk0 : k0 ≤ 1048576) :
    Calls Tryd.prog 15 #[.slice a n cap, .int .i64 (k0 : Int)] w (Marked w a n g k0) := by
  rcases h with rfl | ⟨rfl, ho⟩
  · go_enter Tryd.func15, Tryd.ntmps15
    go_wp2
    go_loopw [1, 5] (fun q i wr => i = .int .i64 0 ∧ q = .int .i64 (k0 : Int) ∧ wr = w) (fun _ _ _ => 0)
    case atStart => exact ⟨rfl, rfl, rfl⟩
    case round =>
      obtain ⟨rfl, rfl, rfl⟩ := hrel
      go_wp2
      go_ret
      exact ⟨rfl, .inl rfl, Only.refl _ _⟩
  · go_enter Tryd.func15, Tryd.ntmps15
    go_wp2
    go_loopw [1, 5] (fun q i wr => ∃ j : Nat, j ≤ n ∧ i = .int .i64 j ∧ q = .int .i64 ((k0 + j : Nat) : Int) ∧ Own wr g n (mk f k0 j) ∧ Only g w wr) (fun _ i _ => n - (intOf i).toNat)
    case atStart => exact ⟨0, Nat.zero_le _, rfl, rfl, ho, Only.refl _ _⟩
    case round =>
      clear ho
      obtain ⟨j, hj, rfl, rfl, hp, hon⟩ := hrel
      by_cases hlt : j < n
      · have hv := hp.cell j hlt
        have hf := hp.free j
        have hstep := Lib.hid (hp.store (f' := mk f k0 (j + 1)) j ((k0 + j : Nat) : Int) (fun i _ => by unfold mk marks; split <;> split <;> (try split) <;> first | rfl | omega | (subst_vars; omega)))
        have hon' := Lib.hid (hon.store j (.int .i64 ((k0 + j : Nat) : Int)))
        clear hp hon
        generalize mk f k0 j j = old at hv
        go_wp2
        go_roundw
        case rel => exact ⟨j + 1, by omega, by go_num, by go_num, by simpa using hstep.out, by simpa using hon'.out⟩
        case measure => simp [intOf]; omega
      · obtain rfl : j = n := by omega
        have hd : Own wr g j (marks k0) := by
          obtain ⟨cur, h1, h2, h3⟩ := hp
          exact ⟨cur, h1, h2, fun i hi => by rw [h3 i hi]; unfold mk; rw [if_pos hi]⟩
        have hd' := Lib.hid hd
        have hon' := Lib.hid hon
        clear hp hd hon
        go_wp2
        go_ret
        exact ⟨rfl, .inr ⟨rfl, hd'.out⟩, hon'.out⟩

set_option maxHeartbeats 400000 in
theorem held_any (a : Option Addr) (n cap k0 : Nat) (w : World) (h : Rd w a n (marks k0)) (hn : n ≤ 1048576) (hk0 : k0 ≤ 1048576) :
    Calls Tryd.prog 16 #[.slice a n cap, .int .i64 (k0 : Int)] w fun e w' => e = .returned (.int .i64 ((k0 + n : Nat) : Int)) ∧ w = w' := by
  go_enter Tryd.func16, Tryd.ntmps16
  go_wp2
  go_loop [1, 5] (fun q i => ∃ j : Nat, j ≤ n ∧ i = .int .i64 j ∧ q = .int .i64 ((k0 + j : Nat) : Int)) (fun _ i => n - (intOf i).toNat)
  case atStart => exact ⟨0, Nat.zero_le _, rfl, rfl⟩
  case round =>
    obtain ⟨j, hj, rfl, rfl⟩ := hrel
    by_cases hlt : j < n
    · obtain ⟨b, off, rfl, _, hc⟩ := h j hlt
      have hc' : w.cell? ⟨b, off + j, none⟩ = some (.int .i64 ((k0 : Int) + (j : Int))) := hc
      have hne : ((k0 : Int) + (j : Int) != (k0 : Int) + (j : Int)) = false := by simp
      clear h hc
      go_wp2
      go_round
      case rel => exact ⟨j + 1, by omega, by go_num, by go_num⟩
      case measure => simp [intOf]; omega
    · obtain rfl : j = n := by omega
      clear h
      go_wp2
      go_ret
      exact ⟨rfl, rfl⟩
end Go.Proofs.YtonkjignljdfgaaDoor.SlI
