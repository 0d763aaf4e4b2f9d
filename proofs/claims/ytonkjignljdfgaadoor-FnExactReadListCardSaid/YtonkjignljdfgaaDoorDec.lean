/- The walk of the reference's l01Dec: a number in decimal. -/
import Derived.Test.YtonkjignljdfgaaDoorRows
import Derived.Test.YtonkjignljdfgaaDoorDecP
import Derived.WalkKit
import Derived.WalkSpells
import Derived.WalkLawsBesides
import Derived.Deep.Draws
import Derived.Deep.LoopGhost
import Derived.Deep.AppendLies
import Derived.Laws.IdiomStrings
import Derived.Lib.UnsafeStr
import Derived.Lib.Hide
namespace Go.Proofs.YtonkjignljdfgaaDoor.Dec
open Go.RowKit Go.Proofs.YtonkjignljdfgaaDoor.DecP

theorem info8 : (Tryd.prog.info? 5).map (fun i => (i.zero, i.size, i.bytes)) = some (some (.int .u8 0), 1, 1) := by kernel_rfl

/-- The measure of the loop. -/
def mes (q : Int) (l : List UInt8) : Nat := if l = [] then q.natAbs + 1 else q.natAbs

theorem tdiv10 (q : Int) : q.tdiv 10 = if q < 0 then -((q.natAbs / 10 : Nat) : Int) else ((q.natAbs / 10 : Nat) : Int) := by
  by_cases h : q < 0
  · rw [if_pos h]
    obtain ⟨u, rfl⟩ : ∃ u : Nat, q = -(u : Int) := ⟨q.natAbs, by omega⟩
    rw [Int.neg_tdiv, Int.natAbs_neg, Int.natAbs_natCast]
    rfl
  · rw [if_neg h]
    obtain ⟨u, rfl⟩ : ∃ u : Nat, q = (u : Int) := ⟨q.natAbs, by omega⟩
    rfl
theorem tmod10 (q : Int) : q.tmod 10 = if q < 0 then -((q.natAbs % 10 : Nat) : Int) else ((q.natAbs % 10 : Nat) : Int) := by
  by_cases h : q < 0
  · rw [if_pos h]
    obtain ⟨u, rfl⟩ : ∃ u : Nat, q = -(u : Int) := ⟨q.natAbs, by omega⟩
    rw [Int.neg_tmod, Int.natAbs_neg, Int.natAbs_natCast]
    rfl
  · rw [if_neg h]
    obtain ⟨u, rfl⟩ : ∃ u : Nat, q = (u : Int) := ⟨q.natAbs, by omega⟩
    rfl

/-- The byte of a digit, in the walk's three spellings. -/
def Dig (q C : Int) : Prop := C = 48 + ((q.natAbs % 10 : Nat) : Int)
theorem dig1 {q : Int} (h : 0 ≤ q.tmod 10) (hq : q < 0) : Dig q (wrap64 (48 + q.tmod 10) % 256) := by
  have h1 := tmod10 q
  rw [if_pos hq] at h1
  unfold Dig wrap64
  omega
theorem dig2 {q : Int} (hq : q < 0) : Dig q (wrap64 (48 + wrap64 (-q.tmod 10)) % 256) := by
  have h1 := tmod10 q
  rw [if_pos hq] at h1
  unfold Dig wrap64
  omega
theorem dig3 {q : Int} (hq : 0 ≤ q) : Dig q (48 + q % 10) := by unfold Dig; omega

theorem next {n q : Int} {l : List UInt8} (h : St n q l) (h0 : -9223372036854775808 ≤ n) (h1 : n ≤ 9223372036854775807) :
    (wrap64 (q.tdiv 10)).natAbs = q.natAbs / 10 ∧ (n < 0 → wrap64 (q.tdiv 10) ≤ 0) ∧ (0 ≤ n → 0 ≤ wrap64 (q.tdiv 10)) := by
  have e := tdiv10 q
  have := h.neg; have := h.pos; have := h.lo
  have e2 : wrap64 (q.tdiv 10) = q.tdiv 10 := by unfold wrap64; split at e <;> omega
  rw [e2]
  split at e <;> omega

/-- The loop's state: 'q' is left, the digits 'l' lie in a row of the call's own. -/
def Rel (n : Int) (w : World) (g : Nat) (o r : Value) (wr : World) : Prop :=
  ∃ (q : Int) (l : List UInt8) (b cap : Nat), g = mes q l ∧ o = .slice (some ⟨b, 0, none⟩) l.length cap ∧ wr.ownsRow w.heap.size 5 1 (.slice (some ⟨b, 0, none⟩) l.length cap) l.length (Lib.byteCells l) ∧ r = .int .i64 q ∧ Hid (St n q l) ∧ Below w.heap.size w wr

theorem byte_of {q C : Int} (h : Dig q C) : ∃ c : UInt8, c.toNat = 48 + q.natAbs % 10 ∧ Value.int .u8 C = .int .u8 (c.toNat : Int) := by
  refine ⟨UInt8.ofNat (48 + q.natAbs % 10), ?_, ?_⟩
  · rw [UInt8.toNat_ofNat']; omega
  · have e : (UInt8.ofNat (48 + q.natAbs % 10)).toNat = 48 + q.natAbs % 10 := by rw [UInt8.toNat_ofNat']; omega
    rw [e]; congr 1

theorem Rel.start (n : Int) (w : World) : Rel n w (n.natAbs + 1) (.slice (some ⟨w.heap.size, 0, none⟩) 0 0) (.int .i64 n) (w.alloc (.cells #[] 5)) :=
  ⟨n, [], w.heap.size, 0, rfl, rfl, World.ownsRow_lit w #[] 0 (Nat.le_refl _) (by unfold maxLen; omega) rfl, rfl, Lib.hid (St.start n), (Below.refl _ _).alloc (Nat.le_refl _) _⟩

/-- The first digit. -/
theorem Rel.first {n q C : Int} {w wr : World} (hst : St n q []) (h0 : -9223372036854775808 ≤ n) (h1 : n ≤ 9223372036854775807) (hC : Dig q C) (hb : Below w.heap.size w wr) :
    (wrap64 (q.tdiv 10)).natAbs < mes q [] ∧ Rel n w (wrap64 (q.tdiv 10)).natAbs (.slice (some ⟨wr.heap.size, 0, none⟩) 1 1) (.int .i64 (wrap64 (q.tdiv 10))) (wr.alloc (.cells #[.int .u8 C] 5)) := by
  obtain ⟨c, hc, e⟩ := byte_of hC
  obtain ⟨n1, n2, n3⟩ := next hst h0 h1
  refine ⟨by show _ < q.natAbs + 1; omega, _, [c], wr.heap.size, 1, rfl, rfl, ?_, rfl, Lib.hid (hst.step (.inl rfl) hc n1 n2 n3), hb.alloc hb.size _⟩
  rw [e]
  exact World.ownsRow_lit wr #[.int .u8 (c.toNat : Int)] 1 hb.size (by unfold maxLen; omega) rfl

/-- One digit more. -/
theorem Rel.more {n q C : Int} {l : List UInt8} {w wr w1 : World} {v : Value} (hst : St n q l) (h0 : -9223372036854775808 ≤ n) (h1 : n ≤ 9223372036854775807) (hq : q ≠ 0) (hl : l ≠ []) (hC : Dig q C) (hb : Below w.heap.size w wr)
    (hown : w1.ownsRow w.heap.size 5 1 v (1 + l.length) ([.int .u8 C] ++ Lib.byteCells l)) (hg : (wr.alloc (.cells #[.int .u8 C] 5)).grownBy w1 (some wr.heap.size)) :
    (wrap64 (q.tdiv 10)).natAbs < mes q l ∧ Rel n w (wrap64 (q.tdiv 10)).natAbs v (.int .i64 (wrap64 (q.tdiv 10))) w1 := by
  obtain ⟨c, hc, e⟩ := byte_of hC
  obtain ⟨n1, n2, n3⟩ := next hst h0 h1
  obtain ⟨g, cap, rfl, _, _⟩ := hown.form (by omega)
  have hm : mes q l = q.natAbs := by unfold mes; rw [if_neg hl]
  have e1 : 1 + l.length = (c :: l).length := by simp; omega
  have e2 : [Value.int .u8 C] ++ Lib.byteCells l = Lib.byteCells (c :: l) := by rw [e]; rfl
  rw [e1, e2] at hown
  refine ⟨by rw [hm]; omega, _, c :: l, g, cap, rfl, by rw [e1], hown, rfl, Lib.hid (hst.step (.inr hq) hc n1 n2 n3), ?_⟩
  exact (hb.alloc hb.size _).grown hg (by have := hb.size; simp; omega) (fun k hk => by injection hk with hk; rw [← hk]; exact hb.size)

theorem len_cells (l : List UInt8) : (Lib.byteCells l).length = l.length * 1 := by rw [Lib.byteCells_length, Nat.mul_one]
theorem one_cells (l : List UInt8) : ∀ v ∈ Lib.byteCells l, v.oneCell' = true := by
  intro v hv
  unfold Lib.byteCells at hv
  obtain ⟨b, _, rfl⟩ := List.mem_map.1 hv
  rfl
theorem lit_row {w wr : World} (h : w.heap.size ≤ wr.heap.size) (c : Int) : (wr.alloc (.cells #[.int .u8 c] 5)).ownsRow w.heap.size 5 1 (.slice (some ⟨wr.heap.size, 0, none⟩) 1 1) 1 [.int .u8 c] :=
  World.ownsRow_lit wr #[.int .u8 c] 1 h (by unfold maxLen; omega) rfl

/-- The text of a row of bytes. -/
theorem text_of {w : World} {base g L cap : Nat} {xs : List Value} (l : List UInt8) (h : w.ownsRow base 5 1 (.slice (some ⟨g, 0, none⟩) L cap) L xs) (hx : xs = Lib.byteCells l) :
    (convert 48 9 (.slice (some ⟨g, 0, none⟩) L cap)).run Tryd.prog w = .ok (.string ⟨l.toArray⟩) w := by
  subst hx
  have hL : L = l.length := by have := h.1; rw [Lib.byteCells_length] at this; omega
  subst hL
  refine run_convert_bytes_back w 48 9 5 ⟨g, 0, none⟩ cap l Tryd.underlying48 Tryd.underlying5 Tryd.underlying9 ?_
  intro j hj
  refine h.cells (g := g) rfl j _ ?_
  unfold Lib.byteCells
  rw [List.getElem?_map, List.getElem?_eq_getElem hj]; rfl

theorem ret_str {a b : ByteArray} (h : a = b) : Ending.returned (.string a) = Ending.returned (.string b) := by rw [h]

set_option maxRecDepth 20000 in
theorem dec_any (n : Int) (h0 : -9223372036854775808 ≤ n) (h1 : n ≤ 9223372036854775807) (w : World) :
    Calls Tryd.prog 28 #[.int .i64 n] w fun e w' => e = .returned (.string ⟨(Lib.itoa n).toArray⟩) ∧ Below w.heap.size w w' := by
  obtain ⟨i0, hi, hz0, hz1, hz2⟩ := info_parts info8
  have N0 := Lib.hid h0
  have N1 := Lib.hid h1
  clear h0 h1
  go_enter Tryd.func28, Tryd.ntmps28
  go_wp2
  go_loopg [3, 4] (n.natAbs + 1) (fun g o r wr => Rel n w g o r wr)
  case atStart => exact Rel.start n w
  case round =>
    obtain ⟨q, l, b, cap, rfl, rfl, hown, rfl, hst, hbel⟩ := hrel
    have hsz := hbel.size
    have hlen : l.length ≤ 20 := hst.out.len N0.out N1.out
    rcases Nat.eq_zero_or_pos l.length with hl | hl
    · obtain rfl : l = [] := List.eq_nil_of_length_eq_zero hl
      clear hl hown hlen
      by_cases hneg : q < 0
      · go_wp2
        · have R := Rel.first hst.out N0.out N1.out (dig2 hneg) hbel
          go_roundg (wrap64 (q.tdiv 10)).natAbs
          case measure => exact R.1
          case rel => exact R.2
        · have h3 : 0 ≤ q.tmod 10 := by assumption
          have R := Rel.first hst.out N0.out N1.out (dig1 h3 hneg) hbel
          go_roundg (wrap64 (q.tdiv 10)).natAbs
          case measure => exact R.1
          case rel => exact R.2
      · have hge : 0 ≤ q := by omega
        clear hneg
        go_wp2
        have R := Rel.first hst.out N0.out N1.out (dig3 hge) hbel
        go_roundg (wrap64 (q.tdiv 10)).natAbs
        case measure => exact R.1
        case rel => exact R.2
    · have hl0 : l ≠ [] := by rintro rfl; exact absurd hl (by decide)
      have HL := Lib.hid hl0
      clear hl0
      have f1 : ((l.length : Int) == 0) = false := by simpa using HL.out
      by_cases hz : q = 0
      · subst hz
        have hd := hst.out.done HL.out
        have HD := Lib.hid hd
        clear hst hd
        by_cases hneg : n < 0
        · go_wp2_with (at_builtin; refine wpList_append_own _ rfl (.tmp 31) (.tmp 32) 48 rfl w.heap.size 5 i0 (.int .u8 0) 1 1 Tryd.underlying48 hi hz0 hz1 hz2 rfl (by decide) _ 1 [.int .u8 _] rfl (lit_row hsz _) ⟨b, 0, none⟩ l.length cap (Lib.byteCells l) rfl (len_cells l) ((hown.alloc _).cells rfl) (one_cells l) (by unfold maxLen; omega) (by omega) (by simp; omega) ?_; intro v w1 ho hg _; obtain ⟨g1, cap1, rfl, _, _⟩ := ho.form (by omega); have hc := text_of (45 :: l) ho rfl; have hbel' := (hbel.alloc hbel.size _).grown hg (by simp; omega) (fun k hk => by injection hk with hk; rw [← hk]; exact hsz); clear ho hg hbel hown)
          go_ret
          exact ⟨ret_str (by rw [itoa_of, if_pos hneg, HD.out]), hbel'⟩
        · have hge : 0 ≤ n := by omega
          clear hneg
          have hc := text_of l hown rfl
          go_wp2
          go_ret
          exact ⟨ret_str (by rw [itoa_of, if_neg (by omega), ← HD.out]), hbel⟩
      · have HZ := Lib.hid hz
        have f2 : (q != 0) = true := by simpa using hz
        by_cases hneg : q < 0
        · clear hz
          go_wp2_with (at_builtin; refine wpList_append_own _ rfl (.tmp 24) (.tmp 25) 48 rfl w.heap.size 5 i0 (.int .u8 0) 1 1 Tryd.underlying48 hi hz0 hz1 hz2 rfl (by decide) _ 1 [.int .u8 _] rfl (lit_row hsz _) ⟨b, 0, none⟩ l.length cap (Lib.byteCells l) rfl (len_cells l) ((hown.alloc _).cells rfl) (one_cells l) (by unfold maxLen; omega) (by omega) (by simp; omega) ?_; intro v w1 ho hg _)
          · have R := Rel.more hst.out N0.out N1.out HZ.out HL.out (dig2 hneg) hbel ho hg
            go_roundg (wrap64 (q.tdiv 10)).natAbs
            case measure => exact R.1
            case rel => exact R.2
          · have h3 : 0 ≤ q.tmod 10 := by assumption
            have R := Rel.more hst.out N0.out N1.out HZ.out HL.out (dig1 h3 hneg) hbel ho hg
            go_roundg (wrap64 (q.tdiv 10)).natAbs
            case measure => exact R.1
            case rel => exact R.2
        · have hge : 0 < q := by omega
          clear hneg hz
          go_wp2_with (at_builtin; refine wpList_append_own _ rfl (.tmp 24) (.tmp 25) 48 rfl w.heap.size 5 i0 (.int .u8 0) 1 1 Tryd.underlying48 hi hz0 hz1 hz2 rfl (by decide) _ 1 [.int .u8 _] rfl (lit_row hsz _) ⟨b, 0, none⟩ l.length cap (Lib.byteCells l) rfl (len_cells l) ((hown.alloc _).cells rfl) (one_cells l) (by unfold maxLen; omega) (by omega) (by simp; omega) ?_; intro v w1 ho hg _)
          have R := Rel.more hst.out N0.out N1.out HZ.out HL.out (dig3 (by omega)) hbel ho hg
          go_roundg (wrap64 (q.tdiv 10)).natAbs
          case measure => exact R.1
          case rel => exact R.2
end Go.Proofs.YtonkjignljdfgaaDoor.Dec
