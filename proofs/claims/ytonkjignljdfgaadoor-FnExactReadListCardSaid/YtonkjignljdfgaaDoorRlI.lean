/- The walk of the program's ReadList. -/
import Derived.Test.YtonkjignljdfgaaDoorRl
namespace Go.Proofs.YtonkjignljdfgaaDoor.RlI
open Go.RowKit Go.Proofs.YtonkjignljdfgaaDoor.Dec Go.Proofs.YtonkjignljdfgaaDoor.DecT Go.Proofs.YtonkjignljdfgaaDoor.RdP Go.Proofs.YtonkjignljdfgaaDoor.Rd Go.Proofs.YtonkjignljdfgaaDoor.RdS Go.Proofs.YtonkjignljdfgaaDoor.SlI Go.Proofs.YtonkjignljdfgaaDoor.Lt Go.Proofs.YtonkjignljdfgaaDoor.LtI Go.Proofs.YtonkjignljdfgaaDoor.RlP Go.Proofs.YtonkjignljdfgaaDoor.RlC Go.Proofs.YtonkjignljdfgaaDoor.SlC Go.Proofs.YtonkjignljdfgaaDoor.Rl

/-- The library's variable holds some number. -/
def MaxC (w : World) : Prop := ∃ m, w.cell? ⟨Tryd.lays146_ren.g 1, 0, none⟩ = some (.int .i64 m)
theorem MaxC.below {w w' : World} (h : MaxC w) (hb : Below w.heap.size w w') : MaxC w' := by
  obtain ⟨m, hm⟩ := h
  exact ⟨m, (hb.cell (p := ⟨Tryd.lays146_ren.g 1, 0, none⟩) (World.block_lt_of_cell? w _ hm)).trans hm⟩

theorem split_any (s : ByteArray) (hs : s.size ≤ 1048576) (w : World) (hm : MaxC w) :
    Calls Tryd.prog 44 #[.string s, .string ⟨#[44]⟩] w (PRet s.data.toList w) := by
  obtain ⟨m, hm⟩ := hm
  have h0 := Any.strings_Split Tryd.lays146 (by kernel_rfl) s ⟨#[44]⟩ m w (by omega) hm (by decide)
  refine h0.mono ?_
  rintro e w' ⟨rfl, rfl⟩
  have hl := splitB_len s
  refine ⟨w.heap.size, _, Lib.splitB ⟨#[44]⟩ 0 (Lib.countB s ⟨#[44]⟩) s, by rw [hl], splitB_cuts s, by simp, fun j x hx => ?_, (Below.refl _ _).alloc (Nat.le_refl _) _⟩
  rw [cell_of_row _ w.heap.size j _ _ _ (heap_alloc_new w _)]
  simp [hx]

/-- What pieces hands back. -/
def PP (l : List UInt8) (w : World) (e : Ending) (w' : World) : Prop :=
  ∃ (a : Option Addr) (cap : Nat) (ds : List ByteArray), e = .returned (.slice a ds.length cap) ∧ ds.map (·.data.toList) = parts l ∧
    (∀ (j : Nat) x, ds[j]? = some x → ∃ b, a = some ⟨b, 0, none⟩ ∧ b < w'.heap.size ∧ w'.cell? ⟨b, j, none⟩ = some (.string x)) ∧ Below w.heap.size w w'

theorem pieces_any (s : ByteArray) (hs : s.size ≤ 1048576) (w : World) (hm : MaxC w) :
    Calls Tryd.prog 36 #[.string s] w (PP s.data.toList w) := by
  by_cases hn : s.data.toList = noneL
  · have f1 : (s.toList == [110, 111, 110, 101]) = true := by rw [ByteArray.toList_eq, hn]; decide
    have R : Hid (PP s.data.toList w (.returned (.slice none 0 0)) w) := Lib.hid ⟨none, 0, [], rfl, by rw [hn, parts_none]; rfl, fun j x hx => by simp at hx, Below.refl _ _⟩
    clear hn hm
    go_enter Tryd.func36, Tryd.ntmps36
    go_wp2
    go_ret
    exact R.out
  · have f1 : (s.toList == [110, 111, 110, 101]) = false := by
      rw [ByteArray.toList_eq]; exact beq_eq_false_iff_ne.2 hn
    have HP := Lib.hid (parts_cut hn)
    have C := Lib.hid (split_any s hs w hm)
    clear hn hm
    go_enter Tryd.func36, Tryd.ntmps36
    go_wp2_with (go_at_call 44; refine C.out.mono ?_; rintro e w1 ⟨bb, cp, ds, rfl, hds, hbb, hcells, hb1⟩)
    go_ret
    exact ⟨_, _, ds, rfl, hds.trans HP.out.symm, fun j x hx => ⟨bb, rfl, hbb, hcells j x hx⟩, hb1⟩

def AllG (l : List UInt8) : Prop := ∀ i, i < (parts l).length → good l i = true
/-- What readList hands back. -/
def LRet (l : List UInt8) (w : World) (e : Ending) (w' : World) : Prop :=
  (¬ AllG l ∧ e = .returned (.tuple #[.slice none 0 0, .bool false]) ∧ Below w.heap.size w w')
  ∨ (AllG l ∧ ∃ (b cap n : Nat), n = (parts l).length ∧ e = .returned (.tuple #[.slice (some ⟨b, 0, none⟩) n cap, .bool true]) ∧ w'.ownsRow w.heap.size 2 1 (.slice (some ⟨b, 0, none⟩) n cap) n (intV (F l) n) ∧ w.heap.size ≤ b ∧ Below w.heap.size w w')

/-- What this program's own state must give. -/
structure GivesL (w : World) : Prop where
  g : Gives w
  m : MaxC w
theorem GivesL.below {w w' : World} (h : GivesL w) (hb : Below w.heap.size w w') : GivesL w' := ⟨h.g.below hb, h.m.below hb⟩

set_option maxRecDepth 20000 in
theorem list_read (s : ByteArray) (w : World) (hs : s.size ≤ 1048576) (hG : GivesL w) : Calls Tryd.prog 27 #[.string s] w (LRet s.data.toList w) := by
  obtain ⟨i0, hi, hz0, hz1, hz2⟩ := info_parts SlI.info
  have HW : Hid ((w.alloc (.cells #[] 2)).ownsRow w.heap.size 2 1 (.slice (some ⟨w.heap.size, 0, none⟩) 0 0) 0 (intV (F s.data.toList) 0)) := Lib.hid (World.ownsRow_lit w #[] 0 (Nat.le_refl _) (by unfold maxLen; omega) rfl)
  have HB : Hid (Below w.heap.size w (w.alloc (.cells #[] 2))) := Lib.hid ((Below.refl _ _).alloc (Nat.le_refl _) _)
  have C := Lib.hid (pieces_any s hs (w.alloc (.cells #[] 2)) (hG.m.below HB.out))
  have G := Lib.hid hG.g
  clear hG
  go_enter Tryd.func27, Tryd.ntmps27
  go_wp2_with fail
  refine C.out.mono ?_
  rintro e w1 ⟨a, cp, ds, rfl, hds, hcells, hb1⟩
  have HS : Hid (StrAt w1 a ds w1.heap.size w.heap.size) := Lib.hid (fun j x hx => by
    obtain ⟨bb, ea, hbb, hc⟩ := hcells j x hx
    refine ⟨bb, ea, hbb, fun e => ?_, hc⟩
    have h2 : w1.cell? ⟨w.heap.size, j, none⟩ = (w.alloc (.cells #[] 2)).cell? ⟨w.heap.size, j, none⟩ := hb1.cell (p := ⟨w.heap.size, j, none⟩) (by simp)
    rw [e, h2, cell_of_row (w.alloc (.cells #[] 2)) w.heap.size j #[] _ _ (heap_alloc_new w _)] at hc
    simp at hc)
  have hB1 : Below w.heap.size w w1 := HB.out.trans (hb1.mono (by simp))
  have HO : Hid (w1.ownsRow w.heap.size 2 1 (.slice (some ⟨w.heap.size, 0, none⟩) 0 0) 0 (intV (F s.data.toList) 0)) := Lib.hid (owns_below HW.out hb1)
  have HD := Lib.hid hds
  have HL : Hid (ds.length = (parts s.data.toList).length) := Lib.hid (by rw [← HD.out, List.length_map])
  have hdl : ds.length ≤ 1048577 := by
    have h1 := parts_len s.data.toList
    rw [RdS.size_len] at h1
    rw [HL.out]; omega
  clear hcells hds hb1 HW HB C
  go_wp2
  go_loopg [4, 13] ds.length (fun g o i wr => NRel s.data.toList w w1 a ds g o i wr)
  case atStart => exact ⟨0, w.heap.size, 0, by omega, rfl, HO.out, rfl, Lib.hid (fun j hj => absurd hj (Nat.not_lt_zero _)), .inl rfl, Nat.le_refl _, HS.out, hB1⟩
  case round =>
    clear HO HS hB1
    obtain ⟨k, b, cap, hk, rfl, hown, rfl, hall, hbk, hH, hS, hbel⟩ := hrel
    by_cases hlt : k < ds.length
    · obtain ⟨b2, e2, hb2, hne, hc⟩ := hS k ds[k] (List.getElem?_eq_getElem hlt)
      subst e2
      have hx := part_of HD.out (List.getElem?_eq_getElem hlt)
      generalize ds[k] = x at hc hx
      have V0 : ∀ w, Gives w → Calls Tryd.prog 12 #[.string x] w fun e w' => e = .returned (.tuple #[.int .i64 (F s.data.toList k), .bool (good s.data.toList k)]) ∧ Below w.heap.size w w' := fun w hG => by
        have h1 := RdT.impl_any x (by have := part_len s.data.toList k; rw [← hx, RdS.size_len, RdS.size_len] at this; omega) w hG
        unfold RdRet at h1
        rw [hx] at h1
        exact h1
      have hbase : w.heap.size ≤ b := hown.lt b rfl |>.1
      have hsz := hbel.size
      have HG : Hid (good s.data.toList k = false → ¬ AllG s.data.toList) := Lib.hid (fun h hh => by have := hh k (by rw [← HL.out]; exact hlt); rw [h] at this; cases this)
      generalize hy : F s.data.toList k = y at V0
      have HY := Lib.hid hy
      clear hx hy
      cases hgd : good s.data.toList k with
      | false =>
        rw [hgd] at V0
        have HGD := Lib.hid hgd
        have V := Lib.hid V0
        clear V0 hgd
        go_wp2_with (go_at_call 12; refine (V.out _ (G.out.below hbel)).mono ?_; rintro e w2 ⟨rfl, hb2'⟩)
        go_ret2
        exact .inl ⟨HG.out HGD.out, rfl, hbel.trans (hb2'.mono hbel.size)⟩
      | true =>
        rw [hgd] at V0
        have HGD := Lib.hid hgd
        have V := Lib.hid V0
        clear V0 hgd
        go_wp2_with (first
          | (go_at_call 12; refine (V.out _ (G.out.below hbel)).mono ?_; rintro e w2 ⟨rfl, hb2'⟩; have hown2 := owns_below hown hb2'; have hsz2 : w.heap.size ≤ w2.heap.size := Nat.le_trans hsz hb2'.size)
          | (at_builtin; refine wpList_append_lies _ rfl (.tmp 24) (.tmp 26) 22 rfl w.heap.size 2 i0 (.int .i64 0) 1 8 Tryd.underlying22 hi hz0 hz1 hz2 rfl (by decide) _ k (intV (F s.data.toList) k) rfl (hown2.alloc _) ⟨w2.heap.size, 0, none⟩ 1 1 [.int .i64 _] rfl rfl ((lit_int hsz2 _).cells rfl) (one_int _) (by omega) (by unfold maxLen; omega) (by omega) (by simp; omega) _ rfl ?_; intro g' cap' w3 ho hg hl _))
        have R := NRel.more hlt hk HY.out HGD.out hall.out hbel hb2' hbk hH hS hbase ho hg hl
        go_roundg (gk - 1)
        case measure => omega
        case rel => exact R
    · obtain rfl : k = ds.length := by omega
      have hbase : w.heap.size ≤ b := hown.lt b rfl |>.1
      have HA : Hid (AllG s.data.toList) := Lib.hid (fun i hi => hall.out i (by rw [HL.out]; exact hi))
      have HR : Hid (LRet s.data.toList w (.returned (.tuple #[.slice (some ⟨b, 0, none⟩) ds.length cap, .bool true])) wr) := Lib.hid (.inr ⟨HA.out, b, cap, ds.length, HL.out, rfl, hown, hbase, hbel⟩)
      clear hown hall hbk hS hk hlt
      go_wp2
      go_ret2
      exact HR.out
end Go.Proofs.YtonkjignljdfgaaDoor.RlI
