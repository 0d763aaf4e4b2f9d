/- The walks of the two readers of a list. -/
import Derived.Test.YtonkjignljdfgaaDoorRlC
import Derived.Test.YtonkjignljdfgaaDoorRdT
import Derived.Test.YtonkjignljdfgaaDoorSlC
import Derived.Test.YtonkjignljdfgaaDoorShelfS
namespace Go.Proofs.YtonkjignljdfgaaDoor.Rl
open Go.RowKit Go.Proofs.YtonkjignljdfgaaDoor.Dec Go.Proofs.YtonkjignljdfgaaDoor.DecT Go.Proofs.YtonkjignljdfgaaDoor.RdP Go.Proofs.YtonkjignljdfgaaDoor.Rd Go.Proofs.YtonkjignljdfgaaDoor.RdS Go.Proofs.YtonkjignljdfgaaDoor.SlI Go.Proofs.YtonkjignljdfgaaDoor.Lt Go.Proofs.YtonkjignljdfgaaDoor.LtI Go.Proofs.YtonkjignljdfgaaDoor.RlP Go.Proofs.YtonkjignljdfgaaDoor.RlC Go.Proofs.YtonkjignljdfgaaDoor.SlC

/-- What both readers return. -/
def RlRet (l : List UInt8) (w : World) (e : Ending) (w' : World) : Prop :=
  ∃ (a : Option Addr) (cap g : Nat), e = .returned (.tuple #[.slice a (nN l) cap, .bool (okB l)]) ∧ SlC w' a (nN l) (F l) g ∧ w.heap.size ≤ g ∧ Below w.heap.size w w'

theorem rl_no {l : List UInt8} {w w' : World} (h : okB l = false) (hb : Below w.heap.size w w') : RlRet l w (.returned (.tuple #[.slice none 0 0, .bool false])) w' :=
  ⟨none, 0, w.heap.size, by rw [h, nN_no h], .inl (nN_no h), Nat.le_refl _, hb⟩

/-- The pieces at 'a', in blocks below H but for block o. -/
def StrAt (w : World) (a : Option Addr) (ds : List ByteArray) (H o : Nat) : Prop :=
  ∀ (j : Nat) x, ds[j]? = some x → ∃ b, a = some ⟨b, 0, none⟩ ∧ b < H ∧ b ≠ o ∧ w.cell? ⟨b, j, none⟩ = some (.string x)

theorem StrAt.step {wr w2 w3 : World} {a : Option Addr} {ds : List ByteArray} {H o b' : Nat} {x : Obj} (h : StrAt wr a ds H o) (hH : H ≤ wr.heap.size) (hb : Below wr.heap.size wr w2)
    (hg : (w2.alloc x).grownBy w3 (some b')) (hb' : b' = o ∨ H ≤ b') : StrAt w3 a ds H o := by
  intro j y hy
  obtain ⟨b, e, h1, h2, hc⟩ := h j y hy
  refine ⟨b, e, h1, h2, ?_⟩
  have hlt : b < wr.heap.size := by omega
  have c2 : w2.cell? ⟨b, j, none⟩ = some (.string y) := (hb.cell (p := ⟨b, j, none⟩) hlt).trans hc
  have c3 : (w2.alloc x).cell? ⟨b, j, none⟩ = some (.string y) := by
    rw [World.cell?_alloc_lt w2 x ⟨b, j, none⟩ (by have := hb.size; show b < _; omega)]; exact c2
  refine hg.cell c3 ?_
  intro e'
  have e2 : b = b' := by injection e'
  rcases hb' with h3 | h3 <;> omega

/-- The loop's state: the first k numbers lie in a row of the call's own. -/
def NRel (l : List UInt8) (w w1 : World) (a : Option Addr) (ds : List ByteArray) (g : Nat) (o i : Value) (wr : World) : Prop :=
  ∃ k b cap : Nat, k + g = ds.length ∧ o = .slice (some ⟨b, 0, none⟩) k cap ∧ wr.ownsRow w.heap.size 2 1 (.slice (some ⟨b, 0, none⟩) k cap) k (intV (F l) k) ∧ i = .int .i64 (k : Int)
    ∧ Hid (∀ j, j < k → good l j = true) ∧ (b = w.heap.size ∨ w1.heap.size ≤ b) ∧ w1.heap.size ≤ wr.heap.size ∧ StrAt wr a ds w1.heap.size w.heap.size ∧ Below w.heap.size w wr

theorem lit_int {w wr : World} (h : w.heap.size ≤ wr.heap.size) (c : Int) : (wr.alloc (.cells #[.int .i64 c] 2)).ownsRow w.heap.size 2 1 (.slice (some ⟨wr.heap.size, 0, none⟩) 1 1) 1 [.int .i64 c] :=
  World.ownsRow_lit wr #[.int .i64 c] 1 h (by unfold maxLen; omega) rfl
theorem one_int (c : Int) : ∀ u ∈ [Value.int .i64 c], u.oneCell' = true := by
  intro u hu
  obtain rfl := List.mem_singleton.1 hu
  rfl

theorem NRel.more {l : List UInt8} {w w1 wr w2 w3 : World} {a : Option Addr} {ds : List ByteArray} {k b g g' cap' : Nat} {y : Int} (hk : k < ds.length) (hg : k + g = ds.length) (hy : F l k = y) (hgood : good l k = true) (hall : ∀ j, j < k → good l j = true)
    (hb : Below w.heap.size w wr) (hb2 : Below wr.heap.size wr w2) (hbk : b = w.heap.size ∨ w1.heap.size ≤ b) (hH : w1.heap.size ≤ wr.heap.size) (hS : StrAt wr a ds w1.heap.size w.heap.size) (hbase : w.heap.size ≤ b)
    (ho : w3.ownsRow w.heap.size 2 1 (.slice (some ⟨g', 0, none⟩) (k + 1) cap') (k + 1) (intV (F l) k ++ [.int .i64 y])) (hgr : (w2.alloc (.cells #[.int .i64 y] 2)).grownBy w3 (some b))
    (hl : some b = some g' ∨ g' = (w2.alloc (.cells #[.int .i64 y] 2)).heap.size) :
    NRel l w w1 a ds (g - 1) (.slice (some ⟨g', 0, none⟩) (k + 1) cap') (.int .i64 ((k : Int) + 1)) w3 := by
  rw [← hy, ← intV_succ] at ho
  have hb12 : Below w.heap.size w w2 := hb.trans (hb2.mono hb.size)
  have h12 := hb2.size
  have hsz3 := hgr.size
  simp at hsz3
  refine ⟨k + 1, g', cap', by omega, rfl, ho, rfl, Lib.hid (fun j hj => ?_), ?_, by omega, hS.step hH hb2 hgr hbk, ?_⟩
  · rcases Nat.lt_or_ge j k with h | h
    · exact hall j h
    · rw [show j = k from by omega]; exact hgood
  · rcases hl with h | h
    · injection h with h
      rw [← h]; exact hbk
    · right; rw [h]; simp; omega
  · exact (hb12.alloc hb12.size _).grown hgr (by have := hb12.size; simp; omega) (fun j hj => by injection hj with hj; rw [← hj]; exact hbase)

theorem rl_yes {l : List UInt8} {w wr : World} {b cap : Nat} (h : okB l = true) (n : Nat) (hn : n = (parts l).length) (ho : wr.ownsRow w.heap.size 2 1 (.slice (some ⟨b, 0, none⟩) n cap) n (intV (F l) n)) (hbase : w.heap.size ≤ b) (hb : Below w.heap.size w wr) :
    RlRet l w (.returned (.tuple #[.slice (some ⟨b, 0, none⟩) n cap, .bool true])) wr := by
  have e : nN l = n := by rw [nN_yes h, hn]
  refine ⟨some ⟨b, 0, none⟩, cap, b, by rw [h, e], ?_, hbase, hb⟩
  rw [e]
  exact .inr ⟨rfl, own_of ho⟩

/-- A piece is the part of its number. -/
theorem part_of {l : List UInt8} {ds : List ByteArray} (h : ds.map (·.data.toList) = parts l) {k : Nat} {x : ByteArray} (hx : ds[k]? = some x) : x.data.toList = RlP.part l k := by
  unfold RlP.part
  rw [← h]
  simp [hx]
theorem none_at (s : ByteArray) : s.data.toList = noneL ↔ s = ⟨#[110, 111, 110, 101]⟩ := ⟨fun h => bytes_eq h, fun h => by rw [h]; rfl⟩

/-! ### The reference's reader -/
set_option maxRecDepth 20000 in
theorem num_any (s : ByteArray) (w : World) (hs : s.size ≤ 1048576) : Calls Tryd.prog 26 #[.string s] w (RlRet s.data.toList w) := by
  obtain ⟨i0, hi, hz0, hz1, hz2⟩ := info_parts SlI.info
  by_cases hn : s.data.toList = noneL
  · have hno := (none_at s).1 hn
    have R : ∀ w' : World, w'.ownsRow w.heap.size 2 1 (.slice (some ⟨w.heap.size, 0, none⟩) 0 0) 0 (intV (F s.data.toList) 0) → Below w.heap.size w w' → RlRet s.data.toList w (.returned (.tuple #[.slice (some ⟨w.heap.size, 0, none⟩) 0 0, .bool true])) w' := fun w' h1 h2 =>
      rl_yes (by rw [hn]; decide) 0 (by rw [hn, parts_none]; rfl) h1 (Nat.le_refl _) h2
    have R' := Lib.hid R
    clear R hn
    have f1 : (s.toList == [110, 111, 110, 101]) = true := by rw [ByteArray.toList_eq, hno]; decide
    clear hno
    go_enter Tryd.func26, Tryd.ntmps26
    go_wp2
    go_ret2
    exact R'.out _ (World.ownsRow_lit w #[] 0 (Nat.le_refl _) (by unfold maxLen; omega) rfl) ((Below.refl _ _).alloc (Nat.le_refl _) _)
  · have f1 : (s.toList == [110, 111, 110, 101]) = false := by
      rw [ByteArray.toList_eq]; exact beq_eq_false_iff_ne.2 hn
    have HP := Lib.hid (parts_cut hn)
    have C := Lib.hid (fun w => cut_any s w hs)
    have HW : Hid ((w.alloc (.cells #[] 2)).ownsRow w.heap.size 2 1 (.slice (some ⟨w.heap.size, 0, none⟩) 0 0) 0 (intV (F s.data.toList) 0)) := Lib.hid (World.ownsRow_lit w #[] 0 (Nat.le_refl _) (by unfold maxLen; omega) rfl)
    have HB : Hid (Below w.heap.size w (w.alloc (.cells #[] 2))) := Lib.hid ((Below.refl _ _).alloc (Nat.le_refl _) _)
    clear hn
    go_enter Tryd.func26, Tryd.ntmps26
    go_wp2_with fail
    refine (C.out _).mono ?_
    rintro e w1 ⟨bb, cp, ds, rfl, hds, hbb, hcells, hb1⟩
    have HS : Hid (StrAt w1 (some ⟨bb, 0, none⟩) ds w1.heap.size w.heap.size) := Lib.hid (fun j x hx => ⟨bb, rfl, hbb, by
      intro e
      have h1 := hcells j x hx
      have h2 : w1.cell? ⟨w.heap.size, j, none⟩ = (w.alloc (.cells #[] 2)).cell? ⟨w.heap.size, j, none⟩ := hb1.cell (p := ⟨w.heap.size, j, none⟩) (by simp)
      rw [e, h2, cell_of_row (w.alloc (.cells #[] 2)) w.heap.size j #[] _ _ (heap_alloc_new w _)] at h1
      simp at h1, hcells j x hx⟩)
    have hB1 : Below w.heap.size w w1 := HB.out.trans (hb1.mono (by simp))
    have HO : Hid (w1.ownsRow w.heap.size 2 1 (.slice (some ⟨w.heap.size, 0, none⟩) 0 0) 0 (intV (F s.data.toList) 0)) := Lib.hid (owns_below HW.out hb1)
    have HD := Lib.hid (hds.trans HP.out.symm)
    have HL : Hid (ds.length = (parts s.data.toList).length) := Lib.hid (by rw [← HD.out, List.length_map])
    clear hcells hds hbb hb1 HW HB C HP
    by_cases h64 : 64 < ds.length
    · have HN := Lib.hid (ok_many (l := s.data.toList) (by rw [← HL.out]; exact h64))
      go_wp2
      go_ret2
      exact rl_no HN.out hB1
    · have h65 : ds.length ≤ 64 := by omega
      clear h64
      go_wp2
      go_loopg [4, 6] ds.length (fun g o i wr => NRel s.data.toList w w1 (some ⟨bb, 0, none⟩) ds g o i wr)
      case atStart => exact ⟨0, w.heap.size, 0, by omega, rfl, HO.out, rfl, Lib.hid (fun j hj => absurd hj (Nat.not_lt_zero _)), .inl rfl, Nat.le_refl _, HS.out, hB1⟩
      case round =>
        clear HO HS hB1
        obtain ⟨k, b, cap, hk, rfl, hown, rfl, hall, hbk, hH, hS, hbel⟩ := hrel
        by_cases hlt : k < ds.length
        · obtain ⟨b2, e2, hb2, hne, hc⟩ := hS k ds[k] (List.getElem?_eq_getElem hlt)
          have e3 : bb = b2 := by injection e2 with e2; injection e2
          subst e3
          have hx := part_of HD.out (List.getElem?_eq_getElem hlt)
          generalize ds[k] = x at hc hx
          have V0 : ∀ w, Calls Tryd.prog 23 #[.string x] w fun e w' => e = .returned (.tuple #[.int .i64 (F s.data.toList k), .bool (good s.data.toList k)]) ∧ Below w.heap.size w w' := fun w => by
            have h1 := RdS.spec_any x w
            unfold RdRet at h1
            rw [hx] at h1
            exact h1
          have hbase : w.heap.size ≤ b := hown.lt b rfl |>.1
          have hsz := hbel.size
          have HG := Lib.hid (fun h => ok_no (l := s.data.toList) (k := k) (by rw [← HL.out]; exact hlt) h)
          generalize hy : F s.data.toList k = y at V0
          have HY := Lib.hid hy
          clear hx hy e2
          cases hgd : good s.data.toList k with
          | false =>
            rw [hgd] at V0
            have HGD := Lib.hid hgd
            have V := Lib.hid V0
            clear V0 hgd
            go_wp2_with (go_at_call 23; refine (V.out _).mono ?_; rintro e w2 ⟨rfl, hb2'⟩)
            go_ret2
            exact rl_no (HG.out HGD.out) (hbel.trans (hb2'.mono hbel.size))
          | true =>
            rw [hgd] at V0
            have HGD := Lib.hid hgd
            have V := Lib.hid V0
            clear V0 hgd
            go_wp2_with (first
              | (go_at_call 23; refine (V.out _).mono ?_; rintro e w2 ⟨rfl, hb2'⟩; have hown2 := owns_below hown hb2'; have hsz2 : w.heap.size ≤ w2.heap.size := Nat.le_trans hsz hb2'.size)
              | (at_builtin; refine wpList_append_lies _ rfl (.tmp 34) (.tmp 36) 22 rfl w.heap.size 2 i0 (.int .i64 0) 1 8 Tryd.underlying22 hi hz0 hz1 hz2 rfl (by decide) _ k (intV (F s.data.toList) k) rfl (hown2.alloc _) ⟨w2.heap.size, 0, none⟩ 1 1 [.int .i64 _] rfl rfl ((lit_int hsz2 _).cells rfl) (one_int _) (by omega) (by unfold maxLen; omega) (by omega) (by simp; omega) _ rfl ?_; intro g' cap' w3 ho hg hl _))
            have R := NRel.more hlt hk HY.out HGD.out hall.out hbel hb2' hbk hH hS hbase ho hg hl
            go_roundg (gk - 1)
            case measure => omega
            case rel => exact R
        · obtain rfl : k = ds.length := by omega
          have hbase : w.heap.size ≤ b := hown.lt b rfl |>.1
          have HY := Lib.hid (ok_yes (l := s.data.toList) (fun i hi => hall.out i (by rw [HL.out]; exact hi)) (by rw [← HL.out]; exact h65))
          have HR := Lib.hid (rl_yes HY.out ds.length HL.out hown hbase hbel)
          clear hown hall hbk hS hk hlt
          go_wp2
          go_ret2
          exact HR.out
end Go.Proofs.YtonkjignljdfgaaDoor.Rl
