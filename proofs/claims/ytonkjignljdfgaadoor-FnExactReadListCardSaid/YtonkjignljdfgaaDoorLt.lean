/- The walks of the two writers of a list's text. -/
import Derived.Test.YtonkjignljdfgaaDoorRd
import Derived.Test.YtonkjignljdfgaaDoorLtP
import Derived.Test.YtonkjignljdfgaaDoorSlI
import Derived.Test.YtonkjignljdfgaaDoorShelfJ
namespace Go.Proofs.YtonkjignljdfgaaDoor.Lt
open Go.RowKit Go.Proofs.YtonkjignljdfgaaDoor.Dec Go.Proofs.YtonkjignljdfgaaDoor.DecT Go.Proofs.YtonkjignljdfgaaDoor.Rd Go.Proofs.YtonkjignljdfgaaDoor.LtP Go.Proofs.YtonkjignljdfgaaDoor.SlI

theorem ret_bool {a b : Bool} (h : a = b) : Ending.returned (.bool a) = Ending.returned (.bool b) := by rw [h]

/-! ### Are they all in range, and few? -/
theorem list_any (a : Option Addr) (n cap : Nat) (f : Nat → Int) (w : World) (h : Rd w a n f) (hn : n ≤ 1048576) :
    Calls Tryd.prog 19 #[.slice a n cap] w fun e w' => e = .returned (.bool (valsB n f)) ∧ w = w' := by
  have H := Lib.hid h
  clear h
  go_enter Tryd.func19, Tryd.ntmps19
  go_wp2
  go_loopg [3] n (fun g i wr => ∃ k : Nat, k + g = n ∧ Hid (∀ j, j < k → inB (f j) = true) ∧ i = .int .i64 (k : Int) ∧ w = wr)
  case atStart => exact ⟨0, by omega, Lib.hid (fun j hj => absurd hj (Nat.not_lt_zero _)), rfl, rfl⟩
  case round =>
    obtain ⟨k, hk, hall, rfl, rfl⟩ := hrel
    by_cases hlt : k < n
    · obtain ⟨b, off, rfl, _, hc⟩ := H.out k hlt
      cases hb : inB (f k) with
      | false =>
        have HN := Lib.hid (vals_no hlt hb)
        have HB := Lib.hid hb
        clear hb
        generalize f k = x at hc HB
        go_wp2_with (go_at_call 30; refine (in_spec _ _ _ HB.out).mono ?_; rintro e w' ⟨rfl, rfl⟩)
        go_ret
        exact ⟨ret_bool HN.out.symm, rfl⟩
      | true =>
        have HS : Hid (∀ j, j < k + 1 → inB (f j) = true) := Lib.hid (fun j hj => by
          rcases Nat.lt_or_ge j k with h1 | h1
          · exact hall.out j h1
          · rw [show j = k from by omega]; exact hb)
        have HB := Lib.hid hb
        clear hb
        generalize f k = x at hc HB
        go_wp2_with (go_at_call 30; refine (in_spec _ _ _ HB.out).mono ?_; rintro e w' ⟨rfl, rfl⟩)
        go_roundg (gk - 1)
        case measure => omega
        case rel => exact ⟨k + 1, by omega, HS, by go_num, rfl⟩
    · obtain rfl : k = n := by omega
      have HV := Lib.hid (vals_all hall.out)
      clear hk hlt hall H
      go_wp2
      go_ret
      exact ⟨ret_bool (by rw [HV.out]; exact decide_eq_decide.2 (by omega)), rfl⟩

theorem are_any (a : Option Addr) (n cap : Nat) (f : Nat → Int) (w : World) (h : Rd w a n f) (hn : n ≤ 1048576) :
    Calls Tryd.prog 21 #[.slice a n cap] w fun e w' => e = .returned (.bool (valsB n f)) ∧ w = w' := by
  have H := Lib.hid h
  clear h
  go_enter Tryd.func21, Tryd.ntmps21
  go_wp2
  go_loopg [7] n (fun g i wr => ∃ k : Nat, k + g = n ∧ Hid (∀ j, j < k → inB (f j) = true) ∧ i = .int .i64 (k : Int) ∧ w = wr)
  case atStart => exact ⟨0, by omega, Lib.hid (fun j hj => absurd hj (Nat.not_lt_zero _)), rfl, rfl⟩
  case round =>
    obtain ⟨k, hk, hall, rfl, rfl⟩ := hrel
    by_cases hlt : k < n
    · obtain ⟨b, off, rfl, _, hc⟩ := H.out k hlt
      cases hb : inB (f k) with
      | false =>
        have HN := Lib.hid (vals_no hlt hb)
        have HB := Lib.hid hb
        clear hb
        generalize f k = x at hc HB
        go_wp2_with (go_at_call 25; refine (value_any _ _ _ HB.out).mono ?_; rintro e w' ⟨rfl, rfl⟩)
        go_ret
        exact ⟨ret_bool HN.out.symm, rfl⟩
      | true =>
        have HS : Hid (∀ j, j < k + 1 → inB (f j) = true) := Lib.hid (fun j hj => by
          rcases Nat.lt_or_ge j k with h1 | h1
          · exact hall.out j h1
          · rw [show j = k from by omega]; exact hb)
        have HB := Lib.hid hb
        clear hb
        generalize f k = x at hc HB
        go_wp2_with (go_at_call 25; refine (value_any _ _ _ HB.out).mono ?_; rintro e w' ⟨rfl, rfl⟩)
        go_roundg (gk - 1)
        case measure => omega
        case rel => exact ⟨k + 1, by omega, HS, by go_num, rfl⟩
    · obtain rfl : k = n := by omega
      have HV := Lib.hid (vals_all hall.out)
      clear hk hlt hall H
      go_wp2
      go_ret
      exact ⟨ret_bool (by rw [HV.out]; exact decide_eq_decide.2 (by omega)), rfl⟩

theorem cell_at {w : World} {b off n : Nat} {f : Nat → Int} (h : Rd w (some ⟨b, off, none⟩) n f) {k : Nat} (hk : k < n) : b < w.heap.size ∧ w.cell? ⟨b, off + k, none⟩ = some (.int .i64 (f k)) := by
  obtain ⟨b', off', e, h1, h2⟩ := h k hk
  injection e with e
  injection e with e1 e2
  subst e1; subst e2
  exact ⟨h1, h2⟩

theorem data_append (a b : ByteArray) : (a ++ b).data.toList = a.data.toList ++ b.data.toList := by
  rw [ByteArray.data_append, Array.toList_append]
theorem str_size (s : ByteArray) : s.size = s.data.toList.length := by rw [Array.length_toList]; rfl
theorem ret_str' {s : ByteArray} {l : List UInt8} (h : s.data.toList = l) : Ending.returned (.string s) = Ending.returned (.string ⟨l.toArray⟩) := by
  rw [show s = ⟨l.toArray⟩ from bytes_eq (by rw [h])]

/-! ### The reference's text -/
theorem text_any (a : Option Addr) (n cap : Nat) (f : Nat → Int) (w : World) (h : Rd w a n f) (hn : n ≤ 64) (hv : ∀ i, i < n → inB (f i) = true) :
    Calls Tryd.prog 20 #[.slice a n cap] w fun e w' => e = .returned (.string ⟨(textL n f).toArray⟩) ∧ Below w.heap.size w w' := by
  rcases Nat.eq_zero_or_pos n with rfl | hpos
  · clear h hv
    go_enter Tryd.func20, Tryd.ntmps20
    go_wp2
    go_ret
    exact ⟨rfl, Below.refl _ _⟩
  · have H := Lib.hid h
    have HV := Lib.hid hv
    obtain ⟨b, off, rfl, hb, hc⟩ := h 0 hpos
    rw [Nat.add_zero] at hc
    have D0 := Lib.hid (fun w => dec_at (f 0) (f 0) _ rfl rfl (inB_fit (hv 0 hpos)) w)
    have J1 := Lib.hid (J_one f)
    clear h hv
    generalize hx : f 0 = x at hc D0
    have HX := Lib.hid hx
    clear hx
    go_enter Tryd.func20, Tryd.ntmps20
    go_wp2_with (go_at_call 28; refine (D0.out _).mono ?_; rintro e w1 ⟨rfl, hb1⟩)
    go_loopg [3, 4] (n - 1) (fun g o i wr => ∃ (k : Nat) (s : ByteArray), 1 ≤ k ∧ k + g = n ∧ Hid (s.data.toList = J f k) ∧ o = .string s ∧ i = .int .i64 (k : Int) ∧ Below w.heap.size w wr)
    case atStart => exact ⟨1, _, by omega, by omega, Lib.hid (by rw [J1.out, HX.out]), rfl, rfl, hb1⟩
    case round =>
      clear hc D0
      obtain ⟨k, s, hk1, hk, hs, rfl, rfl, hbel⟩ := hrel
      by_cases hlt : k < n
      · obtain ⟨hbb, hc⟩ := cell_at H.out hlt
        have hc' : wr.cell? ⟨b, off + k, none⟩ = some (.int .i64 (f k)) := (hbel.cell (p := ⟨b, off + k, none⟩) hbb).trans hc
        have D := Lib.hid (fun w => dec_at (f k) (f k) _ rfl rfl (inB_fit (HV.out k hlt)) w)
        clear hc hb1
        have hsz := J_len HV.out k hk1 (by omega)
        rw [← hs.out, ← str_size] at hsz
        have hJ := Lib.hid (J_succ f hk1)
        have hys := itoa_le (f k) (HV.out k hlt)
        generalize f k = y at hc' D hJ hys
        have hts : (⟨(Lib.itoa y).toArray⟩ : ByteArray).size ≤ 21 := by rw [str_size]; simpa using hys
        clear hys
        generalize ht : (⟨(Lib.itoa y).toArray⟩ : ByteArray) = t at D hts
        have HT := Lib.hid ht
        clear ht
        go_wp2_with (go_at_call 28; refine (D.out _).mono ?_; rintro e w2 ⟨rfl, hb2⟩)
        go_roundg (gk - 1)
        case measure => omega
        case rel => exact ⟨k + 1, _, by omega, by omega, Lib.hid (by rw [hJ.out, data_append, data_append, hs.out, ← HT.out]), rfl, by go_num, hbel.trans (hb2.mono hbel.size)⟩
      · obtain rfl : k = n := by omega
        clear hk hlt
        go_wp2
        go_ret
        exact ⟨ret_str' (by rw [hs.out, text_pos f hpos]), hbel⟩
end Go.Proofs.YtonkjignljdfgaaDoor.Lt
