/- The program's FlushNumber and the reference's give the same number. -/
import Derived.Test.YtogclingihelaaaSubnormal
import Derived.Test.YtogclingihelaaaFromBits
namespace Go.Proofs.Ytogclingihelaaa.Flush
open Go.RowKit Go.Proofs.Ytogclingihelaaa.FW Go.Proofs.Ytogclingihelaaa.FT Go.Proofs.Ytogclingihelaaa.Bits Go.Proofs.Ytogclingihelaaa.F32 Go.Proofs.Ytogclingihelaaa.Subnormal
open Go.Proofs.Ytogclingihelaaa.SameNumber (rg_le wf_lt)

def zeroOf (x : Nat) : Nat := if sg x then 2147483648 else 0
def flushF (x : Nat) : Nat := if lowB x = true then zeroOf x else x

theorem low_num' {x : Nat} (h : lowB x = true) : isN .f32 x = false := by
  cases hn : isN .f32 x with
  | false => rfl
  | true => rw [low_nan hn] at h; cases h

theorem flush_low {x : Nat} (h : lowB x = true) : flushF x = zeroOf x := if_pos h
theorem flush_high {x : Nat} (h : lowB x = false) : flushF x = x := if_neg (by rw [h]; exact Bool.false_ne_true)

theorem zero_self {x : Nat} (hx : x < 4294967296) (h : rg x = 0) : zeroOf x = x := by
  have := split hx
  rw [h] at this
  unfold zeroOf
  rw [this]
  have e : ∀ s, Ieee.single.word s 0 = if s then 2147483648 else 0 := by intro s; cases s <;> rfl
  rw [e]
  cases sg x <;> rfl

/-- Where it isn't subnormal nothing changes. -/
theorem flush_not {x : Nat} (hx : x < 4294967296) (h : subB x = false) : flushF x = x := by
  cases hl : lowB x with
  | false => exact flush_high hl
  | true =>
    rw [flush_low hl]
    refine zero_self hx ?_
    unfold subB at h
    rw [hl, Bool.and_true] at h
    have := of_decide_eq_false h
    omega

theorem sub_low {x : Nat} (h : subB x = true) : lowB x = true := by
  unfold subB at h
  cases hl : lowB x with
  | true => rfl
  | false => rw [hl, Bool.and_false] at h; cases h

/-- The zero of its sign, narrowed. -/
theorem narrow_zero (s : Bool) : Fits (if s then 9223372036854775808 else 0) ∧ narrow (if s then 9223372036854775808 else 0) = if s then 2147483648 else 0 := by
  have h := near_zero Ieee.single s (-1074)
  have hd : FloatKind.f64.decode (if s then 9223372036854775808 else 0) = .number s 0 (-1074) := by cases s <;> decide
  have he : FloatKind.f32.encode (.number s 0 (-1074)) = if s then 2147483648 else 0 := by
    show Ieee.single.nearest s 0 (-1074) = _
    rw [h]; cases s <;> rfl
  have hi : (FloatKind.f32.decode (if s then 2147483648 else 0)).isInfinity = false := by cases s <;> decide
  have hb : floatToFloatBits .f64 (if s then 9223372036854775808 else 0) .f32 = some (if s then 2147483648 else 0) := by
    unfold floatToFloatBits
    rw [if_neg (by decide)]
    simp only [hd, he, hi]
    rfl
  exact ⟨.inr (by rw [hb]; rfl), by unfold narrow; rw [hb]; rfl⟩

theorem sgn_wide {x : Nat} (h : isN .f32 x = false) : M.sgn63 (wide x) = if sg x then 9223372036854775808 else 0 := by
  obtain ⟨R, hR, hw⟩ := wide_word (rg_le h)
  unfold M.sgn63
  rw [hw]; exact (word64 _ (Nat.lt_of_le_of_lt hR inf64_lt)).2.2.2

theorem fits_low {x r : Nat} (h : lowB x = true) (hr : Same .f64 r (wide x)) : Fits (M.sgn63 r) := by
  have hn := low_num' h
  rw [hr.eq (wide_num (rg_le hn)), sgn_wide hn]
  exact (narrow_zero _).1
theorem narrow_low {x r s : Nat} (h : lowB x = true) (hr : Same .f64 r (wide x)) (hs : Same .f32 s (narrow (M.sgn63 r))) : Same .f32 s (flushF x) := by
  have hn := low_num' h
  rw [hr.eq (wide_num (rg_le hn)), sgn_wide hn, (narrow_zero _).2] at hs
  rw [flush_low h]
  exact hs

/-- The reference's sign mask. -/
theorem mask_sign {x : Nat} (hx : x < 4294967296) : (bits .and .i64 (x : Int) 2147483648).toNat = zeroOf x ∧ 0 ≤ bits .and .i64 (x : Int) 2147483648 ∧ bits .and .i64 (x : Int) 2147483648 ≤ 4294967295 := by
  have h1 := (bits_nat .i64 63 (by decide) (fun n h0 h1 => by rw [IntKind.wrap_i64]; omega) x 2147483648 (by omega) (by decide)).1
  have h2 := M.and_one_bit x 31 (by omega)
  have e : bits .and .i64 (x : Int) 2147483648 = ((x / 2147483648 * 2147483648 : Nat) : Int) := by
    rw [show (2147483648 : Int) = ((2147483648 : Nat) : Int) from rfl, h1]
    congr 1
  rw [e]
  refine ⟨?_, by omega, by omega⟩
  unfold zeroOf sg
  rw [Int.toNat_natCast]
  by_cases h : x / 2147483648 % 2 = 1
  · rw [if_pos (by simpa using h)]; omega
  · rw [if_neg (by simpa using h)]; omega

theorem spec_l01 (x : Nat) (w : World) (wx : (Lit.float .f32 x).wf = true) :
    Calls Try.prog 49 #[.float .f32 x] w (FRet .f32 (flushF x) w) := by
  have hb := bits_low (wf_lt wx)
  cases hl : lowB x with
  | false =>
    rw [hl] at hb
    have K := Lib.hid (flush_high hl)
    clear hl
    go_enter Try.func49, Try.ntmps49
    go_wp2_with (go_at_call 40; refine (l01_any _ _ wx).mono ?_; rintro e w' ⟨rfl, rfl⟩)
    go_ret
    exact fret0 (by rw [K.out]; exact Same.refl _ _)
  | true =>
    rw [hl] at hb
    have K := Lib.hid (flush_low hl)
    obtain ⟨hm, hm0, hm1⟩ := mask_sign (wf_lt wx)
    rw [← bits_num (low_num' hl)] at hm hm0 hm1
    generalize hB : bits .and .i64 (bitsOf x) 2147483648 = B at hm hm0 hm1
    have hm' := Lib.hid hm
    clear hl hm
    go_enter Try.func49, Try.ntmps49
    go_wp2_with (first
      | (go_at_call 40; refine (l01_any _ _ wx).mono ?_; rintro e w' ⟨rfl, rfl⟩)
      | (go_at_call 47; go_in))
    go_ret
    exact fret0 (by rw [K.out, ← hm'.out]; exact Same.refl _ _)

theorem spec_any (x : Nat) (w : World) (wx : (Lit.float .f32 x).wf = true) :
    Calls Try.prog 24 #[.float .f32 x] w (FRet .f32 (flushF x) w) := by
  go_enter Try.func24, Try.ntmps24
  go_wp2_with (go_at_call 49; refine (spec_l01 _ _ wx).mono ?_; rintro e w' ⟨r, n, rfl, hr, rfl⟩)
  go_ret
  exact fret hr

theorem impl_any (x : Nat) (w : World) (wx : (Lit.float .f32 x).wf = true) :
    Calls Try.prog 25 #[.float .f32 x] w (FRet .f32 (flushF x) w) := by
  cases hs : subB x with
  | false =>
    have K := Lib.hid (flush_not (wf_lt wx) hs)
    have C := Subnormal.impl_any x
    rw [hs] at C
    have C' := Lib.hid C
    clear hs C
    go_enter Try.func25, Try.ntmps25
    go_wp2_with (go_at_call 16; refine (C'.out _).mono ?_; rintro e w' ⟨n, rfl, rfl⟩)
    go_ret
    exact fret (by rw [K.out]; exact Same.refl _ _)
  | true =>
    have L := Lib.hid (sub_low hs)
    have C := Subnormal.impl_any x
    rw [hs] at C
    have C' := Lib.hid C
    clear hs C
    go_enter Try.func25, Try.ntmps25
    go_wp2_with (first
      | (go_at_call 16; refine (C'.out _).mono ?_; rintro e w' ⟨n, rfl, rfl⟩)
      | ((with_reducible refine wpList_wideB SameFloat.some32 Try.underlying32 (by with_unfolding_all rfl) (by with_unfolding_all rfl) ?_); intro r n hr hlt)
      | (go_at_call 50; refine (M.copysign0_any _ _ (by assumption)).mono ?_; rintro e w' ⟨rfl, rfl⟩)
      | ((with_reducible refine wpList_narrow SameFloat.some64 Try.underlying23 (by with_unfolding_all rfl) (by with_unfolding_all rfl) (fits_low L.out (by assumption)) ?_); intro s n hs))
    go_ret
    exact fret (narrow_low L.out hr hs)

/-- The law's walk. -/
theorem walk (a0 : Nat) (w : World) (w0 : (Lit.float .f32 a0).wf = true) :
    Calls Try.prog 8 #[.float .f32 a0] w fun e w' => e = .returned (.bool true) ∧ Below w.heap.size w w' := by
  go_enter Try.func8, Try.ntmps8
  go_wp2_with (first
    | (go_at_call 24; refine (spec_any _ _ w0).mono ?_; rintro e w' ⟨r, n, rfl, hr, rfl⟩)
    | (go_at_call 25; refine (impl_any _ _ w0).mono ?_; rintro e w' ⟨s, n, rfl, hs, rfl⟩)
    | ((with_reducible refine wpList_wide SameFloat.some32 Try.underlying32 (by with_unfolding_all rfl) (by with_unfolding_all rfl) ?_); intro r' n hr')
    | (go_at_call 23; refine (SameFloat.wide_any _ (by assumption) (by assumption) (hs.trans hr.symm)).mono ?_; rintro e w' ⟨n, rfl, rfl⟩))
  all_goals (go_ret; exact ⟨rfl, below_drewN (Below.refl _ _) _⟩)
end Go.Proofs.Ytogclingihelaaa.Flush
