/- The program's IsSubnormal and the reference's answer the same Bool. -/
import Derived.Test.YtogclingihelaaaSameNumber
namespace Go.Proofs.Ytogclingihelaaa.Subnormal
open Go.RowKit Go.Proofs.Ytogclingihelaaa.FW Go.Proofs.Ytogclingihelaaa.FT Go.Proofs.Ytogclingihelaaa.Bits Go.Proofs.Ytogclingihelaaa.F32
open Go.Proofs.Ytogclingihelaaa.SameNumber (rg_le wf_lt)

def lowB (x : Nat) : Bool := decide (rg x < 8388608)
def subB (x : Nat) : Bool := decide (rg x ≠ 0) && lowB x

theorem sub_zero {x : Nat} (h : (FloatKind.f32.format.order x 0 != some .eq) = false) : subB x = false := by
  rw [ne_zero] at h
  unfold subB; rw [h]; rfl
theorem sub_ne {x : Nat} (h : (FloatKind.f32.format.order x 0 != some .eq) = true) : subB x = lowB x := by
  rw [ne_zero] at h
  unfold subB; rw [h]; rfl

/-- The reference's mask. -/
theorem mask {x : Nat} (hx : x < 4294967296) : bits .and .i64 (x : Int) 2139095040 = ((x / 8388608 % 256 * 8388608 : Nat) : Int) := by
  have h1 := (bits_nat .i64 63 (by decide) (fun n h0 h1 => by rw [IntKind.wrap_i64]; omega) x 2139095040 (by omega) (by decide)).1
  have h2 := M.and_shift x 255 23
  have h3 : x / 2 ^ 23 &&& 255 = x / 8388608 % 256 := Nat.and_two_pow_sub_one_eq_mod (x / 2 ^ 23) 8
  rw [show (2139095040 : Int) = ((2139095040 : Nat) : Int) from rfl, h1]
  rw [show (2139095040 : Nat) = 255 * 2 ^ 23 from rfl, h2, h3]

theorem mask_zero {x : Nat} (hx : x < 4294967296) : (bits .and .i64 (x : Int) 2139095040 == 0) = lowB x := by
  rw [mask hx]
  unfold lowB rg
  by_cases h : x % 2147483648 < 8388608
  · rw [decide_eq_true h, beq_iff_eq]
    have : x / 8388608 % 256 = 0 := by omega
    rw [this]; rfl
  · rw [decide_eq_false h, beq_eq_false_iff_ne]
    have : x / 8388608 % 256 ≠ 0 := by omega
    omega

theorem low_nan {x : Nat} (h : isN .f32 x = true) : lowB x = false := by
  rw [isN_iff] at h
  have := of_decide_eq_true h
  exact decide_eq_false (by omega)

/-- 2 ^ -126 as a float64. -/
def least : Nat := 4039728865751334912
theorem least_num : Num Ieee.double (Ieee.double.read least) false (2 ^ 4874) := by
  have h := read_num good_double (w := least) (by decide)
  have e : val Ieee.double (least % Ieee.double.signWeight) = 2 ^ 4874 := by
    have := val_pow (f := Ieee.double) (K := 4874) (by decide)
    rw [← this]; congr 1
  rw [e] at h
  exact h

theorem low_num {x : Nat} (h : isN .f32 x = false) : (FloatKind.f64.format.order (M.mag63 (wide x)) least == some .lt) = lowB x := by
  have hr := rg_le h
  show ((Ieee.double.read (M.mag63 (wide x))).order (Ieee.double.read least) == some .lt) = _
  rcases Nat.lt_or_ge (rg x) 2139095040 with h1 | h1
  · obtain ⟨R, hR, hv, hw⟩ := wide_fin h1
    have hm : M.mag63 (wide x) = Ieee.double.word false R := by
      unfold M.mag63; rw [hw]; exact (word64 _ (Nat.lt_trans hR inf64_lt)).1
    rw [hm, order_num good_double (read_word good_double false hR) least_num, hv]
    have hp := val_pow (f := Ieee.single) (K := 4874) (by decide)
    have e : (4874 - lpN Ieee.single - Ieee.single.fractionBits + 1) * Ieee.single.binade = 8388608 := by decide
    rw [e] at hp
    rw [← hp]
    unfold lowB
    by_cases hlow : rg x < 8388608
    · rw [decide_eq_true hlow]
      have := val_lt (f := Ieee.single) hlow
      rw [Int.compare_eq_lt.2 (by unfold iv; simp only [Bool.false_eq_true, if_false]; omega)]; rfl
    · rw [decide_eq_false hlow]
      have := (val_le (f := Ieee.single) (r₁ := 8388608) (r₂ := rg x)).2 (by omega)
      cases hc : compare (iv false (val Ieee.single (rg x))) (iv false (val Ieee.single 8388608)) with
      | lt =>
        exfalso
        have := Int.compare_eq_lt.1 hc
        unfold iv at this; simp only [Bool.false_eq_true, if_false] at this; omega
      | eq => rfl
      | gt => rfl
  · have hm : M.mag63 (wide x) = Ieee.double.word false Ieee.double.infRung := by
      unfold M.mag63; rw [wide_inf (by omega)]; exact (word64 _ inf64_lt).1
    obtain ⟨m, e, hd, _⟩ := least_num
    rw [hm, read_inf (by decide), hd]
    unfold lowB
    rw [decide_eq_false (by omega)]
    rfl

theorem mag_nan {r : Nat} (h : isN .f64 r = true) : isN .f64 (M.mag63 r) = true := by
  rcases Nat.lt_or_ge Ieee.double.infRung (r % Ieee.double.signWeight) with h1 | h1
  · refine isN_of .f64 _ ?_
    have : M.mag63 r % 9223372036854775808 = r % 9223372036854775808 := by unfold M.mag63; omega
    show Ieee.double.infRung < M.mag63 r % 9223372036854775808
    rw [this]; exact h1
  · exfalso
    have hf : isN .f64 r = false := by
      unfold isN
      show (Ieee.double.read r).isNaN = false
      rcases Nat.lt_or_ge (r % Ieee.double.signWeight) Ieee.double.infRung with h2 | h2
      · obtain ⟨m, e, hd, _⟩ := read_num good_double h2
        rw [hd]; rfl
      · have h' : r % Ieee.double.signWeight = Ieee.double.infRung := by omega
        have hb : Ieee.double.binade ≤ Ieee.double.infRung := by decide
        unfold Ieee.Format.read
        simp only [h']
        rw [if_neg (by omega), if_neg (by omega)]
        simp [Ieee.Datum.isNaN]
    rw [hf] at h; cases h

/-- Behind the conversion and math.Abs: the same Bool. -/
theorem low_same {x r : Nat} (h : Same .f64 r (wide x)) : (FloatKind.f64.format.order (M.mag63 r) least == some .lt) = lowB x := by
  cases hn : isN .f32 x with
  | false => rw [h.eq (wide_num (rg_le hn))]; exact low_num hn
  | true =>
    have hw : isN .f64 (wide x) = true := by
      obtain ⟨s, t, hd⟩ := decode_nan hn
      have : wide x = cnan .f64 := by simp [wide, floatToFloatBits, hd]
      rw [this]; exact isN_cnan _
    have hr : isN .f64 r = true := by rw [h.isN, hw]
    rw [order_nan_left _ (mag_nan hr), low_nan hn]; rfl

theorem bits_low {x : Nat} (hx : x < 4294967296) : (bits .and .i64 (bitsOf x) 2139095040 == 0) = lowB x := by
  cases hn : isN .f32 x with
  | false => rw [bits_num hn]; exact mask_zero hx
  | true =>
    rw [bits_nan hn, low_nan hn]
    exact mask_zero (x := 2143289344) (by omega)

theorem spec_any (x : Nat) (w : World) (wx : (Lit.float .f32 x).wf = true) :
    Calls Try.prog 15 #[.float .f32 x] w fun e w' => e = .returned (.bool (subB x)) ∧ w = w' := by
  have H := Lib.hid (bits_low (wf_lt wx))
  cases h0 : (FloatKind.f32.format.order x 0 != some .eq) with
  | false =>
    have K := Lib.hid (sub_zero h0)
    go_enter Try.func15, Try.ntmps15
    go_wp2
    go_ret
    exact ⟨M.ret_bool K.out.symm, rfl⟩
  | true =>
    have K := Lib.hid (sub_ne h0)
    go_enter Try.func15, Try.ntmps15
    go_wp2_with (go_at_call 40; refine (l01_any _ _ wx).mono ?_; rintro e w' ⟨rfl, rfl⟩)
    go_ret
    exact ⟨M.ret_bool (by rw [K.out]; exact H.out), rfl⟩

theorem impl_any (x : Nat) (w : World) :
    Calls Try.prog 16 #[.float .f32 x] w (BRet (subB x) w) := by
  cases h0 : (FloatKind.f32.format.order x 0 != some .eq) with
  | false =>
    have K := Lib.hid (sub_zero h0)
    go_enter Try.func16, Try.ntmps16
    go_wp2
    go_ret
    exact bret0 K.out.symm
  | true =>
    have K := Lib.hid (sub_ne h0)
    go_enter Try.func16, Try.ntmps16
    go_wp2_with (first
      | ((with_reducible refine wpList_wideB SameFloat.some32 Try.underlying32 (by with_unfolding_all rfl) (by with_unfolding_all rfl) ?_); intro r n hr hlt)
      | (go_at_call 41; refine (M.abs_any _ _ (by assumption)).mono ?_; rintro e w' ⟨rfl, rfl⟩))
    go_ret
    exact bret (by rw [K.out]; exact low_same hr)

/-- The law's walk. -/
theorem walk (a0 : Nat) (w : World) (w0 : (Lit.float .f32 a0).wf = true) :
    Calls Try.prog 4 #[.float .f32 a0] w fun e w' => e = .returned (.bool true) ∧ Below w.heap.size w w' := by
  go_enter Try.func4, Try.ntmps4
  generalize hb : subB a0 = b
  have H := Lib.hid hb; clear hb
  go_wp2_with (first
    | (go_at_call 15; refine (spec_any _ _ w0).mono ?_; rw [H.out]; rintro e w' ⟨rfl, rfl⟩)
    | (go_at_call 16; refine (impl_any _ _).mono ?_; rw [H.out]; rintro e w' ⟨n, rfl, rfl⟩))
  all_goals (go_ret; exact ⟨rfl, below_drewN (Below.refl _ _) _⟩)
end Go.Proofs.Ytogclingihelaaa.Subnormal
