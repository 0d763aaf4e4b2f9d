/- The program's RootNumber and the reference's give the same number. -/
import Derived.Test.YtogclingihelaaaSameFloat
import Derived.Test.YtogclingihelaaaF32
import Derived.Test.YtogclingihelaaaFB
namespace Go.Proofs.Ytogclingihelaaa.Root
open Go.RowKit Go.Proofs.Ytogclingihelaaa.FW Go.Proofs.Ytogclingihelaaa.FT Go.Proofs.Ytogclingihelaaa.F32 Go.Proofs.Ytogclingihelaaa.FB
open Ieee (Datum)

theorem run_sqrt (x : Nat) (w : World) :
    ∃ r n, Same .f64 r (fsqrt x) ∧ (callFunc 62 #[.float .f64 x]).run Try.prog w = .ok (.value (.float .f64 r)) (w.drewN n) := by
  have h1 := run_callFunc_extern Try.func62 (by kernel_rfl) (by kernel_rfl) (by kernel_rfl) (e := Extern.MathSqrt.sqrt) (by kernel_rfl) #[.float .f64 x] w
  have e : Extern.MathSqrt.sqrt #[.float .f64 x] = (match FloatKind.f64.format.sqrt x with
      | some r => pure (.float .f64 r)
      | none => do pure (.float .f64 (← choose (.nanBits .f64 x x)))) := rfl
  cases h : FloatKind.f64.format.sqrt x with
  | some r =>
    refine ⟨r, 0, .inl (by simp [fsqrt, h]), ?_⟩
    rw [h1, e, h]
    rfl
  | none =>
    refine ⟨(Question.nanBits .f64 x x).cut (w.tape w.drawn (.nanBits .f64 x x)), 1, .inr ⟨cut_nanBits .., by simp [fsqrt, h, isN_cnan]⟩, ?_⟩
    rw [h1, e, h]
    rfl

theorem sqrt_any (x : Nat) (w : World) : Calls Try.prog 55 #[.float .f64 x] w (FRet .f64 (fsqrt x) w) := by
  obtain ⟨r, n, hr, hrun⟩ := run_sqrt x w
  go_enter Try.func55, Try.ntmps55
  go_wp2
  go_ret
  exact fret hr

theorem nan_wide {x : Nat} (h : isN .f32 x = true) : isN .f64 (wide x) = true := by
  obtain ⟨s, t, hd⟩ := decode_nan h
  have : wide x = cnan .f64 := by simp [wide, floatToFloatBits, hd]
  rw [this]; exact isN_cnan _

/-- No square root of a float32 overflows. -/
theorem root_fits (x : Nat) : Fits (fsqrt (wide x)) := by
  have hc : Fits (cnan .f64) := .inl (isN_cnan _)
  cases hn : isN .f32 x with
  | true =>
    have h := nan_wide hn
    obtain ⟨s, t, hd⟩ := decode_nan h
    have : fsqrt (wide x) = cnan .f64 := by
      have hd' : Ieee.double.read (wide x) = .nan s t := hd
      unfold fsqrt
      show ((Ieee.double.sqrt (wide x))).getD _ = _
      unfold Ieee.Format.sqrt
      rw [hd']; rfl
    rw [this]; exact hc
  | false =>
    have hr : rg x ≤ 2139095040 := by
      rw [isN_iff] at hn
      have := of_decide_eq_false hn
      omega
    rcases Nat.lt_or_ge (rg x) 2139095040 with h1 | h1
    · obtain ⟨R, hR, hv, hw⟩ := wide_fin h1
      have hlt : val Ieee.single (rg x) < p2 5128 := single_lt (w := x) h1
      have hnum : N64 (wide x) (sg x) (val Ieee.double R) := by rw [hw]; exact read_word good_double _ hR
      cases hs : sg x with
      | false =>
        rw [hs] at hnum
        obtain ⟨r, h2, h3⟩ := sqrt_fits (A := 64) hnum (by rw [hv]; exact Nat.le_of_lt hlt) rfl (by decide)
        have : fsqrt (wide x) = r := by
          unfold fsqrt
          show (Ieee.double.sqrt (wide x)).getD _ = _
          rw [h2]; rfl
        rw [this]
        exact h3
      | true =>
        rw [hs] at hnum
        obtain ⟨m, i, hd, hi, hm, _⟩ := hnum
        unfold fsqrt
        show Fits ((Ieee.double.sqrt (wide x)).getD _)
        unfold Ieee.Format.sqrt
        rw [hd]
        unfold Datum.root
        simp only []
        by_cases h0 : m = 0
        · subst h0
          rw [if_pos rfl]
          show Fits (Ieee.double.nearest true 0 i)
          rw [near_zero]
          have h3 := read_word good_double true (r := 0) (by decide)
          rw [val_zero] at h3
          exact fits_le h3 (Nat.zero_le _)
        · rw [if_neg h0]
          simpa using hc
    · have hw := wide_inf (x := x) (by omega)
      have hi : Ieee.double.read (wide x) = .infinity (sg x) := by rw [hw]; exact read_inf (by decide) _
      unfold fsqrt
      show Fits ((Ieee.double.sqrt (wide x)).getD _)
      unfold Ieee.Format.sqrt
      rw [hi]
      cases sg x
      · exact fits_inf (s := false) (read_inf (f := Ieee.double) (by decide) false)
      · exact hc

theorem l01_any (x : Nat) (w : World) : Calls Try.prog 54 #[.float .f32 x] w (FRet .f32 (narrow (fsqrt (wide x))) w) := by
  have F := Lib.hid (root_fits x)
  go_enter Try.func54, Try.ntmps54
  go_wp2_with (first
    | ((with_reducible refine wpList_wide SameFloat.some32 Try.underlying32 (by with_unfolding_all rfl) (by with_unfolding_all rfl) ?_); intro r n hr)
    | (go_at_call 55; refine (sqrt_any _ _).mono ?_; rintro e w' ⟨s, n, rfl, hs, rfl⟩; rw [fsqrt_same hr] at hs)
    | (go_at_call 61; go_in)
    | ((with_reducible refine wpList_narrow SameFloat.some64 Try.underlying23 (by with_unfolding_all rfl) (by with_unfolding_all rfl) (hs.fits F.out) ?_); intro t n ht; rw [narrow_same hs] at ht))
  go_ret
  exact fret ht

theorem spec_any (x : Nat) (w : World) : Calls Try.prog 32 #[.float .f32 x] w (FRet .f32 (narrow (fsqrt (wide x))) w) := by
  go_enter Try.func32, Try.ntmps32
  go_wp2_with (go_at_call 54; refine (l01_any _ _).mono ?_; rintro e w' ⟨r, n, rfl, hr, rfl⟩)
  go_ret
  exact fret hr

theorem impl_any (x : Nat) (w : World) : Calls Try.prog 33 #[.float .f32 x] w (FRet .f32 (narrow (fsqrt (wide x))) w) := by
  have F := Lib.hid (root_fits x)
  go_enter Try.func33, Try.ntmps33
  go_wp2_with (first
    | ((with_reducible refine wpList_wide SameFloat.some32 Try.underlying32 (by with_unfolding_all rfl) (by with_unfolding_all rfl) ?_); intro r n hr)
    | (go_at_call 55; refine (sqrt_any _ _).mono ?_; rintro e w' ⟨s, n, rfl, hs, rfl⟩; rw [fsqrt_same hr] at hs)
    | ((with_reducible refine wpList_narrow SameFloat.some64 Try.underlying23 (by with_unfolding_all rfl) (by with_unfolding_all rfl) (hs.fits F.out) ?_); intro t n ht; rw [narrow_same hs] at ht))
  go_ret
  exact fret ht

/-- The law's walk. -/
theorem walk (a0 : Nat) (w : World) (_ : (Lit.float .f32 a0).wf = true) :
    Calls Try.prog 11 #[.float .f32 a0] w fun e w' => e = .returned (.bool true) ∧ Below w.heap.size w w' := by
  go_enter Try.func11, Try.ntmps11
  go_wp2_with (first
    | (go_at_call 32; refine (spec_any _ _).mono ?_; rintro e w' ⟨r, n, rfl, hr, rfl⟩)
    | (go_at_call 33; refine (impl_any _ _).mono ?_; rintro e w' ⟨s, n, rfl, hs, rfl⟩)
    | ((with_reducible refine wpList_wide SameFloat.some32 Try.underlying32 (by with_unfolding_all rfl) (by with_unfolding_all rfl) ?_); intro r' n hr')
    | (go_at_call 23; refine (SameFloat.wide_any _ (by assumption) (by assumption) (hs.trans hr.symm)).mono ?_; rintro e w' ⟨n, rfl, rfl⟩))
  all_goals (go_ret; exact ⟨rfl, below_drewN (Below.refl _ _) _⟩)
end Go.Proofs.Ytogclingihelaaa.Root
