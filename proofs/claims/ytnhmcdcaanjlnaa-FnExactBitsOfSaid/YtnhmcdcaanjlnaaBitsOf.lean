/- The program's BitsOf and the reference's give the same number. -/
import Derived.Test.YtnhmcdcaanjlnaaBits
namespace Go.Proofs.Ytnhmcdcaanjlnaa.BitsOf
open Go.RowKit Go.Proofs.Ytnhmcdcaanjlnaa.FW Go.Proofs.Ytnhmcdcaanjlnaa.Bits

theorem spec_any (x : Nat) (w : World) (hw : (Lit.float .f32 x).wf = true) :
    Calls Try.prog 12 #[.float .f32 x] w fun e w' => e = .returned (.int .i64 (bitsOf x)) ∧ w = w' := by
  go_enter Try.func12, Try.ntmps12
  go_wp2_with (go_at_call 16; refine (l01_any _ _ hw).mono ?_; rintro e w' ⟨rfl, rfl⟩)
  go_ret
  exact ⟨rfl, rfl⟩

theorem impl_any (x : Nat) (w : World) (hw : (Lit.float .f32 x).wf = true) :
    Calls Try.prog 13 #[.float .f32 x] w fun e w' => e = .returned (.int .i64 (bitsOf x)) ∧ w = w' := by
  have hlt := wf32 hw
  clear hw
  cases h : isN .f32 x with
  | true =>
    have hb := Lib.hid (bits_nan h)
    have hn := neq_nan h
    clear h
    go_enter Try.func13, Try.ntmps13
    go_wp2
    go_ret
    exact ⟨ret_int hb.out.symm, rfl⟩
  | false =>
    have hb := Lib.hid (bits_num h)
    have hn := neq_num h
    clear h
    go_enter Try.func13, Try.ntmps13
    go_wp2
    go_ret
    exact ⟨ret_int hb.out.symm, rfl⟩

/-- The law's walk. -/
theorem walk (a0 : Nat) (w : World) (w0 : (Lit.float .f32 a0).wf = true) :
    Calls Try.prog 6 #[.float .f32 a0] w fun e w' => e = .returned (.bool true) ∧ Below w.heap.size w w' := by
  go_enter Try.func6, Try.ntmps6
  generalize hb : bitsOf a0 = b
  have H := Lib.hid hb; clear hb
  go_wp2_with (first
    | (go_at_call 12; refine (spec_any _ _ w0).mono ?_; rw [H.out]; rintro e w' ⟨rfl, rfl⟩)
    | (go_at_call 13; refine (impl_any _ _ w0).mono ?_; rw [H.out]; rintro e w' ⟨rfl, rfl⟩))
  all_goals (go_ret; exact ⟨rfl, Below.refl _ _⟩)
end Go.Proofs.Ytnhmcdcaanjlnaa.BitsOf
