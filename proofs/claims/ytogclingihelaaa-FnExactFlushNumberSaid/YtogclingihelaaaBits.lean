/- The bits of a float32, as the program's BitsOf and the reference's l01Bits give them. -/
import Derived.Test.YtogclingihelaaaRows
import Derived.Test.YtogclingihelaaaFW
namespace Go.Proofs.Ytogclingihelaaa.Bits
open Go.RowKit Go.Proofs.Ytogclingihelaaa.FW

def bitsOf (x : Nat) : Int := if isN .f32 x = true then 2143289344 else (x : Int)

@[go_sem] theorem run_bits32 (x : Nat) (w : World) : (callFunc 58 #[.float .f32 x]).run Try.prog w = .ok (.value (.int .u32 x)) w := by
  rw [run_callFunc_extern Try.func58 (by kernel_rfl) (by kernel_rfl) (by kernel_rfl) (e := Extern.MathFloatBits.float32bits) (by kernel_rfl)]
  rfl

theorem wf32 {x : Nat} (h : (Lit.float .f32 x).wf = true) : (x : Int) < 4294967296 := by simp [Lit.wf] at h; omega

theorem neq_nan {k : FloatKind} {x : Nat} (h : isN k x = true) : (k.format.order x x != some .eq) = true := by rw [order_nan_left _ h]; rfl
theorem neq_num {k : FloatKind} {x : Nat} (h : isN k x = false) : (k.format.order x x != some .eq) = false := by rw [order_self h]; rfl

theorem bits_nan {x : Nat} (h : isN .f32 x = true) : bitsOf x = 2143289344 := if_pos h
theorem bits_num {x : Nat} (h : isN .f32 x = false) : bitsOf x = (x : Int) := if_neg (by rw [h]; exact Bool.false_ne_true)

theorem ret_int {k : IntKind} {a b : Int} (h : a = b) : Ending.returned (.int k a) = Ending.returned (.int k b) := by rw [h]

theorem l01_any (x : Nat) (w : World) (hw : (Lit.float .f32 x).wf = true) :
    Calls Try.prog 40 #[.float .f32 x] w fun e w' => e = .returned (.int .i64 (bitsOf x)) ∧ w = w' := by
  have hlt := wf32 hw
  clear hw
  cases h : isN .f32 x with
  | true =>
    have hb := Lib.hid (bits_nan h)
    have hn := neq_nan h
    clear h
    go_enter Try.func40, Try.ntmps40
    go_wp2
    go_ret
    exact ⟨ret_int hb.out.symm, rfl⟩
  | false =>
    have hb := Lib.hid (bits_num h)
    have hn := neq_num h
    clear h
    go_enter Try.func40, Try.ntmps40
    go_wp2
    go_ret
    exact ⟨ret_int hb.out.symm, rfl⟩

end Go.Proofs.Ytogclingihelaaa.Bits
