/- math.Abs: the word without its sign. -/
import Derived.Test.YtkmbfgnemamlfaaSameFloat
import Derived.Laws.Bits64b
namespace Go.Proofs.Ytkmbfgnemamlfaa.Abs
open Go.RowKit Go.Proofs.Ytkmbfgnemamlfaa.FW

@[go_sem] theorem run_bits64 (x : Nat) (w : World) : (callFunc 48 #[.float .f64 x]).run Try.prog w = .ok (.value (.int .u64 x)) w := by
  rw [run_callFunc_extern Try.func48 (by kernel_rfl) (by kernel_rfl) (by kernel_rfl) (e := Extern.MathFloatBits.float64bits) (by kernel_rfl)]
  rfl
@[go_sem] theorem run_from64 (n : Int) (w : World) : (callFunc 46 #[.int .u64 n]).run Try.prog w = .ok (.value (.float .f64 n.toNat)) w := by
  rw [run_callFunc_extern Try.func46 (by kernel_rfl) (by kernel_rfl) (by kernel_rfl) (e := Extern.MathFloatBits.float64frombits) (by kernel_rfl)]
  rfl

theorem and_shift (x c i : Nat) : x &&& (c * 2 ^ i) = ((x / 2 ^ i) &&& c) * 2 ^ i := by
  apply Nat.eq_of_testBit_eq
  intro j
  rw [← Nat.shiftLeft_eq, ← Nat.shiftLeft_eq, ← Nat.shiftRight_eq_div_pow]
  simp only [Nat.testBit_and, Nat.testBit_shiftLeft, Nat.testBit_shiftRight]
  by_cases h : i ≤ j
  · have : i + (j - i) = j := by omega
    simp [h, this]
  · simp [h]

theorem and_one_bit (x i : Nat) (h : x < 2 ^ (i + 1)) : x &&& 2 ^ i = x / 2 ^ i * 2 ^ i := by
  have h1 := and_shift x 1 i
  rw [Nat.one_mul] at h1
  rw [h1]
  have h2 : x / 2 ^ i < 2 := by rw [Nat.div_lt_iff_lt_mul (Nat.two_pow_pos i)]; rw [Nat.pow_succ] at h; omega
  have h3 : x / 2 ^ i &&& 1 = x / 2 ^ i := by
    rw [Nat.and_one_is_mod]; exact Nat.mod_eq_of_lt h2
  rw [h3]

theorem ofInt64 {x : Nat} (h : x < 18446744073709551616) : (BitVec.ofInt 64 (x : Int)).toNat = x := by
  rw [BitVec.ofInt_natCast, BitVec.toNat_ofNat]; exact Nat.mod_eq_of_lt (by omega)

theorem andNot63 {x : Nat} (h : x < 18446744073709551616) : bits .andNot .u64 (x : Int) 9223372036854775808 = ((x % 9223372036854775808 : Nat) : Int) := by
  have h2 : (~~~(BitVec.ofInt 64 9223372036854775808)).toNat = 2 ^ 63 - 1 := by decide
  show IntKind.u64.wrap ((BitVec.ofInt 64 (x : Int) &&& ~~~(BitVec.ofInt 64 9223372036854775808)).toNat : Int) = _
  rw [BitVec.toNat_and, ofInt64 h, h2, Nat.and_two_pow_sub_one_eq_mod, IntKind.wrap_u64]
  have : x % 2 ^ 63 < 18446744073709551616 := by omega
  omega

theorem and63 {x : Nat} (h : x < 18446744073709551616) : bits .and .u64 (x : Int) 9223372036854775808 = ((x / 9223372036854775808 * 9223372036854775808 : Nat) : Int) := by
  have h1 := bits_and_u64_nat x 9223372036854775808 h (by omega)
  have h2 := and_one_bit x 63 (by omega)
  rw [show (9223372036854775808 : Int) = ((9223372036854775808 : Nat) : Int) from rfl, h1]
  congr 1

theorem ret_float {k : FloatKind} {a b : Nat} (h : a = b) : Ending.returned (.float k a) = Ending.returned (.float k b) := by rw [h]
theorem ret_bool {a b : Bool} (h : a = b) : Ending.returned (.bool a) = Ending.returned (.bool b) := by rw [h]

/-- The bits behind the sign, and the sign's bit. -/
def mag63 (x : Nat) : Nat := x % 9223372036854775808
def sgn63 (x : Nat) : Nat := x / 9223372036854775808 * 9223372036854775808
def neg63 (x : Nat) : Bool := decide (9223372036854775808 ≤ x)

theorem abs_any (x : Nat) (w : World) (hx : Hid (x < 18446744073709551616)) :
    Calls Try.prog 33 #[.float .f64 x] w fun e w' => e = .returned (.float .f64 (mag63 x)) ∧ w = w' := by
  go_enter Try.func33, Try.ntmps33
  go_wp2
  go_ret
  exact ⟨ret_float (by rw [andNot63 hx.out]; rfl), rfl⟩

end Go.Proofs.Ytkmbfgnemamlfaa.Abs
