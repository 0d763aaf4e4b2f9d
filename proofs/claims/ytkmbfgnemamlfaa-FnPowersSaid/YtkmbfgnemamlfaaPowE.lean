/- The walk of the program's exponential at the eighths from -8 to 8. -/
import Derived.Test.YtkmbfgnemamlfaaPowQ
import Derived.Test.YtkmbfgnemamlfaaSineT
namespace Go.Proofs.Ytkmbfgnemamlfaa.PowE
open Go.RowKit Go.Proofs.Ytkmbfgnemamlfaa.FW Go.Proofs.Ytkmbfgnemamlfaa.FT Go.Proofs.Ytkmbfgnemamlfaa.FB Go.Proofs.Ytkmbfgnemamlfaa.SineP Go.Proofs.Ytkmbfgnemamlfaa.Sine Go.Proofs.Ytkmbfgnemamlfaa.SineT Go.Proofs.Ytkmbfgnemamlfaa.PhasP Go.Proofs.Ytkmbfgnemamlfaa.LogP Go.Proofs.Ytkmbfgnemamlfaa.LogS Go.Proofs.Ytkmbfgnemamlfaa.TenP Go.Proofs.Ytkmbfgnemamlfaa.PowP Go.Proofs.Ytkmbfgnemamlfaa.PowQ
open Ieee (Datum)

theorem at_all {n : Nat} {p : Nat → Bool} (h : (List.range n).all p = true) {i : Nat} (hi : i < n) : p i = true := List.all_eq_true.1 h i (List.mem_range.2 hi)

theorem bd_small {x W K : Nat} (h : small W x = true) (h1 : 3978 ≤ K) (h2 : W = (K - 3926 - 52 + 1) * 2 ^ 52) (h3 : W < Ieee.double.infRung) : Bd x K := by
  have hsw : Ieee.double.signWeight = 9223372036854775808 := by decide
  have hle : x % Ieee.double.signWeight ≤ W := by rw [hsw]; exact of_decide_eq_true h
  refine ⟨_, _, read_num good_double (w := x) (by omega), ?_⟩
  rw [← val_word (x := W) h1 h2]
  exact val_le.2 hle

theorem big_kE (j : Nat) (hj : j < 12) : Big (kE j) := by
  refine ⟨_, _, ofInt_exact _ (by omega), ?_⟩
  have h1 : 1 ≤ (12 - (j : Int)).natAbs := by omega
  calc p2 5000 = 1 * p2 5000 := (Nat.one_mul _).symm
    _ ≤ _ := Nat.mul_le_mul_right _ h1

theorem bd_eS {t : Nat} (h : Bd t 4995) : ∀ j, j ≤ 12 → Bd (eS t j) 5001
  | 0, _ => b_one.up (by omega)
  | j + 1, hj => by
    have ih := bd_eS h j (by omega)
    have h1 := h.mul ih (K := 4996) (by omega) (by omega) (by omega)
    have h2 := h1.div (big_kE j (by omega)) (by omega) (by omega)
    exact b_one.add (h2.up (by omega)) (by omega) (by omega)

theorem bd_qS {p : Nat} (h : Bd p 5001) : ∀ j, j ≤ 8 → Bd (qS p j) (5000 + 2 ^ j)
  | 0, _ => h
  | j + 1, hj => by
    have ih := bd_qS h j (by omega)
    have h1 : 2 ^ j ≤ 2 ^ 7 := Nat.pow_le_pow_right (by omega) (by omega)
    have h2 : 2 ^ (j + 1) = 2 * 2 ^ j := by rw [Nat.pow_succ]; omega
    exact ih.mul ih (by omega) (by omega) (by omega)

theorem ke_next {j : Nat} (hj : j < 12) : fop .sub .f64 (kE j) one = kE (j + 1) := by
  have : ∀ k : Fin 12, fop .sub .f64 (kE k.val) one = kE (k.val + 1) := by decide +kernel
  exact this ⟨j, hj⟩
theorem ke_ge {j : Nat} (hj : j < 12) : geB (kE j) one = true := by
  have : ∀ k : Fin 12, geB (kE k.val) one = true := by decide +kernel
  exact this ⟨j, hj⟩
theorem ke_end : geB (kE 12) one = false := by decide +kernel
theorem ke_start : kE 0 = 4622945017495814144 := by decide +kernel
theorem ke_num {j : Nat} (hj : j < 13) : isN .f64 (kE j) = false := int_num _ (by omega)

/-- What a round of the series reckons. -/
structure Term (t j : Nat) where
  a : Nat
  b : Nat
  r1 : ∀ w, (binOp .mul 25 (.float .f64 t) (.float .f64 (eS t j))).run Try.prog w = .ok (.float .f64 a) w
  r2 : ∀ w, (binOp .quo 25 (.float .f64 a) (.float .f64 (kE j))).run Try.prog w = .ok (.float .f64 b) w
  r3 : ∀ w, (binOp .add 25 (.float .f64 4607182418800017408) (.float .f64 b)).run Try.prog w = .ok (.float .f64 (eS t (j + 1))) w
theorem term_of {t j : Nat} (h : Bd t 4995) (hj : j < 12) : Nonempty (Term t j) := by
  have ih := bd_eS h j (by omega)
  have h1 := h.mul ih (K := 4996) (by omega) (by omega) (by omega)
  have h2 := h1.div (big_kE j (by omega)) (by omega) (by omega)
  have h3 := bd_eS h (j + 1) (by omega)
  exact ⟨⟨_, _, fun w => arith (op := .mul) rfl h1.num rfl w, fun w => arith (op := .quo) rfl h2.num rfl w, fun w => arith (op := .add) rfl h3.num rfl w⟩⟩

theorem sq_run {p j : Nat} (h : Bd p 5001) (hj : j < 8) (w : World) : (binOp .mul 25 (.float .f64 (qS p j)) (.float .f64 (qS p j))).run Try.prog w = .ok (.float .f64 (qS p (j + 1))) w :=
  arith (op := .mul) rfl (bd_qS h (j + 1) (by omega)).num rfl w

set_option maxHeartbeats 1000000 in
theorem exp_any (x X t p q r : Nat) (w : World) (T1 : (FloatKind.f32.format.order x 1128792064 == some .gt) = false) (T2 : (FloatKind.f32.format.order x 3276275712 == some .lt) = false)
    (hX : ∀ w, (convert 22 25 (.float .f32 x)).run Try.prog w = .ok (.float .f64 X) w)
    (ht : ∀ w, (binOp .quo 25 (.float .f64 X) (.float .f64 4643211215818981376)).run Try.prog w = .ok (.float .f64 t) w)
    (hb : Hid (Bd t 4995)) (hp : Hid (p = eS t 12)) (hq : Hid (q = qS p 8))
    (hr : ∀ w, (convert 25 22 (.float .f64 q)).run Try.prog w = .ok (.float .f32 r) w) :
    Calls Try.prog 11 #[.float .f32 x] w fun e w' => e = .returned (.float .f32 r) ∧ w = w' := by
  have ks := ke_start
  have K0 : (.float .f64 4622945017495814144 : Value) = .float .f64 (kE 0) := by rw [ks]
  clear ks
  have K := Lib.hid K0
  clear K0
  have ke := ke_end
  unfold geB one at ke
  have P0 : Hid ((.float .f64 4607182418800017408 : Value) = .float .f64 (eS t 0)) := Lib.hid rfl
  have Q0 : Hid ((.float .f64 p : Value) = .float .f64 (qS p 0)) := Lib.hid rfl
  have hbp : Hid (Bd p 5001) := Lib.hid (by rw [hp.out]; exact bd_eS hb.out 12 (by omega))
  go_enter Try.func11, Try.ntmps11
  go_wp2
  clear hX ht T1 T2
  go_loopg [4, 5] 12 (fun g p k wr => ∃ j : Nat, j + g = 12 ∧ p = .float .f64 (eS t j) ∧ k = .float .f64 (kE j) ∧ w = wr)
  case atStart => exact ⟨0, by omega, P0.out, K.out, rfl⟩
  case round =>
    obtain ⟨j, hj, rfl, rfl, rfl⟩ := hrel
    by_cases hlt : j < 12
    · obtain ⟨⟨a, b, r1, r2, r3⟩⟩ := term_of hb.out hlt
      have ge := ke_ge hlt
      unfold geB one at ge
      have k4 := fun w => arith (op := .sub) (x := kE j) (y := 4607182418800017408) rfl (by rw [show fop .sub .f64 (kE j) 4607182418800017408 = kE (j + 1) from ke_next hlt]; exact ke_num (by omega)) (ke_next hlt) w
      clear hr ke
      generalize eS t j = pj at r1
      go_wp2
      go_roundg (gk - 1)
      case measure => omega
      case rel => exact ⟨j + 1, by omega, rfl, rfl, rfl⟩
    · obtain rfl : j = 12 := by omega
      clear hj hlt K P0
      have hpp := hp.out
      rw [← hpp]
      clear hpp hp hb
      go_wp2
      go_loopg [4, 27] 8 (fun g p' k wr => ∃ j : Nat, j + g = 8 ∧ p' = .float .f64 (qS p j) ∧ k = .int .i64 (j : Int) ∧ w = wr)
      case atStart => exact ⟨0, by omega, Q0.out, rfl, rfl⟩
      case round =>
        obtain ⟨j, hj, rfl, rfl, rfl⟩ := hrel
        by_cases hlt : j < 8
        · have r1 := fun w => sq_run hbp.out hlt w
          clear hr ke
          generalize hfj : qS p j = fj at r1
          clear hfj
          generalize hfk : qS p (j + 1) = fk at r1
          have H := Lib.hid hfk
          clear hfk
          go_wp2
          go_roundg (gk - 1)
          case measure => omega
          case rel => exact ⟨j + 1, by omega, by rw [H.out], by simp, rfl⟩
        · obtain rfl : j = 8 := by omega
          clear hj hlt Q0 ke
          have hqq := hq.out
          rw [← hqq]
          clear hqq hq
          go_wp2
          go_ret
          exact ⟨rfl, rfl⟩

/-- The exponential at an eighth. -/
theorem exp_at {k : Nat} (hk : k < 129) (w : World) : Calls Try.prog 11 #[.float .f32 (zT k)] w fun e w' => e = .returned (.float .f32 (eT k)) ∧ w = w' := by
  have h1 := at_all all_exp hk
  have h2 := at_all all_z hk
  simp only [Bool.and_eq_true, beq_iff_eq, Bool.not_eq_true'] at h1 h2
  obtain ⟨e1, e2⟩ := h1
  obtain ⟨⟨⟨⟨⟨⟨⟨⟨⟨⟨z1, z2⟩, z3⟩, z4⟩, z5⟩, z6⟩, z7⟩, z8⟩, z9⟩, z10⟩, z11⟩ := h2
  rw [z1] at e1 e2
  have hb : Bd (tE (zT k)) 4995 := bd_small z7 (by omega) (by decide) (by decide)
  obtain ⟨r, hr⟩ := Option.isSome_iff_exists.1 e2
  have hrr : eT k = r := by rw [← e1]; unfold expF narrow; rw [hr]; rfl
  rw [hrr]
  exact exp_any (zT k) (wide (zT k)) (tE (zT k)) _ (pE (zT k)) r w z9 z10 (fun w => conv_wide z8 w) (fun w => arith (op := .quo) (y := 4643211215818981376) rfl hb.num rfl w) (Lib.hid hb) (Lib.hid rfl) (Lib.hid rfl)
    (fun w => run_convert_float_float w 25 22 .f64 .f32 _ _ SameFloat.some64 Try.underlying22 hr)
end Go.Proofs.Ytkmbfgnemamlfaa.PowE
