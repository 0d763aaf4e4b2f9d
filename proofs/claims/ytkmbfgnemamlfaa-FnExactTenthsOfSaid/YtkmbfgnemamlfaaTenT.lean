/- The program's TenthsOf and the reference's give the same pair. -/
import Derived.Test.YtkmbfgnemamlfaaTenP
import Derived.Test.YtkmbfgnemamlfaaLogT
namespace Go.Proofs.Ytkmbfgnemamlfaa.TenT
open Go.RowKit Go.Proofs.Ytkmbfgnemamlfaa.FW Go.Proofs.Ytkmbfgnemamlfaa.FT Go.Proofs.Ytkmbfgnemamlfaa.FB Go.Proofs.Ytkmbfgnemamlfaa.SineP Go.Proofs.Ytkmbfgnemamlfaa.Sine Go.Proofs.Ytkmbfgnemamlfaa.SineC Go.Proofs.Ytkmbfgnemamlfaa.F32 Go.Proofs.Ytkmbfgnemamlfaa.SineT Go.Proofs.Ytkmbfgnemamlfaa.AngleT Go.Proofs.Ytkmbfgnemamlfaa.LogP Go.Proofs.Ytkmbfgnemamlfaa.LogS Go.Proofs.Ytkmbfgnemamlfaa.LogI Go.Proofs.Ytkmbfgnemamlfaa.TenP
open Ieee (Datum)

/-! ### math.Floor -/
theorem red_floor {α : Type} (x : Nat) (f : Nat → α) (g : Array Value → α) : Extern.MathFloor.toIntegral.match_2 (fun _ => α) #[.float .f64 x] (fun x => f x) (fun x => g x) = f x := rfl
theorem sem_at (x : Nat) : ∃ n, Extern.MathFloor.toIntegral "math.archFloor" .down #[.float .f64 x] = (fun d => Extern.MathFloor.toIntegral.match_1 (fun _ => Sem Value) d n (fun d => pure (.float .f64 (FloatKind.f64.encode (d.integral .down))))) (FloatKind.f64.decode x) := by
  unfold Extern.MathFloor.toIntegral
  rw [red_floor x]
  exact ⟨_, rfl⟩
theorem sem_floor (x : Nat) (h : isN .f64 x = false) : Extern.MathFloor.toIntegral "math.archFloor" .down #[.float .f64 x] = pure (.float .f64 (fl x)) := by
  obtain ⟨n, h1⟩ := sem_at x
  rw [h1]
  unfold isN at h
  unfold fl
  cases hd : FloatKind.f64.decode x with
  | nan s t => rw [hd] at h; cases h
  | number s m e => rfl
  | infinity s => rfl

theorem run_floor (x : Nat) (w : World) (h : isN .f64 x = false) : (callFunc 51 #[.float .f64 x]).run Try.prog w = .ok (.value (.float .f64 (fl x))) w := by
  rw [run_callFunc_extern Try.func51 (by kernel_rfl) (by kernel_rfl) (by kernel_rfl) (e := Extern.MathFloor.toIntegral "math.archFloor" .down) (by kernel_rfl), sem_floor x h]
  rfl

theorem floor_any (x : Nat) (w : World) (h : isN .f64 x = false) : Calls Try.prog 41 #[.float .f64 x] w fun e w' => e = .returned (.float .f64 (fl x)) ∧ w = w' := by
  have H := fun w => run_floor x w h
  clear h
  go_enter Try.func41, Try.ntmps41
  go_wp2
  go_ret
  exact ⟨rfl, rfl⟩

/-! ### The reference's test -/
theorem sfin_no (x : Nat) (w : World) (h : 2139095040 ≤ rg x) : Calls Try.prog 39 #[.float .f32 x] w (BRet false w) := by
  have hn := Lib.hid (self_nan32 h)
  clear h
  go_enter Try.func39, Try.ntmps39
  go_wp2_with ((with_reducible refine wpList_nan (by with_unfolding_all rfl) (by with_unfolding_all rfl) (by with_unfolding_all rfl) (by with_unfolding_all rfl) hn.out ?_); intro r n _ ho)
  go_ret
  exact bret rfl

theorem sfin_yes (x : Nat) (w : World) (h : rg x < 2139095040) : Calls Try.prog 39 #[.float .f32 x] w fun e w' => e = .returned (.bool true) ∧ w = w' := by
  have hz : fop .sub .f32 x x = 0 := sub_self32 (read_fin h)
  have hs : ∀ w, (binOp .sub 22 (.float .f32 x) (.float .f32 x)).run Try.prog w = .ok (.float .f32 0) w := by
    intro w
    have := run_exact (P := Try.prog) (op := .sub) rfl (k := .f32) (x := x) (y := x) (by rw [hz]; decide +kernel) 22 w
    rw [hz] at this; exact this
  have hc : (FloatKind.f32.format.order 0 0 == some .eq) = true := by decide +kernel
  clear hz h
  go_enter Try.func39, Try.ntmps39
  go_wp2
  go_ret
  exact ⟨rfl, rfl⟩

/-- The call returns these two; the world may have been asked some answers. -/
def TRet (n : Int) (b : Bool) (w : World) (e : Ending) (w' : World) : Prop := ∃ k, e = .returned (.tuple #[.int .i64 n, .bool b]) ∧ w' = w.drewN k

/-! ### No number, or none above 0 -/
def No (x : Nat) : Prop := 2139095040 ≤ rg x ∨ (rg x < 2139095040 ∧ (FloatKind.f32.format.order x 0 == some .lt || FloatKind.f32.format.order x 0 == some .eq) = true)

theorem impl_no (x : Nat) (w : World) (h : No x) : Calls Try.prog 24 #[.float .f32 x] w (TRet 0 false w) := by
  rcases h with h | ⟨h, h1⟩
  · have F := Lib.hid (fun w => finite_no x w h)
    clear h
    go_enter Try.func24, Try.ntmps24
    go_wp2_with (go_at_call 30; refine (F.out _).mono ?_; rintro e w' ⟨n, rfl, rfl⟩)
    go_ret2
    exact ⟨_, rfl, rfl⟩
  · have F := Lib.hid (fun w => finite_yes x w h)
    clear h
    go_enter Try.func24, Try.ntmps24
    go_wp2_with (go_at_call 30; refine (F.out _).mono ?_; rintro e w' ⟨rfl, rfl⟩)
    go_ret2
    exact ⟨0, rfl, rfl⟩

theorem spec_no (x : Nat) (w : World) (h : No x) : Calls Try.prog 23 #[.float .f32 x] w (TRet 0 false w) := by
  rcases h with h | ⟨h, h1⟩
  · have F := Lib.hid (fun w => sfin_no x w h)
    clear h
    go_enter Try.func23, Try.ntmps23
    go_wp2_with (go_at_call 39; refine (F.out _).mono ?_; rintro e w' ⟨n, rfl, rfl⟩)
    go_ret2
    exact ⟨_, rfl, rfl⟩
  · have F := Lib.hid (fun w => sfin_yes x w h)
    clear h
    go_enter Try.func23, Try.ntmps23
    go_wp2_with (go_at_call 39; refine (F.out _).mono ?_; rintro e w' ⟨rfl, rfl⟩)
    go_ret2
    exact ⟨0, rfl, rfl⟩

/-! ### A number above 0 -/
/-- What stands behind the logarithm. -/
structure Ten (v : Nat) (n : Int) where
  a : Nat
  b : Nat
  m1 : ∀ w, (binOp .mul 25 (.float .f64 v) (.float .f64 4631308968768463603)).run Try.prog w = .ok (.float .f64 a) w
  m2 : ∀ w, (binOp .add 25 (.float .f64 a) (.float .f64 4602678819172646912)).run Try.prog w = .ok (.float .f64 b) w
  m3 : isN .f64 b = false
  m4 : ∀ w, (convert 25 2 (.float .f64 (fl b))).run Try.prog w = .ok (.int .i64 n) w

theorem ten_of {v : Nat} (h : Bd v 5015) : Nonempty (Ten v (t3 v)) := by
  obtain ⟨h1, h2, h3⟩ := bd_ten h
  exact ⟨⟨_, _, fun w => arith (op := .mul) rfl h1.num rfl w, fun w => arith (op := .add) rfl h2.num rfl w, h2.num,
    fun w => run_convert_float_int w 25 2 .f64 .i64 _ _ SameFloat.some64 Try.underlying2 h3⟩⟩

theorem impl_yes (x v : Nat) (n : Int) (w : World) (h : rg x < 2139095040) (h1 : (FloatKind.f32.format.order x 0 == some .lt || FloatKind.f32.format.order x 0 == some .eq) = false) (T : Ten v n)
    (hC : ∀ w, Calls Try.prog 31 #[.float .f64 (wide x)] w fun e w' => e = .returned (.float .f64 v) ∧ w = w') :
    Calls Try.prog 24 #[.float .f32 x] w (TRet n true w) := by
  have F := Lib.hid (fun w => finite_yes x w h)
  have hcv := fun w => conv_wide (x := x) (not_nan (by omega)) w
  have C := Lib.hid hC
  obtain ⟨a, b, m1, m2, m3, m4⟩ := T
  have L := Lib.hid (fun w => floor_any b w m3)
  clear h hC m3
  generalize wide x = X at *
  generalize fl b = fb at *
  go_enter Try.func24, Try.ntmps24
  go_wp2_with (first
    | (go_at_call 30; refine (F.out _).mono ?_; rintro e w' ⟨rfl, rfl⟩)
    | (go_at_call 31; refine (C.out _).mono ?_; rintro e w' ⟨rfl, rfl⟩)
    | (go_at_call 41; refine (L.out _).mono ?_; rintro e w' ⟨rfl, rfl⟩))
  go_ret2
  exact ⟨0, rfl, rfl⟩

theorem spec_yes (x v : Nat) (n : Int) (w : World) (h : rg x < 2139095040) (h1 : (FloatKind.f32.format.order x 0 == some .lt || FloatKind.f32.format.order x 0 == some .eq) = false) (T : Ten v n)
    (hC : ∀ w, Calls Try.prog 49 #[.float .f64 (wide x)] w fun e w' => e = .returned (.float .f64 v) ∧ w = w') :
    Calls Try.prog 23 #[.float .f32 x] w (TRet n true w) := by
  have F := Lib.hid (fun w => sfin_yes x w h)
  have hcv := fun w => conv_wide (x := x) (not_nan (by omega)) w
  have C := Lib.hid hC
  obtain ⟨a, b, m1, m2, m3, m4⟩ := T
  have L := Lib.hid (fun w => floor_any b w m3)
  clear h hC m3
  generalize wide x = X at *
  generalize fl b = fb at *
  go_enter Try.func23, Try.ntmps23
  go_wp2_with (first
    | (go_at_call 39; refine (F.out _).mono ?_; rintro e w' ⟨rfl, rfl⟩)
    | (go_at_call 40; go_in)
    | (go_at_call 49; refine (C.out _).mono ?_; rintro e w' ⟨rfl, rfl⟩)
    | (go_at_call 41; refine (L.out _).mono ?_; rintro e w' ⟨rfl, rfl⟩))
  go_ret2
  exact ⟨0, rfl, rfl⟩

/-- The two logarithms at a number above 0. -/
theorem pos (x : Nat) (h' : rg x < 2139095040) (hp : (FloatKind.f32.format.order x 0 == some .lt || FloatKind.f32.format.order x 0 == some .eq) = false) :
    ∃ v, Bd v 5015 ∧ (∀ w, Calls Try.prog 49 #[.float .f64 (wide x)] w fun e w' => e = .returned (.float .f64 v) ∧ w = w')
      ∧ (∀ w, Calls Try.prog 31 #[.float .f64 (wide x)] w fun e w' => e = .returned (.float .f64 v) ∧ w = w') := by
  have hw : isN .f64 (wide x) = false := wide_num (by omega)
  have nx := n_wide h'
  have o32 := order_zero32 h'
  have o64 := order_zero nx
  have self64 : (FloatKind.f64.format.order (wide x) (wide x) != some .eq) = false := by rw [order_self hw]; rfl
  have e : compare (iv (sg x) (val Ieee.single (rg x))) (iv false 0) = .gt := by
    cases hc : compare (iv (sg x) (val Ieee.single (rg x))) (iv false 0) with
    | gt => rfl
    | lt => rw [o32, hc] at hp; cases hp
    | eq => rw [o32, hc] at hp; cases hp
  rw [e] at o32 o64
  have hgt := Int.compare_eq_gt.1 e
  have hs : sg x = false := by
    cases hs : sg x with
    | false => rfl
    | true => rw [hs] at hgt; unfold iv at hgt; simp only [Bool.false_eq_true, if_false, if_true] at hgt; omega
  rw [hs] at nx hgt
  have h0 : 0 < val Ieee.single (rg x) := by unfold iv at hgt; simp only [Bool.false_eq_true, if_false] at hgt; omega
  have hr0 : rg x ≠ 0 := by
    intro hz; rw [hz, val_zero] at h0; omega
  have hX : ∃ v, N64 (wide x) false v ∧ v ≤ p2 5128 ∧ p2 4851 ≤ v := ⟨_, nx, Nat.le_of_lt (single_lt (w := x) h'), LogT.val_ge hr0⟩
  obtain ⟨y, n, m, hS, hz⟩ := Log.scale hX
  have hnm : ((n : Int) - (m : Int)).natAbs < 256 := by have := hS.le; have := hS.le'; omega
  obtain ⟨Z⟩ := Log.tail_of hz hnm
  have hI : (FloatKind.f64.format.order (wide x) 9218868437227405311 == some .gt) = false := by
    have hmax := of_word (x := 9218868437227405311) (by decide)
    have ho : FloatKind.f64.format.order (wide x) 9218868437227405311 = some (compare (iv false (val Ieee.single (rg x))) (iv false (val Ieee.double 9218868437227405311))) := order_num good_double nx hmax
    obtain ⟨R, hR, hv, _⟩ := wide_fin h'
    have hle : val Ieee.double R ≤ val Ieee.double 9218868437227405311 := val_le.2 (by have : Ieee.double.infRung = 9218868437227405312 := by decide
                                                                                       omega)
    rw [ho, ← hv]
    rcases Nat.lt_or_eq_of_le hle with h1 | h1
    · rw [Int.compare_eq_lt.2 (by unfold iv; simp only [Bool.false_eq_true, if_false]; omega)]; rfl
    · rw [Int.compare_eq_eq.2 (by unfold iv; simp only [Bool.false_eq_true, if_false]; omega)]; rfl
  exact ⟨_, bd_log' hz hnm, fun w => Log.spec_core _ y _ n m _ _ w self64 (by rw [o64]; rfl) (by rw [o64]; rfl) (Lib.hid fun w => isInf_any _ false w hI) (Lib.hid hS) rfl (Lib.hid rfl) Z,
    fun w => Log.impl_core _ y _ n m _ _ w (Lib.hid hS) rfl (Lib.hid rfl) Z⟩

theorem both (x : Nat) : ∃ n b, (∀ w, Calls Try.prog 23 #[.float .f32 x] w (TRet n b w)) ∧ (∀ w, Calls Try.prog 24 #[.float .f32 x] w (TRet n b w)) := by
  by_cases hN : No x
  · exact ⟨0, false, fun w => spec_no x w hN, fun w => impl_no x w hN⟩
  · have h' : rg x < 2139095040 := by
      rcases Nat.lt_or_ge (rg x) 2139095040 with h | h
      · exact h
      · exact absurd (.inl h) hN
    have hpos : (FloatKind.f32.format.order x 0 == some .lt || FloatKind.f32.format.order x 0 == some .eq) = false := by
      rw [Bool.eq_false_iff]; exact fun h => hN (.inr ⟨h', h⟩)
    obtain ⟨v, hv, hS, hI⟩ := pos x h' hpos
    obtain ⟨T⟩ := ten_of hv
    exact ⟨_, true, fun w => spec_yes x v _ w h' hpos T hS, fun w => impl_yes x v _ w h' hpos T hI⟩

/-- The law's walk. -/
theorem walk (a0 : Nat) (w : World) (_hwf : (Lit.float .f32 a0).wf = true) :
    Calls Try.prog 8 #[.float .f32 a0] w fun e w' => e = .returned (.bool true) ∧ Below w.heap.size w w' := by
  obtain ⟨n, b, S, I⟩ := both a0
  have S' := Lib.hid S
  have I' := Lib.hid I
  clear S I
  go_enter Try.func8, Try.ntmps8
  go_wp2_with (first
    | (go_at_call 23; refine (S'.out _).mono ?_; rintro e w' ⟨n1, rfl, rfl⟩)
    | (go_at_call 24; refine (I'.out _).mono ?_; rintro e w' ⟨n2, rfl, rfl⟩))
  all_goals (go_ret; exact ⟨rfl, below_drewN (Below.refl _ _) _⟩)
end Go.Proofs.Ytkmbfgnemamlfaa.TenT
