/- The contracts of the program's sine and of the reference's: the same plain function at every number of turns below 2 ^ 52. -/
import Derived.Test.YtkmbfgnemamlfaaSine
namespace Go.Proofs.Ytkmbfgnemamlfaa.SineC
open Go.RowKit Go.Proofs.Ytkmbfgnemamlfaa.FW Go.Proofs.Ytkmbfgnemamlfaa.FT Go.Proofs.Ytkmbfgnemamlfaa.FB Go.Proofs.Ytkmbfgnemamlfaa.SineP Go.Proofs.Ytkmbfgnemamlfaa.Sine
open Ieee (Datum)

theorem sub_self {f : Ieee.Format} {d : Datum} {s : Bool} {v : Nat} (h : Num f d s v) : ∃ e, d.sum d.opposite = some (.number false 0 e) := by
  obtain ⟨m, e, rfl, _⟩ := h
  refine ⟨min e e, ?_⟩
  unfold Datum.opposite Datum.sum
  simp only []
  have h0 : Ieee.signed s m (e - min e e).toNat + Ieee.signed (!s) m (e - min e e).toNat = 0 := by
    unfold Ieee.signed; cases s <;> simp <;> omega
  rw [h0]
  cases s <;> simp

theorem sub_self64 {x : Nat} {s : Bool} {v : Nat} (h : N64 x s v) : fop .sub .f64 x x = 0 := by
  obtain ⟨e, he⟩ := sub_self h
  unfold fop floatBits
  show ((((Ieee.double.read x).sum (Ieee.double.read x).opposite)).map Ieee.double.write).getD _ = _
  rw [he]
  show Ieee.double.nearest false 0 e = 0
  rw [near_zero]; rfl

theorem sub_self32 {x : Nat} {s : Bool} {v : Nat} (h : Num Ieee.single (Ieee.single.read x) s v) : fop .sub .f32 x x = 0 := by
  obtain ⟨e, he⟩ := sub_self h
  unfold fop floatBits
  show ((((Ieee.single.read x).sum (Ieee.single.read x).opposite)).map Ieee.single.write).getD _ = _
  rw [he]
  show Ieee.single.nearest false 0 e = 0
  rw [near_zero]; rfl

theorem n_neg52 : N64 14064741636278059008 true (p2 5052) := by
  have h := read_num good_double (w := 14064741636278059008) (by decide)
  have e : 14064741636278059008 % Ieee.double.signWeight = c52 := by decide
  have e2 : (14064741636278059008 / Ieee.double.signWeight % 2 == 1) = true := by decide
  rw [e, e2, val_word (x := c52) (K := 5052) (by decide) (by decide)] at h
  exact h

/-- Below 2 ^ 52: the reference's two tests say no. -/
theorem not_high {x : Nat} (h : Small x) : (FloatKind.f64.format.order x 4841369599423283200 == some .gt || FloatKind.f64.format.order x 4841369599423283200 == some .eq) = false ∧
    (FloatKind.f64.format.order x 14064741636278059008 == some .lt || FloatKind.f64.format.order x 14064741636278059008 == some .eq) = false := by
  obtain ⟨s, v, hn, hv⟩ := h
  have h1 : FloatKind.f64.format.order x 4841369599423283200 = some .lt := by
    show (Ieee.double.read x).order (Ieee.double.read c52) = _
    rw [order_num good_double hn n_c52, Int.compare_eq_lt.2]
    unfold iv; cases s <;> simp only [Bool.false_eq_true, if_false, if_true] <;> omega
  have h2 : FloatKind.f64.format.order x 14064741636278059008 = some .gt := by
    show (Ieee.double.read x).order (Ieee.double.read 14064741636278059008) = _
    rw [order_num good_double hn n_neg52, Int.compare_eq_gt.2]
    unfold iv; cases s <;> simp only [Bool.false_eq_true, if_false, if_true] <;> omega
  rw [h1, h2]; exact ⟨rfl, rfl⟩

theorem sine_last (x : Nat) : sineF x = last (geB (fracF x) half) (fop .mul .f64 (zF (fracF x)) (pF (fop .mul .f64 (zF (fracF x)) (zF (fracF x))) 8)) := rfl

theorem impl_any (x : Nat) (w : World) (h : Small x) :
    Calls Try.prog 34 #[.float .f64 x] w fun e w' => e = .returned (.float .f64 (sineF x)) ∧ w = w' := by
  have hf := bd_fracF h
  have hA := bd_foldA hf
  have hB := bd_foldB hA
  have hz := bd_zF hf
  have hu := hz.mul hz (K := 5012) (by omega) (by omega) (by omega)
  have hr := hz.mul (bd_pF hu 8 (by omega)) (K := 5110) (by omega) (by omega) (by omega)
  have s1 := hf.sub (b_half.up (L := 5001) (by omega)) (by omega) (by omega)
  have s2 := (b_half.up (L := 5002) (by omega)).sub hA (by omega) (by omega)
  rw [sine_last]
  exact core x (fracF x) (foldA (fracF x)) (foldB (foldA (fracF x))) _ _ _ _ _ _ (gtB (foldA (fracF x)) quarter) w (Lib.hid fun w => frac_any x w h) rfl rfl
    (fun w => arith (op := .sub) rfl s1.num rfl w) rfl (fun w => arith (op := .sub) rfl s2.num rfl w) rfl
    (fun w => arith (op := .mul) rfl hz.num rfl w) (fun w => arith (op := .mul) rfl hu.num rfl w) hu (fun w => arith (op := .mul) rfl hr.num rfl w)

theorem spec_any (x : Nat) (w : World) (h : Small x) :
    Calls Try.prog 47 #[.float .f64 x] w fun e w' => e = .returned (.float .f64 (sineF x)) ∧ w = w' := by
  have hd := bd_fracD h
  have hf := bd_fracF h
  have hA := bd_foldA hf
  have hB := bd_foldB hA
  have hz := bd_zF hf
  have hu := hz.mul hz (K := 5012) (by omega) (by omega) (by omega)
  have hr := hz.mul (bd_pF hu 8 (by omega)) (K := 5110) (by omega) (by omega) (by omega)
  have s0 := hd.add b_one (by omega) (by omega)
  have s1 := hf.sub (b_half.up (L := 5001) (by omega)) (by omega) (by omega)
  have s2 := (b_half.up (L := 5002) (by omega)).sub hA (by omega) (by omega)
  obtain ⟨l1, l2⟩ := not_high h
  have hz0 : fop .sub .f64 x x = 0 := by obtain ⟨s, v, hn, _⟩ := h; exact sub_self64 hn
  rw [sine_last]
  exact core_spec x (fracD x) (fracF x) (foldA (fracF x)) (foldB (foldA (fracF x))) _ _ _ _ _ _ (tr x) (ltB (fracD x) 0) _ (gtB (foldA (fracF x)) quarter) w
    (fun w => arith (op := .sub) rfl (by rw [hz0]; decide +kernel) hz0 w) l1 l2 (fun w => conv_int (tr_some h) w) (fun w => arith (op := .sub) rfl hd.num rfl w) rfl
    (fun w => arith (op := .add) rfl s0.num rfl w) rfl rfl rfl
    (fun w => arith (op := .sub) rfl s1.num rfl w) rfl (fun w => arith (op := .sub) rfl s2.num rfl w) rfl
    (fun w => arith (op := .mul) rfl hz.num rfl w) (fun w => arith (op := .mul) rfl hu.num rfl w) hu (fun w => arith (op := .mul) rfl hr.num rfl w)
end Go.Proofs.Ytkmbfgnemamlfaa.SineC
