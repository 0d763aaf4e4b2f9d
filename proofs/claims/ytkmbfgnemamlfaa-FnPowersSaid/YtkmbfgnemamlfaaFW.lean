/- Laws of the walk for floating-point operations whose result may be a NaN: the result is the same number as a plain function of the operands gives, or both are NaNs. No program in sight. -/
import Derived.Test.YtkmbfgnemamlfaaFT
import Derived.WalkKit
import Derived.WalkSpells
import Derived.WalkLawsBesides
import Derived.Deep.Draws
import Derived.Lib.Hide
namespace Go.Proofs.Ytkmbfgnemamlfaa.FW
open Go.RowKit

/-- The word is a NaN. -/
def isN (k : FloatKind) (b : Nat) : Bool := (k.decode b).isNaN
/-- One NaN that stands for all. -/
def cnan : FloatKind → Nat
  | .f32 => 2143289344
  | .f64 => 9221120237041090560
/-- The same number, or both NaNs. -/
def Same (k : FloatKind) (a b : Nat) : Prop := a = b ∨ (isN k a = true ∧ isN k b = true)
theorem Same.refl (k : FloatKind) (a : Nat) : Same k a a := .inl rfl
theorem Same.symm {k : FloatKind} {a b : Nat} (h : Same k a b) : Same k b a := h.elim (fun e => .inl e.symm) fun h => .inr ⟨h.2, h.1⟩
theorem Same.isN {k : FloatKind} {a b : Nat} (h : Same k a b) : isN k a = isN k b := by
  rcases h with rfl | ⟨h1, h2⟩
  · rfl
  · rw [h1, h2]
theorem Same.trans {k : FloatKind} {a b c : Nat} (h : Same k a b) (g : Same k b c) : Same k a c := by
  rcases h with rfl | ⟨h1, h2⟩
  · exact g
  · exact .inr ⟨h1, by rw [← g.isN, h2]⟩
theorem Same.eq {k : FloatKind} {a b : Nat} (h : Same k a b) (hb : FW.isN k b = false) : a = b := by
  rcases h with rfl | ⟨_, h2⟩
  · rfl
  · rw [hb] at h2; cases h2

theorem bin_le (k : FloatKind) : k.format.binade ≤ k.format.infRung := by cases k <;> decide

theorem isN_of (k : FloatKind) (w : Nat) (h : k.format.infRung < w % k.format.signWeight) : isN k w = true := by
  have hb := bin_le k
  unfold isN FloatKind.decode Ieee.Format.read
  simp only []
  rw [if_neg (by omega), if_neg (by omega), if_neg (by omega)]
  rfl

theorem isN_cnan (k : FloatKind) : isN k (cnan k) = true := by cases k <;> decide

theorem cut_aux (p q : Nat) (h : q < 2 ^ 23 - 1) : 2139095040 < (p * 2 ^ 31 + 0x7f800000 + 1 + q) % 2147483648 := by
  have e : p * 2 ^ 31 + 0x7f800000 + 1 + q = (0x7f800000 + 1 + q) + 2147483648 * p := by omega
  rw [e, Nat.add_mul_mod_self_left, Nat.mod_eq_of_lt (by omega)]; omega
theorem cut_aux' (p q : Nat) (h : q < 2 ^ 52 - 1) : 9218868437227405312 < (p * 2 ^ 63 + 0x7ff0000000000000 + 1 + q) % 9223372036854775808 := by
  have e : p * 2 ^ 63 + 0x7ff0000000000000 + 1 + q = (0x7ff0000000000000 + 1 + q) + 9223372036854775808 * p := by omega
  rw [e, Nat.add_mul_mod_self_left, Nat.mod_eq_of_lt (by omega)]; omega

theorem cut_nanBits (k : FloatKind) (x y t : Nat) : isN k ((Question.nanBits k x y).cut t) = true := by
  apply isN_of
  cases k
  · exact cut_aux _ _ (Nat.mod_lt _ (by decide))
  · exact cut_aux' _ _ (Nat.mod_lt _ (by decide))
theorem cut_nanConv (k : FloatKind) (x t : Nat) : isN k ((Question.nanConv k x).cut t) = true := by
  apply isN_of
  cases k
  · exact cut_aux _ _ (Nat.mod_lt _ (by decide))
  · exact cut_aux' _ _ (Nat.mod_lt _ (by decide))

/-! ### The operations, as plain functions -/
def isArith : BinOp → Bool
  | .add | .sub | .mul | .quo => true
  | _ => false
def fop (op : BinOp) (k : FloatKind) (x y : Nat) : Nat := (floatBits op k x y).getD (cnan k)
/-- float32 to float64. -/
def wide (x : Nat) : Nat := (floatToFloatBits .f32 x .f64).getD (cnan .f64)
/-- float64 to float32. -/
def narrow (x : Nat) : Nat := (floatToFloatBits .f64 x .f32).getD (cnan .f32)
/-- A float64 that float32 can represent, roughly: a NaN, an infinity, or a number that does not overflow. -/
def Fits (x : Nat) : Prop := isN .f64 x = true ∨ (floatToFloatBits .f64 x .f32).isSome = true
def fsqrt (x : Nat) : Nat := (FloatKind.f64.format.sqrt x).getD (cnan .f64)

theorem Same.fits {x y : Nat} (h : Same .f64 x y) (hy : Fits y) : Fits x := by
  rcases h with rfl | ⟨h1, _⟩
  · exact hy
  · exact .inl h1

theorem decode_nan {k : FloatKind} {b : Nat} (h : isN k b = true) : ∃ s t, k.decode b = .nan s t := by
  unfold isN at h
  cases hd : k.decode b with
  | nan s t => exact ⟨s, t, rfl⟩
  | number s m e => rw [hd] at h; simp [Ieee.Datum.isNaN] at h
  | infinity s => rw [hd] at h; simp [Ieee.Datum.isNaN] at h

theorem floatBits_nan_left (op : BinOp) (k : FloatKind) {x : Nat} (y : Nat) (h : isN k x = true) : floatBits op k x y = none := by
  obtain ⟨s, t, hd⟩ := decode_nan h
  unfold FloatKind.decode at hd
  unfold floatBits
  split <;> simp [Ieee.Format.add, Ieee.Format.sub, Ieee.Format.mul, Ieee.Format.div, hd, Ieee.Datum.sum, Ieee.Datum.product, Ieee.Datum.quotient]

theorem floatBits_nan_right (op : BinOp) (k : FloatKind) (x : Nat) {y : Nat} (h : isN k y = true) : floatBits op k x y = none := by
  obtain ⟨s, t, hd⟩ := decode_nan h
  unfold FloatKind.decode at hd
  unfold floatBits
  split <;> cases hx : k.format.read x <;> simp [Ieee.Format.add, Ieee.Format.sub, Ieee.Format.mul, Ieee.Format.div, hd, hx, Ieee.Datum.sum, Ieee.Datum.product, Ieee.Datum.quotient, Ieee.Datum.opposite]

theorem fop_nan_left (op : BinOp) (k : FloatKind) {x : Nat} (y : Nat) (h : isN k x = true) : fop op k x y = cnan k := by
  unfold fop; rw [floatBits_nan_left op k y h]; rfl
theorem fop_nan_right (op : BinOp) (k : FloatKind) (x : Nat) {y : Nat} (h : isN k y = true) : fop op k x y = cnan k := by
  unfold fop; rw [floatBits_nan_right op k x h]; rfl

/-- The operations see of a NaN that it is one, no more. -/
theorem fop_same (op : BinOp) {k : FloatKind} {x x' y y' : Nat} (hx : Same k x x') (hy : Same k y y') : fop op k x y = fop op k x' y' := by
  rcases hx with rfl | ⟨h1, h2⟩
  · rcases hy with rfl | ⟨h3, h4⟩
    · rfl
    · rw [fop_nan_right op k x h3, fop_nan_right op k x h4]
  · rw [fop_nan_left op k y h1, fop_nan_left op k y' h2]

theorem order_nan_left {k : FloatKind} {x : Nat} (y : Nat) (h : isN k x = true) : k.format.order x y = none := by
  obtain ⟨s, t, hd⟩ := decode_nan h
  unfold FloatKind.decode at hd
  simp [Ieee.Format.order, hd, Ieee.Datum.order]
theorem order_nan_right {k : FloatKind} (x : Nat) {y : Nat} (h : isN k y = true) : k.format.order x y = none := by
  obtain ⟨s, t, hd⟩ := decode_nan h
  unfold FloatKind.decode at hd
  cases hx : k.format.read x <;> simp [Ieee.Format.order, hd, hx, Ieee.Datum.order]
theorem order_same {k : FloatKind} {x x' y y' : Nat} (hx : Same k x x') (hy : Same k y y') : k.format.order x y = k.format.order x' y' := by
  rcases hx with rfl | ⟨h1, h2⟩
  · rcases hy with rfl | ⟨h3, h4⟩
    · rfl
    · rw [order_nan_right x h3, order_nan_right x h4]
  · rw [order_nan_left y h1, order_nan_left y' h2]

theorem order_self {k : FloatKind} {x : Nat} (h : isN k x = false) : k.format.order x x = some .eq := by
  unfold isN FloatKind.decode at h
  unfold Ieee.Format.order
  cases hx : k.format.read x with
  | nan s t => rw [hx] at h; simp [Ieee.Datum.isNaN] at h
  | infinity s => simp [Ieee.Datum.order]
  | number s m e => simp [Ieee.Datum.order]

theorem wide_same {x y : Nat} (h : Same .f32 x y) : wide x = wide y := by
  rcases h with rfl | ⟨h1, h2⟩
  · rfl
  · obtain ⟨s, t, hd⟩ := decode_nan h1
    obtain ⟨s', t', hd'⟩ := decode_nan h2
    simp [wide, floatToFloatBits, hd, hd']
theorem narrow_same {x y : Nat} (h : Same .f64 x y) : narrow x = narrow y := by
  rcases h with rfl | ⟨h1, h2⟩
  · rfl
  · obtain ⟨s, t, hd⟩ := decode_nan h1
    obtain ⟨s', t', hd'⟩ := decode_nan h2
    simp [narrow, floatToFloatBits, hd, hd']
theorem fsqrt_same {x y : Nat} (h : Same .f64 x y) : fsqrt x = fsqrt y := by
  rcases h with rfl | ⟨h1, h2⟩
  · rfl
  · obtain ⟨s, t, hd⟩ := decode_nan h1
    obtain ⟨s', t', hd'⟩ := decode_nan h2
    unfold FloatKind.decode at hd hd'
    simp [fsqrt, Ieee.Format.sqrt, hd, hd', Ieee.Datum.root]

/-! ### What a run gives -/
section
variable {P : Program}

theorem run_arith {op : BinOp} (hop : isArith op = true) (t : TypeId) (k : FloatKind) (x y : Nat) (w : World) :
    ∃ r n, Same k r (fop op k x y) ∧ (binOp op t (.float k x) (.float k y)).run P w = .ok (.float k r) (w.drewN n) := by
  cases h : floatBits op k x y with
  | some r =>
    exact ⟨r, 0, .inl (by simp [fop, h]), run_float_arith w op t k x y r h⟩
  | none =>
    refine ⟨(Question.nanBits k x y).cut (w.tape w.drawn (.nanBits k x y)), 1, .inr ⟨cut_nanBits .., by simp [fop, h, isN_cnan]⟩, ?_⟩
    unfold floatBits at h
    cases op <;> simp only [isArith, Bool.false_eq_true] at hop <;> simp only at h <;> simp [binOp, Op.floatArith, h, choose, Sem.run, Question.forced] <;> rfl

/-- What an operation gives in the world 'w', and how many answers it asks. -/
def opR (w : World) (op : BinOp) (k : FloatKind) (x y : Nat) : Nat := (floatBits op k x y).getD ((Question.nanBits k x y).cut (w.tape w.drawn (.nanBits k x y)))
def opN (op : BinOp) (k : FloatKind) (x y : Nat) : Nat := if (floatBits op k x y).isSome then 0 else 1

theorem opR_same (w : World) (op : BinOp) (k : FloatKind) (x y : Nat) : Same k (opR w op k x y) (fop op k x y) := by
  unfold opR fop
  cases floatBits op k x y with
  | some r => exact .inl rfl
  | none => exact .inr ⟨cut_nanBits .., isN_cnan _⟩

theorem run_arithR {op : BinOp} (hop : isArith op = true) (t : TypeId) (k : FloatKind) (x y : Nat) (w : World) :
    (binOp op t (.float k x) (.float k y)).run P w = .ok (.float k (opR w op k x y)) (w.drewN (opN op k x y)) := by
  cases h : floatBits op k x y with
  | some r =>
    rw [run_float_arith w op t k x y r h]
    simp [opR, opN, h]
    rfl
  | none =>
    have e : opR w op k x y = (Question.nanBits k x y).cut (w.tape w.drawn (.nanBits k x y)) := by simp [opR, h]
    have e' : opN op k x y = 1 := by simp [opN, h]
    rw [e, e']
    unfold floatBits at h
    cases op <;> simp only [isArith, Bool.false_eq_true] at hop <;> simp only at h <;> simp [binOp, Op.floatArith, h, choose, Sem.run, Question.forced] <;> rfl

/-- Where the result is a number it is just that, and nothing is asked. -/
theorem run_exact {op : BinOp} (hop : isArith op = true) {k : FloatKind} {x y : Nat} (h : isN k (fop op k x y) = false) (t : TypeId) (w : World) :
    (binOp op t (.float k x) (.float k y)).run P w = .ok (.float k (fop op k x y)) w := by
  cases hb : floatBits op k x y with
  | none =>
    exfalso
    have : fop op k x y = cnan k := by simp [fop, hb]
    rw [this, isN_cnan] at h; cases h
  | some r =>
    have : fop op k x y = r := by simp [fop, hb]
    rw [this]
    cases op <;> simp only [isArith, Bool.false_eq_true] at hop <;> exact run_float_arith w _ t k x y r hb

/-- float32 to float64: always a number of the same value, or a NaN. -/
theorem wide_ok (x : Nat) (h : isN .f32 x = false) : floatToFloatBits .f32 x .f64 = some (wide x) := by
  unfold wide
  cases hb : floatToFloatBits .f32 x .f64 with
  | some r => rfl
  | none =>
    exfalso
    unfold floatToFloatBits at hb
    rw [if_neg (by decide)] at hb
    cases hd : FloatKind.f32.decode x with
    | nan s t => unfold isN at h; rw [hd] at h; simp [Ieee.Datum.isNaN] at h
    | infinity s => simp [hd] at hb
    | number s m e =>
      simp only [hd] at hb
      have hd' : Ieee.single.read x = .number s m e := hd
      have hlt : x % Ieee.single.signWeight < Ieee.single.infRung := by
        rcases Nat.lt_or_ge (x % Ieee.single.signWeight) Ieee.single.infRung with h1 | h1
        · exact h1
        · unfold Ieee.Format.read at hd'
          simp only [] at hd'
          have hb : Ieee.single.binade ≤ Ieee.single.infRung := by decide
          rw [if_neg (by omega), if_neg (by omega)] at hd'
          split at hd' <;> cases hd'
      obtain ⟨m', e', h1, h2, _, h3⟩ := FT.read_num FT.good_single hlt
      rw [hd'] at h1
      injection h1 with _ h4 h5
      subst h4; subst h5
      have h6 := FT.single_lt hlt
      obtain ⟨r, hr, hv⟩ := FT.double_pow (K := 5128) (by omega) (by omega)
      have hlp : (Ieee.single.leastPlace : Int) = -149 := by decide
      obtain ⟨v, hv1, m2, e2, hn, _⟩ := FT.near_le FT.good_double (neg := s) (m := m) (e := e) (r := r) (by omega) hr (by omega)
      have hq : (FloatKind.f64.decode (FloatKind.f64.encode (.number s m e))) = .number s m2 e2 := hn
      rw [hq] at hb
      simp [Ieee.Datum.isInfinity] at hb

theorem cut_lt (x t : Nat) : (Question.nanConv .f64 x).cut t < 18446744073709551616 := by
  show (t % 2) * 2 ^ 63 + 0x7ff0000000000000 + 1 + (t / 2) % (2 ^ 52 - 1) < _
  have h1 : t % 2 < 2 := Nat.mod_lt _ (by omega)
  have h2 : (t / 2) % (2 ^ 52 - 1) < 2 ^ 52 - 1 := Nat.mod_lt _ (by decide)
  generalize t % 2 = p at *
  generalize (t / 2) % (2 ^ 52 - 1) = q at *
  omega

theorem run_wide {S D : TypeId} (hs : (P.underlying S).isSome = true) (hd : P.underlying D = some (.float .f64)) (x : Nat) (w : World) :
    ∃ r n, Same .f64 r (wide x) ∧ r < 18446744073709551616 ∧ (convert S D (.float .f32 x)).run P w = .ok (.float .f64 r) (w.drewN n) := by
  cases h : isN .f32 x with
  | false =>
    refine ⟨_, 0, .inl rfl, ?_, run_convert_float_float w S D .f32 .f64 x _ hs hd (wide_ok x h)⟩
    have hw := wide_ok x h
    unfold floatToFloatBits at hw
    rw [if_neg (by decide)] at hw
    split at hw
    · cases hw
    · injection hw with hw
      rw [← hw]; exact Ieee.double.write_lt _
    · split at hw
      · cases hw
      · injection hw with hw
        rw [← hw]; exact Ieee.double.write_lt _
  | true =>
    obtain ⟨s, t, hn⟩ := decode_nan h
    obtain ⟨u, hs'⟩ := Option.isSome_iff_exists.1 hs
    refine ⟨(Question.nanConv .f64 x).cut (w.tape w.drawn (.nanConv .f64 x)), 1, .inr ⟨cut_nanConv .., by simp [wide, floatToFloatBits, hn, isN_cnan]⟩, cut_lt _ _, ?_⟩
    cases u <;> simp [convert, run_underlying hs', run_underlying hd, Conv.floatToFloat, hn, choose, Sem.run, Question.forced] <;> rfl

/-- What float64(x) gives in the world 'w', and how many answers it asks. -/
def wideR (w : World) (x : Nat) : Nat := if isN .f32 x = true then (Question.nanConv .f64 x).cut (w.tape w.drawn (.nanConv .f64 x)) else wide x
def wideN (x : Nat) : Nat := if isN .f32 x = true then 1 else 0

theorem nan_wide {x : Nat} (h : isN .f32 x = true) : isN .f64 (wide x) = true := by
  obtain ⟨s, t, hd⟩ := decode_nan h
  have : wide x = cnan .f64 := by simp [wide, floatToFloatBits, hd]
  rw [this]; exact isN_cnan _

theorem wideR_same (w : World) (x : Nat) : Same .f64 (wideR w x) (wide x) := by
  unfold wideR
  split
  · rename_i h; exact .inr ⟨cut_nanConv .., nan_wide h⟩
  · exact .inl rfl

theorem run_wideR {S D : TypeId} (hs : (P.underlying S).isSome = true) (hd : P.underlying D = some (.float .f64)) (x : Nat) (w : World) :
    (convert S D (.float .f32 x)).run P w = .ok (.float .f64 (wideR w x)) (w.drewN (wideN x)) := by
  cases h : isN .f32 x with
  | false =>
    rw [run_convert_float_float w S D .f32 .f64 x _ hs hd (wide_ok x h)]
    simp [wideR, wideN, h]
    rfl
  | true =>
    obtain ⟨s, t, hn⟩ := decode_nan h
    obtain ⟨u, hs'⟩ := Option.isSome_iff_exists.1 hs
    cases u <;> simp [convert, run_underlying hs', run_underlying hd, Conv.floatToFloat, hn, choose, Sem.run, Question.forced, wideR, wideN, h] <;> rfl

theorem run_narrow {S D : TypeId} (hs : (P.underlying S).isSome = true) (hd : P.underlying D = some (.float .f32)) (x : Nat) (hf : Fits x) (w : World) :
    ∃ r n, Same .f32 r (narrow x) ∧ (convert S D (.float .f64 x)).run P w = .ok (.float .f32 r) (w.drewN n) := by
  by_cases h : isN .f64 x = true
  · obtain ⟨s, t, hn⟩ := decode_nan h
    obtain ⟨u, hs'⟩ := Option.isSome_iff_exists.1 hs
    refine ⟨(Question.nanConv .f32 x).cut (w.tape w.drawn (.nanConv .f32 x)), 1, .inr ⟨cut_nanConv .., by simp [narrow, floatToFloatBits, hn, isN_cnan]⟩, ?_⟩
    cases u <;> simp [convert, run_underlying hs', run_underlying hd, Conv.floatToFloat, hn, choose, Sem.run, Question.forced] <;> rfl
  · have hf' := hf.resolve_left h
    obtain ⟨r, hr⟩ := Option.isSome_iff_exists.1 hf'
    exact ⟨r, 0, .inl (by simp [narrow, hr]), run_convert_float_float w S D .f64 .f32 x r hs hd hr⟩

/-! ### The same, as steps of the walk -/
section
variable {ops : Array Oper} {rest : List Oper} {Q : Exit → Act → World → Prop} {a : Act} {w : World} {dst : Option Tmp} {ty : TypeId} {pos : String} {after : Array Edge} {guard : Option (Nat × Bool)}

theorem wpList_arith {op : BinOp} {t t' : TypeId} {X Y : Operand} {k : FloatKind} {x y : Nat}
    (hw : Region.wanted ⟨dst, .binOp op t X Y t', ty, pos, after, guard⟩ (yielded ops a.tmps) = true) (hx : a.eval X = .float k x) (hy : a.eval Y = .float k y) (hop : isArith op = true)
    (h : ∀ r n, Same k r (fop op k x y) → wpList P ops Q rest (a.put dst (.float k r)) (w.drewN n)) :
    wpList P ops Q (⟨dst, .binOp op t X Y t', ty, pos, after, guard⟩ :: rest) a w := by
  obtain ⟨r, n, hs, hr⟩ := run_arith (P := P) hop t k x y w
  refine wpList_step fun K hK => ?_
  rw [if_pos hw]
  unfold Oper.wp execOp
  have hg : (eqGuard op t X Y (.float k x) (.float k y)) = pure () := by
    unfold eqGuard
    cases op <;> simp [isArith] at hop <;> rfl
  simp only [hx, hy, hg, Sem.run_bind, Sem.run_pure, Result.andThen_ok, hr]
  exact hK _ _ (h r n hs)

/-- Where there is no answer: whatever NaN it is, it stands to nothing. -/
theorem wpList_nan {op : BinOp} {t t' : TypeId} {X Y : Operand} {k : FloatKind} {x y : Nat}
    (hw : Region.wanted ⟨dst, .binOp op t X Y t', ty, pos, after, guard⟩ (yielded ops a.tmps) = true) (hx : a.eval X = .float k x) (hy : a.eval Y = .float k y) (hop : isArith op = true)
    (hn : isN k (fop op k x y) = true)
    (h : ∀ r n, isN k r = true → (∀ z, k.format.order r z = none) → wpList P ops Q rest (a.put dst (.float k r)) (w.drewN n)) :
    wpList P ops Q (⟨dst, .binOp op t X Y t', ty, pos, after, guard⟩ :: rest) a w :=
  wpList_arith hw hx hy hop fun r n hs => h r n (by rw [hs.isN, hn]) fun z => order_nan_left z (by rw [hs.isN, hn])

theorem wpList_wide {S D : TypeId} {X : Operand} {x : Nat} (hs : (P.underlying S).isSome = true) (hd : P.underlying D = some (.float .f64))
    (hw : Region.wanted ⟨dst, .convert S D X, ty, pos, after, guard⟩ (yielded ops a.tmps) = true) (hx : a.eval X = .float .f32 x)
    (h : ∀ r n, Same .f64 r (wide x) → wpList P ops Q rest (a.put dst (.float .f64 r)) (w.drewN n)) :
    wpList P ops Q (⟨dst, .convert S D X, ty, pos, after, guard⟩ :: rest) a w := by
  obtain ⟨r, n, hs, _, hr⟩ := run_wide (P := P) hs hd x w
  refine wpList_step fun K hK => ?_
  rw [if_pos hw]
  unfold Oper.wp execOp
  simp only [hx, Sem.run_bind, Sem.run_pure, Result.andThen_ok, hr]
  exact hK _ _ (h r n hs)

theorem wpList_wideB {S D : TypeId} {X : Operand} {x : Nat} (hs : (P.underlying S).isSome = true) (hd : P.underlying D = some (.float .f64))
    (hw : Region.wanted ⟨dst, .convert S D X, ty, pos, after, guard⟩ (yielded ops a.tmps) = true) (hx : a.eval X = .float .f32 x)
    (h : ∀ r n, Same .f64 r (wide x) → Hid (r < 18446744073709551616) → wpList P ops Q rest (a.put dst (.float .f64 r)) (w.drewN n)) :
    wpList P ops Q (⟨dst, .convert S D X, ty, pos, after, guard⟩ :: rest) a w := by
  obtain ⟨r, n, hs, hlt, hr⟩ := run_wide (P := P) hs hd x w
  refine wpList_step fun K hK => ?_
  rw [if_pos hw]
  unfold Oper.wp execOp
  simp only [hx, Sem.run_bind, Sem.run_pure, Result.andThen_ok, hr]
  exact hK _ _ (h r n hs hlt)

theorem wpList_narrow {S D : TypeId} {X : Operand} {x : Nat} (hs : (P.underlying S).isSome = true) (hd : P.underlying D = some (.float .f32))
    (hw : Region.wanted ⟨dst, .convert S D X, ty, pos, after, guard⟩ (yielded ops a.tmps) = true) (hx : a.eval X = .float .f64 x) (hf : Fits x)
    (h : ∀ r n, Same .f32 r (narrow x) → wpList P ops Q rest (a.put dst (.float .f32 r)) (w.drewN n)) :
    wpList P ops Q (⟨dst, .convert S D X, ty, pos, after, guard⟩ :: rest) a w := by
  obtain ⟨r, n, hs, hr⟩ := run_narrow (P := P) hs hd x hf w
  refine wpList_step fun K hK => ?_
  rw [if_pos hw]
  unfold Oper.wp execOp
  simp only [hx, Sem.run_bind, Sem.run_pure, Result.andThen_ok, hr]
  exact hK _ _ (h r n hs)
end

/-- The call returns this Bool; the world may have been asked some answers. -/
def BRet (b : Bool) (w : World) (e : Ending) (w' : World) : Prop := ∃ n, e = .returned (.bool b) ∧ w' = w.drewN n
/-- The call returns a float that is the same number as 'v', or both are NaNs. -/
def FRet (k : FloatKind) (v : Nat) (w : World) (e : Ending) (w' : World) : Prop := ∃ r n, e = .returned (.float k r) ∧ Same k r v ∧ w' = w.drewN n

theorem bret {b c : Bool} {w : World} {n : Nat} (h : b = c) : BRet c w (.returned (.bool b)) (w.drewN n) := ⟨n, by rw [h], rfl⟩
theorem bret0 {b c : Bool} {w : World} (h : b = c) : BRet c w (.returned (.bool b)) w := ⟨0, by rw [h], rfl⟩
theorem fret {k : FloatKind} {r v : Nat} {w : World} {n : Nat} (h : Same k r v) : FRet k v w (.returned (.float k r)) (w.drewN n) := ⟨r, n, rfl, h, rfl⟩
theorem fret0 {k : FloatKind} {r v : Nat} {w : World} (h : Same k r v) : FRet k v w (.returned (.float k r)) w := ⟨r, 0, rfl, h, rfl⟩

theorem below_drewN {B : Nat} {a w : World} (h : Below B a w) (n : Nat) : Below B a (w.drewN n) := ⟨h.os, h.tape, h.output, h.size, h.block⟩
end
end Go.Proofs.Ytkmbfgnemamlfaa.FW
