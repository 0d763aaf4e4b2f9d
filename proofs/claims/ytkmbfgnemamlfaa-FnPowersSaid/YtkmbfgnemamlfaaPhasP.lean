/- The quarters of a turn, in plain Lean: taking a quarter away ends. -/
import Derived.Test.YtkmbfgnemamlfaaSineC
namespace Go.Proofs.Ytkmbfgnemamlfaa.PhasP
open Go.RowKit Go.Proofs.Ytkmbfgnemamlfaa.FW Go.Proofs.Ytkmbfgnemamlfaa.FT Go.Proofs.Ytkmbfgnemamlfaa.FB Go.Proofs.Ytkmbfgnemamlfaa.SineP
open Ieee (Datum)

theorem sub_rung {x y r : Nat} {s t : Bool} {a b : Nat} (hx : N64 x s a) (hy : N64 y t b) (hr : r < Ieee.double.infRung) (h : (iv s a - iv t b).natAbs ≤ val Ieee.double r) :
    ∃ sg v, N64 (fop .sub .f64 x y) sg v ∧ v ≤ val Ieee.double r := by
  obtain ⟨sg, m, e, he, hlo, hv, _⟩ := sum_exact hx (Num.opp hy)
  rw [iv_not, ← Int.sub_eq_add_neg] at hv
  obtain ⟨v, hv', hn⟩ := near_le good_double (neg := sg) (m := m) (e := e) (r := r) (by omega) hr (by rw [hv]; exact h)
  have hf : fop .sub .f64 x y = Ieee.double.nearest sg m e := by
    unfold fop floatBits
    show ((((Ieee.double.read x).sum (Ieee.double.read y).opposite)).map Ieee.double.write).getD _ = _
    rw [he]; rfl
  rw [hf]
  exact ⟨sg, v, hn, hv'⟩

/-- j quarters, as a float64. -/
def qW : Nat → Nat
  | 0 => 0
  | 1 => 4598175219545276416
  | 2 => 4602678819172646912
  | 3 => 4604930618986332160
  | 4 => 4607182418800017408
  | 5 => 4608308318706860032
  | 6 => 4609434218613702656
  | 7 => 4610560118520545280
  | _ => 4611686018427387904

theorem val_q {K M r : Nat} (h1 : 3926 ≤ K) (hM : M ≤ 2 * Ieee.double.binade) (hb : Ieee.double.binade ≤ M) (hr : r = (K - 3926) * Ieee.double.binade + M) : val Ieee.double r = M * p2 K := by
  have h := val_at (f := Ieee.double) (L := K) (K := M) (by rw [lpN_double]; exact h1) hM (.inr hb)
  rw [lpN_double] at h
  rw [hr]; exact h

theorem qW_val : ∀ j, j ≤ 8 → val Ieee.double (qW j) = j * p2 4998 ∧ qW j < Ieee.double.infRung := by
  have hbin : Ieee.double.binade = 4503599627370496 := by decide
  have h46 : p2 4998 = 4503599627370496 * p2 4946 := by
    have := p2_add 52 4946
    rw [show p2 52 = 4503599627370496 from by decide] at this
    exact this.symm
  have h47 : p2 4947 = 2 * p2 4946 := p2_succ 4946
  have h48 : p2 4948 = 2 * p2 4947 := p2_succ 4947
  have h49 : p2 4949 = 2 * p2 4948 := p2_succ 4948
  intro j hj
  have : j = 0 ∨ j = 1 ∨ j = 2 ∨ j = 3 ∨ j = 4 ∨ j = 5 ∨ j = 6 ∨ j = 7 ∨ j = 8 := by omega
  rcases this with rfl | rfl | rfl | rfl | rfl | rfl | rfl | rfl | rfl
  · refine ⟨?_, by decide⟩
    show val Ieee.double 0 = _
    rw [val_zero]; omega
  · refine ⟨?_, by decide⟩
    rw [val_q (K := 4946) (M := 4503599627370496) (r := qW 1) (by omega) (by rw [hbin]; omega) (by rw [hbin]; omega) (by rw [hbin]; decide)]; omega
  · refine ⟨?_, by decide⟩
    rw [val_q (K := 4947) (M := 4503599627370496) (r := qW 2) (by omega) (by rw [hbin]; omega) (by rw [hbin]; omega) (by rw [hbin]; decide)]; omega
  · refine ⟨?_, by decide⟩
    rw [val_q (K := 4947) (M := 6755399441055744) (r := qW 3) (by omega) (by rw [hbin]; omega) (by rw [hbin]; omega) (by rw [hbin]; decide)]; omega
  · refine ⟨?_, by decide⟩
    rw [val_q (K := 4948) (M := 4503599627370496) (r := qW 4) (by omega) (by rw [hbin]; omega) (by rw [hbin]; omega) (by rw [hbin]; decide)]; omega
  · refine ⟨?_, by decide⟩
    rw [val_q (K := 4948) (M := 5629499534213120) (r := qW 5) (by omega) (by rw [hbin]; omega) (by rw [hbin]; omega) (by rw [hbin]; decide)]; omega
  · refine ⟨?_, by decide⟩
    rw [val_q (K := 4948) (M := 6755399441055744) (r := qW 6) (by omega) (by rw [hbin]; omega) (by rw [hbin]; omega) (by rw [hbin]; decide)]; omega
  · refine ⟨?_, by decide⟩
    rw [val_q (K := 4948) (M := 7881299347898368) (r := qW 7) (by omega) (by rw [hbin]; omega) (by rw [hbin]; omega) (by rw [hbin]; decide)]; omega
  · refine ⟨?_, by decide⟩
    rw [val_q (K := 4949) (M := 4503599627370496) (r := qW 8) (by omega) (by rw [hbin]; omega) (by rw [hbin]; omega) (by rw [hbin]; decide)]; omega

/-- What is left when j quarters are taken. -/
def fS (f : Nat) : Nat → Nat
  | 0 => f
  | j + 1 => fop .sub .f64 (fS f j) quarter

theorem ge_quarter {x : Nat} {s : Bool} {v : Nat} (h : N64 x s v) (g : geB x quarter = true) : s = false ∧ p2 4998 ≤ v := by
  have h1 : FloatKind.f64.format.order x quarter = some (compare (iv s v) (iv false (p2 4998))) := order_num good_double h n_quarter
  have hp := p2_pos 4998
  unfold geB at g
  rw [h1] at g
  rcases Int.lt_trichotomy (iv s v) (iv false (p2 4998)) with h2 | h2 | h2
  · rw [Int.compare_eq_lt.2 h2] at g; exact absurd g (by decide)
  · unfold iv at h2; cases s <;> simp only [Bool.false_eq_true, if_false, if_true] at h2
    · exact ⟨rfl, by omega⟩
    · exfalso; omega
  · unfold iv at h2; cases s <;> simp only [Bool.false_eq_true, if_false, if_true] at h2
    · exact ⟨rfl, by omega⟩
    · exfalso; omega

theorem left {f : Nat} (hf : Bd f 5001) : ∀ j, j ≤ 8 → (∀ i, i < j → geB (fS f i) quarter = true) → ∃ s v, N64 (fS f j) s v ∧ v ≤ (8 - j) * p2 4998
  | 0, _, _ => by
    obtain ⟨s, v, h, hv⟩ := hf
    have h1 : p2 4999 = 2 * p2 4998 := p2_succ 4998
    have h2 : p2 5000 = 2 * p2 4999 := p2_succ 4999
    have h3 : p2 5001 = 2 * p2 5000 := p2_succ 5000
    exact ⟨s, v, h, by omega⟩
  | j + 1, hj, hg => by
    obtain ⟨s, v, h, hv⟩ := left hf j (by omega) fun i hi => hg i (by omega)
    obtain ⟨rfl, hq⟩ := ge_quarter h (hg j (by omega))
    obtain ⟨hr, hr'⟩ := qW_val (8 - (j + 1)) (by omega)
    have e : (8 - j) * p2 4998 = (8 - (j + 1)) * p2 4998 + p2 4998 := by
      rw [show 8 - j = (8 - (j + 1)) + 1 from by omega, Nat.add_mul, Nat.one_mul]
    obtain ⟨sg, u, h', hu⟩ := sub_rung h n_quarter hr' (by
      rw [hr]
      unfold iv
      simp only [Bool.false_eq_true, if_false]
      omega)
    exact ⟨sg, u, h', by rw [hr] at hu; exact hu⟩

theorem left_bd {f : Nat} (hf : Bd f 5001) {j : Nat} (hj : j ≤ 8) (hg : ∀ i, i < j → geB (fS f i) quarter = true) : Bd (fS f j) 5001 := by
  obtain ⟨s, v, h, hv⟩ := left hf j hj hg
  have h1 : p2 4999 = 2 * p2 4998 := p2_succ 4998
  have h2 : p2 5000 = 2 * p2 4999 := p2_succ 4999
  have h3 : p2 5001 = 2 * p2 5000 := p2_succ 5000
  have h4 : (8 - j) * p2 4998 ≤ 8 * p2 4998 := Nat.mul_le_mul_right _ (by omega)
  exact ⟨s, v, h, by omega⟩

theorem stops_from {f : Nat} (hf : Bd f 5001) : ∀ k j, j + k = 8 → (∀ i, i < j → geB (fS f i) quarter = true) →
    ∃ n, n ≤ 8 ∧ (∀ i, i < n → geB (fS f i) quarter = true) ∧ geB (fS f n) quarter = false
  | 0, j, hj, hg => by
    refine ⟨j, by omega, hg, ?_⟩
    obtain ⟨s, v, h, hv⟩ := left hf j (by omega) hg
    rw [show 8 - j = 0 from by omega, Nat.zero_mul] at hv
    have hp := p2_pos 4998
    cases e : geB (fS f j) quarter with
    | false => rfl
    | true => exfalso; have := (ge_quarter h e).2; omega
  | k + 1, j, hj, hg => by
    cases e : geB (fS f j) quarter with
    | false => exact ⟨j, by omega, hg, e⟩
    | true =>
      refine stops_from hf k (j + 1) (by omega) fun i hi => ?_
      rcases Nat.lt_or_ge i j with h | h
      · exact hg i h
      · rw [show i = j from by omega]; exact e

theorem stops {f : Nat} (hf : Bd f 5001) : ∃ n, n ≤ 8 ∧ (∀ i, i < n → geB (fS f i) quarter = true) ∧ geB (fS f n) quarter = false :=
  stops_from hf 8 0 rfl fun i hi => absurd hi (by omega)

theorem b_zero (K : Nat) : Bd 0 K := by
  refine ⟨_, _, of_word (x := 0) (by decide), ?_⟩
  rw [val_zero]; exact Nat.zero_le _
theorem b_quarter : Bd quarter 4998 := ⟨_, _, n_quarter, Nat.le_refl _⟩
theorem Bd.small {x K : Nat} (h : Bd x K) (hK : K ≤ 5051) : Small x := by
  obtain ⟨s, v, h, hv⟩ := h
  refine ⟨s, v, h, Nat.lt_of_le_of_lt hv ?_⟩
  have h1 := pw (a := K) (b := 5051) hK
  have h2 : p2 5052 = 2 * p2 5051 := p2_succ 5051
  have h3 := p2_pos 5051
  omega

def pickRe (n c s c' s' : Nat) : Nat := if n = 1 then s' else if n = 2 then c' else if n = 3 then s else c
def pickIm (n c s c' s' : Nat) : Nat := if n = 1 then c else if n = 2 then s' else if n = 3 then c' else s

/-- A complex64 whose parts are the same numbers as these, or NaNs where these are. -/
def CRet (k : FloatKind) (re im : Nat) (w : World) (e : Ending) (w' : World) : Prop := ∃ r i n, e = .returned (.complex k r i) ∧ Same k r re ∧ Same k i im ∧ w' = w.drewN n
theorem cret {k : FloatKind} {r i re im : Nat} {w : World} {n : Nat} (h : Same k r re) (g : Same k i im) : CRet k re im w (.returned (.complex k r i)) (w.drewN n) := ⟨r, i, n, rfl, h, g, rfl⟩
theorem cret0 {k : FloatKind} {r i re im : Nat} {w : World} (h : Same k r re) (g : Same k i im) : CRet k re im w (.returned (.complex k r i)) w := ⟨r, i, 0, rfl, h, g, rfl⟩

/-! ### complex128(z) -/
section
variable {P : Program}
theorem run_f2f (x : Nat) (w : World) : ∃ r n, Same .f64 r (wide x) ∧ (Conv.floatToFloat .f32 x .f64).run P w = .ok (.float .f64 r) (w.drewN n) := by
  cases h : isN .f32 x with
  | false => exact ⟨_, 0, .inl rfl, run_floatToFloat w (wide_ok x h)⟩
  | true =>
    obtain ⟨s, t, hn⟩ := decode_nan h
    refine ⟨(Question.nanConv .f64 x).cut (w.tape w.drawn (.nanConv .f64 x)), 1, .inr ⟨cut_nanConv .., nan_wide h⟩, ?_⟩
    simp [Conv.floatToFloat, hn, choose, Sem.run, Question.forced] <;> rfl

theorem run_cwide {S D : TypeId} (hs : (P.underlying S).isSome = true) (hd : P.underlying D = some (.complex .f64)) (x y : Nat) (w : World) :
    ∃ r i n, Same .f64 r (wide x) ∧ Same .f64 i (wide y) ∧ (convert S D (.complex .f32 x y)).run P w = .ok (.complex .f64 r i) (w.drewN n) := by
  obtain ⟨r, n, hr, h1⟩ := run_f2f (P := P) x w
  obtain ⟨i, m, hi, h2⟩ := run_f2f (P := P) y (w.drewN n)
  obtain ⟨u, hs'⟩ := Option.isSome_iff_exists.1 hs
  refine ⟨r, i, n + m, hr, hi, ?_⟩
  rw [show w.drewN (n + m) = (w.drewN n).drewN m from by simp [World.drewN, Nat.add_assoc]]
  cases u <;> simp [convert, run_underlying hs', run_underlying hd, Conv.complexToComplex, h1, h2]

variable {ops : Array Oper} {rest : List Oper} {Q : Exit → Act → World → Prop} {a : Act} {w : World} {dst : Option Tmp} {ty : TypeId} {pos : String} {after : Array Edge} {guard : Option (Nat × Bool)}
theorem wpList_cwide {S D : TypeId} {X : Operand} {x y : Nat} (hs : (P.underlying S).isSome = true) (hd : P.underlying D = some (.complex .f64))
    (hw : Region.wanted ⟨dst, .convert S D X, ty, pos, after, guard⟩ (yielded ops a.tmps) = true) (hx : a.eval X = .complex .f32 x y)
    (h : ∀ r i n, Same .f64 r (wide x) → Same .f64 i (wide y) → wpList P ops Q rest (a.put dst (.complex .f64 r i)) (w.drewN n)) :
    wpList P ops Q (⟨dst, .convert S D X, ty, pos, after, guard⟩ :: rest) a w := by
  obtain ⟨r, i, n, h1, h2, hr⟩ := run_cwide (P := P) hs hd x y w
  refine wpList_step fun K hK => ?_
  rw [if_pos hw]
  unfold Oper.wp execOp
  simp only [hx, Sem.run_bind, Sem.run_pure, Result.andThen_ok, hr]
  exact hK _ _ (h r i n h1 h2)
end
end Go.Proofs.Ytkmbfgnemamlfaa.PhasP
