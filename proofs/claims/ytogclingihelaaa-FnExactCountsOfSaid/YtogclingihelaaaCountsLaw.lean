/- The walk of the law on CountsOf, out of the contracts. -/
import Derived.Test.YtogclingihelaaaCounts
namespace Go.Proofs.Ytogclingihelaaa.CountsLaw
open Go.RowKit Go.Proofs.Ytogclingihelaaa.SlI Go.Proofs.Ytogclingihelaaa.Counts

theorem mark1 (a : Option Addr) (n g : Nat) (f : Nat → Int) (w : World) (h : Sl w a n f g) (hn : n ≤ 1048576) :
    Calls Try.prog 38 #[.slice a n n, .int .i64 1] w fun e w' => e = .returned (.int .i64 (1 + (n : Int))) ∧ Sl w' a n (marks 1) g ∧ Only g w w' := by
  have := mark_any a n n g 1 f w h hn (by omega)
  refine (show Calls Try.prog 38 #[.slice a n n, .int .i64 1] w (Marked w a n g 1) from this).mono ?_
  rintro e w' ⟨rfl, h1, h2⟩
  exact ⟨by simp, h1, h2⟩
theorem held1 (a : Option Addr) (n : Nat) (w : World) (h : Rd w a n (marks 1)) (hn : n ≤ 1048576) :
    Calls Try.prog 39 #[.slice a n n, .int .i64 1] w fun e w' => e = .returned (.int .i64 (1 + (n : Int))) ∧ w = w' := by
  have := held_any a n n 1 w h hn (by omega)
  refine (show Calls Try.prog 39 #[.slice a n n, .int .i64 1] w _ from this).mono ?_
  rintro e w' ⟨rfl, h1⟩
  exact ⟨by simp, h1⟩

theorem Sl.ne {w : World} {a : Option Addr} {n g g' : Nat} {f : Nat → Int} (h : Sl w a n f g) (hg : w.heap.size ≤ g') : n = 0 ∨ g ≠ g' := by
  rcases h with h | ⟨_, h⟩
  · exact .inl h
  · have := h.lt; right; omega
theorem Sl.other {w w' : World} {a : Option Addr} {n g g' : Nat} {f : Nat → Int} (h : Sl w a n f g) (ho : Only g' w w') (hne : n = 0 ∨ g ≠ g') : Sl w' a n f g := by
  rcases hne with rfl | hne
  · exact .inl rfl
  · exact h.only ho hne

theorem Rd.drewN {w : World} {a : Option Addr} {n : Nat} {f : Nat → Int} (h : Rd w a n f) (m : Nat) : Rd (w.drewN m) a n f := h
theorem Own.drewN {w : World} {g n : Nat} {f : Nat → Int} (h : Own w g n f) (m : Nat) : Own (w.drewN m) g n f := h
theorem Sl.drewN {w : World} {a : Option Addr} {n g : Nat} {f : Nat → Int} (h : Sl w a n f g) (m : Nat) : Sl (w.drewN m) a n f g := h

/-- From 'w' on, below all that the call has made. -/
theorem grow {w w1 w2 : World} (h1 : Below w.heap.size w w1) (h2 : Below w1.heap.size w1 w2) : Below w.heap.size w w2 := h1.trans (h2.mono h1.size)

set_option maxHeartbeats 4000000 in
theorem walk_small (a : Option Addr) (n cap : Nat) (most : Int) (f : Nat → Int) (w : World) (h : Rd w a n f) (hn : n ≤ 1048576) :
    Calls Try.prog 12 #[.slice a n cap, .int .i64 most] w fun e w' => e = .returned (.bool true) ∧ Below w.heap.size w w' := by
  obtain ⟨N, c, b, hN, S, I⟩ := both n most f hn
  have S' := Lib.hid S
  have I' := Lib.hid I
  have hN' : N ≤ 1048576 := by omega
  clear S I hN
  go_enter Try.func12, Try.ntmps12
  go_wp2_with fail
  refine (copy_any _ _ _ f _ h hn).mono ?_
  rintro e w1 ⟨g1, rfl, k1, o1, b1⟩
  go_wp2_with fail
  refine (S'.out _ _ _ o1.rd).mono ?_
  rintro e w2 ⟨aS, gs, rfl, s2, ks, b2⟩
  have B2 := grow b1 b2
  clear S' o1 b2
  go_wp2_with fail
  refine (copy_any _ _ _ f _ (h.below B2) hn).mono ?_
  rintro e w3 ⟨gx, rfl, kx, x3, b3⟩
  have B3 := grow B2 b3
  have s3 := s2.below b3
  have sx := Sl.ne s2 kx
  have hx : w.heap.size ≤ gx := by have := B2.size; omega
  clear s2 ks B2 b3 k1 b1
  go_wp2_with fail
  refine (I'.out _ _ _ x3.rd).mono ?_
  rintro e w4 ⟨ai, gi, rfl, i4, ki, b4⟩
  have B4 := grow B3 b4
  have s4 := s3.below b4
  have x4 := x3.below b4
  have si := Sl.ne s3 ki
  have hi : w.heap.size ≤ gi := by have := B3.size; omega
  have ix : N = 0 ∨ gi ≠ gx := by have := x3.lt; right; omega
  clear s3 x3 B3 b4 ki kx
  go_wp2_with fail
  refine (eq_any _ _ _ _ _ c _ i4.rd s4.rd hN').mono ?_
  rintro e w4' ⟨d4, rfl, rfl⟩
  go_wp2_with fail
  refine (copy_any _ _ _ f _ (Rd.drewN (h.below B4) d4) hn).mono ?_
  rintro e w5 ⟨g5, rfl, k5, o5, b5⟩
  have B5 := grow (w1 := w4.drewN d4) (below_drewN B4 d4) b5
  have s5 : Sl w5 aS N c gs := Sl.below (Sl.drewN s4 d4) b5
  have i5 : Sl w5 ai N c gi := Sl.below (Sl.drewN i4 d4) b5
  have x5 : Own w5 gx n f := Own.below (Own.drewN x4 d4) b5
  clear s4 i4 x4 B4 b5 k5
  go_wp2_with fail
  refine (eq_any _ _ _ _ _ f _ x5.rd o5.rd hn).mono ?_
  rintro e w5' ⟨d5, rfl, rfl⟩
  clear o5
  go_wp2_with fail
  refine (mark1 _ n gx f _ (.inr ⟨rfl, Own.drewN x5 d5⟩) hn).mono ?_
  rintro e w6 ⟨rfl, _, o6⟩
  have B6 := o6.below (below_drewN B5 d5) hx
  have s6 : Sl w6 aS N c gs := Sl.other (Sl.drewN s5 d5) o6 sx
  have i6 : Sl w6 ai N c gi := Sl.other (Sl.drewN i5 d5) o6 ix
  clear s5 i5 x5 B5 o6
  go_wp2_with fail
  refine (eq_any _ _ _ _ _ c _ i6.rd s6.rd hN').mono ?_
  rintro e w6' ⟨d6, rfl, rfl⟩
  go_wp2_with fail
  refine (mark1 _ N gi c _ (Sl.drewN i6 d6) hN').mono ?_
  rintro e w7 ⟨rfl, i7, o7⟩
  have B7 := o7.below (below_drewN B6 d6) hi
  have s7 : Sl w7 aS N c gs := Sl.other (Sl.drewN s6 d6) o7 si
  clear s6 i6 B6 o7
  go_wp2_with fail
  refine (held1 _ N _ i7.rd hN').mono ?_
  rintro e w7' ⟨rfl, rfl⟩
  go_wp2_with fail
  refine (copy_any _ _ _ f _ (h.below B7) hn).mono ?_
  rintro e w8 ⟨g8, rfl, k8, o8, b8⟩
  have B8 := grow B7 b8
  have s8 := s7.below b8
  have i8 := i7.below b8
  clear s7 i7 B7 b8 k8
  go_wp2_with fail
  refine (I'.out _ _ _ o8.rd).mono ?_
  rintro e w9 ⟨ah, gh, rfl, h9, kh, b9⟩
  have B9 := grow B8 b9
  have s9 := s8.below b9
  have i9 := i8.below b9
  clear s8 i8 B8 b9 kh o8 I'
  go_wp2_with fail
  refine (eq_any _ _ _ _ _ c _ h9.rd s9.rd hN').mono ?_
  rintro e w9' ⟨d9, rfl, rfl⟩
  clear h9 s9
  go_wp2_with fail
  refine (held1 _ N _ (Rd.drewN i9.rd d9) hN').mono ?_
  rintro e w9'' ⟨rfl, rfl⟩
  go_wp2_with fail
  go_ret
  exact ⟨rfl, below_drewN B9 _⟩

/-- The law's walk. -/
theorem walk (a : Option Addr) (n cap : Nat) (f : Nat → Int) (most : Int) (w : World) (h : Rd w a n f) (_ : (Lit.int .i64 most).wf = true) :
    Calls Try.prog 12 #[.slice a n cap, .int .i64 most] w fun e w' => e = .returned (.bool true) ∧ Below w.heap.size w w' := by
  by_cases hn : n ≤ 1048576
  · exact walk_small a n cap most f w h hn
  · have hn' : 1048576 < n := by omega
    clear h hn
    go_enter Try.func12, Try.ntmps12
    go_wp2
    go_ret
    exact ⟨rfl, Below.refl _ _⟩
end Go.Proofs.Ytogclingihelaaa.CountsLaw
