/- The program's CountsOf and the reference's count alike, in new memory. -/
import Derived.Test.YtogclingihelaaaSlI
namespace Go.Proofs.Ytogclingihelaaa.Counts
open Go.RowKit Go.Proofs.Ytogclingihelaaa.SlI

/-- How often 'i' is among the first 'n'. -/
def cntF (f : Nat → Int) : Nat → Nat → Int
  | 0, _ => 0
  | n + 1, i => cntF f n i + if f n = (i : Int) then 1 else 0

theorem cnt_in (f : Nat → Int) (n i : Nat) : 0 ≤ cntF f n i ∧ cntF f n i ≤ n := by
  induction n with
  | zero => unfold cntF; omega
  | succ n ih => unfold cntF; split <;> omega

theorem cnt_step (f : Nat → Int) (k p : Nat) (h : f k = (p : Int)) (i : Nat) : cntF f (k + 1) i = if i = p then cntF f k p + 1 else cntF f k i := by
  show cntF f k i + (if f k = (i : Int) then 1 else 0) = _
  rw [h]
  by_cases e : i = p
  · subst e; simp
  · rw [if_neg (by omega), if_neg e]; omega

def In (x : Int) (m : Nat) : Prop := 0 ≤ x ∧ x ≤ (m : Int)

/-- What CountsOf gives: a slice of 'N' elements (none: nil) and a Bool; the slice lies in new memory. -/
def Res (w : World) (N : Nat) (c : Nat → Int) (b : Bool) (e : Ending) (w' : World) : Prop :=
  ∃ a g, e = .returned (.tuple #[.slice a N N, .bool b]) ∧ Sl w' a N c g ∧ w.heap.size ≤ g ∧ Below w.heap.size w w'

theorem closure_in (x lo hi : Int) (p q : Addr) (w : World) (hp : w.cell? p = some (.int .i64 lo)) (hq : w.cell? q = some (.int .i64 hi)) (h0 : lo ≤ x) (h1 : x ≤ hi) :
    Calls Try.prog 64 #[.int .i64 x, .pointer (some p), .pointer (some q)] w fun e w' => e = .returned (.bool false) ∧ w = w' := by
  go_enter Try.func64, Try.ntmps64
  go_wp2
  go_ret
  exact ⟨rfl, rfl⟩

theorem closure_out (x lo hi : Int) (p q : Addr) (w : World) (hp : w.cell? p = some (.int .i64 lo)) (hq : w.cell? q = some (.int .i64 hi)) (h : x < lo ∨ hi < x) (_ : lo ≤ hi) :
    Calls Try.prog 64 #[.int .i64 x, .pointer (some p), .pointer (some q)] w fun e w' => e = .returned (.bool true) ∧ w = w' := by
  rcases h with h | h
  · have hd : decide (lo ≤ x) = false := decide_eq_false (by omega)
    go_enter Try.func64, Try.ntmps64
    go_wp2
    go_ret
    exact ⟨rfl, rfl⟩
  · have h0 : lo ≤ x := by omega
    have hd : decide (x ≤ hi) = false := decide_eq_false (by omega)
    go_enter Try.func64, Try.ntmps64
    go_wp2
    go_ret
    exact ⟨rfl, rfl⟩

set_option maxHeartbeats 400000 in
theorem index_none (a : Option Addr) (n cap : Nat) (f : Nat → Int) (lo hi : Int) (p q : Addr) (w : World) (h : Rd w a n f) (hn : n ≤ 1048576)
    (hp : w.cell? p = some (.int .i64 lo)) (hq : w.cell? q = some (.int .i64 hi)) (hall : ∀ i, i < n → lo ≤ f i ∧ f i ≤ hi) :
    Calls Try.prog 65 #[.slice a n cap, .func (.func 64) #[] #[.pointer (some p), .pointer (some q)]] w fun e w' => e = .returned (.int .i64 (-1)) ∧ w = w' := by
  go_enter Try.func65, Try.ntmps65
  go_wp2
  go_loop [8] (fun i => ∃ k : Nat, k ≤ n ∧ i = .int .i64 k) (fun i => n - (intOf i).toNat)
  case atStart => exact ⟨0, Nat.zero_le _, rfl⟩
  case round =>
    obtain ⟨k, hk, rfl⟩ := hrel
    by_cases hlt : k < n
    · obtain ⟨b, off, rfl, _, hc⟩ := h k hlt
      obtain ⟨h0, h1⟩ := hall k hlt
      clear h hall
      generalize f k = x at hc h0 h1
      go_wp2_with (go_at_call 64; refine (closure_in _ _ _ _ _ _ hp hq h0 h1).mono ?_; rintro e w' ⟨rfl, rfl⟩)
      go_round
      case rel => exact ⟨k + 1, by omega, by go_num⟩
      case measure => simp [intOf]; omega
    · clear h hall
      go_wp2
      go_ret
      exact ⟨rfl, rfl⟩

set_option maxHeartbeats 400000 in
theorem index_some (a : Option Addr) (n cap j : Nat) (f : Nat → Int) (lo hi : Int) (p q : Addr) (w : World) (h : Rd w a n f) (hn : n ≤ 1048576)
    (hp : w.cell? p = some (.int .i64 lo)) (hq : w.cell? q = some (.int .i64 hi)) (hlh : lo ≤ hi) (hj : j < n) (hall : ∀ i, i < j → lo ≤ f i ∧ f i ≤ hi) (hbad : f j < lo ∨ hi < f j) :
    Calls Try.prog 65 #[.slice a n cap, .func (.func 64) #[] #[.pointer (some p), .pointer (some q)]] w fun e w' => e = .returned (.int .i64 (j : Int)) ∧ w = w' := by
  go_enter Try.func65, Try.ntmps65
  go_wp2
  go_loop [8] (fun i => ∃ k : Nat, k ≤ j ∧ i = .int .i64 k) (fun i => n - (intOf i).toNat)
  case atStart => exact ⟨0, Nat.zero_le _, rfl⟩
  case round =>
    obtain ⟨k, hk, rfl⟩ := hrel
    obtain ⟨b, off, rfl, _, hc⟩ := h k (by omega)
    clear h
    have hkn : k < n := by omega
    by_cases hlt : k < j
    · obtain ⟨h0, h1⟩ := hall k hlt
      clear hall hbad
      generalize f k = x at hc h0 h1
      go_wp2_with (go_at_call 64; refine (closure_in _ _ _ _ _ _ hp hq h0 h1).mono ?_; rintro e w' ⟨rfl, rfl⟩)
      go_round
      case rel => exact ⟨k + 1, by omega, by go_num⟩
      case measure => simp [intOf]; omega
    · obtain rfl : k = j := by omega
      clear hall
      generalize f k = x at hc hbad
      have hbad' := Lib.hid hbad
      clear hbad
      go_wp2_with (go_at_call 64; refine (closure_out _ _ _ _ _ _ hp hq hbad'.out hlh).mono ?_; rintro e w' ⟨rfl, rfl⟩)
      go_ret
      exact ⟨rfl, rfl⟩

theorem two_cells (w : World) (x y : Value) (t : TypeId) : ((w.alloc (.cells #[x] t)).alloc (.cells #[y] t)).cell? ⟨w.heap.size, 0, none⟩ = some x ∧
    ((w.alloc (.cells #[x] t)).alloc (.cells #[y] t)).cell? ⟨w.heap.size + 1, 0, none⟩ = some y := by
  constructor
  · rw [cell_of_row _ w.heap.size 0 #[x] t (0, 0) (heap_alloc2_old w _ _)]; rfl
  · rw [cell_of_row _ (w.heap.size + 1) 0 #[y] t (0, 0) (heap_alloc2_new w _ _)]; rfl

theorem below2 (w : World) (o o' : Obj) : Below w.heap.size w ((w.alloc o).alloc o') := ((Below.refl _ _).alloc (Nat.le_refl _) _).alloc (by simp) _

set_option maxHeartbeats 400000 in
theorem within_yes (a : Option Addr) (n cap : Nat) (f : Nat → Int) (lo hi : Int) (w : World) (h : Rd w a n f) (hn : n ≤ 1048576) (hall : ∀ i, i < n → lo ≤ f i ∧ f i ≤ hi) :
    Calls Try.prog 57 #[.slice a n cap, .int .i64 lo, .int .i64 hi] w fun e w' => e = .returned (.bool true) ∧ Below w.heap.size w w' := by
  have hmf : ∀ (fn : Fn) (first cap : Array Value) (w : World), (Instr.makeFunc fn first cap).run Try.prog w = .ok (.func fn first cap) w := fun _ _ _ _ => rfl
  have hb := below2 w (.cells #[.int .i64 lo] 2) (.cells #[.int .i64 hi] 2)
  have hc := two_cells w (.int .i64 lo) (.int .i64 hi) 2
  have hr := h.below hb
  have C := Lib.hid (index_none a n cap f lo hi _ _ _ hr hn hc.1 hc.2 hall)
  have hb' := Lib.hid hb
  clear h hr hc hb hall
  go_enter Try.func57, Try.ntmps57
  go_wp2_with (first
    | (go_at_call 63; go_in)
    | (go_at_call 65; refine (C.out).mono ?_; rintro e w' ⟨rfl, rfl⟩))
  go_ret
  exact ⟨rfl, hb'.out⟩

set_option maxHeartbeats 400000 in
theorem within_no (a : Option Addr) (n cap j : Nat) (f : Nat → Int) (lo hi : Int) (w : World) (h : Rd w a n f) (hn : n ≤ 1048576) (hlh : lo ≤ hi) (hj : j < n) (hall : ∀ i, i < j → lo ≤ f i ∧ f i ≤ hi) (hbad : f j < lo ∨ hi < f j) :
    Calls Try.prog 57 #[.slice a n cap, .int .i64 lo, .int .i64 hi] w fun e w' => e = .returned (.bool false) ∧ Below w.heap.size w w' := by
  have hmf : ∀ (fn : Fn) (first cap : Array Value) (w : World), (Instr.makeFunc fn first cap).run Try.prog w = .ok (.func fn first cap) w := fun _ _ _ _ => rfl
  have hb := below2 w (.cells #[.int .i64 lo] 2) (.cells #[.int .i64 hi] 2)
  have hc := two_cells w (.int .i64 lo) (.int .i64 hi) 2
  have hr := h.below hb
  have C := Lib.hid (index_some a n cap j f lo hi _ _ _ hr hn hc.1 hc.2 hlh hj hall hbad)
  have hb' := Lib.hid hb
  clear h hr hc hb hall hbad
  go_enter Try.func57, Try.ntmps57
  go_wp2_with (first
    | (go_at_call 63; go_in)
    | (go_at_call 65; refine (C.out).mono ?_; rintro e w' ⟨rfl, rfl⟩))
  go_ret
  exact ⟨rfl, hb'.out⟩

/-- The good case. -/
structure Ok (f : Nat → Int) (n m : Nat) : Prop where
  few : n ≤ 256
  most : m ≤ 128
  all : ∀ i, i < n → In (f i) m

set_option maxHeartbeats 1000000 in
theorem spec_yes (a : Option Addr) (n cap m : Nat) (f : Nat → Int) (w : World) (h : Rd w a n f) (hk : Ok f n m) :
    Calls Try.prog 34 #[.slice a n cap, .int .i64 (m : Int)] w (Res w (m + 1) (cntF f n) true) := by
  obtain ⟨i0, hi, hz0, hz1, hz2⟩ := info_parts info
  obtain ⟨hn, hm, hall⟩ := hk
  have hgt : decide ((256 : Int) < (n : Int)) = false := decide_eq_false (by omega)
  have hm0 : (0 : Int) ≤ (m : Int) := by omega
  have hm1 : (m : Int) ≤ 128 := by omega
  have hall' := Lib.hid hall
  clear hall
  go_enter Try.func34, Try.ntmps34
  go_wp2_with (first
    | (go_at_call 44; go_in)
    | (at_make; refine wpList_make_full _ rfl _ _ 41 rfl w.heap.size 2 i0 (.int .i64 0) 1 Try.underlying41 hi hz0 hz1 _ _ _ _ (m + 1) rfl rfl (by omega) (by omega) (by rw [hz2]; omega) (by unfold maxLen; omega) (Nat.le_refl _) ?_))
  intro w0 hown0 hgrow0
  have ho : Own w0 w.heap.size (m + 1) (cntF f 0) := own_made hown0
  have hb0 : Below w.heap.size w w0 := (Below.refl _ _).grown hgrow0 (Nat.le_refl _) (fun k h => by cases h)
  clear hown0 hgrow0 hz0 hz1 hz2 hi hgt
  go_wp2
  go_loopw [7] (fun i wr => ∃ k : Nat, k ≤ n ∧ i = .int .i64 k ∧ Own wr w.heap.size (m + 1) (cntF f k) ∧ Below w.heap.size w wr) (fun i _ => n - (intOf i).toNat)
  case atStart => exact ⟨0, Nat.zero_le _, rfl, ho, hb0⟩
  case round =>
    clear ho hb0
    obtain ⟨k, hk, rfl, hp, hbel⟩ := hrel
    by_cases hlt : k < n
    · obtain ⟨b, off, rfl, hb, hc⟩ := h k hlt
      obtain ⟨q0, q1⟩ := hall'.out k hlt
      obtain ⟨p, hfp⟩ : ∃ p : Nat, f k = (p : Int) := ⟨(f k).toNat, by omega⟩
      have hstep := Lib.hid (hp.store (f' := cntF f (k + 1)) p (cntF f k p + 1) (fun i _ => cnt_step f k p hfp i))
      have hc' : wr.cell? ⟨b, off + k, none⟩ = some (.int .i64 (p : Int)) := by rw [← hfp]; exact (hbel.cell (p := ⟨b, off + k, none⟩) hb).trans hc
      have hpm : p ≤ m := by omega
      have hv := hp.cell p (by omega)
      have hf := hp.free p
      have hbel' := Lib.hid (hbel.setCell (p := ⟨w.heap.size, p, none⟩) (Nat.le_refl _) (.int .i64 (cntF f k p + 1)))
      have hci := cnt_in f k p
      clear hp hbel hc hb h hfp q0 q1 hall'
      generalize cntF f k p = c at *
      obtain ⟨hc0, hc1⟩ := hci
      have hp0 : (0 : Int) ≤ (p : Int) := by omega
      have hp1 : (p : Int) ≤ (m : Int) := by omega
      go_wp2_with (go_at_call 44; go_in)
      go_roundw
      case rel => exact ⟨k + 1, by omega, by go_num, hstep.out, hbel'.out⟩
      case measure => simp [intOf]; omega
    · obtain rfl : k = n := by omega
      have hp' := Lib.hid hp
      have hbel' := Lib.hid hbel
      clear hp hbel h hall'
      go_wp2
      go_ret2
      exact ⟨some ⟨w.heap.size, 0, none⟩, w.heap.size, rfl, .inr ⟨rfl, hp'.out⟩, Nat.le_refl _, hbel'.out⟩

set_option maxHeartbeats 1000000 in
theorem impl_yes (a : Option Addr) (n cap m : Nat) (f : Nat → Int) (w : World) (h : Rd w a n f) (hk : Ok f n m) :
    Calls Try.prog 36 #[.slice a n cap, .int .i64 (m : Int)] w (Res w (m + 1) (cntF f n) true) := by
  obtain ⟨i0, hi, hz0, hz1, hz2⟩ := info_parts info
  obtain ⟨hn, hm, hall⟩ := hk
  have hgt : decide ((256 : Int) < (n : Int)) = false := decide_eq_false (by omega)
  have hm0 : (0 : Int) ≤ (m : Int) := by omega
  have hm1 : (m : Int) ≤ 128 := by omega
  have W := Lib.hid (within_yes a n cap f 0 m w h (by omega) hall)
  have hall' := Lib.hid hall
  have h' := Lib.hid h
  clear hall h
  go_enter Try.func36, Try.ntmps36
  go_wp2_with (first
    | (go_at_call 56; go_in)
    | (go_at_call 46; go_in))
  refine (W.out).mono ?_
  rintro e w1 ⟨rfl, hb1⟩
  have hr1 := h'.out.below hb1
  have hs1 := hb1.size
  clear h'
  go_wp2_with (at_make; refine wpList_make_full _ rfl _ _ 41 rfl w1.heap.size 2 i0 (.int .i64 0) 1 Try.underlying41 hi hz0 hz1 _ _ _ _ (m + 1) rfl rfl (by omega) (by omega) (by rw [hz2]; omega) (by unfold maxLen; omega) (Nat.le_refl _) ?_)
  intro w0 hown0 hgrow0
  have ho : Own w0 w1.heap.size (m + 1) (cntF f 0) := own_made hown0
  have hb0 : Below w1.heap.size w1 w0 := (Below.refl _ _).grown hgrow0 (Nat.le_refl _) (fun k h => by cases h)
  clear hown0 hgrow0 hz0 hz1 hz2 hi hgt W
  go_wp2
  go_loopw [28] (fun i wr => ∃ k : Nat, k ≤ n ∧ i = .int .i64 k ∧ Own wr w1.heap.size (m + 1) (cntF f k) ∧ Below w1.heap.size w1 wr) (fun i _ => n - (intOf i).toNat)
  case atStart => exact ⟨0, Nat.zero_le _, rfl, ho, hb0⟩
  case round =>
    clear ho hb0
    obtain ⟨k, hk, rfl, hp, hbel⟩ := hrel
    by_cases hlt : k < n
    · obtain ⟨b, off, rfl, hb, hc⟩ := hr1 k hlt
      obtain ⟨q0, q1⟩ := hall'.out k hlt
      obtain ⟨p, hfp⟩ : ∃ p : Nat, f k = (p : Int) := ⟨(f k).toNat, by omega⟩
      have hstep := Lib.hid (hp.store (f' := cntF f (k + 1)) p (cntF f k p + 1) (fun i _ => cnt_step f k p hfp i))
      have hc' : wr.cell? ⟨b, off + k, none⟩ = some (.int .i64 (p : Int)) := by rw [← hfp]; exact (hbel.cell (p := ⟨b, off + k, none⟩) hb).trans hc
      have hpm : p ≤ m := by omega
      have hv := hp.cell p (by omega)
      have hf := hp.free p
      have hbel' := Lib.hid (hbel.setCell (p := ⟨w1.heap.size, p, none⟩) (Nat.le_refl _) (.int .i64 (cntF f k p + 1)))
      have hci := cnt_in f k p
      clear hp hbel hc hb hr1 hfp q0 q1 hall' hb1
      generalize cntF f k p = c at *
      obtain ⟨hc0, hc1⟩ := hci
      have hp0 : (0 : Int) ≤ (p : Int) := by omega
      have hp1 : (p : Int) ≤ (m : Int) := by omega
      go_wp2
      go_roundw
      case rel => exact ⟨k + 1, by omega, by go_num, hstep.out, hbel'.out⟩
      case measure => simp [intOf]; omega
    · obtain rfl : k = n := by omega
      have hp' := Lib.hid hp
      have hbel' := Lib.hid (hb1.trans (hbel.mono hs1))
      clear hp hbel hr1 hall' hb1
      go_wp2
      go_ret2
      exact ⟨some ⟨w1.heap.size, 0, none⟩, w1.heap.size, rfl, .inr ⟨rfl, hp'.out⟩, hs1, hbel'.out⟩

theorem res_no {w w' : World} {c : Nat → Int} (h : Below w.heap.size w w') : Res w 0 c false (.returned (.tuple #[.slice none 0 0, .bool false])) w' :=
  ⟨none, w.heap.size, rfl, .inl rfl, Nat.le_refl _, h⟩

/-- Too many, or too many turns. -/
theorem spec_far (a : Option Addr) (n cap : Nat) (most : Int) (c : Nat → Int) (w : World) (hn : n ≤ 1048576) (h : 256 < n ∨ most < 0 ∨ 128 < most) :
    Calls Try.prog 34 #[.slice a n cap, .int .i64 most] w (Res w 0 c false) := by
  by_cases h1 : 256 < n
  · have hd : decide ((256 : Int) < (n : Int)) = true := decide_eq_true (by omega)
    clear h
    go_enter Try.func34, Try.ntmps34
    go_wp2_with (go_at_call 44; go_in)
    go_ret2
    exact res_no (Below.refl _ _)
  · have hd : decide ((256 : Int) < (n : Int)) = false := decide_eq_false (by omega)
    by_cases h2 : most < 0
    · have hd2 : decide (0 ≤ most) = false := decide_eq_false (by omega)
      clear h
      go_enter Try.func34, Try.ntmps34
      go_wp2_with (go_at_call 44; go_in)
      go_ret2
      exact res_no (Below.refl _ _)
    · have h3 : 0 ≤ most := by omega
      have hd3 : decide (most ≤ 128) = false := decide_eq_false (by omega)
      clear h h2
      go_enter Try.func34, Try.ntmps34
      go_wp2_with (go_at_call 44; go_in)
      go_ret2
      exact res_no (Below.refl _ _)

theorem impl_far (a : Option Addr) (n cap : Nat) (most : Int) (c : Nat → Int) (w : World) (hn : n ≤ 1048576) (h : 256 < n ∨ most < 0 ∨ 128 < most) :
    Calls Try.prog 36 #[.slice a n cap, .int .i64 most] w (Res w 0 c false) := by
  by_cases h1 : 256 < n
  · have hd : decide ((256 : Int) < (n : Int)) = true := decide_eq_true (by omega)
    clear h
    go_enter Try.func36, Try.ntmps36
    go_wp2_with fail
    go_ret2
    exact res_no (Below.refl _ _)
  · have hd : decide ((256 : Int) < (n : Int)) = false := decide_eq_false (by omega)
    by_cases h2 : most < 0
    · have hd2 : decide (0 ≤ most) = false := decide_eq_false (by omega)
      clear h
      go_enter Try.func36, Try.ntmps36
      go_wp2_with (first
        | (go_at_call 56; go_in)
        | (go_at_call 46; go_in))
      go_ret2
      exact res_no (Below.refl _ _)
    · have h3 : 0 ≤ most := by omega
      have hd3 : decide (most ≤ 128) = false := decide_eq_false (by omega)
      clear h h2
      go_enter Try.func36, Try.ntmps36
      go_wp2_with (first
        | (go_at_call 56; go_in)
        | (go_at_call 46; go_in))
      go_ret2
      exact res_no (Below.refl _ _)

/-- One of the numbers is out of range: 'j' is the first. -/
structure Bad (f : Nat → Int) (n m j : Nat) : Prop where
  few : n ≤ 256
  most : m ≤ 128
  lt : j < n
  all : ∀ i, i < j → In (f i) m
  bad : f j < 0 ∨ (m : Int) < f j

set_option maxHeartbeats 1000000 in
theorem impl_bad (a : Option Addr) (n cap m j : Nat) (f : Nat → Int) (c : Nat → Int) (w : World) (h : Rd w a n f) (hk : Bad f n m j) :
    Calls Try.prog 36 #[.slice a n cap, .int .i64 (m : Int)] w (Res w 0 c false) := by
  obtain ⟨hn, hm, hj, hall, hbad⟩ := hk
  have hgt : decide ((256 : Int) < (n : Int)) = false := decide_eq_false (by omega)
  have hm0 : (0 : Int) ≤ (m : Int) := by omega
  have hm1 : (m : Int) ≤ 128 := by omega
  have W := Lib.hid (within_no a n cap j f 0 m w h (by omega) hm0 hj hall hbad)
  clear hall h hbad
  go_enter Try.func36, Try.ntmps36
  go_wp2_with (first
    | (go_at_call 56; go_in)
    | (go_at_call 46; go_in))
  refine (W.out).mono ?_
  rintro e w1 ⟨rfl, hb1⟩
  go_wp2_with fail
  go_ret2
  exact res_no hb1

set_option maxHeartbeats 1000000 in
theorem spec_bad (a : Option Addr) (n cap m j : Nat) (f : Nat → Int) (c : Nat → Int) (w : World) (h : Rd w a n f) (hk : Bad f n m j) :
    Calls Try.prog 34 #[.slice a n cap, .int .i64 (m : Int)] w (Res w 0 c false) := by
  obtain ⟨i0, hi, hz0, hz1, hz2⟩ := info_parts info
  obtain ⟨hn, hm, hj, hall, hbad⟩ := hk
  have hgt : decide ((256 : Int) < (n : Int)) = false := decide_eq_false (by omega)
  have hm0 : (0 : Int) ≤ (m : Int) := by omega
  have hm1 : (m : Int) ≤ 128 := by omega
  have hall' := Lib.hid hall
  have hbad' := Lib.hid hbad
  clear hall hbad
  go_enter Try.func34, Try.ntmps34
  go_wp2_with (first
    | (go_at_call 44; go_in)
    | (at_make; refine wpList_make_full _ rfl _ _ 41 rfl w.heap.size 2 i0 (.int .i64 0) 1 Try.underlying41 hi hz0 hz1 _ _ _ _ (m + 1) rfl rfl (by omega) (by omega) (by rw [hz2]; omega) (by unfold maxLen; omega) (Nat.le_refl _) ?_))
  intro w0 hown0 hgrow0
  have ho : Own w0 w.heap.size (m + 1) (cntF f 0) := own_made hown0
  have hb0 : Below w.heap.size w w0 := (Below.refl _ _).grown hgrow0 (Nat.le_refl _) (fun k h => by cases h)
  clear hown0 hgrow0 hz0 hz1 hz2 hi hgt
  go_wp2
  go_loopw [7] (fun i wr => ∃ k : Nat, k ≤ j ∧ i = .int .i64 k ∧ Own wr w.heap.size (m + 1) (cntF f k) ∧ Below w.heap.size w wr) (fun i _ => n - (intOf i).toNat)
  case atStart => exact ⟨0, Nat.zero_le _, rfl, ho, hb0⟩
  case round =>
    clear ho hb0
    obtain ⟨k, hk, rfl, hp, hbel⟩ := hrel
    have hkn : k < n := by omega
    obtain ⟨b, off, rfl, hb, hc⟩ := h k hkn
    by_cases hlt : k < j
    · obtain ⟨q0, q1⟩ := hall'.out k hlt
      obtain ⟨p, hfp⟩ : ∃ p : Nat, f k = (p : Int) := ⟨(f k).toNat, by omega⟩
      have hstep := Lib.hid (hp.store (f' := cntF f (k + 1)) p (cntF f k p + 1) (fun i _ => cnt_step f k p hfp i))
      have hc' : wr.cell? ⟨b, off + k, none⟩ = some (.int .i64 (p : Int)) := by rw [← hfp]; exact (hbel.cell (p := ⟨b, off + k, none⟩) hb).trans hc
      have hpm : p ≤ m := by omega
      have hv := hp.cell p (by omega)
      have hf := hp.free p
      have hbel' := Lib.hid (hbel.setCell (p := ⟨w.heap.size, p, none⟩) (Nat.le_refl _) (.int .i64 (cntF f k p + 1)))
      have hci := cnt_in f k p
      clear hp hbel hc hb h hfp q0 q1 hall' hbad'
      generalize cntF f k p = c at *
      obtain ⟨hc0, hc1⟩ := hci
      have hp0 : (0 : Int) ≤ (p : Int) := by omega
      have hp1 : (p : Int) ≤ (m : Int) := by omega
      go_wp2_with (go_at_call 44; go_in)
      go_roundw
      case rel => exact ⟨k + 1, by omega, by go_num, hstep.out, hbel'.out⟩
      case measure => simp [intOf]; omega
    · obtain rfl : k = j := by omega
      have hc' : wr.cell? ⟨b, off + k, none⟩ = some (.int .i64 (f k)) := (hbel.cell (p := ⟨b, off + k, none⟩) hb).trans hc
      have hbel' := Lib.hid hbel
      have hbad := hbad'.out
      clear hp hbel hc hb h hall' hbad'
      generalize f k = x at hc' hbad
      by_cases h0 : 0 ≤ x
      · have hd1 : decide (x ≤ (m : Int)) = false := decide_eq_false (by omega)
        clear hbad
        go_wp2_with (go_at_call 44; go_in)
        go_ret2
        exact res_no hbel'.out
      · have hd0 : decide (0 ≤ x) = false := decide_eq_false (by omega)
        clear hbad
        go_wp2_with (go_at_call 44; go_in)
        go_ret2
        exact res_no hbel'.out

theorem first_bad (f : Nat → Int) (m : Nat) : ∀ n, (∀ i, i < n → In (f i) m) ∨ ∃ j, j < n ∧ (∀ i, i < j → In (f i) m) ∧ (f j < 0 ∨ (m : Int) < f j)
  | 0 => .inl fun i hi => absurd hi (Nat.not_lt_zero _)
  | n + 1 => by
    rcases first_bad f m n with h | ⟨j, h1, h2⟩
    · by_cases hn : In (f n) m
      · left; intro i hi
        by_cases e : i = n
        · subst e; exact hn
        · exact h i (by omega)
      · right
        exact ⟨n, by omega, h, by unfold In at hn; omega⟩
    · exact .inr ⟨j, by omega, h2⟩

/-- Both answer alike, whatever the list and the turns. -/
theorem both (n : Nat) (most : Int) (f : Nat → Int) (hn : n ≤ 1048576) : ∃ N c b, N ≤ 129 ∧
    (∀ (a : Option Addr) (cap : Nat) (w : World), Rd w a n f → Calls Try.prog 34 #[.slice a n cap, .int .i64 most] w (Res w N c b)) ∧
    (∀ (a : Option Addr) (cap : Nat) (w : World), Rd w a n f → Calls Try.prog 36 #[.slice a n cap, .int .i64 most] w (Res w N c b)) := by
  by_cases h : 256 < n ∨ most < 0 ∨ 128 < most
  · exact ⟨0, fun _ => 0, false, by omega, fun a cap w _ => spec_far a n cap most _ w hn h, fun a cap w _ => impl_far a n cap most _ w hn h⟩
  · obtain ⟨m, rfl⟩ : ∃ m : Nat, most = (m : Int) := ⟨most.toNat, by omega⟩
    rcases first_bad f m n with hall | ⟨j, h1, h2, h3⟩
    · have hk : Ok f n m := ⟨by omega, by omega, hall⟩
      exact ⟨m + 1, _, true, by omega, fun a cap w hr => spec_yes a n cap m f w hr hk, fun a cap w hr => impl_yes a n cap m f w hr hk⟩
    · have hk : Bad f n m j := ⟨by omega, by omega, h1, h2, h3⟩
      exact ⟨0, fun _ => 0, false, by omega, fun a cap w hr => spec_bad a n cap m j f _ w hr hk, fun a cap w hr => impl_bad a n cap m j f _ w hr hk⟩
end Go.Proofs.Ytogclingihelaaa.Counts
