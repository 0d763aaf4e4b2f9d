/- The walk of the reference's l01Value, and of the law. -/
import Derived.Test.YtonkjignljdfgaaDoorRd
namespace Go.Proofs.YtonkjignljdfgaaDoor.RdS
open Go.RowKit Go.Proofs.YtonkjignljdfgaaDoor.Dec Go.Proofs.YtonkjignljdfgaaDoor.DecT Go.Proofs.YtonkjignljdfgaaDoor.RdP Go.Proofs.YtonkjignljdfgaaDoor.Rd

theorem size_len (s : ByteArray) : s.data.toList.length = s.size := by rw [Array.length_toList]; rfl

theorem spec_short (s : ByteArray) (w : World) (h : s.size = 0) : Calls Tryd.prog 23 #[.string s] w (RdRet s.data.toList w) := by
  have R := Lib.hid (rdF_not (l := s.data.toList) fun n hn => by have := hn.len; have := size_len s; omega)
  have h1 : s.size < 1 := by omega
  clear h
  go_enter Tryd.func23, Tryd.ntmps23
  go_wp2
  go_ret2
  exact ret_no R.out (Below.refl _ _)

theorem spec_long (s : ByteArray) (w : World) (h : 17 < s.size) : Calls Tryd.prog 23 #[.string s] w (RdRet s.data.toList w) := by
  have R := Lib.hid (rdF_not (l := s.data.toList) fun n hn => by have := hn.len; have := size_len s; omega)
  have h1 : 1 ≤ s.size := by omega
  go_enter Tryd.func23, Tryd.ntmps23
  go_wp2
  go_ret2
  exact ret_no R.out (Below.refl _ _)

/-- What the digits among the first k bytes spell. -/
def A (s : ByteArray) (k : Nat) : Int := (acc 0 (s.data.toList.take k) : Nat)
theorem A_zero (s : ByteArray) : A s 0 = 0 := rfl
theorem A_bound (s : ByteArray) (k : Nat) (hk : k ≤ 17) : 0 ≤ A s k ∧ A s k < 100000000000000000 := by
  unfold A
  have h := acc_bound (s.data.toList.take k) 0 0 (by decide)
  have h2 : (s.data.toList.take k).length ≤ k := List.length_take_le _ _
  have h3 : 10 ^ (0 + (s.data.toList.take k).length) ≤ 10 ^ 17 := Nat.pow_le_pow_right (by omega) (by omega)
  have h4 : (10 : Nat) ^ 17 = 100000000000000000 := by decide
  omega
theorem A_succ (s : ByteArray) (k : Nat) (h : k < s.size) : A s (k + 1) = if 48 ≤ (s[k].toNat : Int) ∧ (s[k].toNat : Int) ≤ 57 then 10 * A s k + ((s[k].toNat : Int) - 48) else A s k := by
  unfold A
  have hk : k < s.data.toList.length := by rw [size_len]; exact h
  rw [List.take_succ_eq_append_getElem hk, acc_append]
  have e : s.data.toList[k] = s[k] := by simp; rfl
  rw [e, acc_cons]
  by_cases hd : 48 ≤ s[k].toNat ∧ s[k].toNat ≤ 57
  · rw [if_pos hd, if_pos (by omega)]; show ((10 * acc 0 _ + (s[k].toNat - 48) : Nat) : Int) = _; omega
  · rw [if_neg hd, if_neg (by omega)]; rfl

theorem A_all (s : ByteArray) : A s s.size = (acc 0 s.data.toList : Nat) := by
  unfold A
  rw [List.take_of_length_le (by rw [size_len]; exact Nat.le_refl _)]
theorem head_of (s : ByteArray) (h : 1 ≤ s.size) : s.data.toList.head?.map (·.toNat) = some (s[0]'h).toNat := by
  have hk : 0 < s.data.toList.length := by rw [size_len]; exact h
  rw [List.head?_eq_getElem?, List.getElem?_eq_getElem hk]
  simp; rfl
theorem sgn_neg {s : ByteArray} (h : 1 ≤ s.size) (h5 : ((s[0]'h).toNat : Int) = 45) : sgn s.data.toList = -(A s s.size) := by
  unfold sgn
  rw [head_of s h, if_pos (by congr 1; omega), A_all]
theorem sgn_pos {s : ByteArray} (h : 1 ≤ s.size) (h5 : ¬ ((s[0]'h).toNat : Int) = 45) : sgn s.data.toList = A s s.size := by
  unfold sgn
  rw [head_of s h, if_neg (by intro e; injection e with e; omega), A_all]

theorem wneg {a : Int} (h : 0 ≤ a ∧ a < 100000000000000000) : wrap64 (-a) = -a := by unfold wrap64; omega

/-- How it ends. -/
def End (l : List UInt8) (q : Int) : Prop :=
  ((decide (-1000000000000000 ≤ q) && decide (q ≤ 1000000000000000)) = false ∧ rdF l = none)
  ∨ ((-1000000000000000 ≤ q ∧ q ≤ 1000000000000000) ∧ Lib.itoa q ≠ l ∧ rdF l = none)
  ∨ ((-1000000000000000 ≤ q ∧ q ≤ 1000000000000000) ∧ Lib.itoa q = l ∧ rdF l = some q)
theorem end_of (l : List UInt8) (q : Int) (h : sgn l = q) : End l q := by
  subst h
  by_cases hr : -1000000000000000 ≤ sgn l ∧ sgn l ≤ 1000000000000000
  · by_cases hi : Lib.itoa (sgn l) = l
    · exact .inr (.inr ⟨hr, hi, rdF_ok ⟨hr.1, hr.2, hi⟩⟩)
    · exact .inr (.inl ⟨hr, hi, by unfold rdF; rw [if_neg (fun h => hi h.2.2)]⟩)
  · refine .inl ⟨?_, by unfold rdF; rw [if_neg (fun h => hr ⟨h.1, h.2.1⟩)]⟩
    cases d1 : decide (-1000000000000000 ≤ sgn l) with
    | false => rfl
    | true =>
      cases d2 : decide (sgn l ≤ 1000000000000000) with
      | false => rfl
      | true => exact absurd ⟨of_decide_eq_true d1, of_decide_eq_true d2⟩ hr
theorem in_true {q : Int} (h : -1000000000000000 ≤ q ∧ q ≤ 1000000000000000) : (decide (-1000000000000000 ≤ q) && decide (q ≤ 1000000000000000)) = true := by
  rw [decide_eq_true h.1, decide_eq_true h.2]; rfl
theorem in_at (x q : Int) (b : Bool) (w : World) (hx : x = q) (h : (decide (-1000000000000000 ≤ q) && decide (q ≤ 1000000000000000)) = b) :
    Calls Tryd.prog 30 #[.int .i64 x, .int .i64 (-1000000000000000), .int .i64 1000000000000000] w fun e w' => e = .returned (.bool b) ∧ w = w' := by
  subst hx; exact in_spec x b w h
theorem ret_yes' {l : List UInt8} {x n : Int} {w w' : World} (hx : x = n) (h : rdF l = some n) (hb : Below w.heap.size w w') : RdRet l w (.returned (.tuple #[.int .i64 x, .bool true])) w' := by subst hx; exact ret_yes h hb

set_option maxRecDepth 20000 in
theorem spec_mid (s : ByteArray) (w : World) (h : 1 ≤ s.size) (h' : s.size ≤ 17) : Calls Tryd.prog 23 #[.string s] w (RdRet s.data.toList w) := by
  have A0 : Hid (Value.int .i64 0 = .int .i64 (A s 0)) := Lib.hid rfl
  go_enter Tryd.func23, Tryd.ntmps23
  go_wp2
  go_loopg [4, 5] s.size (fun g n i wr => ∃ k : Nat, k + g = s.size ∧ n = .int .i64 (A s k) ∧ i = .int .i64 (k : Int) ∧ w = wr)
  case atStart => exact ⟨0, by omega, A0.out, rfl, rfl⟩
  case round =>
    clear A0
    obtain ⟨k, hk, rfl, rfl, rfl⟩ := hrel
    by_cases hlt : k < s.size
    · have HA := Lib.hid (A_succ s k hlt)
      have HB := Lib.hid (A_bound s k (by omega))
      generalize hAk : A s k = a at HA HB
      clear hAk
      go_wp2
      · have g1 : 48 ≤ (s[k].toNat : Int) := by assumption
        have g2 : (s[k].toNat : Int) ≤ 57 := by assumption
        go_roundg (gk - 1)
        case measure => omega
        case rel => exact ⟨k + 1, by omega, by rw [HA.out, if_pos ⟨g1, g2⟩]; exact congrArg (Value.int .i64) (by have := HB.out; unfold wrap64; omega), by go_num, rfl⟩
      · have g2 : 57 < (s[k].toNat : Int) := by assumption
        go_roundg (gk - 1)
        case measure => omega
        case rel => exact ⟨k + 1, by omega, by rw [HA.out, if_neg (by omega)], by go_num, rfl⟩
      · have g2 : (s[k].toNat : Int) < 48 := by assumption
        go_roundg (gk - 1)
        case measure => omega
        case rel => exact ⟨k + 1, by omega, by rw [HA.out, if_neg (by omega)], by go_num, rfl⟩
    · obtain rfl : k = s.size := by omega
      clear hk hlt
      have HB := Lib.hid (A_bound s s.size (by omega))
      by_cases h45 : ((s[0]'h).toNat : Int) = 45
      · have h46 : ((s[0]'h).toNat : Int) == 45 := by simpa using h45
        have SGN := Lib.hid (sgn_neg h h45)
        clear h45
        generalize A s s.size = a at *
        rcases end_of s.data.toList (-a) (by first | exact SGN.out) with ⟨hh, r⟩ | ⟨hh, n, r⟩ | ⟨hh, n, r⟩
        · skip
          have R := Lib.hid r
          have H := Lib.hid hh
          clear hh r
          go_wp2_with (go_at_call 30; refine (in_at _ _ _ _ (wneg HB.out) H.out).mono ?_; rintro e w' ⟨rfl, rfl⟩)
          go_ret2
          exact ret_no R.out (Below.refl _ _)
        · skip
          have R := Lib.hid r
          have H := Lib.hid hh
          have hne : (⟨(Lib.itoa (-a)).toArray⟩ : ByteArray) ≠ s := fun e => n (by rw [← e])
          generalize ht : (⟨(Lib.itoa (-a)).toArray⟩ : ByteArray) = t at hne
          have HT := Lib.hid ht
          have f1 := str_ne hne
          clear hh r n hne ht
          go_wp2_with (first
            | (go_at_call 30; refine (in_at _ _ _ _ (wneg HB.out) (in_true H.out)).mono ?_; rintro e w' ⟨rfl, rfl⟩)
            | (go_at_call 28; refine (dec_at _ _ _ (wneg HB.out) HT.out H.out _).mono ?_; rintro e w' ⟨rfl, hb⟩))
          go_ret2
          exact ret_no R.out hb
        · skip
          have R := Lib.hid r
          have H := Lib.hid hh
          have HT := Lib.hid (bytes_eq (a := ⟨(Lib.itoa (-a)).toArray⟩) (b := s) (by rw [← n]))
          clear hh r n
          go_wp2_with (first
            | (go_at_call 30; refine (in_at _ _ _ _ (wneg HB.out) (in_true H.out)).mono ?_; rintro e w' ⟨rfl, rfl⟩)
            | (go_at_call 28; refine (dec_at _ _ _ (wneg HB.out) HT.out H.out _).mono ?_; rintro e w' ⟨rfl, hb⟩))
          go_ret2
          exact ret_yes' (wneg HB.out) R.out hb
      · have h46 : ((((s[0]'h).toNat : Int)) == 45) = false := by simpa using h45
        have SGN := Lib.hid (sgn_pos h h45)
        clear h45
        generalize A s s.size = a at *
        rcases end_of s.data.toList a (by first | exact SGN.out) with ⟨hh, r⟩ | ⟨hh, n, r⟩ | ⟨hh, n, r⟩
        · skip
          have R := Lib.hid r
          have H := Lib.hid hh
          clear hh r
          go_wp2_with (go_at_call 30; refine (in_at _ _ _ _ rfl H.out).mono ?_; rintro e w' ⟨rfl, rfl⟩)
          go_ret2
          exact ret_no R.out (Below.refl _ _)
        · skip
          have R := Lib.hid r
          have H := Lib.hid hh
          have hne : (⟨(Lib.itoa a).toArray⟩ : ByteArray) ≠ s := fun e => n (by rw [← e])
          generalize ht : (⟨(Lib.itoa a).toArray⟩ : ByteArray) = t at hne
          have HT := Lib.hid ht
          have f1 := str_ne hne
          clear hh r n hne ht
          go_wp2_with (first
            | (go_at_call 30; refine (in_at _ _ _ _ rfl (in_true H.out)).mono ?_; rintro e w' ⟨rfl, rfl⟩)
            | (go_at_call 28; refine (dec_at _ _ _ rfl HT.out H.out _).mono ?_; rintro e w' ⟨rfl, hb⟩))
          go_ret2
          exact ret_no R.out hb
        · skip
          have R := Lib.hid r
          have H := Lib.hid hh
          have HT := Lib.hid (bytes_eq (a := ⟨(Lib.itoa a).toArray⟩) (b := s) (by rw [← n]))
          clear hh r n
          go_wp2_with (first
            | (go_at_call 30; refine (in_at _ _ _ _ rfl (in_true H.out)).mono ?_; rintro e w' ⟨rfl, rfl⟩)
            | (go_at_call 28; refine (dec_at _ _ _ rfl HT.out H.out _).mono ?_; rintro e w' ⟨rfl, hb⟩))
          go_ret2
          exact ret_yes' rfl R.out hb

theorem spec_any (s : ByteArray) (w : World) : Calls Tryd.prog 23 #[.string s] w (RdRet s.data.toList w) := by
  rcases Nat.eq_zero_or_pos s.size with h | h
  · exact spec_short s w h
  · rcases Nat.lt_or_ge 17 s.size with h' | h'
    · exact spec_long s w h'
    · exact spec_mid s w h h'
end Go.Proofs.YtonkjignljdfgaaDoor.RdS
