/- Reading a number in decimal, in plain Lean: what the reference's reader and the library's give for the same text. -/
import Derived.Lib.ItoaLen
import Derived.Lib.ParseIntB
import Derived.Lib.ParseIntBTie
namespace Go.Proofs.YtonkjignljdfgaaDoor.RdP
open Go.Lib

/-- The number that the digits of a text spell, other bytes passed over. -/
def acc (a : Nat) : List UInt8 → Nat
  | [] => a
  | c :: r => if 48 ≤ c.toNat ∧ c.toNat ≤ 57 then acc (10 * a + (c.toNat - 48)) r else acc a r

theorem acc_cons (a : Nat) (c : UInt8) (r : List UInt8) : acc a (c :: r) = if 48 ≤ c.toNat ∧ c.toNat ≤ 57 then acc (10 * a + (c.toNat - 48)) r else acc a r := rfl
theorem acc_append (a : Nat) : ∀ (l r : List UInt8), acc a (l ++ r) = acc (acc a l) r := by
  intro l
  induction l generalizing a with
  | nil => intro r; rfl
  | cons c l ih =>
    intro r
    show acc a (c :: (l ++ r)) = _
    rw [acc_cons, acc_cons]
    split
    · exact ih _ r
    · exact ih _ r

theorem digit_toNat (d : Nat) (h : d < 10) : (UInt8.ofNat (48 + d)).toNat = 48 + d := by rw [UInt8.toNat_ofNat']; omega

theorem dec_small {u : Nat} (h : u < 10) : decDigits u = [UInt8.ofNat (48 + u)] := by rw [decDigits, dif_pos h]
theorem dec_big {u : Nat} (h : ¬ u < 10) : decDigits u = decDigits (u / 10) ++ [UInt8.ofNat (48 + u % 10)] := by
  conv => lhs; rw [decDigits, dif_neg h]

theorem acc_one (a d : Nat) (h : d < 10) : acc a [UInt8.ofNat (48 + d)] = 10 * a + d := by
  unfold acc
  rw [digit_toNat d h, if_pos (by omega)]
  unfold acc
  omega

theorem acc_dec (u : Nat) : acc 0 (decDigits u) = u := by
  induction u using Nat.strongRecOn with
  | _ u ih =>
    by_cases h : u < 10
    · rw [dec_small h, acc_one _ _ h]; omega
    · rw [dec_big h, acc_append, ih (u / 10) (by omega), acc_one _ _ (by omega)]; omega

theorem acc_itoa (n : Int) : acc 0 (itoa n) = n.natAbs := by
  unfold itoa
  by_cases h : n < 0
  · rw [if_pos h]
    unfold acc
    rw [if_neg (by decide)]
    exact acc_dec _
  · rw [if_neg h, acc_dec]; omega

theorem acc_bound : ∀ (l : List UInt8) (a k : Nat), a < 10 ^ k → acc a l < 10 ^ (k + l.length)
  | [], a, k, h => h
  | c :: r, a, k, h => by
    have h2 : 10 ^ (k + 1) = 10 * 10 ^ k := by rw [Nat.pow_succ]; omega
    unfold acc
    split
    · have := acc_bound r (10 * a + (c.toNat - 48)) (k + 1) (by omega)
      rwa [List.length_cons, show k + (r.length + 1) = k + 1 + r.length by omega]
    · have := acc_bound r a (k + 1) (by omega)
      rwa [List.length_cons, show k + (r.length + 1) = k + 1 + r.length by omega]

theorem dec_digits (u : Nat) : ∀ c ∈ decDigits u, 48 ≤ c.toNat ∧ c.toNat ≤ 57 := by
  induction u using Nat.strongRecOn with
  | _ u ih =>
    intro c hc
    by_cases h : u < 10
    · rw [dec_small h] at hc
      obtain rfl := List.mem_singleton.1 hc
      rw [digit_toNat u h]; omega
    · rw [dec_big h] at hc
      rcases List.mem_append.1 hc with h1 | h1
      · exact ih (u / 10) (by omega) c h1
      · obtain rfl := List.mem_singleton.1 h1
        rw [digit_toNat _ (by omega)]; omega

theorem dec_ne (u : Nat) : decDigits u ≠ [] := by
  intro h
  have := congrArg List.length h
  rw [decDigits_length] at this
  have := nDigits_pos u
  simp at *
  omega

theorem dec_cons (u : Nat) : ∃ c r, decDigits u = c :: r ∧ 48 ≤ c.toNat ∧ c.toNat ≤ 57 := by
  cases h : decDigits u with
  | nil => exact absurd h (dec_ne u)
  | cons c r => exact ⟨c, r, rfl, dec_digits u c (by rw [h]; exact List.mem_cons_self ..)⟩

/-! ### The library's reader -/
theorem parse_digit (M a : Nat) (c : UInt8) (r : List UInt8) (h : 48 ≤ c.toNat ∧ c.toNat ≤ 57) : parseUintM M a (c :: r) = (if 1844674407370955162 ≤ a then .range else if M < a * 10 + (c.toNat - 48) then .range else parseUintM M (a * 10 + (c.toNat - 48)) r) := by
  rw [parseUintM, if_pos h]
theorem parse_append (M : Nat) : ∀ (l r : List UInt8) (a v : Nat), parseUintM M a l = .ok v → parseUintM M a (l ++ r) = parseUintM M v r
  | [], r, a, v, h => by
    unfold parseUintM at h
    injection h with h
    subst h; rfl
  | c :: l, r, a, v, h => by
    show parseUintM M a (c :: (l ++ r)) = _
    by_cases hd : 48 ≤ c.toNat ∧ c.toNat ≤ 57
    · rw [parse_digit _ _ _ _ hd] at h ⊢
      split at h
      · cases h
      · rename_i h2
        rw [if_neg h2]
        split at h
        · cases h
        · rename_i h3
          rw [if_neg h3]
          exact parse_append M l r _ v h
    · rw [parseUintM, if_neg hd] at h
      cases h

theorem parse_one (M a d : Nat) (hd : d < 10) (h1 : a < 1844674407370955162) (h2 : a * 10 + d ≤ M) : parseUintM M a [UInt8.ofNat (48 + d)] = .ok (a * 10 + d) := by
  unfold parseUintM
  rw [digit_toNat d hd, if_pos (by omega), if_neg (by omega), if_neg (by omega)]
  unfold parseUintM
  congr 1
  omega

theorem parse_dec (M : Nat) (hM : M < 18446744073709551616) (u : Nat) (hu : u ≤ M) : parseUintM M 0 (decDigits u) = .ok u := by
  induction u using Nat.strongRecOn with
  | _ u ih =>
    by_cases h : u < 10
    · rw [dec_small h, parse_one M 0 u h (by omega) (by omega)]; congr 1; omega
    · rw [dec_big h, parse_append M _ _ _ _ (ih (u / 10) (by omega) (by omega)), parse_one M _ _ (by omega) (by omega) (by omega)]; congr 1; omega

theorem parse_itoa (n : Int) (h0 : -1000000000000000 ≤ n) (h1 : n ≤ 1000000000000000) : parseIntB 64 (itoa n) = .ok n := by
  have hM : (2 : Nat) ^ 64 - 1 < 18446744073709551616 := by decide
  have h63 : (2 : Nat) ^ (64 - 1) = 9223372036854775808 := by decide
  have h64 : (2 : Nat) ^ 64 - 1 = 18446744073709551615 := by decide
  by_cases h : n < 0
  · obtain ⟨u, rfl⟩ : ∃ u : Nat, n = -(u : Int) := ⟨n.natAbs, by omega⟩
    rw [itoa_neg u (by omega)]
    unfold parseIntB parseUintB
    have e1 : (45 : UInt8).toNat = 45 := by decide
    simp only [e1, or_true, if_true, if_neg (dec_ne u)]
    rw [parse_dec _ hM u (by omega)]
    simp only [not_true_eq_false, false_and, if_false, true_and]
    rw [if_neg (by omega)]
  · obtain ⟨u, rfl⟩ : ∃ u : Nat, n = (u : Int) := ⟨n.toNat, by omega⟩
    rw [itoa_nonneg]
    obtain ⟨c, r, hc, hc1, hc2⟩ := dec_cons u
    rw [hc]
    unfold parseIntB parseUintB
    have e : (if c.toNat = 43 ∨ c.toNat = 45 then r else c :: r) = decDigits u := by rw [if_neg (by omega), hc]
    simp only [e, if_neg (dec_ne u)]
    rw [parse_dec _ hM u (by omega)]
    simp only []
    rw [if_neg (by omega), if_neg (by omega), if_neg (by omega)]

/-! ### The number of a text, if it is one in range -/
def sgn (l : List UInt8) : Int := if l.head?.map (·.toNat) = some 45 then -(acc 0 l : Int) else (acc 0 l : Int)
abbrev Ok (l : List UInt8) (n : Int) : Prop := -1000000000000000 ≤ n ∧ n ≤ 1000000000000000 ∧ itoa n = l
def rdF (l : List UInt8) : Option Int := if Ok l (sgn l) then some (sgn l) else none

theorem sgn_itoa (n : Int) : sgn (itoa n) = n := by
  unfold sgn
  rw [acc_itoa]
  by_cases h : n < 0
  · obtain ⟨u, rfl⟩ : ∃ u : Nat, n = -(u : Int) := ⟨n.natAbs, by omega⟩
    rw [itoa_neg u (by omega)]
    rw [if_pos (by rfl)]; omega
  · obtain ⟨u, rfl⟩ : ∃ u : Nat, n = (u : Int) := ⟨n.toNat, by omega⟩
    rw [itoa_nonneg]
    obtain ⟨c, r, hc, hc1, hc2⟩ := dec_cons u
    rw [hc, if_neg (by simp; omega)]; omega

theorem rdF_ok {l : List UInt8} {n : Int} (h : Ok l n) : rdF l = some n := by
  have e : sgn l = n := by rw [← h.2.2]; exact sgn_itoa n
  unfold rdF
  rw [e, if_pos h]
theorem rdF_not {l : List UInt8} (h : ∀ n, ¬ Ok l n) : rdF l = none := by unfold rdF; rw [if_neg (h _)]
theorem Ok.uniq {l : List UInt8} {n m : Int} (h : Ok l n) (g : Ok l m) : n = m := by
  have := rdF_ok h
  rw [rdF_ok g] at this
  exact (Option.some.inj this).symm
theorem Ok.parse {l : List UInt8} {n : Int} (h : Ok l n) : parseIntB 64 l = .ok n := by rw [← h.2.2]; exact parse_itoa n h.1 h.2.1
theorem nd_le : ∀ (k u : Nat), 1 ≤ k → u < 10 ^ k → nDigits u ≤ k
  | 0, u, h, _ => by omega
  | k + 1, u, _, h => by
    by_cases h10 : u < 10
    · rw [nDigits_small h10]; omega
    · rw [nDigits_big h10]
      rw [Nat.pow_succ] at h
      have hk : 1 ≤ k := by
        rcases Nat.eq_zero_or_pos k with rfl | hp
        · simp at h; omega
        · exact hp
      have := nd_le k (u / 10) hk (by omega)
      omega
theorem Ok.len {l : List UInt8} {n : Int} (h : Ok l n) : 1 ≤ l.length ∧ l.length ≤ 17 := by
  obtain ⟨h0, h1, rfl⟩ := h
  have key : ∀ u : Nat, u ≤ 1000000000000000 → nDigits u ≤ 16 := fun u hu => nd_le 16 u (by omega) (by
    have h5 : (10 : Nat) ^ 16 = 10000000000000000 := by decide
    omega)
  unfold itoa
  by_cases h : n < 0
  · rw [if_pos h, List.length_cons, decDigits_length]
    have := key n.natAbs (by omega)
    omega
  · rw [if_neg h, decDigits_length]
    have := key n.toNat (by omega)
    have := nDigits_pos n.toNat
    omega

/-- What the library's reader leads to. -/
theorem rdF_parse (l : List UInt8) : rdF l = match parseIntB 64 l with
    | .ok v => if Ok l v then some v else none
    | _ => none := by
  rcases hp : parseIntB 64 l with v | _ | _
  · simp only []
    by_cases h : Ok l v
    · rw [if_pos h, rdF_ok h]
    · rw [if_neg h]
      refine rdF_not fun n hn => ?_
      have := hn.parse
      rw [hp] at this
      injection this with this
      subst this
      exact h hn
  · refine rdF_not fun n hn => ?_
    have := hn.parse
    rw [hp] at this; cases this
  · refine rdF_not fun n hn => ?_
    have := hn.parse
    rw [hp] at this; cases this
end Go.Proofs.YtonkjignljdfgaaDoor.RdP
