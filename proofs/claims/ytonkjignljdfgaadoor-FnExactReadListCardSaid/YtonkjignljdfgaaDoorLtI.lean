/- The walk of the program's text of a list; both ListText. -/
import Derived.Test.YtonkjignljdfgaaDoorLt
namespace Go.Proofs.YtonkjignljdfgaaDoor.LtI
open Go.RowKit Go.Proofs.YtonkjignljdfgaaDoor.Dec Go.Proofs.YtonkjignljdfgaaDoor.DecT Go.Proofs.YtonkjignljdfgaaDoor.Rd Go.Proofs.YtonkjignljdfgaaDoor.LtP Go.Proofs.YtonkjignljdfgaaDoor.SlI Go.Proofs.YtonkjignljdfgaaDoor.Lt

theorem info9 : (Tryd.prog.info? 9).map (fun i => (i.zero, i.size, i.bytes)) = some (some (.string ⟨#[]⟩), 1, 16) := by kernel_rfl

/-- The cells of the first k numerals. -/
def cellsS (f : Nat → Int) (k : Nat) : List Value := (strs f k).map fun l => Value.string ⟨l.toArray⟩
theorem cellsS_succ (f : Nat → Int) (k : Nat) : cellsS f (k + 1) = cellsS f k ++ [.string ⟨(Lib.itoa (f k)).toArray⟩] := by
  unfold cellsS
  rw [strs_succ, List.map_append]; rfl

theorem owns_below {w w' : World} {base : Nat} {e : TypeId} {b k cap : Nat} {xs : List Value} (h : w.ownsRow base e 1 (.slice (some ⟨b, 0, none⟩) k cap) k xs) (hb : Below w.heap.size w w') :
    w'.ownsRow base e 1 (.slice (some ⟨b, 0, none⟩) k cap) k xs :=
  h.kept (row := none) ⟨hb.os, hb.tape, hb.output, hb.size, fun j hj _ => hb.block j hj⟩ (.inr (by simp [Value.ownBlock]))

theorem lit_str {w wr : World} (h : w.heap.size ≤ wr.heap.size) (t : ByteArray) : (wr.alloc (.cells #[.string t] 9)).ownsRow w.heap.size 9 1 (.slice (some ⟨wr.heap.size, 0, none⟩) 1 1) 1 [.string t] :=
  World.ownsRow_lit wr #[.string t] 1 h (by unfold maxLen; omega) rfl
theorem one_str (t : ByteArray) : ∀ u ∈ [Value.string t], u.oneCell' = true := by
  intro u hu
  obtain rfl := List.mem_singleton.1 hu
  rfl

/-! ### strings.Join -/
def arrs (f : Nat → Int) (n : Nat) : List ByteArray := (strs f n).map fun l => ⟨l.toArray⟩
theorem arrs_len (f : Nat → Int) (n : Nat) : (arrs f n).length = n := by unfold arrs; rw [List.length_map, strs_len]
theorem arrs_data (f : Nat → Int) (n : Nat) : (arrs f n).map (·.data.toList) = strs f n := by
  unfold arrs
  rw [List.map_map]
  conv => rhs; rw [← List.map_id (strs f n)]
  refine List.map_congr_left fun l _ => ?_
  simp

theorem join_any (f : Nat → Int) (b n cap : Nat) (base : Nat) (w : World) (hn : 1 ≤ n) (h64 : n ≤ 64) (hv : ∀ i, i < n → inB (f i) = true) (h : w.ownsRow base 9 1 (.slice (some ⟨b, 0, none⟩) n cap) n (cellsS f n)) :
    Calls Tryd.prog 38 #[.slice (some ⟨b, 0, none⟩) n cap, .string ⟨#[44]⟩] w fun e w' => e = .returned (.string ⟨(textL n f).toArray⟩) ∧ Below w.heap.size w w' := by
  obtain ⟨g, cap', e, _, hlt⟩ := h.form (by omega)
  have eg : b = g ∧ cap = cap' := by
    injection e with e1 _ e3
    injection e1 with e1
    injection e1 with e1 _
    exact ⟨e1, e3⟩
  have hcap : n ≤ cap := by
    rcases h.2 with ⟨h0, _⟩ | ⟨g1, c1, cur, h1, _, _, h2, _⟩
    · cases h0
    · injection h1 with _ _ e3
      omega
  have J1 := Any.strings_Join Tryd.lays156 Tryd.Builder_Extra_156 b 0 cap (arrs f n) ⟨#[44]⟩ w ?_ (by omega) (by rw [arrs_len]; omega) (by rw [arrs_len]; exact hcap) ?_
  · rw [arrs_len, arrs_data] at J1
    refine J1.mono ?_
    rintro e' w' ⟨rfl, hb⟩
    refine ⟨?_, hb⟩
    rw [text_pos f hn]; rfl
  · intro j x hx
    rw [Nat.zero_add]
    have hc := h.cells (g := b) rfl j (.string x) (by
      unfold cellsS
      unfold arrs at hx
      rw [List.getElem?_map] at hx ⊢
      cases hl : (strs f n)[j]? with
      | none => rw [hl] at hx; cases hx
      | some l => rw [hl] at hx; injection hx with hx; rw [← hx]; rfl)
    have hadd : (⟨b, 0, none⟩ : Addr).add j = ⟨b, j, none⟩ := by unfold Addr.add; split <;> simp_all
    rw [hadd] at hc
    exact hc
  · rw [arrs_data]
    have := J_len hv n hn (Nat.le_refl _)
    show (J f n).length ≤ _
    omega

theorem joined_any (f : Nat → Int) (b n cap : Nat) (base : Nat) (w : World) (h64 : n ≤ 64) (hv : ∀ i, i < n → inB (f i) = true) (h : w.ownsRow base 9 1 (.slice (some ⟨b, 0, none⟩) n cap) n (cellsS f n)) :
    Calls Tryd.prog 31 #[.slice (some ⟨b, 0, none⟩) n cap] w fun e w' => e = .returned (.string ⟨(textL n f).toArray⟩) ∧ Below w.heap.size w w' := by
  rcases Nat.eq_zero_or_pos n with rfl | hpos
  · clear h hv
    go_enter Tryd.func31, Tryd.ntmps31
    go_wp2
    go_ret
    exact ⟨rfl, Below.refl _ _⟩
  · have J1 := Lib.hid (join_any f b n cap base w hpos h64 hv h)
    clear h hv
    generalize (⟨(textL n f).toArray⟩ : ByteArray) = t at J1 ⊢
    go_enter Tryd.func31, Tryd.ntmps31
    go_wp2_with (go_at_call 38; refine J1.out.mono ?_; rintro e w' ⟨rfl, hb⟩)
    go_ret
    exact ⟨rfl, hb⟩

/-- The loop's state: the first k numerals lie in a row of the call's own. -/
def Rel (n : Nat) (f : Nat → Int) (w : World) (g : Nat) (o i : Value) (wr : World) : Prop :=
  ∃ k b cap : Nat, k + g = n ∧ o = .slice (some ⟨b, 0, none⟩) k cap ∧ wr.ownsRow w.heap.size 9 1 (.slice (some ⟨b, 0, none⟩) k cap) k (cellsS f k) ∧ i = .int .i64 (k : Int) ∧ Below w.heap.size w wr

theorem Rel.start (n : Nat) (f : Nat → Int) (w : World) : Rel n f w n (.slice (some ⟨w.heap.size, 0, none⟩) 0 0) (.int .i64 0) (w.alloc (.cells #[] 9)) :=
  ⟨0, w.heap.size, 0, by omega, rfl, World.ownsRow_lit w #[] 0 (Nat.le_refl _) (by unfold maxLen; omega) rfl, rfl, (Below.refl _ _).alloc (Nat.le_refl _) _⟩

theorem Rel.more {n : Nat} {f : Nat → Int} {w wr w2 w3 : World} {b k g : Nat} {v : Value} {t : ByteArray} (hk : k < n) (hg : k + g = n) (ht : (⟨(Lib.itoa (f k)).toArray⟩ : ByteArray) = t) (hb : Below w.heap.size w wr) (hb2 : Below wr.heap.size wr w2)
    (ho : w3.ownsRow w.heap.size 9 1 v (k + 1) (cellsS f k ++ [.string t])) (hgr : (w2.alloc (.cells #[.string t] 9)).grownBy w3 (some b)) (hbase : w.heap.size ≤ b) :
    Rel n f w (g - 1) v (.int .i64 ((k : Int) + 1)) w3 := by
  obtain ⟨g1, cap1, rfl, _, _⟩ := ho.form (by omega)
  rw [← ht, ← cellsS_succ] at ho
  have hb12 : Below w.heap.size w w2 := hb.trans (hb2.mono hb.size)
  refine ⟨k + 1, g1, cap1, by omega, rfl, ho, rfl, ?_⟩
  exact (hb12.alloc hb12.size _).grown hgr (by have := hb12.size; simp; omega) (fun j hj => by injection hj with hj; rw [← hj]; exact hbase)

theorem text_impl (a : Option Addr) (n cap : Nat) (f : Nat → Int) (w : World) (h : Rd w a n f) (hn : n ≤ 64) (hv : ∀ i, i < n → inB (f i) = true) (hT : Tab w) :
    Calls Tryd.prog 22 #[.slice a n cap] w fun e w' => e = .returned (.string ⟨(textL n f).toArray⟩) ∧ Below w.heap.size w w' := by
  obtain ⟨i0, hi, hz0, hz1, hz2⟩ := info_parts info9
  have H := Lib.hid h
  have HV := Lib.hid hv
  have T := Lib.hid hT
  clear h hv hT
  go_enter Tryd.func22, Tryd.ntmps22
  go_wp2
  go_loopg [3, 9] n (fun g o i wr => Rel n f w g o i wr)
  case atStart => exact Rel.start n f w
  case round =>
    obtain ⟨k, b, cap1, hk, rfl, hown, rfl, hbel⟩ := hrel
    by_cases hlt : k < n
    · obtain ⟨bb, off, rfl, hbb, hc⟩ := H.out k hlt
      have hc' : wr.cell? ⟨bb, off + k, none⟩ = some (.int .i64 (f k)) := (hbel.cell (p := ⟨bb, off + k, none⟩) hbb).trans hc
      have hrng := inB_fit (HV.out k hlt)
      have D := Lib.hid (fun w ht => impl_any (f k) (by omega) (by omega) w ht)
      have hbase : w.heap.size ≤ b := hown.lt b rfl |>.1
      clear hc hrng
      generalize hy : f k = y at hc' D
      generalize ht : (⟨(Lib.itoa y).toArray⟩ : ByteArray) = t at D
      have HT := Lib.hid (show (⟨(Lib.itoa (f k)).toArray⟩ : ByteArray) = t by rw [hy]; exact ht)
      clear ht hy
      have hsz := hbel.size
      go_wp2_with (first
        | (go_at_call 18; refine (D.out _ (T.out.below hbel)).mono ?_; rintro e w2 ⟨rfl, hb2⟩; have hown2 := owns_below hown hb2; have hsz2 : w.heap.size ≤ w2.heap.size := Nat.le_trans hsz hb2.size)
        | (at_builtin; refine wpList_append_own _ rfl (.tmp 13) (.tmp 16) 43 rfl w.heap.size 9 i0 (.string ⟨#[]⟩) 1 16 Tryd.underlying43 hi hz0 hz1 hz2 rfl (by decide) _ k (cellsS f k) rfl (hown2.alloc _) ⟨w2.heap.size, 0, none⟩ 1 1 [.string _] rfl rfl ((lit_str hsz2 _).cells rfl) (one_str _) (by unfold maxLen; omega) (by omega) (by simp; omega) ?_; intro v w3 ho hg _))
      have R := Rel.more hlt hk HT.out hbel hb2 ho hg hbase
      go_roundg (gk - 1)
      case measure => omega
      case rel => exact R
    · obtain rfl : k = n := by omega
      have JJ := Lib.hid (joined_any f b k cap1 w.heap.size wr hn HV.out hown)
      clear hk hlt hown
      generalize htt : (⟨(textL k f).toArray⟩ : ByteArray) = t at JJ
      have HTT := Lib.hid htt
      clear htt
      go_wp2_with (go_at_call 31; refine JJ.out.mono ?_; rintro e w2 ⟨rfl, hb2⟩)
      go_ret
      exact ⟨ret_str HTT.out.symm, hbel.trans (hb2.mono hbel.size)⟩

/-! ### Both -/
/-- What both return. -/
def LtRet (n : Nat) (f : Nat → Int) (w : World) (e : Ending) (w' : World) : Prop :=
  e = .returned (.tuple #[.string (if valsB n f = true then ⟨(textL n f).toArray⟩ else ⟨#[]⟩), .bool (valsB n f)]) ∧ Below w.heap.size w w'

theorem spec_lt (a : Option Addr) (n cap : Nat) (f : Nat → Int) (w : World) (h : Rd w a n f) (hn : n ≤ 1048576) :
    Calls Tryd.prog 7 #[.slice a n cap] w (LtRet n f w) := by
  have L := Lib.hid (fun cap => list_any a n cap f w h hn)
  unfold LtRet
  cases hv : valsB n f with
  | false =>
    rw [hv] at L
    rw [if_neg (by decide)]
    clear h
    go_enter Tryd.func7, Tryd.ntmps7
    go_wp2_with (go_at_call 19; refine (L.out _).mono ?_; rintro e w' ⟨rfl, rfl⟩)
    go_ret2
    exact ⟨rfl, Below.refl _ _⟩
  | true =>
    rw [hv] at L
    rw [if_pos rfl]
    obtain ⟨h1, h2⟩ := vals_yes hv
    have X := Lib.hid (fun cap => text_any a n cap f w h h1 h2)
    clear h h1 h2 hv
    generalize (⟨(textL n f).toArray⟩ : ByteArray) = t at X ⊢
    go_enter Tryd.func7, Tryd.ntmps7
    go_wp2_with (first
      | (go_at_call 19; refine (L.out _).mono ?_; rintro e w' ⟨rfl, rfl⟩)
      | (go_at_call 20; refine (X.out _).mono ?_; rintro e w' ⟨rfl, hb⟩))
    go_ret2
    exact ⟨rfl, hb⟩

theorem impl_lt (a : Option Addr) (n cap : Nat) (f : Nat → Int) (w : World) (h : Rd w a n f) (hn : n ≤ 1048576) (hT : Tab w) :
    Calls Tryd.prog 9 #[.slice a n cap] w (LtRet n f w) := by
  have L := Lib.hid (fun cap => are_any a n cap f w h hn)
  unfold LtRet
  cases hv : valsB n f with
  | false =>
    rw [hv] at L
    rw [if_neg (by decide)]
    clear h hT
    go_enter Tryd.func9, Tryd.ntmps9
    go_wp2_with (go_at_call 21; refine (L.out _).mono ?_; rintro e w' ⟨rfl, rfl⟩)
    go_ret2
    exact ⟨rfl, Below.refl _ _⟩
  | true =>
    rw [hv] at L
    rw [if_pos rfl]
    obtain ⟨h1, h2⟩ := vals_yes hv
    have X := Lib.hid (fun cap => text_impl a n cap f w h h1 h2 hT)
    clear h h1 h2 hv hT
    generalize (⟨(textL n f).toArray⟩ : ByteArray) = t at X ⊢
    go_enter Tryd.func9, Tryd.ntmps9
    go_wp2_with (first
      | (go_at_call 21; refine (L.out _).mono ?_; rintro e w' ⟨rfl, rfl⟩)
      | (go_at_call 22; refine (X.out _).mono ?_; rintro e w' ⟨rfl, hb⟩))
    go_ret2
    exact ⟨rfl, hb⟩

/-- From 'w' on, below all that the call has made. -/
theorem grow {w w1 w2 : World} (h1 : Below w.heap.size w w1) (h2 : Below w1.heap.size w1 w2) : Below w.heap.size w w2 := h1.trans (h2.mono h1.size)

set_option maxHeartbeats 1000000 in
theorem walk_small (a : Option Addr) (n cap : Nat) (f : Nat → Int) (w : World) (h : Rd w a n f) (hn : n ≤ 1048576) (hT : Tab w) :
    Calls Tryd.prog 3 #[.slice a n cap] w fun e w' => e = .returned (.bool true) ∧ Below w.heap.size w w' := by
  have S' := Lib.hid (fun a cap w h => spec_lt a n cap f w h hn)
  have I' := Lib.hid (fun a cap w h hT => impl_lt a n cap f w h hn hT)
  have T := Lib.hid hT
  clear hT
  unfold LtRet at S' I'
  generalize (if valsB n f = true then (⟨(textL n f).toArray⟩ : ByteArray) else ⟨#[]⟩) = t at S' I'
  generalize valsB n f = b at S' I'
  go_enter Tryd.func3, Tryd.ntmps3
  go_wp2_with fail
  refine (copy_any _ _ _ f _ h hn).mono ?_
  rintro e w1 ⟨g1, rfl, k1, o1, b1⟩
  go_wp2_with fail
  refine (S'.out _ _ _ o1.rd).mono ?_
  rintro e w2 ⟨rfl, b2⟩
  have B2 := grow b1 b2
  clear o1 b2 b1
  go_wp2_with fail
  refine (copy_any _ _ _ f _ (h.below B2) hn).mono ?_
  rintro e w3 ⟨g3, rfl, k3, o3, b3⟩
  have B3 := grow B2 b3
  clear B2 b3
  go_wp2_with fail
  refine (I'.out _ _ _ o3.rd (T.out.below B3)).mono ?_
  rintro e w4 ⟨rfl, b4⟩
  have B4 := grow B3 b4
  have o4 := o3.below b4
  clear o3 b4 B3
  go_wp2_with fail
  refine (copy_any _ _ _ f _ (h.below B4) hn).mono ?_
  rintro e w5 ⟨g5, rfl, k5, o5, b5⟩
  have B5 := grow B4 b5
  have x5 := o4.below b5
  clear B4 b5 o4
  go_wp2_with fail
  refine (eq_any _ _ _ _ _ f _ x5.rd o5.rd hn).mono ?_
  rintro e w5' ⟨d5, rfl, rfl⟩
  go_wp2_with fail
  go_ret
  exact ⟨rfl, below_drewN B5 _⟩

/-- The law's walk. -/
theorem walk (a : Option Addr) (n cap : Nat) (f : Nat → Int) (w : World) (h : Rd w a n f) (hT : Tab w) :
    Calls Tryd.prog 3 #[.slice a n cap] w fun e w' => e = .returned (.bool true) ∧ Below w.heap.size w w' := by
  by_cases hn : n ≤ 1048576
  · exact walk_small a n cap f w h hn hT
  · have hn' : 1048576 < n := by omega
    clear h hn hT
    go_enter Tryd.func3, Tryd.ntmps3
    go_wp2
    go_ret
    exact ⟨rfl, Below.refl _ _⟩
theorem tab_of {W : World} (h : laidMetH Tryd.prog Rows.fnExactListTextRow.laid W) : Tab W := by
  rw [MakeChecks.laidMetH_plain _ _ _ (by kernel_rfl)] at h
  exact tab_met h
end Go.Proofs.YtonkjignljdfgaaDoor.LtI
