/- The walks of the reference's l01Value and the program's ReadDecimal. -/
import Derived.Test.YtonkjignljdfgaaDoorDecT
import Derived.Test.YtonkjignljdfgaaDoorRdP
import Derived.Test.YtonkjignljdfgaaDoorShelfR
namespace Go.Proofs.YtonkjignljdfgaaDoor.Rd
open Go.RowKit Go.Proofs.YtonkjignljdfgaaDoor.Dec Go.Proofs.YtonkjignljdfgaaDoor.DecT Go.Proofs.YtonkjignljdfgaaDoor.RdP

/-! ### Is it in range? -/
theorem in_spec (n : Int) (b : Bool) (w : World) (h : (decide (-1000000000000000 ≤ n) && decide (n ≤ 1000000000000000)) = b) :
    Calls Tryd.prog 30 #[.int .i64 n, .int .i64 (-1000000000000000), .int .i64 1000000000000000] w fun e w' => e = .returned (.bool b) ∧ w = w' := by
  cases d1 : decide (-1000000000000000 ≤ n) with
  | false =>
    rw [d1] at h
    subst h
    go_enter Tryd.func30, Tryd.ntmps30
    go_wp2
    go_ret
    exact ⟨rfl, rfl⟩
  | true =>
    rw [d1] at h
    cases d2 : decide (n ≤ 1000000000000000) with
    | false =>
      rw [d2] at h
      subst h
      go_enter Tryd.func30, Tryd.ntmps30
      go_wp2
      go_ret
      exact ⟨rfl, rfl⟩
    | true =>
      rw [d2] at h
      subst h
      go_enter Tryd.func30, Tryd.ntmps30
      go_wp2
      go_ret
      exact ⟨rfl, rfl⟩

theorem within_any (n : Int) (b : Bool) (w : World) (h : (decide (-1000000000000000 ≤ n) && decide (n ≤ 1000000000000000)) = b) :
    Calls Tryd.prog 34 #[.int .i64 n, .int .i64 (-1000000000000000), .int .i64 1000000000000000] w fun e w' => e = .returned (.bool b) ∧ w = w' := by
  cases d1 : decide (-1000000000000000 ≤ n) with
  | false =>
    rw [d1] at h
    subst h
    go_enter Tryd.func34, Tryd.ntmps34
    go_wp2
    go_ret
    exact ⟨rfl, rfl⟩
  | true =>
    rw [d1] at h
    cases d2 : decide (n ≤ 1000000000000000) with
    | false =>
      rw [d2] at h
      subst h
      go_enter Tryd.func34, Tryd.ntmps34
      go_wp2
      go_ret
      exact ⟨rfl, rfl⟩
    | true =>
      rw [d2] at h
      subst h
      go_enter Tryd.func34, Tryd.ntmps34
      go_wp2
      go_ret
      exact ⟨rfl, rfl⟩

theorem value_any (n : Int) (b : Bool) (w : World) (h : (decide (-1000000000000000 ≤ n) && decide (n ≤ 1000000000000000)) = b) :
    Calls Tryd.prog 25 #[.int .i64 n] w fun e w' => e = .returned (.bool b) ∧ w = w' := by
  have H := Lib.hid h
  clear h
  go_enter Tryd.func25, Tryd.ntmps25
  go_wp2_with (go_at_call 34; refine (within_any _ _ _ H.out).mono ?_; rintro e w' ⟨rfl, rfl⟩)
  go_ret
  exact ⟨rfl, rfl⟩

/-- What both readers return. -/
def RdRet (l : List UInt8) (w : World) (e : Ending) (w' : World) : Prop := e = .returned (.tuple #[.int .i64 ((rdF l).getD 0), .bool (rdF l).isSome]) ∧ Below w.heap.size w w'

theorem ret_no {l : List UInt8} {w w' : World} (h : rdF l = none) (hb : Below w.heap.size w w') : RdRet l w (.returned (.tuple #[.int .i64 0, .bool false])) w' := ⟨by rw [h]; rfl, hb⟩
theorem ret_yes {l : List UInt8} {n : Int} {w w' : World} (h : rdF l = some n) (hb : Below w.heap.size w w') : RdRet l w (.returned (.tuple #[.int .i64 n, .bool true])) w' := ⟨by rw [h]; rfl, hb⟩

/-! ### The program's reader -/
/-- The two sentinels, by the names that the row bears. -/
structure Sent (w : World) : Prop where
  syn : ∃ tp p, w.var? Tryd.prog (Rows.fnExactReadDecimalRow.named.headD Rows.fnExactReadDecimalRow.func) = some #[.iface tp p]
  rng : ∃ tp p, w.var? Tryd.prog (Rows.fnExactReadDecimalRow.named.tail.headD Rows.fnExactReadDecimalRow.func) = some #[.iface tp p]

theorem var_below {nm : String} {cs : Array Value} {w w' : World} (hg : (Tryd.prog.globalNamed nm).isSome = true) (h : w.var? Tryd.prog nm = some cs) (hb : Below w.heap.size w w') : w'.var? Tryd.prog nm = some cs := by
  obtain ⟨g, hg⟩ := Option.isSome_iff_exists.1 hg
  unfold World.var? at h ⊢
  rw [hg] at h ⊢
  simp only [Option.bind_some] at h ⊢
  have hlt : g < w.heap.size := by
    rcases Nat.lt_or_ge g w.heap.size with h' | h'
    · exact h'
    · rw [Array.getElem?_eq_none h'] at h; cases h
  rw [hb.block g hlt]
  exact h
theorem Sent.below {w w' : World} (h : Sent w) (hb : Below w.heap.size w w') : Sent w' := by
  obtain ⟨⟨a, b, h1⟩, ⟨c, d, h2⟩⟩ := h
  exact ⟨⟨a, b, var_below (by kernel_rfl) h1 hb⟩, ⟨c, d, var_below (by kernel_rfl) h2 hb⟩⟩

/-- What this program's own state must give. -/
structure Gives (w : World) : Prop where
  tab : Tab w
  sent : Sent w
theorem Gives.below {w w' : World} (h : Gives w) (hb : Below w.heap.size w w') : Gives w' := ⟨h.tab.below hb, h.sent.below hb⟩

theorem parse_ok (s : ByteArray) (hs : s.size ≤ 281474976710656) (v : Int) (h : Lib.parseIntB 64 s.data.toList = .ok v) (w : World) :
    Calls Tryd.prog 24 #[.string s, .int .i64 10, .int .i64 64] w fun e w' => e = .returned (.tuple #[.int .i64 v, .nilIface]) ∧ Below w.heap.size w w' := by
  refine (Any.strconv_ParseInt_10_at64_ok Tryd.laysC174 s (by omega) v h w).mono fun e w' ⟨he, hw⟩ => ⟨he, ?_⟩
  rcases hw with rfl | ⟨t, rfl⟩
  · exact Below.refl _ _
  · exact Lib.bytesWorld_below _ _ _

def Bad (w : World) (e : Ending) (w' : World) : Prop := ∃ k T p, e = .returned (.tuple #[.int .i64 k, .iface T p]) ∧ Below w.heap.size w w'
theorem parse_bad (s : ByteArray) (hs : s.size ≤ 281474976710656) (h : ∀ v, Lib.parseIntB 64 s.data.toList ≠ .ok v) (w : World) (hS : Sent w) :
    Calls Tryd.prog 24 #[.string s, .int .i64 10, .int .i64 64] w (Bad w) := by
  obtain ⟨⟨a, b, h1⟩, ⟨c, d, h2⟩⟩ := hS
  rcases hp : Lib.parseIntB 64 s.data.toList with v | _ | _
  · exact absurd hp (h v)
  · exact (Any.strconv_ParseInt_10_at64_syntax_var Tryd.laysC174 s hs hp a b w h1).mono fun e w' ⟨N, he, _, _, hb⟩ => ⟨_, _, _, he, hb⟩
  · exact (Any.strconv_ParseInt_10_at64_range_var Tryd.laysC174 s hs hp c d w h2).mono fun e w' ⟨N, he, _, _, hb⟩ => ⟨_, _, _, he, hb⟩

theorem bytes_eq {a b : ByteArray} (h : a.data.toList = b.data.toList) : a = b := by
  cases a; cases b
  congr 1
  exact Array.toList_inj.1 h

theorem str_ne {a b : ByteArray} (h : a ≠ b) : (a.toList == b.toList) = false := by
  rw [ByteArray.toList_eq, ByteArray.toList_eq]
  exact beq_eq_false_iff_ne.2 (fun e => h (bytes_eq e))

theorem impl_bad (s : ByteArray) (hs : s.size ≤ 281474976710656) (h : ∀ v, Lib.parseIntB 64 s.data.toList ≠ .ok v) (w : World) (hS : Sent w) :
    Calls Tryd.prog 12 #[.string s] w (RdRet s.data.toList w) := by
  have hr : rdF s.data.toList = none := by
    rw [rdF_parse]
    rcases hp : Lib.parseIntB 64 s.data.toList with v | _ | _
    · exact absurd hp (h v)
    · rfl
    · rfl
  have R := Lib.hid hr
  have P := Lib.hid (fun w hS => parse_bad s hs h w hS)
  have S := Lib.hid hS
  clear hr h hS
  go_enter Tryd.func12, Tryd.ntmps12
  go_wp2_with (go_at_call 24; refine (P.out _ S.out).mono ?_; rintro e w' ⟨k, T, p, rfl, hb⟩)
  go_ret2
  exact ret_no R.out hb

theorem impl_out (s : ByteArray) (hs : s.size ≤ 281474976710656) (v : Int) (h : Lib.parseIntB 64 s.data.toList = .ok v) (hv : (decide (-1000000000000000 ≤ v) && decide (v ≤ 1000000000000000)) = false) (w : World) :
    Calls Tryd.prog 12 #[.string s] w (RdRet s.data.toList w) := by
  have hr : rdF s.data.toList = none := by
    rw [rdF_parse, h]
    simp only []
    rw [if_neg]
    rintro ⟨h1, h2, _⟩
    rw [decide_eq_true h1, decide_eq_true h2] at hv; cases hv
  have R := Lib.hid hr
  have P := Lib.hid (fun w => parse_ok s hs v h w)
  have V := Lib.hid hv
  clear hr h hv
  go_enter Tryd.func12, Tryd.ntmps12
  go_wp2_with (first
    | (go_at_call 24; refine (P.out _).mono ?_; rintro e w' ⟨rfl, hb⟩)
    | (go_at_call 25; refine (value_any _ _ _ V.out).mono ?_; rintro e w' ⟨rfl, rfl⟩))
  go_ret2
  exact ret_no R.out hb

theorem impl_in (s : ByteArray) (hs : s.size ≤ 281474976710656) (v : Int) (h : Lib.parseIntB 64 s.data.toList = .ok v) (h0 : -1000000000000000 ≤ v) (h1 : v ≤ 1000000000000000) (w : World) (hT : Tab w) :
    Calls Tryd.prog 12 #[.string s] w (RdRet s.data.toList w) := by
  have P := Lib.hid (fun w => parse_ok s hs v h w)
  have V : Hid ((decide (-1000000000000000 ≤ v) && decide (v ≤ 1000000000000000)) = true) := Lib.hid (by rw [decide_eq_true h0, decide_eq_true h1]; rfl)
  have D := Lib.hid (fun w ht => impl_any v (by omega) (by omega) w ht)
  have T := Lib.hid hT
  clear hT
  by_cases hi : Lib.itoa v = s.data.toList
  · have R := Lib.hid (rdF_ok (l := s.data.toList) (n := v) ⟨h0, h1, hi⟩)
    have hst : (⟨(Lib.itoa v).toArray⟩ : ByteArray) = s := bytes_eq (by rw [hi])
    rw [hst] at D
    clear hst hi h h0 h1
    go_enter Tryd.func12, Tryd.ntmps12
    go_wp2_with (first
      | (go_at_call 24; refine (P.out _).mono ?_; rintro e w' ⟨rfl, hb⟩)
      | (go_at_call 25; refine (value_any _ _ _ V.out).mono ?_; rintro e w' ⟨rfl, rfl⟩)
      | (go_at_call 18; refine (D.out _ (T.out.below hb)).mono ?_; rintro e w2 ⟨rfl, hb2⟩))
    go_ret2
    exact ret_yes R.out (hb.trans (hb2.mono hb.size))
  · have hr : rdF s.data.toList = none := by
      rw [rdF_parse, h]
      simp only []
      rw [if_neg (fun hk => hi hk.2.2)]
    have R := Lib.hid hr
    have hne : (⟨(Lib.itoa v).toArray⟩ : ByteArray) ≠ s := fun e => hi (by rw [← e])
    generalize (⟨(Lib.itoa v).toArray⟩ : ByteArray) = t at D hne
    have f1 := str_ne hne
    clear hi h h0 h1 hr hne
    go_enter Tryd.func12, Tryd.ntmps12
    go_wp2_with (first
      | (go_at_call 24; refine (P.out _).mono ?_; rintro e w' ⟨rfl, hb⟩)
      | (go_at_call 25; refine (value_any _ _ _ V.out).mono ?_; rintro e w' ⟨rfl, rfl⟩)
      | (go_at_call 18; refine (D.out _ (T.out.below hb)).mono ?_; rintro e w2 ⟨rfl, hb2⟩))
    go_ret2
    exact ret_no R.out (hb.trans (hb2.mono hb.size))
/-- l01Dec, at a number that is spelled otherwise. -/
theorem dec_at (x q : Int) (t : ByteArray) (hx : x = q) (ht : (⟨(Lib.itoa q).toArray⟩ : ByteArray) = t) (h : -1000000000000000 ≤ q ∧ q ≤ 1000000000000000) (w : World) :
    Calls Tryd.prog 28 #[.int .i64 x] w fun e w' => e = .returned (.string t) ∧ Below w.heap.size w w' := by
  subst hx; subst ht
  exact dec_any x (by omega) (by omega) w

end Go.Proofs.YtonkjignljdfgaaDoor.Rd
