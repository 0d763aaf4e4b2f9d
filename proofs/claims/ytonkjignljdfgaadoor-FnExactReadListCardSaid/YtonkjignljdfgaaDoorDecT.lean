/- The program's Decimal and the reference's give the same text. -/
import Derived.Test.YtonkjignljdfgaaDoorDec
import Derived.Test.YtonkjignljdfgaaDoorShelfD
import Derived.Lib.AppendIntMem
import Derived.Lib.LaidTab
import Derived.MakeChecks
import Derived.Stop.LaidErr
import Derived.OpenShut
namespace Go.Proofs.YtonkjignljdfgaaDoor.DecT
open Go.RowKit Go.Proofs.YtonkjignljdfgaaDoor.Dec

/-- The table of powers of ten, by the name that the row bears. -/
def tabName : String := Rows.fnExactDecimalRow.named.headD Rows.fnExactDecimalRow.func
def Tab (w : World) : Prop := Lib.TabIs Tryd.prog w tabName .u64 Lib.pow10Tab
theorem gTab : ∃ g, Tryd.prog.globalNamed tabName = some g := by
  refine Option.isSome_iff_exists.1 ?_
  kernel_rfl

theorem Tab.below {w w' : World} (h : Tab w) (hb : Below w.heap.size w w') : Tab w' := by
  obtain ⟨g, hg⟩ := gTab
  unfold Tab Lib.TabIs World.var? at h ⊢
  rw [hg] at h ⊢
  simp only [Option.bind_some] at h ⊢
  have hlt : g < w.heap.size := by
    rcases Nat.lt_or_ge g w.heap.size with h' | h'
    · exact h'
    · rw [Array.getElem?_eq_none h'] at h; cases h
  rw [hb.block g hlt]
  exact h

/-- strconv.FormatInt(n, 10). -/
theorem fmt_any (n : Int) (h0 : -9223372036854775808 ≤ n) (h1 : n ≤ 9223372036854775807) (w : World) (ht : Tab w) :
    Calls Tryd.prog 29 #[.int .i64 n, .int .i64 10] w fun e w' => e = .returned (.string ⟨(Lib.itoa n).toArray⟩) ∧ Below w.heap.size w w' :=
  (Any.strconv_FormatInt_10 Tryd.laysM173 n h0 h1 w ht).mono fun _ _ ⟨he, k, os, hw⟩ => ⟨he, by rw [hw]; exact Lib.below_grow _ _ (Nat.le_refl _) k os⟩

theorem impl_any (n : Int) (h0 : -9223372036854775808 ≤ n) (h1 : n ≤ 9223372036854775807) (w : World) (ht : Tab w) :
    Calls Tryd.prog 18 #[.int .i64 n] w fun e w' => e = .returned (.string ⟨(Lib.itoa n).toArray⟩) ∧ Below w.heap.size w w' := by
  have F := Lib.hid (fun w ht => fmt_any n h0 h1 w ht)
  have T := Lib.hid ht
  clear h0 h1 ht
  generalize (⟨(Lib.itoa n).toArray⟩ : ByteArray) = s at F ⊢
  go_enter Tryd.func18, Tryd.ntmps18
  go_wp2_with (go_at_call 29; refine (F.out _ T.out).mono ?_; rintro e w' ⟨rfl, hb⟩)
  go_ret
  exact ⟨rfl, hb⟩

theorem spec_any (n : Int) (h0 : -9223372036854775808 ≤ n) (h1 : n ≤ 9223372036854775807) (w : World) :
    Calls Tryd.prog 17 #[.int .i64 n] w fun e w' => e = .returned (.string ⟨(Lib.itoa n).toArray⟩) ∧ Below w.heap.size w w' := by
  have F := Lib.hid (fun w => dec_any n h0 h1 w)
  clear h0 h1
  generalize (⟨(Lib.itoa n).toArray⟩ : ByteArray) = s at F ⊢
  go_enter Tryd.func17, Tryd.ntmps17
  go_wp2_with (go_at_call 28; refine (F.out _).mono ?_; rintro e w' ⟨rfl, hb⟩)
  go_ret
  exact ⟨rfl, hb⟩

/-- The law's walk. -/
theorem walk (n : Int) (w : World) (hwf : (Lit.int .i64 n).wf = true) (ht : Tab w) :
    Calls Tryd.prog 6 #[.int .i64 n] w fun e w' => e = .returned (.bool true) ∧ Below w.heap.size w w' := by
  obtain ⟨h0, h1⟩ := bounds_i64 hwf
  have S := Lib.hid (fun w => spec_any n h0 h1 w)
  have I := Lib.hid (fun w ht => impl_any n h0 h1 w ht)
  have T := Lib.hid ht
  clear h0 h1 ht hwf
  generalize (⟨(Lib.itoa n).toArray⟩ : ByteArray) = s at S I
  go_enter Tryd.func6, Tryd.ntmps6
  go_wp2_with (first
    | (go_at_call 17; refine (S.out _).mono ?_; rintro e w1 ⟨rfl, hb1⟩)
    | (go_at_call 18; refine (I.out _ (T.out.below hb1)).mono ?_; rintro e w2 ⟨rfl, hb2⟩))
  all_goals (go_ret; exact ⟨rfl, hb1.trans (hb2.mono hb1.size)⟩)
/-- What the listed variables give. -/
theorem tab_met {W : World} {x y : String × DataW Unit} {r : List (String × DataW Unit)} (h : laidMet Tryd.prog (x :: y :: (tabName, Lib.tabData .u64 Lib.pow10Tab) :: r) W) : Tab W := by
  obtain ⟨g, hg⟩ := gTab
  have hty : (Tryd.prog.globals[g]?).map (·.type) = some 80 := by
    have h1 : (Tryd.prog.globalNamed tabName).bind (fun g => (Tryd.prog.globals[g]?).map (·.type)) = some 80 := by kernel_rfl
    rw [hg] at h1; exact h1
  exact Lib.tabIs_of_head hg hty Tryd.underlying80 Tryd.underlying51 (by kernel_rfl) (by kernel_rfl) h.tail.tail
theorem tab_of {W : World} (h : laidMetH Tryd.prog Rows.fnExactDecimalRow.laid W) : Tab W := by
  rw [MakeChecks.laidMetH_plain _ _ _ (by kernel_rfl)] at h
  exact tab_met h
end Go.Proofs.YtonkjignljdfgaaDoor.DecT
