/- The program's ReadDecimal and the reference's give the same pair: the law's walk. -/
import Derived.Test.YtonkjignljdfgaaDoorRdS
namespace Go.Proofs.YtonkjignljdfgaaDoor.RdT
open Go.RowKit Go.Proofs.YtonkjignljdfgaaDoor.Dec Go.Proofs.YtonkjignljdfgaaDoor.DecT Go.Proofs.YtonkjignljdfgaaDoor.RdP Go.Proofs.YtonkjignljdfgaaDoor.Rd Go.Proofs.YtonkjignljdfgaaDoor.RdS

theorem impl_any (s : ByteArray) (hs : s.size ≤ 281474976710656) (w : World) (G : Gives w) : Calls Tryd.prog 12 #[.string s] w (RdRet s.data.toList w) := by
  rcases hp : Lib.parseIntB 64 s.data.toList with v | _ | _
  · cases hv : (decide (-1000000000000000 ≤ v) && decide (v ≤ 1000000000000000)) with
    | false => exact impl_out s hs v hp hv w
    | true =>
      rw [Bool.and_eq_true] at hv
      exact impl_in s hs v hp (of_decide_eq_true hv.1) (of_decide_eq_true hv.2) w G.tab
  · exact impl_bad s hs (fun v h => by rw [hp] at h; cases h) w G.sent
  · exact impl_bad s hs (fun v h => by rw [hp] at h; cases h) w G.sent

theorem spec_read (s : ByteArray) (w : World) : Calls Tryd.prog 11 #[.string s] w (RdRet s.data.toList w) := by
  have F := Lib.hid (fun w => spec_any s w)
  go_enter Tryd.func11, Tryd.ntmps11
  go_wp2_with (go_at_call 23; refine (F.out _).mono ?_; rintro e w' ⟨rfl, hb⟩)
  go_ret2
  exact ⟨rfl, hb⟩

theorem walk (s : ByteArray) (w : World) (_hs : s.size ≤ maxLen) (G : Gives w) :
    Calls Tryd.prog 4 #[.string s] w fun e w' => e = .returned (.bool true) ∧ Below w.heap.size w w' := by
  by_cases h : 1048576 < s.size
  · clear G
    go_enter Tryd.func4, Tryd.ntmps4
    go_wp2
    go_ret
    exact ⟨rfl, Below.refl _ _⟩
  · have h' : s.size ≤ 1048576 := by omega
    have S := Lib.hid (fun w => spec_read s w)
    have I := Lib.hid (fun w G => impl_any s (by omega) w G)
    have HG := Lib.hid G
    clear h G _hs
    unfold RdRet at S I
    generalize (rdF s.data.toList).getD 0 = n at S I
    generalize (rdF s.data.toList).isSome = b at S I
    go_enter Tryd.func4, Tryd.ntmps4
    go_wp2_with (first
      | (go_at_call 11; refine (S.out _).mono ?_; rintro e w1 ⟨rfl, hb1⟩)
      | (go_at_call 12; refine (I.out _ (HG.out.below hb1)).mono ?_; rintro e w2 ⟨rfl, hb2⟩))
    all_goals (go_ret; exact ⟨rfl, hb1.trans (hb2.mono hb1.size)⟩)

/-! ### What the listed variables give -/
/-- The name of a sentinel's type, as the row bears it. -/
def nameOf : DataW Unit → String
  | .iface nm _ => nm
  | _ => Rows.fnExactReadDecimalRow.func
def errName : String := nameOf Rows.laid_strconv_ErrSyntax
set_option maxRecDepth 100000 in
theorem errRow (u : TypeId) (h : Tryd.prog.typeName? 3 u = some errName) : u = 86 :=
  typeName_ptr_named (nm := "errors.errorString") (by kernel_rfl) (by kernel_rfl) (by decide) u (h.trans (by kernel_rfl))

def synName : String := Rows.fnExactReadDecimalRow.named.headD Rows.fnExactReadDecimalRow.func
def rngName : String := Rows.fnExactReadDecimalRow.named.tail.headD Rows.fnExactReadDecimalRow.func
theorem synG : Tryd.prog.globalNamed synName = some 0 := by kernel_rfl
theorem synT : (Tryd.prog.globals[0]?).map (·.type) = some 38 := by kernel_rfl
theorem rngG : Tryd.prog.globalNamed rngName = some 1 := by kernel_rfl
theorem rngT : (Tryd.prog.globals[1]?).map (·.type) = some 38 := by kernel_rfl
theorem cellsE : Tryd.prog.cellsOf 88 = 1 := by kernel_rfl
theorem cellsS : Tryd.prog.cellsOf 9 = 1 := by kernel_rfl

theorem sent_met {W : World} {t1 t2 : List UInt8} {r : List (String × DataW Unit)}
    (h : laidMet Tryd.prog ((rngName, .iface errName (.ptr (.agg [.lit (.string t1)]))) :: (synName, .iface errName (.ptr (.agg [.lit (.string t2)]))) :: r) W) : Sent W := by
  obtain ⟨a1, s1, hv1, -, -, -⟩ := laid_sentinel h rngG rngT Tryd.underlying38 errRow Tryd.underlying86 Tryd.underlying88 rfl rfl Tryd.underlying9 cellsE cellsS
  obtain ⟨a0, s0, hv0, -, -, -⟩ := laid_sentinel h.tail synG synT Tryd.underlying38 errRow Tryd.underlying86 Tryd.underlying88 rfl rfl Tryd.underlying9 cellsE cellsS
  exact ⟨⟨_, _, hv0⟩, ⟨_, _, hv1⟩⟩

theorem gives_of {W : World} (h : laidMetH Tryd.prog Rows.fnExactReadDecimalRow.laid W) : Gives W := by
  rw [MakeChecks.laidMetH_plain _ _ _ (by kernel_rfl)] at h
  exact ⟨tab_met h, sent_met h.tail.tail.tail⟩
end Go.Proofs.YtonkjignljdfgaaDoor.RdT
