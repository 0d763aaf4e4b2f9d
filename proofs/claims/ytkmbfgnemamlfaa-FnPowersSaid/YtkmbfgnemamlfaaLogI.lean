/- math.Inf(-1) and math.IsInf(.., 1). -/
import Derived.Test.YtkmbfgnemamlfaaLog
import Derived.Test.YtkmbfgnemamlfaaAbs
namespace Go.Proofs.Ytkmbfgnemamlfaa.LogI
open Go.RowKit Go.Proofs.Ytkmbfgnemamlfaa.FW

theorem inf_any (w : World) : Calls Try.prog 28 #[.int .i64 (-1)] w fun e w' => e = .returned (.float .f64 18442240474082181120) ∧ w = w' := by
  go_enter Try.func28, Try.ntmps28
  go_wp2
  go_ret
  exact ⟨rfl, rfl⟩

theorem isInf_any (x : Nat) (b : Bool) (w : World) (h : (FloatKind.f64.format.order x 9218868437227405311 == some .gt) = b) :
    Calls Try.prog 55 #[.float .f64 x, .int .i64 1] w fun e w' => e = .returned (.bool b) ∧ w = w' := by
  go_enter Try.func55, Try.ntmps55
  go_wp2
  go_ret
  subst h
  exact ⟨rfl, rfl⟩
end Go.Proofs.Ytkmbfgnemamlfaa.LogI
