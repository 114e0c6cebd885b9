-- Written by a program of this session (wip/xprint.py), over the kit's print; some sections by hand.
import Derived.Test.YtkjjnfbgcdanmaaPx0
import Derived.Test.YtkjjnfbgcdanmaaPx2
import Derived.Test.YtkjjnfbgcdanmaaHandS
namespace Go.Proofs.Ytkjjnfbgcdanmaa.P
open Go.RowKit Go.Proofs.YtkjjnfbgcdanmaaW.PrintWords Go.Proofs.YtkjjnfbgcdanmaaW.PrintLast Go.Proofs.YtkjjnfbgcdanmaaW.PrintMore
attribute [local go_sem] max2_int min2_int max_two min_two max_three min_three max_four min_four   -- for this text's walks alone
set_option linter.unusedVariables false
set_option linter.unusedSimpArgs false

/-! ### shuffle_Shifts: function 35, by hand -/
-- ALONE
def shuffle_Shifts.f (k : Nat) (a0 : Int) (l1 : List Int) : Option (List Int × Int) := Hand.shuffle_Shifts.f k a0 l1
theorem shuffle_Shifts.mono : ∀ a0 a1 k, LeO (shuffle_Shifts.f k a0 a1) (shuffle_Shifts.f (k + 1) a0 a1) := fun _ _ _ => LeO.bind (shuffle_Values.mono _ _ _) (fun _ => LeO.refl _)
theorem shuffle_Shifts.calls (k : Nat) (a0 : Int) (A1 : Option Addr) (c1 : Nat) (l1 : List Int) (r1 : List Int) (r2 : Int) (w : World) (hr1 : Kd.C (Kd.int .i64) w A1 l1.length l1) (hc1 : l1.length ≤ c1) (h : shuffle_Shifts.f k a0 l1 = some (r1, r2)) :
  Calls Try.prog 35 #[.int .i64 a0, .slice A1 l1.length c1] w fun e w' => ∃ v0_ : Value, e = .returned (.tuple #[v0_, .int .i64 r2]) ∧ Kd.R (Kd.int .i64) 3 w' w.heap.size (fun _ => True) v0_ r1 ∧ Below w.heap.size w w' := Hand.shuffle_Shifts.calls k a0 A1 c1 l1 r1 r2 w hr1 hc1 h


end Go.Proofs.Ytkjjnfbgcdanmaa.P
