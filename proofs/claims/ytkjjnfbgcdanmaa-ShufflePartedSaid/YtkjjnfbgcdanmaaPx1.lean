-- Written by a program of this session (wip/xprint.py), over the kit's print; some sections by hand.
import Derived.Test.YtkjjnfbgcdanmaaPx0
import Derived.ChangeKeysEq
namespace Go.Proofs.Ytkjjnfbgcdanmaa.P
open Go.RowKit Go.Proofs.YtkjjnfbgcdanmaaW.PrintWords Go.Proofs.YtkjjnfbgcdanmaaW.PrintLast Go.Proofs.YtkjjnfbgcdanmaaW.PrintMore
attribute [local go_sem] max2_int min2_int max_two min_two max_three min_three max_four min_four   -- for this text's walks alone
set_option linter.unusedVariables false
set_option linter.unusedSimpArgs false

theorem eqA44 (d : Nat) (w : World) (x0 y0 : Int) (x1 y1 : Int) :
  (Op.equalIn (d + 2) 44 (.agg #[.int .i64 x0, .int .i64 x1]) (.agg #[.int .i64 y0, .int .i64 y1])).run Try.prog w = .ok (x0 == y0 && (x1 == y1)) w := by
 obtain ⟨i3, hi3⟩ := info_of_underlying (P := Try.prog) (t := 3) Try.underlying3
 rw [run_equalIn_array (P := Try.prog) w (d + 1) _ _ Try.underlying44 hi3, show Try.prog.cellsOf 3 = 1 by kernel_rfl, show List.range 2 = [0, 1] from rfl]
 have p1 := run_part_plain (P := Try.prog) (w := w) (e := 3) (by kernel_rfl) (xs := #[.int .i64 x0, .int .i64 x1]) (off := 0) (v := .int .i64 x0) rfl
 have p2 := run_part_plain (P := Try.prog) (w := w) (e := 3) (by kernel_rfl) (xs := #[.int .i64 x0, .int .i64 x1]) (off := 1) (v := .int .i64 x1) rfl
 have p3 := run_part_plain (P := Try.prog) (w := w) (e := 3) (by kernel_rfl) (xs := #[.int .i64 y0, .int .i64 y1]) (off := 0) (v := .int .i64 y0) rfl
 have p4 := run_part_plain (P := Try.prog) (w := w) (e := 3) (by kernel_rfl) (xs := #[.int .i64 y0, .int .i64 y1]) (off := 1) (v := .int .i64 y1) rfl
 have q1 := run_equalIn_int (P := Try.prog) (w := w) d 3 .i64 .i64 x0 y0 Try.underlying3
 have q2 := run_equalIn_int (P := Try.prog) (w := w) d 3 .i64 .i64 x1 y1 Try.underlying3
 cases h0 : (x0 == y0) <;> cases h1 : (x1 == y1) <;> rw [h0] at q1 <;> rw [h1] at q2 <;> simp [Op.eqItems, p1, p2, p3, p4, q1, q2]
end Go.Proofs.Ytkjjnfbgcdanmaa.P
