import Derived.Test.YtpkmmbicpijgpaaHandA
namespace Go.Proofs.Ytpkmmbicpijgpaa.Hand
open Go.RowKit Go.Shelf Go.Proofs.YtpkmmbicpijgpaaW.PrintWords Go.Proofs.YtpkmmbicpijgpaaW.PrintLast Go.Proofs.YtpkmmbicpijgpaaW.PrintMore
attribute [local go_sem] max2_int min2_int max_two min_two max_three min_three max_four min_four
set_option linter.unusedVariables false
set_option linter.unusedSimpArgs false

theorem setCell_drewN' (w : World) (n : Nat) (a : Addr) (v : Value) : (w.drewN n).setCell a v = (w.setCell a v).drewN n := rfl

set_option maxHeartbeats 2000000 in
theorem list_calls (A0 : Option Addr) (c0 : Nat) (l0 : List Int) (w : World) (hr0 : Kd.C (Kd.int .i64) w A0 l0.length l0) (hc0 : l0.length ≤ c0) :
    Calls Try.prog 8 #[.slice A0 l0.length c0] w fun e w' => ∃ v0_ : Value, e = .returned v0_ ∧ Kd.R (Kd.int .i64) 3 w' w.heap.size (fun _ => True) v0_ (l0.take 65) ∧ Below w.heap.size w w' := by
  obtain ⟨j, hj⟩ : ∃ j : Int, (if 65 < (l0.length : Int) then 65 else (l0.length : Int)) = j := ⟨_, rfl⟩
  have hj0 : 0 ≤ j := by rw [← hj]; split <;> omega
  have hj1 : j ≤ (l0.length : Int) := by rw [← hj]; split <;> omega
  have hj2 : j ≤ 65 := by rw [← hj]; split <;> omega
  have htake : l0.take j.toNat = l0.take 65 := by
    rw [← hj]
    split
    · rfl
    · rw [List.take_of_length_le (by omega), List.take_of_length_le (by omega)]
  obtain ⟨i06, hi06, _, hsz6, _⟩ := info_parts infoI
  obtain ⟨hcut6, hA6, hC6⟩ := print_take_of (P := Try.prog) (Value.int .i64) 0 22 3 .i64 Try.underlying22 hi06 hsz6 A0 c0 l0 j hj0 hj1 hc0
  have hl : (l0.take j.toNat).length = j.toNat := by rw [List.length_take]; omega
  have HR0 := Kd.C_of_reads (h1 := fun _ => rfl) (hA6 _ (Kd.reads_of_C hr0))
  rw [hl] at hcut6 HR0
  have HR := Aside0.mk HR0
  have HT := Aside0.mk htake
  have HB := Aside0.mk (Below.refl w.heap.size w)
  clear hA6 hC6 hi06 hsz6 htake hl hr0 hc0 HR0
  go_enter Try.func8, Try.ntmps8
  go_wp2_with ((with_reducible refine gate_builtin (b := .append) (xs := #[.tmp 4, .tmp 9]) rfl ?_); at_builtin; go_loud (refine Kd.R_append_row (w0 := w) (h1 := fun _ => rfl) (Value.int .i64) 0 w.heap.size rfl (.tmp 4) (.tmp 9) 22 3 (.int .i64 0) 8 rfl Try.underlying22 infoI rfl (by decide) (.slice none 0 0) [] (l0.take j.toNat) A0 j.toNat c0 (fun _ => True) rfl rfl (fun _ _ => trivial) (Kd.R_nil _ _ _ _ _) HR.out HB.out (Nat.le_refl _) (by simp; omega) ?_); rintro v1 w1 hR hB - -; rw [List.nil_append, HT.out] at hR; have HR1 := Aside0.mk hR; have HB1 := Aside0.mk hB; clear hR hB)
  go_ret
  exact ⟨v1, rfl, HR1.out, HB1.out⟩

end Go.Proofs.Ytpkmmbicpijgpaa.Hand
