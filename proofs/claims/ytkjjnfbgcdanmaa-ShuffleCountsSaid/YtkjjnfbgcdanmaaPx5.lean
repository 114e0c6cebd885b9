-- Written by a program of this session (wip/xprint.py), over the kit's print; some sections by hand.
import Derived.Test.YtkjjnfbgcdanmaaPx0
import Derived.Test.YtkjjnfbgcdanmaaPx1
import Derived.Test.YtkjjnfbgcdanmaaPx4
namespace Go.Proofs.Ytkjjnfbgcdanmaa.P
open Go.RowKit Go.Proofs.YtkjjnfbgcdanmaaW.PrintWords Go.Proofs.YtkjjnfbgcdanmaaW.PrintLast Go.Proofs.YtkjjnfbgcdanmaaW.PrintMore
attribute [local go_sem] max2_int min2_int max_two min_two max_three min_three max_four min_four   -- for this text's walks alone
set_option linter.unusedVariables false
set_option linter.unusedSimpArgs false

/-! ### galloonlaw06_ShuffleCounts: function 3 -/
mutual
def galloonlaw06_ShuffleCounts.j0 : Nat → Int → Int → Int → Int → Bool → Option (Bool)
  | 0, _, _, _, _, _ => none
  | k + 1, x0, x3, x4, x5, x36 => if x36 = true then (some false) else (galloonlaw06_ShuffleCounts.l0 k x0 x3 x4 x5 1 1 false 0)
def galloonlaw06_ShuffleCounts.j2 : Nat → Int → Int → Int → Int → Int → Bool → Option (Bool)
  | 0, _, _, _, _, _, _ => none
  | k + 1, x0, x3, x4, x5, x7, x9 => galloonlaw06_ShuffleCounts.l1 k x0 x3 x4 x5 x7 1 x9 1
def galloonlaw06_ShuffleCounts.l1 : Nat → Int → Int → Int → Int → Int → Int → Bool → Int → Option (Bool)
  | 0, _, _, _, _, _, _, _, _ => none
  | k + 1, x0, x3, x4, x5, x7, x8, x9, x12 => if x12 ≤ x5 then (if x0 = 0 then (none) else (if (((Int.tmod (wrap64 (x8 * x12)) x0) == 0) != (x12 == x5)) = true then (some false) else (galloonlaw06_ShuffleCounts.l1 k x0 x3 x4 x5 x7 (Int.tmod (wrap64 (x8 * x12)) x0) x9 (wrap64 (x12 + 1))))) else (if x9 = true then (if x4 = 5 then (if x3 = 0 then ((galloonlaw06_awake.f k).bind fun t187 => (some t187)) else (some false)) else (some false)) else (if x4 = 0 then (if x3 = x7 then ((galloonlaw06_awake.f k).bind fun t188 => (some t188)) else (some false)) else (some false)))
def galloonlaw06_ShuffleCounts.l0 : Nat → Int → Int → Int → Int → Int → Int → Bool → Int → Option (Bool)
  | 0, _, _, _, _, _, _, _, _ => none
  | k + 1, x0, x3, x4, x5, x7, x8, x9, x10 => if x10 < x5 then (if x10 > 0 then (if x0 = 0 then (none) else ((galloonref06_Gcd.f k x0 (Int.tmod (wrap64 (x8 * x10)) x0)).bind fun t185 => (if t185 = 0 then (none) else (if (wrap64 (Int.tdiv x0 t185)) = 0 then (none) else (if x7 > (wrap64 (Int.tdiv (1152921504606846976 : Int) (wrap64 (Int.tdiv x0 t185)))) then (galloonlaw06_ShuffleCounts.j2 k x0 x3 x4 x5 x7 true) else (galloonlaw06_ShuffleCounts.l0 k x0 x3 x4 x5 (wrap64 (x7 * (wrap64 (Int.tdiv x0 t185)))) (Int.tmod (wrap64 (x8 * x10)) x0) x9 (wrap64 (x10 + 1)))))))) else ((galloonref06_Gcd.f k x0 x8).bind fun t186 => (if t186 = 0 then (none) else (if (wrap64 (Int.tdiv x0 t186)) = 0 then (none) else (if x7 > (wrap64 (Int.tdiv (1152921504606846976 : Int) (wrap64 (Int.tdiv x0 t186)))) then (galloonlaw06_ShuffleCounts.j2 k x0 x3 x4 x5 x7 true) else (galloonlaw06_ShuffleCounts.l0 k x0 x3 x4 x5 (wrap64 (x7 * (wrap64 (Int.tdiv x0 t186)))) x8 x9 (wrap64 (x10 + 1)))))))) else (galloonlaw06_ShuffleCounts.j2 k x0 x3 x4 x5 x7 x9)
end
def galloonlaw06_ShuffleCounts.f (k : Nat) (a0 : Int) : Option (Bool) := (galloonlaw06_mod.f a0 63).bind fun t180 => ((shuffle_Count.f k (wrap64 (2 + t180))).bind fun bt181 => ((shuffle_Degree.f k (wrap64 (2 + t180))).bind fun bt183 => (if bt183.2 = 0 then (if bt183.1 < 2 then (galloonlaw06_ShuffleCounts.j0 k (wrap64 (2 + t180)) bt181.1 bt181.2 bt183.1 true) else (galloonlaw06_ShuffleCounts.j0 k (wrap64 (2 + t180)) bt181.1 bt181.2 bt183.1 (decide (bt183.1 > (wrap64 (2 + t180)))))) else (galloonlaw06_ShuffleCounts.j0 k (wrap64 (2 + t180)) bt181.1 bt181.2 bt183.1 true))))
theorem galloonlaw06_ShuffleCounts.mono_l : ∀ k, (∀ y0 y1 y2 y3 y4, LeO (galloonlaw06_ShuffleCounts.j0 k y0 y1 y2 y3 y4) (galloonlaw06_ShuffleCounts.j0 (k + 1) y0 y1 y2 y3 y4)) ∧ (∀ y0 y1 y2 y3 y4 y5, LeO (galloonlaw06_ShuffleCounts.j2 k y0 y1 y2 y3 y4 y5) (galloonlaw06_ShuffleCounts.j2 (k + 1) y0 y1 y2 y3 y4 y5)) ∧ (∀ y0 y1 y2 y3 y4 y5 y6 y7, LeO (galloonlaw06_ShuffleCounts.l1 k y0 y1 y2 y3 y4 y5 y6 y7) (galloonlaw06_ShuffleCounts.l1 (k + 1) y0 y1 y2 y3 y4 y5 y6 y7)) ∧ (∀ y0 y1 y2 y3 y4 y5 y6 y7, LeO (galloonlaw06_ShuffleCounts.l0 k y0 y1 y2 y3 y4 y5 y6 y7) (galloonlaw06_ShuffleCounts.l0 (k + 1) y0 y1 y2 y3 y4 y5 y6 y7))
  | 0 => ⟨fun _ _ _ _ _ r h => by simp [galloonlaw06_ShuffleCounts.j0] at h, fun _ _ _ _ _ _ r h => by simp [galloonlaw06_ShuffleCounts.j2] at h, fun _ _ _ _ _ _ _ _ r h => by simp [galloonlaw06_ShuffleCounts.l1] at h, fun _ _ _ _ _ _ _ _ r h => by simp [galloonlaw06_ShuffleCounts.l0] at h⟩
  | k + 1 => by
    obtain ⟨ih0, ih1, ih2, ih3⟩ := galloonlaw06_ShuffleCounts.mono_l k
    refine ⟨?_, ?_, ?_, ?_⟩
    · intro y0 y1 y2 y3 y4
      unfold galloonlaw06_ShuffleCounts.j0
      repeat' first
      | (with_reducible exact ih0 _ _ _ _ _)
      | (with_reducible exact ih1 _ _ _ _ _ _)
      | (with_reducible exact ih2 _ _ _ _ _ _ _ _)
      | (with_reducible exact ih3 _ _ _ _ _ _ _ _)
      | (with_reducible exact galloonlaw06_awake.mono _)
      | (with_reducible exact galloonref06_Gcd.mono _ _ _)
      | (with_reducible exact shuffle_Count.mono _ _)
      | (with_reducible exact shuffle_Degree.mono _ _)
      | (with_reducible exact LeO.refl _)
      | (with_reducible exact LeO.none _)
      | (with_reducible refine LeO.ite ?_ ?_)
      | (with_reducible refine LeO.bind ?_ (fun _ => ?_))
      | exact ih0 _ _ _ _ _
      | exact ih1 _ _ _ _ _ _
      | exact ih2 _ _ _ _ _ _ _ _
      | exact ih3 _ _ _ _ _ _ _ _
      | exact galloonlaw06_awake.mono _
      | exact galloonref06_Gcd.mono _ _ _
      | exact shuffle_Count.mono _ _
      | exact shuffle_Degree.mono _ _
      | exact LeO.none _
      | refine LeO.ite ?_ ?_
      | refine LeO.bind ?_ (fun _ => ?_)
    · intro y0 y1 y2 y3 y4 y5
      unfold galloonlaw06_ShuffleCounts.j2
      repeat' first
      | (with_reducible exact ih0 _ _ _ _ _)
      | (with_reducible exact ih1 _ _ _ _ _ _)
      | (with_reducible exact ih2 _ _ _ _ _ _ _ _)
      | (with_reducible exact ih3 _ _ _ _ _ _ _ _)
      | (with_reducible exact galloonlaw06_awake.mono _)
      | (with_reducible exact galloonref06_Gcd.mono _ _ _)
      | (with_reducible exact shuffle_Count.mono _ _)
      | (with_reducible exact shuffle_Degree.mono _ _)
      | (with_reducible exact LeO.refl _)
      | (with_reducible exact LeO.none _)
      | (with_reducible refine LeO.ite ?_ ?_)
      | (with_reducible refine LeO.bind ?_ (fun _ => ?_))
      | exact ih0 _ _ _ _ _
      | exact ih1 _ _ _ _ _ _
      | exact ih2 _ _ _ _ _ _ _ _
      | exact ih3 _ _ _ _ _ _ _ _
      | exact galloonlaw06_awake.mono _
      | exact galloonref06_Gcd.mono _ _ _
      | exact shuffle_Count.mono _ _
      | exact shuffle_Degree.mono _ _
      | exact LeO.none _
      | refine LeO.ite ?_ ?_
      | refine LeO.bind ?_ (fun _ => ?_)
    · intro y0 y1 y2 y3 y4 y5 y6 y7
      unfold galloonlaw06_ShuffleCounts.l1
      repeat' first
      | (with_reducible exact ih0 _ _ _ _ _)
      | (with_reducible exact ih1 _ _ _ _ _ _)
      | (with_reducible exact ih2 _ _ _ _ _ _ _ _)
      | (with_reducible exact ih3 _ _ _ _ _ _ _ _)
      | (with_reducible exact galloonlaw06_awake.mono _)
      | (with_reducible exact galloonref06_Gcd.mono _ _ _)
      | (with_reducible exact shuffle_Count.mono _ _)
      | (with_reducible exact shuffle_Degree.mono _ _)
      | (with_reducible exact LeO.refl _)
      | (with_reducible exact LeO.none _)
      | (with_reducible refine LeO.ite ?_ ?_)
      | (with_reducible refine LeO.bind ?_ (fun _ => ?_))
      | exact ih0 _ _ _ _ _
      | exact ih1 _ _ _ _ _ _
      | exact ih2 _ _ _ _ _ _ _ _
      | exact ih3 _ _ _ _ _ _ _ _
      | exact galloonlaw06_awake.mono _
      | exact galloonref06_Gcd.mono _ _ _
      | exact shuffle_Count.mono _ _
      | exact shuffle_Degree.mono _ _
      | exact LeO.none _
      | refine LeO.ite ?_ ?_
      | refine LeO.bind ?_ (fun _ => ?_)
    · intro y0 y1 y2 y3 y4 y5 y6 y7
      unfold galloonlaw06_ShuffleCounts.l0
      repeat' first
      | (with_reducible exact ih0 _ _ _ _ _)
      | (with_reducible exact ih1 _ _ _ _ _ _)
      | (with_reducible exact ih2 _ _ _ _ _ _ _ _)
      | (with_reducible exact ih3 _ _ _ _ _ _ _ _)
      | (with_reducible exact galloonlaw06_awake.mono _)
      | (with_reducible exact galloonref06_Gcd.mono _ _ _)
      | (with_reducible exact shuffle_Count.mono _ _)
      | (with_reducible exact shuffle_Degree.mono _ _)
      | (with_reducible exact LeO.refl _)
      | (with_reducible exact LeO.none _)
      | (with_reducible refine LeO.ite ?_ ?_)
      | (with_reducible refine LeO.bind ?_ (fun _ => ?_))
      | exact ih0 _ _ _ _ _
      | exact ih1 _ _ _ _ _ _
      | exact ih2 _ _ _ _ _ _ _ _
      | exact ih3 _ _ _ _ _ _ _ _
      | exact galloonlaw06_awake.mono _
      | exact galloonref06_Gcd.mono _ _ _
      | exact shuffle_Count.mono _ _
      | exact shuffle_Degree.mono _ _
      | exact LeO.none _
      | refine LeO.ite ?_ ?_
      | refine LeO.bind ?_ (fun _ => ?_)
theorem galloonlaw06_ShuffleCounts.mono : ∀ a0 k, LeO (galloonlaw06_ShuffleCounts.f k a0) (galloonlaw06_ShuffleCounts.f (k + 1) a0) := by
  intro a0 k
  obtain ⟨ih0, ih1, ih2, ih3⟩ := galloonlaw06_ShuffleCounts.mono_l k
  unfold galloonlaw06_ShuffleCounts.f
  repeat' first
      | (with_reducible exact ih0 _ _ _ _ _)
      | (with_reducible exact ih1 _ _ _ _ _ _)
      | (with_reducible exact ih2 _ _ _ _ _ _ _ _)
      | (with_reducible exact ih3 _ _ _ _ _ _ _ _)
      | (with_reducible exact galloonlaw06_awake.mono _)
      | (with_reducible exact galloonref06_Gcd.mono _ _ _)
      | (with_reducible exact shuffle_Count.mono _ _)
      | (with_reducible exact shuffle_Degree.mono _ _)
      | (with_reducible exact LeO.refl _)
      | (with_reducible exact LeO.none _)
      | (with_reducible refine LeO.ite ?_ ?_)
      | (with_reducible refine LeO.bind ?_ (fun _ => ?_))
      | exact ih0 _ _ _ _ _
      | exact ih1 _ _ _ _ _ _
      | exact ih2 _ _ _ _ _ _ _ _
      | exact ih3 _ _ _ _ _ _ _ _
      | exact galloonlaw06_awake.mono _
      | exact galloonref06_Gcd.mono _ _ _
      | exact shuffle_Count.mono _ _
      | exact shuffle_Degree.mono _ _
      | exact LeO.none _
      | refine LeO.ite ?_ ?_
      | refine LeO.bind ?_ (fun _ => ?_)
set_option maxHeartbeats 8000000 in
set_option maxRecDepth 100000 in
theorem galloonlaw06_ShuffleCounts.calls (k : Nat) (a0 : Int) (r : Bool) (w : World) (h : galloonlaw06_ShuffleCounts.f k a0 = some r) :
    Calls Try.prog 3 #[.int .i64 a0] w fun e w' => e = .returned (.bool r) ∧ Below w.heap.size w w' := by
  have HB := Aside0.mk (Below.refl w.heap.size w)
  have H : ((galloonlaw06_mod.f a0 63).bind fun t180 => ((shuffle_Count.f k (wrap64 (2 + t180))).bind fun bt181 => ((shuffle_Degree.f k (wrap64 (2 + t180))).bind fun bt183 => (if bt183.2 = 0 then (if bt183.1 < 2 then (galloonlaw06_ShuffleCounts.j0 k (wrap64 (2 + t180)) bt181.1 bt181.2 bt183.1 true) else (galloonlaw06_ShuffleCounts.j0 k (wrap64 (2 + t180)) bt181.1 bt181.2 bt183.1 (decide (bt183.1 > (wrap64 (2 + t180)))))) else (galloonlaw06_ShuffleCounts.j0 k (wrap64 (2 + t180)) bt181.1 bt181.2 bt183.1 true))))) = some r := h
  clear h
  replace H := Option.bind_eq_some_iff.mp H
  obtain ⟨t180, A20, H⟩ := H
  replace H : ((shuffle_Count.f k (wrap64 (2 + t180))).bind fun bt181 => ((shuffle_Degree.f k (wrap64 (2 + t180))).bind fun bt183 => (if bt183.2 = 0 then (if bt183.1 < 2 then (galloonlaw06_ShuffleCounts.j0 k (wrap64 (2 + t180)) bt181.1 bt181.2 bt183.1 true) else (galloonlaw06_ShuffleCounts.j0 k (wrap64 (2 + t180)) bt181.1 bt181.2 bt183.1 (decide (bt183.1 > (wrap64 (2 + t180)))))) else (galloonlaw06_ShuffleCounts.j0 k (wrap64 (2 + t180)) bt181.1 bt181.2 bt183.1 true)))) = some r := H
  have A2 := Aside0.mk A20
  clear A20
  replace H := Option.bind_eq_some_iff.mp H
  obtain ⟨⟨t181, t182⟩, A30, H⟩ := H
  replace H : ((shuffle_Degree.f k (wrap64 (2 + t180))).bind fun bt183 => (if bt183.2 = 0 then (if bt183.1 < 2 then (galloonlaw06_ShuffleCounts.j0 k (wrap64 (2 + t180)) t181 t182 bt183.1 true) else (galloonlaw06_ShuffleCounts.j0 k (wrap64 (2 + t180)) t181 t182 bt183.1 (decide (bt183.1 > (wrap64 (2 + t180)))))) else (galloonlaw06_ShuffleCounts.j0 k (wrap64 (2 + t180)) t181 t182 bt183.1 true))) = some r := H
  have A3 := Aside0.mk A30
  clear A30
  replace H := Option.bind_eq_some_iff.mp H
  obtain ⟨⟨t183, t184⟩, A40, H⟩ := H
  replace H : (if t184 = 0 then (if t183 < 2 then (galloonlaw06_ShuffleCounts.j0 k (wrap64 (2 + t180)) t181 t182 t183 true) else (galloonlaw06_ShuffleCounts.j0 k (wrap64 (2 + t180)) t181 t182 t183 (decide (t183 > (wrap64 (2 + t180)))))) else (galloonlaw06_ShuffleCounts.j0 k (wrap64 (2 + t180)) t181 t182 t183 true)) = some r := H
  have A4 := Aside0.mk A40
  clear A40
  have HC5 := Aside0.mk H
  clear H
  go_enter Try.func3, Try.ntmps3
  go_upto_region 4 with (first | ((with_reducible refine gate_callee (f := 15) rfl ?_); refine goesL_ (some 14) rfl rfl Try.func15 (by kernel_rfl) rfl #[.int .i64 a0, .int .i64 63] rfl (by (try simp only [List.map_toArray, List.map_cons, List.map_nil]); first | done | rfl | (simp only [List.length_drop, List.length_take]; rfl)) ?_; (with_reducible refine (galloonlaw06_mod.calls a0 63 t180 _ A2.out).mono ?_); rintro e w' ⟨rfl, ⟨nd, rfl⟩⟩; refine ⟨_, rfl, ?_⟩) | ((with_reducible refine gate_callee (f := 16) rfl ?_); refine goesL_ (some 18) rfl rfl Try.func16 (by kernel_rfl) rfl #[.int .i64 (wrap64 (2 + t180))] rfl (by (try simp only [List.map_toArray, List.map_cons, List.map_nil]); first | done | rfl | (simp only [List.length_drop, List.length_take]; rfl)) ?_; (with_reducible refine (shuffle_Count.calls k (wrap64 (2 + t180)) t181 t182 _ A3.out).mono ?_); rintro e w' ⟨rfl, ⟨nd, rfl⟩⟩; refine ⟨_, rfl, ?_⟩) | ((with_reducible refine gate_callee (f := 17) rfl ?_); refine goesL_ (some 23) rfl rfl Try.func17 (by kernel_rfl) rfl #[.int .i64 (wrap64 (2 + t180))] rfl (by (try simp only [List.map_toArray, List.map_cons, List.map_nil]); first | done | rfl | (simp only [List.length_drop, List.length_take]; rfl)) ?_; (with_reducible refine (shuffle_Degree.calls k (wrap64 (2 + t180)) t183 t184 _ A4.out).mono ?_); rintro e w' ⟨rfl, ⟨nd, rfl⟩⟩; refine ⟨_, rfl, ?_⟩))
  (try simp only [Act.put, List.setIfInBounds_toArray, List.set_cons_zero, List.set_cons_succ])
  go_cut [36] (fun v36 wc => ∃ (kq : Nat) (x36_4 : Bool), v36 = .bool x36_4 ∧ Aside0 (galloonlaw06_ShuffleCounts.j0 kq (wrap64 (2 + t180)) t181 t182 t183 x36_4 = some r) ∧ Aside0 (kq ≤ k) ∧ Aside0 (Below w.heap.size w wc))
  case first =>
    have H := HC5.out
    clear HC5
    by_cases c6 : t184 = 0
    · rw [if_pos c6] at H
      have c6b0 : (t184 == 0) = true := beq_iff_eq.mpr c6
      have c6b1 : (t184 != 0) = false := bne_eq_false_iff_eq.mpr c6
      clear c6
      (first | rw [c6b0] | (simp only [i64_w, i32_w]; rw [c6b0]) | skip)
      by_cases c7 : t183 < 2
      · rw [if_pos c7] at H
        have c7b0 : decide (t183 < 2) = true := decide_eq_true c7
        clear c7
        have H' := Aside0.mk H
        clear H
        go_wp2
        go_meet
        case rel => exact ⟨_, (true), (by first | rfl | (simp; done) | (simp [*]; done)), H', ⟨by first | omega | exact Nat.le_refl _⟩, ⟨by repeat (first | (with_reducible first | exact HB.out | apply below_alloc | apply pw_below_drewN | apply below_drew1) | exact HB.out)⟩⟩
      · rw [if_neg c7] at H
        have c7b0 : decide (t183 < 2) = false := decide_eq_false c7
        clear c7
        have H' := Aside0.mk H
        clear H
        go_wp2
        go_meet
        case rel => exact ⟨_, (decide (t183 > (wrap64 (2 + t180)))), (by first | rfl | (simp; done) | (simp [*]; done)), H', ⟨by first | omega | exact Nat.le_refl _⟩, ⟨by repeat (first | (with_reducible first | exact HB.out | apply below_alloc | apply pw_below_drewN | apply below_drew1) | exact HB.out)⟩⟩
    · rw [if_neg c6] at H
      have c6b0 : (t184 == 0) = false := beq_eq_false_iff_ne.mpr c6
      have c6b1 : (t184 != 0) = true := bne_iff_ne.mpr c6
      (first | rw [c6b0] | (simp only [i64_w, i32_w]; rw [c6b0]) | skip)
      have H' := Aside0.mk H
      clear H
      go_wp2
      go_meet
      case rel => exact ⟨_, (true), (by first | rfl | (simp; done) | (simp [*]; done)), H', ⟨by first | omega | exact Nat.le_refl _⟩, ⟨by repeat (first | (with_reducible first | exact HB.out | apply below_alloc | apply pw_below_drewN | apply below_drew1) | exact HB.out)⟩⟩
  case rest =>
    clear HC5
    try clear c1
    try clear p2
    try clear c3
    try clear c6
    try clear c6b0
    try clear c6b1
    try clear p6
    try clear c7
    try clear c7b0
    obtain ⟨kq, x36_4, rfl, HA, HJ4, HB⟩ := hcut
    cases kq with
    | zero => exact absurd HA.out (by simp [galloonlaw06_ShuffleCounts.j0])
    | succ kj4 =>
      have H := HA.out
      clear HA
      simp only [galloonlaw06_ShuffleCounts.j0] at H
      by_cases c8 : x36_4 = true
      · subst c8
        have H1 : (some false) = some r := by rw [if_pos rfl] at H; exact H
        clear H
        have H := H1
        clear H1
        obtain rfl := Option.some.inj H
        go_wp2
        go_ret
        exact ⟨by first | rfl | (simp [errW_none, errW_some] <;> rfl) | (simp [*, errW_none, errW_some] <;> rfl), by repeat (first | (with_reducible first | exact HB.out | apply below_alloc | apply pw_below_drewN | apply below_drew1) | exact HB.out)⟩
      · replace c8 := Bool.eq_false_iff.mpr c8
        subst c8
        have H1 : (galloonlaw06_ShuffleCounts.l0 kj4 (wrap64 (2 + t180)) t181 t182 t183 1 1 false 0) = some r := by rw [if_neg (show ¬ (false = true) by decide)] at H; exact H
        clear H
        have H := H1
        clear H1
        have HC9 := Aside0.mk H
        clear H
        go_upto_block 0 with (fail)
        go_cut [7, 9] (fun v7 v9 wc => ∃ (kq : Nat) (x7_8 : Int) (x9_8 : Bool), v7 = .int .i64 x7_8 ∧ v9 = .bool x9_8 ∧ Aside0 (galloonlaw06_ShuffleCounts.j2 kq (wrap64 (2 + t180)) t181 t182 t183 x7_8 x9_8 = some r) ∧ Aside0 (kq ≤ kj4) ∧ Aside0 (Below w.heap.size w wc))
        case first =>
          have H := HC9.out
          clear HC9
          have H' := Aside0.mk H
          clear H
          go_wp2
          go_loopg [7, 8, 9, 10] kj4 (fun kq v7 v8 v9 v10 w' => ∃ (x7_2 : Int) (x8_2 : Int) (x9_2 : Bool) (x10_2 : Int), v7 = .int .i64 x7_2 ∧ v8 = .int .i64 x8_2 ∧ v9 = .bool x9_2 ∧ v10 = .int .i64 x10_2 ∧ Aside0 (galloonlaw06_ShuffleCounts.l0 kq (wrap64 (2 + t180)) t181 t182 t183 x7_2 x8_2 x9_2 x10_2 = some r) ∧ Aside0 (kq ≤ kj4) ∧ Aside0 (Below w.heap.size w w'))
          case atStart => exact ⟨(1), (1), (false), (0), (by first | rfl | (simp; done) | (simp [*]; done)), (by first | rfl | (simp; done) | (simp [*]; done)), (by first | rfl | (simp; done) | (simp [*]; done)), (by first | rfl | (simp; done) | (simp [*]; done)), H', ⟨Nat.le_refl _⟩, ⟨by repeat (first | (with_reducible first | exact HB.out | apply below_alloc | apply pw_below_drewN | apply below_drew1) | exact HB.out)⟩⟩
          case round =>
            clear H'
            try clear c1
            try clear p2
            try clear c3
            try clear c6
            try clear c6b0
            try clear c6b1
            try clear p6
            try clear c7
            try clear c7b0
            try clear c8
            try clear p2
            try clear p6
            obtain ⟨x7_2, x8_2, x9_2, x10_2, rfl, rfl, rfl, rfl, HA, HK2, HB⟩ := hrel
            cases gk with
            | zero => exact absurd HA.out (by simp [galloonlaw06_ShuffleCounts.l0])
            | succ k2 =>
              have H := HA.out
              clear HA
              simp only [galloonlaw06_ShuffleCounts.l0] at H
              by_cases c10 : x10_2 < t183
              · rw [if_pos c10] at H
                have c10b0 : decide (x10_2 < t183) = true := decide_eq_true c10
                clear c10
                (first | rw [c10b0] | (simp only [i64_w, i32_w]; rw [c10b0]) | skip)
                by_cases c11 : x10_2 > 0
                · rw [if_pos c11] at H
                  have c11b0 : decide (0 < x10_2) = true := decide_eq_true c11
                  clear c11
                  by_cases c12 : (wrap64 (2 + t180)) = 0
                  · rw [if_pos c12] at H
                    exact absurd H (by simp)
                  · rw [if_neg c12] at H
                    have c12b0 : ((wrap64 (2 + t180)) == 0) = false := beq_eq_false_iff_ne.mpr c12
                    have c12b1 : ((wrap64 (2 + t180)) != 0) = true := bne_iff_ne.mpr c12
                    replace H := Option.bind_eq_some_iff.mp H
                    obtain ⟨t185, A130, H⟩ := H
                    replace H : (if t185 = 0 then (none) else (if (wrap64 (Int.tdiv (wrap64 (2 + t180)) t185)) = 0 then (none) else (if x7_2 > (wrap64 (Int.tdiv (1152921504606846976 : Int) (wrap64 (Int.tdiv (wrap64 (2 + t180)) t185)))) then (galloonlaw06_ShuffleCounts.j2 k2 (wrap64 (2 + t180)) t181 t182 t183 x7_2 true) else (galloonlaw06_ShuffleCounts.l0 k2 (wrap64 (2 + t180)) t181 t182 t183 (wrap64 (x7_2 * (wrap64 (Int.tdiv (wrap64 (2 + t180)) t185)))) (Int.tmod (wrap64 (x8_2 * x10_2)) (wrap64 (2 + t180))) x9_2 (wrap64 (x10_2 + 1)))))) = some r := H
                    have A13 := Aside0.mk A130
                    clear A130
                    by_cases c14 : t185 = 0
                    · rw [if_pos c14] at H
                      exact absurd H (by simp)
                    · rw [if_neg c14] at H
                      have c14b0 : (t185 == 0) = false := beq_eq_false_iff_ne.mpr c14
                      have c14b1 : (t185 != 0) = true := bne_iff_ne.mpr c14
                      by_cases c15 : (wrap64 (Int.tdiv (wrap64 (2 + t180)) t185)) = 0
                      · rw [if_pos c15] at H
                        exact absurd H (by simp)
                      · rw [if_neg c15] at H
                        have c15b0 : ((wrap64 (Int.tdiv (wrap64 (2 + t180)) t185)) == 0) = false := beq_eq_false_iff_ne.mpr c15
                        have c15b1 : ((wrap64 (Int.tdiv (wrap64 (2 + t180)) t185)) != 0) = true := bne_iff_ne.mpr c15
                        by_cases c16 : x7_2 > (wrap64 (Int.tdiv (1152921504606846976 : Int) (wrap64 (Int.tdiv (wrap64 (2 + t180)) t185))))
                        · rw [if_pos c16] at H
                          have c16b0 : decide ((wrap64 (Int.tdiv (1152921504606846976 : Int) (wrap64 (Int.tdiv (wrap64 (2 + t180)) t185)))) < x7_2) = true := decide_eq_true c16
                          clear c16
                          have H' := Aside0.mk H
                          clear H
                          go_wp2_with (first | ((with_reducible refine gate_callee (f := 18) rfl ?_); refine goesL_ (some 52) rfl rfl Try.func18 (by kernel_rfl) rfl #[.int .i64 (wrap64 (2 + t180)), .int .i64 (Int.tmod (wrap64 (x8_2 * x10_2)) (wrap64 (2 + t180)))] rfl (by (try simp only [List.map_toArray, List.map_cons, List.map_nil]); first | done | rfl | (simp only [List.length_drop, List.length_take]; rfl)) ?_; (with_reducible refine (galloonref06_Gcd.calls k2 (wrap64 (2 + t180)) (Int.tmod (wrap64 (x8_2 * x10_2)) (wrap64 (2 + t180))) t185 _ A13.out).mono ?_); rintro e w' ⟨rfl, ⟨nd, rfl⟩⟩; refine ⟨_, rfl, ?_⟩))
                          go_meet
                          case rel => exact ⟨_, (x7_2), (true), (by first | rfl | (simp; done) | (simp [*]; done)), (by first | rfl | (simp; done) | (simp [*]; done)), H', ⟨by have := HJ4.out; have := HK2.out; first | omega | exact Nat.le_refl _⟩, ⟨by repeat (first | (with_reducible first | exact HB.out | apply below_alloc | apply pw_below_drewN | apply below_drew1) | exact HB.out)⟩⟩
                        · rw [if_neg c16] at H
                          have c16b0 : decide ((wrap64 (Int.tdiv (1152921504606846976 : Int) (wrap64 (Int.tdiv (wrap64 (2 + t180)) t185)))) < x7_2) = false := decide_eq_false c16
                          clear c16
                          have H' := Aside0.mk H
                          clear H
                          go_wp2_with (first | ((with_reducible refine gate_callee (f := 18) rfl ?_); refine goesL_ (some 52) rfl rfl Try.func18 (by kernel_rfl) rfl #[.int .i64 (wrap64 (2 + t180)), .int .i64 (Int.tmod (wrap64 (x8_2 * x10_2)) (wrap64 (2 + t180)))] rfl (by (try simp only [List.map_toArray, List.map_cons, List.map_nil]); first | done | rfl | (simp only [List.length_drop, List.length_take]; rfl)) ?_; (with_reducible refine (galloonref06_Gcd.calls k2 (wrap64 (2 + t180)) (Int.tmod (wrap64 (x8_2 * x10_2)) (wrap64 (2 + t180))) t185 _ A13.out).mono ?_); rintro e w' ⟨rfl, ⟨nd, rfl⟩⟩; refine ⟨_, rfl, ?_⟩))
                          go_roundg k2
                          case measure => have := HJ4.out; have := HK2.out; omega
                          case rel => exact ⟨(wrap64 (x7_2 * (wrap64 (Int.tdiv (wrap64 (2 + t180)) t185)))), (Int.tmod (wrap64 (x8_2 * x10_2)) (wrap64 (2 + t180))), (x9_2), (wrap64 (x10_2 + 1)), (by first | rfl | (simp; done) | (simp [*]; done)), (by first | rfl | (simp; done) | (simp [*]; done)), (by first | rfl | (simp; done) | (simp [*]; done)), (by first | rfl | (simp; done) | (simp [*]; done)), H', ⟨by have := HJ4.out; have := HK2.out; omega⟩, ⟨by repeat (first | (with_reducible first | exact HB.out | apply below_alloc | apply pw_below_drewN | apply below_drew1) | exact HB.out)⟩⟩
                · rw [if_neg c11] at H
                  have c11b0 : decide (0 < x10_2) = false := decide_eq_false c11
                  clear c11
                  replace H := Option.bind_eq_some_iff.mp H
                  obtain ⟨t186, A170, H⟩ := H
                  replace H : (if t186 = 0 then (none) else (if (wrap64 (Int.tdiv (wrap64 (2 + t180)) t186)) = 0 then (none) else (if x7_2 > (wrap64 (Int.tdiv (1152921504606846976 : Int) (wrap64 (Int.tdiv (wrap64 (2 + t180)) t186)))) then (galloonlaw06_ShuffleCounts.j2 k2 (wrap64 (2 + t180)) t181 t182 t183 x7_2 true) else (galloonlaw06_ShuffleCounts.l0 k2 (wrap64 (2 + t180)) t181 t182 t183 (wrap64 (x7_2 * (wrap64 (Int.tdiv (wrap64 (2 + t180)) t186)))) x8_2 x9_2 (wrap64 (x10_2 + 1)))))) = some r := H
                  have A17 := Aside0.mk A170
                  clear A170
                  by_cases c18 : t186 = 0
                  · rw [if_pos c18] at H
                    exact absurd H (by simp)
                  · rw [if_neg c18] at H
                    have c18b0 : (t186 == 0) = false := beq_eq_false_iff_ne.mpr c18
                    have c18b1 : (t186 != 0) = true := bne_iff_ne.mpr c18
                    by_cases c19 : (wrap64 (Int.tdiv (wrap64 (2 + t180)) t186)) = 0
                    · rw [if_pos c19] at H
                      exact absurd H (by simp)
                    · rw [if_neg c19] at H
                      have c19b0 : ((wrap64 (Int.tdiv (wrap64 (2 + t180)) t186)) == 0) = false := beq_eq_false_iff_ne.mpr c19
                      have c19b1 : ((wrap64 (Int.tdiv (wrap64 (2 + t180)) t186)) != 0) = true := bne_iff_ne.mpr c19
                      by_cases c20 : x7_2 > (wrap64 (Int.tdiv (1152921504606846976 : Int) (wrap64 (Int.tdiv (wrap64 (2 + t180)) t186))))
                      · rw [if_pos c20] at H
                        have c20b0 : decide ((wrap64 (Int.tdiv (1152921504606846976 : Int) (wrap64 (Int.tdiv (wrap64 (2 + t180)) t186)))) < x7_2) = true := decide_eq_true c20
                        clear c20
                        have H' := Aside0.mk H
                        clear H
                        go_wp2_with (first | ((with_reducible refine gate_callee (f := 18) rfl ?_); refine goesL_ (some 52) rfl rfl Try.func18 (by kernel_rfl) rfl #[.int .i64 (wrap64 (2 + t180)), .int .i64 x8_2] rfl (by (try simp only [List.map_toArray, List.map_cons, List.map_nil]); first | done | rfl | (simp only [List.length_drop, List.length_take]; rfl)) ?_; (with_reducible refine (galloonref06_Gcd.calls k2 (wrap64 (2 + t180)) x8_2 t186 _ A17.out).mono ?_); rintro e w' ⟨rfl, ⟨nd, rfl⟩⟩; refine ⟨_, rfl, ?_⟩))
                        go_meet
                        case rel => exact ⟨_, (x7_2), (true), (by first | rfl | (simp; done) | (simp [*]; done)), (by first | rfl | (simp; done) | (simp [*]; done)), H', ⟨by have := HJ4.out; have := HK2.out; first | omega | exact Nat.le_refl _⟩, ⟨by repeat (first | (with_reducible first | exact HB.out | apply below_alloc | apply pw_below_drewN | apply below_drew1) | exact HB.out)⟩⟩
                      · rw [if_neg c20] at H
                        have c20b0 : decide ((wrap64 (Int.tdiv (1152921504606846976 : Int) (wrap64 (Int.tdiv (wrap64 (2 + t180)) t186)))) < x7_2) = false := decide_eq_false c20
                        clear c20
                        have H' := Aside0.mk H
                        clear H
                        go_wp2_with (first | ((with_reducible refine gate_callee (f := 18) rfl ?_); refine goesL_ (some 52) rfl rfl Try.func18 (by kernel_rfl) rfl #[.int .i64 (wrap64 (2 + t180)), .int .i64 x8_2] rfl (by (try simp only [List.map_toArray, List.map_cons, List.map_nil]); first | done | rfl | (simp only [List.length_drop, List.length_take]; rfl)) ?_; (with_reducible refine (galloonref06_Gcd.calls k2 (wrap64 (2 + t180)) x8_2 t186 _ A17.out).mono ?_); rintro e w' ⟨rfl, ⟨nd, rfl⟩⟩; refine ⟨_, rfl, ?_⟩))
                        go_roundg k2
                        case measure => have := HJ4.out; have := HK2.out; omega
                        case rel => exact ⟨(wrap64 (x7_2 * (wrap64 (Int.tdiv (wrap64 (2 + t180)) t186)))), (x8_2), (x9_2), (wrap64 (x10_2 + 1)), (by first | rfl | (simp; done) | (simp [*]; done)), (by first | rfl | (simp; done) | (simp [*]; done)), (by first | rfl | (simp; done) | (simp [*]; done)), (by first | rfl | (simp; done) | (simp [*]; done)), H', ⟨by have := HJ4.out; have := HK2.out; omega⟩, ⟨by repeat (first | (with_reducible first | exact HB.out | apply below_alloc | apply pw_below_drewN | apply below_drew1) | exact HB.out)⟩⟩
              · rw [if_neg c10] at H
                have c10b0 : decide (x10_2 < t183) = false := decide_eq_false c10
                clear c10
                (first | rw [c10b0] | (simp only [i64_w, i32_w]; rw [c10b0]) | skip)
                have H' := Aside0.mk H
                clear H
                go_wp2
                go_meet
                case rel => exact ⟨_, (x7_2), (x9_2), (by first | rfl | (simp; done) | (simp [*]; done)), (by first | rfl | (simp; done) | (simp [*]; done)), H', ⟨by have := HJ4.out; have := HK2.out; first | omega | exact Nat.le_refl _⟩, ⟨by repeat (first | (with_reducible first | exact HB.out | apply below_alloc | apply pw_below_drewN | apply below_drew1) | exact HB.out)⟩⟩
        case rest =>
          clear HC9
          try clear c1
          try clear c2
          try clear p2
          try clear c3
          try clear c6
          try clear c6b0
          try clear c6b1
          try clear p6
          try clear c7
          try clear c7b0
          try clear c8
          try clear c10
          try clear c10b0
          try clear c11
          try clear c11b0
          try clear c12
          try clear c12b0
          try clear c12b1
          try clear c14
          try clear c14b0
          try clear c14b1
          try clear c15
          try clear c15b0
          try clear c15b1
          try clear c16
          try clear c16b0
          try clear c17
          try clear c18
          try clear c18b0
          try clear c18b1
          try clear c19
          try clear c19b0
          try clear c19b1
          try clear c20
          try clear c20b0
          try clear p2
          try clear p6
          obtain ⟨kq, x7_8, x9_8, rfl, rfl, HA, HJ8, HB⟩ := hcut
          cases kq with
          | zero => exact absurd HA.out (by simp [galloonlaw06_ShuffleCounts.j2])
          | succ kj8 =>
            have H := HA.out
            clear HA
            simp only [galloonlaw06_ShuffleCounts.j2] at H
            have H' := Aside0.mk H
            clear H
            go_wp2
            go_loopg [8, 12] kj8 (fun kq v8 v12 w' => ∃ (x8_3 : Int) (x12_3 : Int), v8 = .int .i64 x8_3 ∧ v12 = .int .i64 x12_3 ∧ Aside0 (galloonlaw06_ShuffleCounts.l1 kq (wrap64 (2 + t180)) t181 t182 t183 x7_8 x8_3 x9_8 x12_3 = some r) ∧ Aside0 (kq ≤ kj8) ∧ Aside0 (Below w.heap.size w w'))
            case atStart => exact ⟨(1), (1), (by first | rfl | (simp; done) | (simp [*]; done)), (by first | rfl | (simp; done) | (simp [*]; done)), H', ⟨Nat.le_refl _⟩, ⟨by repeat (first | (with_reducible first | exact HB.out | apply below_alloc | apply pw_below_drewN | apply below_drew1) | exact HB.out)⟩⟩
            case round =>
              clear H'
              try clear c1
              try clear c2
              try clear p2
              try clear c3
              try clear c6
              try clear c6b0
              try clear c6b1
              try clear p6
              try clear c7
              try clear c7b0
              try clear c8
              try clear c10
              try clear c10b0
              try clear c11
              try clear c11b0
              try clear c12
              try clear c12b0
              try clear c12b1
              try clear c14
              try clear c14b0
              try clear c14b1
              try clear c15
              try clear c15b0
              try clear c15b1
              try clear c16
              try clear c16b0
              try clear c17
              try clear c18
              try clear c18b0
              try clear c18b1
              try clear c19
              try clear c19b0
              try clear c19b1
              try clear c20
              try clear c20b0
              try clear p2
              try clear p6
              obtain ⟨x8_3, x12_3, rfl, rfl, HA, HK3, HB⟩ := hrel
              cases gk with
              | zero => exact absurd HA.out (by simp [galloonlaw06_ShuffleCounts.l1])
              | succ k3 =>
                have H := HA.out
                clear HA
                simp only [galloonlaw06_ShuffleCounts.l1] at H
                by_cases c21 : x12_3 ≤ t183
                · rw [if_pos c21] at H
                  have c21b0 : decide (x12_3 ≤ t183) = true := decide_eq_true c21
                  clear c21
                  by_cases c22 : (wrap64 (2 + t180)) = 0
                  · rw [if_pos c22] at H
                    exact absurd H (by simp)
                  · rw [if_neg c22] at H
                    have c22b0 : ((wrap64 (2 + t180)) == 0) = false := beq_eq_false_iff_ne.mpr c22
                    have c22b1 : ((wrap64 (2 + t180)) != 0) = true := bne_iff_ne.mpr c22
                    by_cases c23 : (((Int.tmod (wrap64 (x8_3 * x12_3)) (wrap64 (2 + t180))) == 0) != (x12_3 == t183)) = true
                    · rw [if_pos c23] at H
                      have c23b0 : (((Int.tmod (wrap64 (x8_3 * x12_3)) (wrap64 (2 + t180))) == 0) != (x12_3 == t183)) = true := c23
                      (try (have c23b1 : decide (((Int.tmod (wrap64 (x8_3 * x12_3)) (wrap64 (2 + t180))) == 0) = (x12_3 == t183)) = false := by simpa using c23))
                      (try (have c23b2 : (((Int.tmod (wrap64 (x8_3 * x12_3)) (wrap64 (2 + t180))) == 0) == (x12_3 == t183)) = false := by simpa using c23))
                      (try (have c23b3 : ¬ (((Int.tmod (wrap64 (x8_3 * x12_3)) (wrap64 (2 + t180))) == 0) = (x12_3 == t183)) := by simpa using c23))
                      clear c23
                      obtain rfl := Option.some.inj H
                      go_wp2
                      go_ret
                      exact ⟨by first | rfl | (simp [errW_none, errW_some] <;> rfl) | (simp [*, errW_none, errW_some] <;> rfl), by repeat (first | (with_reducible first | exact HB.out | apply below_alloc | apply pw_below_drewN | apply below_drew1) | exact HB.out)⟩
                    · rw [if_neg c23] at H
                      have c23b0 : (((Int.tmod (wrap64 (x8_3 * x12_3)) (wrap64 (2 + t180))) == 0) != (x12_3 == t183)) = false := by simpa using c23
                      (try (have c23b1 : decide (((Int.tmod (wrap64 (x8_3 * x12_3)) (wrap64 (2 + t180))) == 0) = (x12_3 == t183)) = true := by simpa using c23))
                      (try (have c23b2 : (((Int.tmod (wrap64 (x8_3 * x12_3)) (wrap64 (2 + t180))) == 0) == (x12_3 == t183)) = true := by simpa using c23))
                      clear c23
                      have H' := Aside0.mk H
                      clear H
                      go_wp2
                      go_roundg k3
                      case measure => have := HJ4.out; have := HJ8.out; have := HK3.out; omega
                      case rel => exact ⟨(Int.tmod (wrap64 (x8_3 * x12_3)) (wrap64 (2 + t180))), (wrap64 (x12_3 + 1)), (by first | rfl | (simp; done) | (simp [*]; done)), (by first | rfl | (simp; done) | (simp [*]; done)), H', ⟨by have := HJ4.out; have := HJ8.out; have := HK3.out; omega⟩, ⟨by repeat (first | (with_reducible first | exact HB.out | apply below_alloc | apply pw_below_drewN | apply below_drew1) | exact HB.out)⟩⟩
                · rw [if_neg c21] at H
                  have c21b0 : decide (x12_3 ≤ t183) = false := decide_eq_false c21
                  clear c21
                  by_cases c24 : x9_8 = true
                  · subst c24
                    have H1 : (if t182 = 5 then (if t181 = 0 then ((galloonlaw06_awake.f k3).bind fun t187 => (some t187)) else (some false)) else (some false)) = some r := by rw [if_pos rfl] at H; exact H
                    clear H
                    have H := H1
                    clear H1
                    by_cases c25 : t182 = 5
                    · rw [if_pos c25] at H
                      have c25b0 : (t182 == 5) = true := beq_iff_eq.mpr c25
                      have c25b1 : (t182 != 5) = false := bne_eq_false_iff_eq.mpr c25
                      clear c25
                      by_cases c26 : t181 = 0
                      · rw [if_pos c26] at H
                        have c26b0 : (t181 == 0) = true := beq_iff_eq.mpr c26
                        have c26b1 : (t181 != 0) = false := bne_eq_false_iff_eq.mpr c26
                        clear c26
                        replace H := Option.bind_eq_some_iff.mp H
                        obtain ⟨t187, A270, H⟩ := H
                        replace H : (some t187) = some r := H
                        have A27 := Aside0.mk A270
                        clear A270
                        obtain rfl := Option.some.inj H
                        go_wp2_with (first | (go_at_call 19; (with_reducible refine (galloonlaw06_awake.calls k3  t187 _ A27.out).mono ?_); rintro e w28 ⟨rfl, hb⟩; have n0_ := Aside0.mk (below_step (by repeat (first | (with_reducible first | exact HB.out | apply below_alloc | apply pw_below_drewN | apply below_drew1) | exact HB.out)) hb); clear HB; have HB := n0_; clear n0_; (try clear hb); (try clear hb2); (try clear hk); (try clear hi)))
                        go_ret
                        exact ⟨by first | rfl | (simp [errW_none, errW_some] <;> rfl) | (simp [*, errW_none, errW_some] <;> rfl), by repeat (first | (with_reducible first | exact HB.out | apply below_alloc | apply pw_below_drewN | apply below_drew1) | exact HB.out)⟩
                      · rw [if_neg c26] at H
                        have c26b0 : (t181 == 0) = false := beq_eq_false_iff_ne.mpr c26
                        have c26b1 : (t181 != 0) = true := bne_iff_ne.mpr c26
                        obtain rfl := Option.some.inj H
                        go_wp2
                        go_ret
                        exact ⟨by first | rfl | (simp [errW_none, errW_some] <;> rfl) | (simp [*, errW_none, errW_some] <;> rfl), by repeat (first | (with_reducible first | exact HB.out | apply below_alloc | apply pw_below_drewN | apply below_drew1) | exact HB.out)⟩
                    · rw [if_neg c25] at H
                      have c25b0 : (t182 == 5) = false := beq_eq_false_iff_ne.mpr c25
                      have c25b1 : (t182 != 5) = true := bne_iff_ne.mpr c25
                      obtain rfl := Option.some.inj H
                      go_wp2
                      go_ret
                      exact ⟨by first | rfl | (simp [errW_none, errW_some] <;> rfl) | (simp [*, errW_none, errW_some] <;> rfl), by repeat (first | (with_reducible first | exact HB.out | apply below_alloc | apply pw_below_drewN | apply below_drew1) | exact HB.out)⟩
                  · replace c24 := Bool.eq_false_iff.mpr c24
                    subst c24
                    have H1 : (if t182 = 0 then (if t181 = x7_8 then ((galloonlaw06_awake.f k3).bind fun t188 => (some t188)) else (some false)) else (some false)) = some r := by rw [if_neg (show ¬ (false = true) by decide)] at H; exact H
                    clear H
                    have H := H1
                    clear H1
                    by_cases c29 : t182 = 0
                    · rw [if_pos c29] at H
                      have c29b0 : (t182 == 0) = true := beq_iff_eq.mpr c29
                      have c29b1 : (t182 != 0) = false := bne_eq_false_iff_eq.mpr c29
                      clear c29
                      by_cases c30 : t181 = x7_8
                      · rw [if_pos c30] at H
                        have c30b0 : (t181 == x7_8) = true := beq_iff_eq.mpr c30
                        have c30b1 : (t181 != x7_8) = false := bne_eq_false_iff_eq.mpr c30
                        clear c30
                        replace H := Option.bind_eq_some_iff.mp H
                        obtain ⟨t188, A310, H⟩ := H
                        replace H : (some t188) = some r := H
                        have A31 := Aside0.mk A310
                        clear A310
                        obtain rfl := Option.some.inj H
                        go_wp2_with (first | (go_at_call 19; (with_reducible refine (galloonlaw06_awake.calls k3  t188 _ A31.out).mono ?_); rintro e w32 ⟨rfl, hb⟩; have n0_ := Aside0.mk (below_step (by repeat (first | (with_reducible first | exact HB.out | apply below_alloc | apply pw_below_drewN | apply below_drew1) | exact HB.out)) hb); clear HB; have HB := n0_; clear n0_; (try clear hb); (try clear hb2); (try clear hk); (try clear hi)))
                        go_ret
                        exact ⟨by first | rfl | (simp [errW_none, errW_some] <;> rfl) | (simp [*, errW_none, errW_some] <;> rfl), by repeat (first | (with_reducible first | exact HB.out | apply below_alloc | apply pw_below_drewN | apply below_drew1) | exact HB.out)⟩
                      · rw [if_neg c30] at H
                        have c30b0 : (t181 == x7_8) = false := beq_eq_false_iff_ne.mpr c30
                        have c30b1 : (t181 != x7_8) = true := bne_iff_ne.mpr c30
                        obtain rfl := Option.some.inj H
                        go_wp2
                        go_ret
                        exact ⟨by first | rfl | (simp [errW_none, errW_some] <;> rfl) | (simp [*, errW_none, errW_some] <;> rfl), by repeat (first | (with_reducible first | exact HB.out | apply below_alloc | apply pw_below_drewN | apply below_drew1) | exact HB.out)⟩
                    · rw [if_neg c29] at H
                      have c29b0 : (t182 == 0) = false := beq_eq_false_iff_ne.mpr c29
                      have c29b1 : (t182 != 0) = true := bne_iff_ne.mpr c29
                      obtain rfl := Option.some.inj H
                      go_wp2
                      go_ret
                      exact ⟨by first | rfl | (simp [errW_none, errW_some] <;> rfl) | (simp [*, errW_none, errW_some] <;> rfl), by repeat (first | (with_reducible first | exact HB.out | apply below_alloc | apply pw_below_drewN | apply below_drew1) | exact HB.out)⟩

/-- THE ONE PURE STATEMENT of galloonlaw06_ShuffleCounts: yours. -/
def galloonlaw06_ShuffleCounts.Pure : Prop := ∀ (a0 : Int), (Lit.int .i64 a0).wf = true → ∃ k, galloonlaw06_ShuffleCounts.f k a0 = some true
theorem galloonlaw06_ShuffleCounts.walk (P : galloonlaw06_ShuffleCounts.Pure) (a0 : Int) (w : World) (w0 : (Lit.int .i64 a0).wf = true) :
    Calls Try.prog 3 #[.int .i64 a0] w fun e w' => e = .returned (.bool true) ∧ Below w.heap.size w w' := by
  obtain ⟨k, h⟩ := P a0 w0
  refine (galloonlaw06_ShuffleCounts.calls k a0 true w h).mono ?_
  rintro e w' ⟨rfl, hd⟩
  exact ⟨rfl, hd⟩

end Go.Proofs.Ytkjjnfbgcdanmaa.P
