-- Written by a program of this session (wip/xprint.py), over the kit's print; some sections by hand.
import Derived.Test.YtkjjnfbgcdanmaaPx0
import Derived.Test.YtkjjnfbgcdanmaaPx2
import Derived.Test.YtkjjnfbgcdanmaaPx5
import Derived.Test.YtkjjnfbgcdanmaaPx7
import Derived.Test.YtkjjnfbgcdanmaaPx20
namespace Go.Proofs.Ytkjjnfbgcdanmaa.P
open Go.RowKit Go.Proofs.YtkjjnfbgcdanmaaW.PrintWords Go.Proofs.YtkjjnfbgcdanmaaW.PrintLast Go.Proofs.YtkjjnfbgcdanmaaW.PrintMore
attribute [local go_sem] max2_int min2_int max_two min_two max_three min_three max_four min_four   -- for this text's walks alone
set_option linter.unusedVariables false
set_option linter.unusedSimpArgs false

/-! ### galloonlaw06_ShuffleShifted: function 8 -/
mutual
def galloonlaw06_ShuffleShifted.j0 : Nat → Int → List Int → Bool → Int → Int → Option (Bool)
  | 0, _, _, _, _, _ => none
  | k + 1, x0, x8, x46, x622000, x622001 => if x46 = true then (none) else ((galloonlaw06_mod.f x622000 (x8.length : Int)).bind fun t631 => (if 0 ≤ t631 then (if t631 < (x8.length : Int) then ((galloonlaw06_mod.f x622001 (x8.length : Int)).bind fun t633 => (if 0 ≤ t633 then (if t633 < (x8.length : Int) then (galloonlaw06_ShuffleShifted.l0 k x0 x8 (wrap64 ((rd x8 t631) + (rd x8 t633))) false 0 x622000 x622001) else (none)) else (none))) else (none)) else (none)))
def galloonlaw06_ShuffleShifted.l0 : Nat → Int → List Int → Int → Bool → Int → Int → Int → Option (Bool)
  | 0, _, _, _, _, _, _, _ => none
  | k + 1, x0, x8, x10, x11, x12, x622000, x622001 => if x12 < (x8.length : Int) then (if x12 > 0 then (if 0 ≤ (wrap64 (x12 - 1)) then (if (wrap64 (x12 - 1)) < (x8.length : Int) then (if 0 ≤ x12 then (if (rd x8 (wrap64 (x12 - 1))) ≥ (rd x8 x12) then (none) else (if x11 = true then (galloonlaw06_ShuffleShifted.l0 k x0 x8 x10 true (wrap64 (x12 + 1)) x622000 x622001) else ((galloonlaw06_mod.f x10 x0).bind fun t638 => (galloonlaw06_ShuffleShifted.l0 k x0 x8 x10 ((rd x8 x12) == t638) (wrap64 (x12 + 1)) x622000 x622001)))) else (none)) else (none)) else (none)) else (if x11 = true then (galloonlaw06_ShuffleShifted.l0 k x0 x8 x10 true (wrap64 (x12 + 1)) x622000 x622001) else (if 0 ≤ x12 then ((galloonlaw06_mod.f x10 x0).bind fun t640 => (galloonlaw06_ShuffleShifted.l0 k x0 x8 x10 ((rd x8 x12) == t640) (wrap64 (x12 + 1)) x622000 x622001)) else (none)))) else ((galloonlaw06_mod.f x622000 x0).bind fun t641 => ((shuffle_Shifts.f k x0 (([t641, 1] : List Int))).bind fun bt645 => (if x11 = true then (if bt645.2 = 0 then (if (bt645.1.length : Int) = x0 then ((galloonlaw06_awake.f k).bind fun t649 => (some t649)) else (none)) else (none)) else (none))))
end
def galloonlaw06_ShuffleShifted.f (k : Nat) (a0 : Int) (l1 : List Int) (a2_0 : Int) (a2_1 : Int) : Option (Bool) := (galloonlaw06_mod.f a0 63).bind fun t622 => ((galloonlaw06_tame.f k (wrap64 (2 + t622)) l1).bind fun t623 => ((shuffle_Shifts.f k (wrap64 (2 + t622)) t623).bind fun bt626 => (if bt626.2 = 0 then (if (bt626.1.length : Int) < 1 then (none) else (if 0 < (bt626.1.length : Int) then (if (rd bt626.1 0) = 0 then (if (bt626.1.length : Int) = 0 then (none) else (galloonlaw06_ShuffleShifted.j0 k (wrap64 (2 + t622)) bt626.1 ((Int.tmod (wrap64 (2 + t622)) (bt626.1.length : Int)) != 0) a2_0 a2_1)) else (none)) else (none))) else (none))))
theorem galloonlaw06_ShuffleShifted.mono_l : ∀ k, (∀ y0 y1 y2 y3 y4, LeO (galloonlaw06_ShuffleShifted.j0 k y0 y1 y2 y3 y4) (galloonlaw06_ShuffleShifted.j0 (k + 1) y0 y1 y2 y3 y4)) ∧ (∀ y0 y1 y2 y3 y4 y5 y6, LeO (galloonlaw06_ShuffleShifted.l0 k y0 y1 y2 y3 y4 y5 y6) (galloonlaw06_ShuffleShifted.l0 (k + 1) y0 y1 y2 y3 y4 y5 y6))
  | 0 => ⟨fun _ _ _ _ _ r h => by simp [galloonlaw06_ShuffleShifted.j0] at h, fun _ _ _ _ _ _ _ r h => by simp [galloonlaw06_ShuffleShifted.l0] at h⟩
  | k + 1 => by
    obtain ⟨ih0, ih1⟩ := galloonlaw06_ShuffleShifted.mono_l k
    refine ⟨?_, ?_⟩
    · intro y0 y1 y2 y3 y4
      unfold galloonlaw06_ShuffleShifted.j0
      repeat' first
      | (with_reducible exact ih0 _ _ _ _ _)
      | (with_reducible exact ih1 _ _ _ _ _ _ _)
      | (with_reducible exact galloonlaw06_awake.mono _)
      | (with_reducible exact galloonlaw06_tame.mono _ _ _)
      | (with_reducible exact shuffle_Shifts.mono _ _ _)
      | (with_reducible exact LeO.refl _)
      | (with_reducible exact LeO.none _)
      | (with_reducible refine LeO.ite ?_ ?_)
      | (with_reducible refine LeO.bind ?_ (fun _ => ?_))
      | exact ih0 _ _ _ _ _
      | exact ih1 _ _ _ _ _ _ _
      | exact galloonlaw06_awake.mono _
      | exact galloonlaw06_tame.mono _ _ _
      | exact shuffle_Shifts.mono _ _ _
      | exact LeO.none _
      | refine LeO.ite ?_ ?_
      | refine LeO.bind ?_ (fun _ => ?_)
    · intro y0 y1 y2 y3 y4 y5 y6
      unfold galloonlaw06_ShuffleShifted.l0
      repeat' first
      | (with_reducible exact ih0 _ _ _ _ _)
      | (with_reducible exact ih1 _ _ _ _ _ _ _)
      | (with_reducible exact galloonlaw06_awake.mono _)
      | (with_reducible exact galloonlaw06_tame.mono _ _ _)
      | (with_reducible exact shuffle_Shifts.mono _ _ _)
      | (with_reducible exact LeO.refl _)
      | (with_reducible exact LeO.none _)
      | (with_reducible refine LeO.ite ?_ ?_)
      | (with_reducible refine LeO.bind ?_ (fun _ => ?_))
      | exact ih0 _ _ _ _ _
      | exact ih1 _ _ _ _ _ _ _
      | exact galloonlaw06_awake.mono _
      | exact galloonlaw06_tame.mono _ _ _
      | exact shuffle_Shifts.mono _ _ _
      | exact LeO.none _
      | refine LeO.ite ?_ ?_
      | refine LeO.bind ?_ (fun _ => ?_)
theorem galloonlaw06_ShuffleShifted.mono : ∀ a0 a1 a2 a3 k, LeO (galloonlaw06_ShuffleShifted.f k a0 a1 a2 a3) (galloonlaw06_ShuffleShifted.f (k + 1) a0 a1 a2 a3) := by
  intro a0 a1 a2 a3 k
  obtain ⟨ih0, ih1⟩ := galloonlaw06_ShuffleShifted.mono_l k
  unfold galloonlaw06_ShuffleShifted.f
  repeat' first
      | (with_reducible exact ih0 _ _ _ _ _)
      | (with_reducible exact ih1 _ _ _ _ _ _ _)
      | (with_reducible exact galloonlaw06_awake.mono _)
      | (with_reducible exact galloonlaw06_tame.mono _ _ _)
      | (with_reducible exact shuffle_Shifts.mono _ _ _)
      | (with_reducible exact LeO.refl _)
      | (with_reducible exact LeO.none _)
      | (with_reducible refine LeO.ite ?_ ?_)
      | (with_reducible refine LeO.bind ?_ (fun _ => ?_))
      | exact ih0 _ _ _ _ _
      | exact ih1 _ _ _ _ _ _ _
      | exact galloonlaw06_awake.mono _
      | exact galloonlaw06_tame.mono _ _ _
      | exact shuffle_Shifts.mono _ _ _
      | exact LeO.none _
      | refine LeO.ite ?_ ?_
      | refine LeO.bind ?_ (fun _ => ?_)
set_option maxHeartbeats 8000000 in
set_option maxRecDepth 100000 in
theorem galloonlaw06_ShuffleShifted.calls (k : Nat) (a0 : Int) (A1 : Option Addr) (c1 : Nat) (l1 : List Int) (a2_0 : Int) (a2_1 : Int) (r : Bool) (w : World) (hr1 : Kd.C (Kd.int .i64) w A1 l1.length l1) (hc1 : l1.length ≤ c1) (h : galloonlaw06_ShuffleShifted.f k a0 l1 a2_0 a2_1 = some r) :
    Calls Try.prog 8 #[.int .i64 a0, .slice A1 l1.length c1, .agg #[.int .i64 a2_0, .int .i64 a2_1]] w fun e w' => e = .returned (.bool r) ∧ Below w.heap.size w w' := by
  have hu44 := Try.underlying44
  have HR1 := Aside0.mk hr1
  have HC1 := Aside0.mk hc1
  clear hr1 hc1
  have HB := Aside0.mk (Below.refl w.heap.size w)
  have H : ((galloonlaw06_mod.f a0 63).bind fun t622 => ((galloonlaw06_tame.f k (wrap64 (2 + t622)) l1).bind fun t623 => ((shuffle_Shifts.f k (wrap64 (2 + t622)) t623).bind fun bt626 => (if bt626.2 = 0 then (if (bt626.1.length : Int) < 1 then (none) else (if 0 < (bt626.1.length : Int) then (if (rd bt626.1 0) = 0 then (if (bt626.1.length : Int) = 0 then (none) else (galloonlaw06_ShuffleShifted.j0 k (wrap64 (2 + t622)) bt626.1 ((Int.tmod (wrap64 (2 + t622)) (bt626.1.length : Int)) != 0) a2_0 a2_1)) else (none)) else (none))) else (none))))) = some r := h
  clear h
  replace H := Option.bind_eq_some_iff.mp H
  obtain ⟨t622, A40, H⟩ := H
  replace H : ((galloonlaw06_tame.f k (wrap64 (2 + t622)) l1).bind fun t623 => ((shuffle_Shifts.f k (wrap64 (2 + t622)) t623).bind fun bt626 => (if bt626.2 = 0 then (if (bt626.1.length : Int) < 1 then (none) else (if 0 < (bt626.1.length : Int) then (if (rd bt626.1 0) = 0 then (if (bt626.1.length : Int) = 0 then (none) else (galloonlaw06_ShuffleShifted.j0 k (wrap64 (2 + t622)) bt626.1 ((Int.tmod (wrap64 (2 + t622)) (bt626.1.length : Int)) != 0) a2_0 a2_1)) else (none)) else (none))) else (none)))) = some r := H
  have A4 := Aside0.mk A40
  clear A40
  replace H := Option.bind_eq_some_iff.mp H
  obtain ⟨t623, A50, H⟩ := H
  replace H : ((shuffle_Shifts.f k (wrap64 (2 + t622)) t623).bind fun bt626 => (if bt626.2 = 0 then (if (bt626.1.length : Int) < 1 then (none) else (if 0 < (bt626.1.length : Int) then (if (rd bt626.1 0) = 0 then (if (bt626.1.length : Int) = 0 then (none) else (galloonlaw06_ShuffleShifted.j0 k (wrap64 (2 + t622)) bt626.1 ((Int.tmod (wrap64 (2 + t622)) (bt626.1.length : Int)) != 0) a2_0 a2_1)) else (none)) else (none))) else (none))) = some r := H
  have A5 := Aside0.mk A50
  clear A50
  replace H := Option.bind_eq_some_iff.mp H
  obtain ⟨⟨t626, t627⟩, A60, H⟩ := H
  replace H : (if t627 = 0 then (if (t626.length : Int) < 1 then (none) else (if 0 < (t626.length : Int) then (if (rd t626 0) = 0 then (if (t626.length : Int) = 0 then (none) else (galloonlaw06_ShuffleShifted.j0 k (wrap64 (2 + t622)) t626 ((Int.tmod (wrap64 (2 + t622)) (t626.length : Int)) != 0) a2_0 a2_1)) else (none)) else (none))) else (none)) = some r := H
  have A6 := Aside0.mk A60
  clear A60
  have HC7 := Aside0.mk H
  clear H
  go_enter Try.func8, Try.ntmps8
  go_upto_region 4 with (first | ((with_reducible refine gate_dst (N := 5) rfl ?_); (try (refine gate_guard (by rfl) ?_; dsimp only)); refine box_event ?hg (N := 5) ?hd (cs := #[.int .i64 a2_0, .int .i64 a2_1]) (t := 44) ?hr ?_; (case hd => rfl); (case hg => rfl); (case hr => first | (go_simp; done) | (go_simp; rfl)); intro gb621 hg w8 hbox hb; have n0_ := Aside0.mk (below_step (by repeat (first | (with_reducible first | exact HB.out | apply below_alloc | apply pw_below_drewN | apply below_drew1) | exact HB.out)) hb); have n1_ := Aside0.mk (hbox); have n2_ := Aside0.mk ((by rw [hg]; exact (below_size (by repeat (first | (with_reducible first | exact HB.out | apply below_alloc | apply pw_below_drewN | apply below_drew1) | exact HB.out))) : w.heap.size ≤ gb621)); have n3_ := Aside0.mk ((by rw [hg]; exact (below_size (by repeat (first | (with_reducible first | exact HB.out | apply below_alloc | apply pw_below_drewN | apply below_drew1) | exact HB.out))) : w.heap.size ≤ gb621)); clear HB; have HB := n0_; have BK621 := n1_; have GW621 := n2_; have GE621 := n3_; clear n0_ n1_ n2_ n3_; clear hb hbox hg) | (go_at_call 15; (with_reducible refine (galloonlaw06_mod.calls a0 63 t622 _ A4.out).mono ?_); rintro e w' ⟨rfl, ⟨nd, rfl⟩⟩; (try first | exact ⟨rfl, _, World.drewN_drewN _ _ _⟩ | exact ⟨rfl, _, Eq.trans (World.drewN_drewN _ _ _) (congrArg (World.drewN _) (Nat.add_assoc _ _ _))⟩)) | (go_at_call 21; (with_reducible refine (galloonlaw06_tame.calls k (wrap64 (2 + t622)) _ _ l1 t623 _ ?side1 ?side2 A5.out).mono ?_); (case side1 => repeat (first | exact (Kd.C_below HR1.out (by repeat (first | (with_reducible first | exact HB.out | apply below_alloc | apply pw_below_drewN | apply below_drew1 | refine below_set ?_ GE621.out) | exact HB.out))) | (with_reducible refine Kd.C_alloc ?_ _) | (with_reducible refine Kd.C_drewN ?_ _) | (with_reducible refine Kd.C_drew ?_))); (case side2 => exact HC1.out); rintro e w9 ⟨v624, rfl, ho0, hb⟩; have n0_ := Aside0.mk (Kd.R_lower ho0 (below_size (by repeat (first | (with_reducible first | exact HB.out | apply below_alloc | apply pw_below_drewN | apply below_drew1 | refine below_set ?_ GE621.out) | exact HB.out)))); have n1_ := Aside0.mk (blk_below (g := gb621) (o := .cells #[.int .i64 a2_0, .int .i64 a2_1] 44 (0, 0)) (by (with_reducible repeat (first | refine blk_drewN ?_ _ | refine blk_drew ?_ | refine blk_alloc ?_ _)); exact BK621.out) hb); have n2_ := Aside0.mk (below_step (by repeat (first | (with_reducible first | exact HB.out | apply below_alloc | apply pw_below_drewN | apply below_drew1 | refine below_set ?_ GE621.out) | exact HB.out)) hb); clear BK621; clear HB; have HO625 := n0_; have BK621 := n1_; have HB := n2_; clear n0_ n1_ n2_; (try clear hb); (try clear hb2); (try clear hk); (try clear hi); (try clear ho0); obtain ⟨Ao10, co10, eo10⟩ := Kd.R_slice HO625.out; subst eo10) | (go_at_call 35; (with_reducible refine (shuffle_Shifts.calls k (wrap64 (2 + t622)) _ _ t623 t626 t627 _ ?side1 ?side2 A6.out).mono ?_); (case side1 => repeat (first | exact (Kd.R_reads' HO625.out).2.2 | (with_reducible refine Kd.C_alloc ?_ _) | (with_reducible refine Kd.C_drewN ?_ _) | (with_reducible refine Kd.C_drew ?_))); (case side2 => exact (Kd.R_reads' HO625.out).2.1); rintro e w11 ⟨v628, rfl, ho0, hb⟩; have n0_ := Aside0.mk (Kd.R_elder' (by (with_reducible repeat (first | apply Kd.R_alloc | apply Kd.R_drewN | apply Kd.R_drew)); exact HO625.out) (Kd.R_base ho0) hb); have n1_ := Aside0.mk (Kd.R_lower (Kd.R_new' ho0 (Kd.R_lt (by (with_reducible repeat (first | apply Kd.R_alloc | apply Kd.R_drewN | apply Kd.R_drew)); exact HO625.out))) (below_size (by repeat (first | (with_reducible first | exact HB.out | apply below_alloc | apply pw_below_drewN | apply below_drew1 | refine below_set ?_ GE621.out) | exact HB.out)))); have n2_ := Aside0.mk (blk_below (g := gb621) (o := .cells #[.int .i64 a2_0, .int .i64 a2_1] 44 (0, 0)) (by (with_reducible repeat (first | refine blk_drewN ?_ _ | refine blk_drew ?_ | refine blk_alloc ?_ _)); exact BK621.out) hb); have n3_ := Aside0.mk (below_step (by repeat (first | (with_reducible first | exact HB.out | apply below_alloc | apply pw_below_drewN | apply below_drew1 | refine below_set ?_ GE621.out) | exact HB.out)) hb); clear HO625; clear BK621; clear HB; have HO625 := n0_; have HO629 := n1_; have BK621 := n2_; have HB := n3_; clear n0_ n1_ n2_ n3_; (try clear hb); (try clear hb2); (try clear hk); (try clear hi); (try clear ho0)))
  repeat (go_quiet (first | ((with_reducible refine gate_dst (N := 5) rfl ?_); (try (refine gate_guard (by rfl) ?_; dsimp only)); refine box_event ?hg (N := 5) ?hd (cs := #[.int .i64 a2_0, .int .i64 a2_1]) (t := 44) ?hr ?_; (case hd => rfl); (case hg => rfl); (case hr => first | (go_simp; done) | (go_simp; rfl)); intro gb621 hg w8 hbox hb; have n0_ := Aside0.mk (below_step (by repeat (first | (with_reducible first | exact HB.out | apply below_alloc | apply pw_below_drewN | apply below_drew1) | exact HB.out)) hb); have n1_ := Aside0.mk (hbox); have n2_ := Aside0.mk ((by rw [hg]; exact (below_size (by repeat (first | (with_reducible first | exact HB.out | apply below_alloc | apply pw_below_drewN | apply below_drew1) | exact HB.out))) : w.heap.size ≤ gb621)); have n3_ := Aside0.mk ((by rw [hg]; exact (below_size (by repeat (first | (with_reducible first | exact HB.out | apply below_alloc | apply pw_below_drewN | apply below_drew1) | exact HB.out))) : w.heap.size ≤ gb621)); clear HB; have HB := n0_; have BK621 := n1_; have GW621 := n2_; have GE621 := n3_; clear n0_ n1_ n2_ n3_; clear hb hbox hg) | (go_at_call 15; (with_reducible refine (galloonlaw06_mod.calls a0 63 t622 _ A4.out).mono ?_); rintro e w' ⟨rfl, ⟨nd, rfl⟩⟩; (try first | exact ⟨rfl, _, World.drewN_drewN _ _ _⟩ | exact ⟨rfl, _, Eq.trans (World.drewN_drewN _ _ _) (congrArg (World.drewN _) (Nat.add_assoc _ _ _))⟩)) | (go_at_call 21; (with_reducible refine (galloonlaw06_tame.calls k (wrap64 (2 + t622)) _ _ l1 t623 _ ?side1 ?side2 A5.out).mono ?_); (case side1 => repeat (first | exact (Kd.C_below HR1.out (by repeat (first | (with_reducible first | exact HB.out | apply below_alloc | apply pw_below_drewN | apply below_drew1 | refine below_set ?_ GE621.out) | exact HB.out))) | (with_reducible refine Kd.C_alloc ?_ _) | (with_reducible refine Kd.C_drewN ?_ _) | (with_reducible refine Kd.C_drew ?_))); (case side2 => exact HC1.out); rintro e w9 ⟨v624, rfl, ho0, hb⟩; have n0_ := Aside0.mk (Kd.R_lower ho0 (below_size (by repeat (first | (with_reducible first | exact HB.out | apply below_alloc | apply pw_below_drewN | apply below_drew1 | refine below_set ?_ GE621.out) | exact HB.out)))); have n1_ := Aside0.mk (blk_below (g := gb621) (o := .cells #[.int .i64 a2_0, .int .i64 a2_1] 44 (0, 0)) (by (with_reducible repeat (first | refine blk_drewN ?_ _ | refine blk_drew ?_ | refine blk_alloc ?_ _)); exact BK621.out) hb); have n2_ := Aside0.mk (below_step (by repeat (first | (with_reducible first | exact HB.out | apply below_alloc | apply pw_below_drewN | apply below_drew1 | refine below_set ?_ GE621.out) | exact HB.out)) hb); clear BK621; clear HB; have HO625 := n0_; have BK621 := n1_; have HB := n2_; clear n0_ n1_ n2_; (try clear hb); (try clear hb2); (try clear hk); (try clear hi); (try clear ho0); obtain ⟨Ao10, co10, eo10⟩ := Kd.R_slice HO625.out; subst eo10) | (go_at_call 35; (with_reducible refine (shuffle_Shifts.calls k (wrap64 (2 + t622)) _ _ t623 t626 t627 _ ?side1 ?side2 A6.out).mono ?_); (case side1 => repeat (first | exact (Kd.R_reads' HO625.out).2.2 | (with_reducible refine Kd.C_alloc ?_ _) | (with_reducible refine Kd.C_drewN ?_ _) | (with_reducible refine Kd.C_drew ?_))); (case side2 => exact (Kd.R_reads' HO625.out).2.1); rintro e w11 ⟨v628, rfl, ho0, hb⟩; have n0_ := Aside0.mk (Kd.R_elder' (by (with_reducible repeat (first | apply Kd.R_alloc | apply Kd.R_drewN | apply Kd.R_drew)); exact HO625.out) (Kd.R_base ho0) hb); have n1_ := Aside0.mk (Kd.R_lower (Kd.R_new' ho0 (Kd.R_lt (by (with_reducible repeat (first | apply Kd.R_alloc | apply Kd.R_drewN | apply Kd.R_drew)); exact HO625.out))) (below_size (by repeat (first | (with_reducible first | exact HB.out | apply below_alloc | apply pw_below_drewN | apply below_drew1 | refine below_set ?_ GE621.out) | exact HB.out)))); have n2_ := Aside0.mk (blk_below (g := gb621) (o := .cells #[.int .i64 a2_0, .int .i64 a2_1] 44 (0, 0)) (by (with_reducible repeat (first | refine blk_drewN ?_ _ | refine blk_drew ?_ | refine blk_alloc ?_ _)); exact BK621.out) hb); have n3_ := Aside0.mk (below_step (by repeat (first | (with_reducible first | exact HB.out | apply below_alloc | apply pw_below_drewN | apply below_drew1 | refine below_set ?_ GE621.out) | exact HB.out)) hb); clear HO625; clear BK621; clear HB; have HO625 := n0_; have HO629 := n1_; have BK621 := n2_; have HB := n3_; clear n0_ n1_ n2_ n3_; (try clear hb); (try clear hb2); (try clear hk); (try clear hi); (try clear ho0))); go_upto_region 4 with (first | ((with_reducible refine gate_dst (N := 5) rfl ?_); (try (refine gate_guard (by rfl) ?_; dsimp only)); refine box_event ?hg (N := 5) ?hd (cs := #[.int .i64 a2_0, .int .i64 a2_1]) (t := 44) ?hr ?_; (case hd => rfl); (case hg => rfl); (case hr => first | (go_simp; done) | (go_simp; rfl)); intro gb621 hg w8 hbox hb; have n0_ := Aside0.mk (below_step (by repeat (first | (with_reducible first | exact HB.out | apply below_alloc | apply pw_below_drewN | apply below_drew1) | exact HB.out)) hb); have n1_ := Aside0.mk (hbox); have n2_ := Aside0.mk ((by rw [hg]; exact (below_size (by repeat (first | (with_reducible first | exact HB.out | apply below_alloc | apply pw_below_drewN | apply below_drew1) | exact HB.out))) : w.heap.size ≤ gb621)); have n3_ := Aside0.mk ((by rw [hg]; exact (below_size (by repeat (first | (with_reducible first | exact HB.out | apply below_alloc | apply pw_below_drewN | apply below_drew1) | exact HB.out))) : w.heap.size ≤ gb621)); clear HB; have HB := n0_; have BK621 := n1_; have GW621 := n2_; have GE621 := n3_; clear n0_ n1_ n2_ n3_; clear hb hbox hg) | (go_at_call 15; (with_reducible refine (galloonlaw06_mod.calls a0 63 t622 _ A4.out).mono ?_); rintro e w' ⟨rfl, ⟨nd, rfl⟩⟩; (try first | exact ⟨rfl, _, World.drewN_drewN _ _ _⟩ | exact ⟨rfl, _, Eq.trans (World.drewN_drewN _ _ _) (congrArg (World.drewN _) (Nat.add_assoc _ _ _))⟩)) | (go_at_call 21; (with_reducible refine (galloonlaw06_tame.calls k (wrap64 (2 + t622)) _ _ l1 t623 _ ?side1 ?side2 A5.out).mono ?_); (case side1 => repeat (first | exact (Kd.C_below HR1.out (by repeat (first | (with_reducible first | exact HB.out | apply below_alloc | apply pw_below_drewN | apply below_drew1 | refine below_set ?_ GE621.out) | exact HB.out))) | (with_reducible refine Kd.C_alloc ?_ _) | (with_reducible refine Kd.C_drewN ?_ _) | (with_reducible refine Kd.C_drew ?_))); (case side2 => exact HC1.out); rintro e w9 ⟨v624, rfl, ho0, hb⟩; have n0_ := Aside0.mk (Kd.R_lower ho0 (below_size (by repeat (first | (with_reducible first | exact HB.out | apply below_alloc | apply pw_below_drewN | apply below_drew1 | refine below_set ?_ GE621.out) | exact HB.out)))); have n1_ := Aside0.mk (blk_below (g := gb621) (o := .cells #[.int .i64 a2_0, .int .i64 a2_1] 44 (0, 0)) (by (with_reducible repeat (first | refine blk_drewN ?_ _ | refine blk_drew ?_ | refine blk_alloc ?_ _)); exact BK621.out) hb); have n2_ := Aside0.mk (below_step (by repeat (first | (with_reducible first | exact HB.out | apply below_alloc | apply pw_below_drewN | apply below_drew1 | refine below_set ?_ GE621.out) | exact HB.out)) hb); clear BK621; clear HB; have HO625 := n0_; have BK621 := n1_; have HB := n2_; clear n0_ n1_ n2_; (try clear hb); (try clear hb2); (try clear hk); (try clear hi); (try clear ho0); obtain ⟨Ao10, co10, eo10⟩ := Kd.R_slice HO625.out; subst eo10) | (go_at_call 35; (with_reducible refine (shuffle_Shifts.calls k (wrap64 (2 + t622)) _ _ t623 t626 t627 _ ?side1 ?side2 A6.out).mono ?_); (case side1 => repeat (first | exact (Kd.R_reads' HO625.out).2.2 | (with_reducible refine Kd.C_alloc ?_ _) | (with_reducible refine Kd.C_drewN ?_ _) | (with_reducible refine Kd.C_drew ?_))); (case side2 => exact (Kd.R_reads' HO625.out).2.1); rintro e w11 ⟨v628, rfl, ho0, hb⟩; have n0_ := Aside0.mk (Kd.R_elder' (by (with_reducible repeat (first | apply Kd.R_alloc | apply Kd.R_drewN | apply Kd.R_drew)); exact HO625.out) (Kd.R_base ho0) hb); have n1_ := Aside0.mk (Kd.R_lower (Kd.R_new' ho0 (Kd.R_lt (by (with_reducible repeat (first | apply Kd.R_alloc | apply Kd.R_drewN | apply Kd.R_drew)); exact HO625.out))) (below_size (by repeat (first | (with_reducible first | exact HB.out | apply below_alloc | apply pw_below_drewN | apply below_drew1 | refine below_set ?_ GE621.out) | exact HB.out)))); have n2_ := Aside0.mk (blk_below (g := gb621) (o := .cells #[.int .i64 a2_0, .int .i64 a2_1] 44 (0, 0)) (by (with_reducible repeat (first | refine blk_drewN ?_ _ | refine blk_drew ?_ | refine blk_alloc ?_ _)); exact BK621.out) hb); have n3_ := Aside0.mk (below_step (by repeat (first | (with_reducible first | exact HB.out | apply below_alloc | apply pw_below_drewN | apply below_drew1 | refine below_set ?_ GE621.out) | exact HB.out)) hb); clear HO625; clear BK621; clear HB; have HO625 := n0_; have HO629 := n1_; have BK621 := n2_; have HB := n3_; clear n0_ n1_ n2_ n3_; (try clear hb); (try clear hb2); (try clear hk); (try clear hi); (try clear ho0))))
  (try simp only [Act.put, List.setIfInBounds_toArray, List.set_cons_zero, List.set_cons_succ])
  go_cut [46] (fun v46 wc => ∃ (kq : Nat) (x46_6 : Bool), v46 = .bool x46_6 ∧ Aside0 (galloonlaw06_ShuffleShifted.j0 kq (wrap64 (2 + t622)) t626 x46_6 a2_0 a2_1 = some r) ∧ Aside0 (kq ≤ k) ∧ Aside0 (Kd.R (Kd.int .i64) 3 wc w.heap.size (fun _ => True) v628 t626) ∧ Aside0 (wc.heap[gb621]? = some (.cells #[.int .i64 a2_0, .int .i64 a2_1] 44 (0, 0))) ∧ Aside0 (Below w.heap.size w wc))
  case first =>
    have H := HC7.out
    clear HC7
    by_cases c12 : t627 = 0
    · rw [if_pos c12] at H
      have c12b0 : (t627 == 0) = true := beq_iff_eq.mpr c12
      have c12b1 : (t627 != 0) = false := bne_eq_false_iff_eq.mpr c12
      clear c12
      (first | rw [c12b0] | (simp only [i64_w, i32_w]; rw [c12b0]) | skip)
      by_cases c13 : (t626.length : Int) < 1
      · rw [if_pos c13] at H
        exact absurd H (by simp)
      · rw [if_neg c13] at H
        have c13b0 : decide ((t626.length : Int) < 1) = false := decide_eq_false c13
        have c13b1 : decide (t626.length < 1) = false := decide_eq_false (by omega)
        clear c13
        by_cases c14 : 0 < (t626.length : Int)
        · rw [if_pos c14] at H
          have c14b0 : decide (0 < (t626.length : Int)) = true := decide_eq_true c14
          have c14b1 : decide (0 < t626.length) = true := decide_eq_true (by omega)
          clear c14
          by_cases c15 : (rd t626 0) = 0
          · rw [if_pos c15] at H
            have c15b0 : ((rd t626 0) == 0) = true := beq_iff_eq.mpr c15
            have c15b1 : ((rd t626 0) != 0) = false := bne_eq_false_iff_eq.mpr c15
            clear c15
            by_cases c16 : (t626.length : Int) = 0
            · rw [if_pos c16] at H
              exact absurd H (by simp)
            · rw [if_neg c16] at H
              have c16b0 : ((t626.length : Int) == 0) = false := beq_eq_false_iff_ne.mpr c16
              have c16b1 : ((t626.length : Int) != 0) = true := bne_iff_ne.mpr c16
              have c16b2 : ¬ (t626 = []) := fun h_ => c16 (by rw [h_]; rfl)
              have H' := Aside0.mk H
              clear H
              obtain ⟨Ao17, co17, eo17⟩ := Kd.R_slice HO629.out
              subst eo17
              have p630 : 0 ≤ (0 : Int) := (by omega)
              have q630 : 0 < (t626.length : Int) := of_decide_eq_true (by first | (with_reducible assumption) | assumption)
              obtain ⟨ad630, e630, hx630_0⟩ := Kd.at_int (Kd.R_reads' HO629.out).2.2 0 p630 q630
              cases e630
              have qi630 : (0 < t626.length) = True := eq_true (by omega)
              (try rw [show ((0 : Int)).toNat = 0 from rfl] at hx630_0)
              (try rw [Addr.add_zero'] at hx630_0)
              replace p630 := eq_true p630
              replace q630 := eq_true q630
              go_wp2
              repeat (go_quiet (fail); try go_wp2)
              go_meet
              case rel => exact ⟨_, (((Int.tmod (wrap64 (2 + t622)) (t626.length : Int)) != 0)), (by first | rfl | (simp; done) | (simp [*]; done)), H', ⟨by first | omega | exact Nat.le_refl _⟩, ⟨by (with_reducible repeat (first | apply Kd.R_alloc | apply Kd.R_drewN | apply Kd.R_drew)); exact Kd.R_mono HO629.out (fun _ hk => trivial)⟩, ⟨by (with_reducible repeat (first | refine blk_drewN ?_ _ | refine blk_drew ?_ | refine blk_alloc ?_ _)); exact BK621.out⟩, ⟨by repeat (first | (with_reducible first | exact HB.out | apply below_alloc | apply pw_below_drewN | apply below_drew1 | refine below_set ?_ GE621.out) | exact HB.out)⟩⟩
          · rw [if_neg c15] at H
            exact absurd H (by simp)
        · rw [if_neg c14] at H
          exact absurd H (by simp)
    · rw [if_neg c12] at H
      exact absurd H (by simp)
  case rest =>
    clear HC7
    try clear c1
    try clear p2
    try clear p6
    try clear q6
    try clear hx6
    try clear qi6
    try clear c8
    try clear c12
    try clear c12b0
    try clear c12b1
    try clear c13
    try clear c13b0
    try clear c13b1
    try clear c14
    try clear c14b0
    try clear c14b1
    try clear c15
    try clear c15b0
    try clear c15b1
    try clear c16
    try clear c16b0
    try clear c16b1
    try clear c16b2
    try clear hx630_0
    try clear p630
    try clear q630
    obtain ⟨kq, x46_6, rfl, HA, HJ6, HO_8, BK621, HB⟩ := hcut
    cases kq with
    | zero => exact absurd HA.out (by simp [galloonlaw06_ShuffleShifted.j0])
    | succ kj6 =>
      have H := HA.out
      clear HA
      simp only [galloonlaw06_ShuffleShifted.j0] at H
      by_cases c18 : x46_6 = true
      · subst c18
        have H1 : (none) = some r := by rw [if_pos rfl] at H; exact H
        clear H
        have H := H1
        clear H1
        exact absurd H (by simp)
      · replace c18 := Bool.eq_false_iff.mpr c18
        subst c18
        have H1 : ((galloonlaw06_mod.f a2_0 (t626.length : Int)).bind fun t631 => (if 0 ≤ t631 then (if t631 < (t626.length : Int) then ((galloonlaw06_mod.f a2_1 (t626.length : Int)).bind fun t633 => (if 0 ≤ t633 then (if t633 < (t626.length : Int) then (galloonlaw06_ShuffleShifted.l0 kj6 (wrap64 (2 + t622)) t626 (wrap64 ((rd t626 t631) + (rd t626 t633))) false 0 a2_0 a2_1) else (none)) else (none))) else (none)) else (none))) = some r := by rw [if_neg (show ¬ (false = true) by decide)] at H; exact H
        clear H
        have H := H1
        clear H1
        replace H := Option.bind_eq_some_iff.mp H
        obtain ⟨t631, A190, H⟩ := H
        replace H : (if 0 ≤ t631 then (if t631 < (t626.length : Int) then ((galloonlaw06_mod.f a2_1 (t626.length : Int)).bind fun t633 => (if 0 ≤ t633 then (if t633 < (t626.length : Int) then (galloonlaw06_ShuffleShifted.l0 kj6 (wrap64 (2 + t622)) t626 (wrap64 ((rd t626 t631) + (rd t626 t633))) false 0 a2_0 a2_1) else (none)) else (none))) else (none)) else (none)) = some r := H
        have A19 := Aside0.mk A190
        clear A190
        by_cases c20 : 0 ≤ t631
        · rw [if_pos c20] at H
          have c20b0 : decide (0 ≤ t631) = true := decide_eq_true c20
          clear c20
          by_cases c21 : t631 < (t626.length : Int)
          · rw [if_pos c21] at H
            have c21b0 : decide (t631 < (t626.length : Int)) = true := decide_eq_true c21
            clear c21
            replace H := Option.bind_eq_some_iff.mp H
            obtain ⟨t633, A220, H⟩ := H
            replace H : (if 0 ≤ t633 then (if t633 < (t626.length : Int) then (galloonlaw06_ShuffleShifted.l0 kj6 (wrap64 (2 + t622)) t626 (wrap64 ((rd t626 t631) + (rd t626 t633))) false 0 a2_0 a2_1) else (none)) else (none)) = some r := H
            have A22 := Aside0.mk A220
            clear A220
            by_cases c23 : 0 ≤ t633
            · rw [if_pos c23] at H
              have c23b0 : decide (0 ≤ t633) = true := decide_eq_true c23
              clear c23
              by_cases c24 : t633 < (t626.length : Int)
              · rw [if_pos c24] at H
                have c24b0 : decide (t633 < (t626.length : Int)) = true := decide_eq_true c24
                clear c24
                have H' := Aside0.mk H
                clear H
                have hcz25_0 : wc.cell? ⟨gb621, 0, none⟩ = some (.int .i64 a2_0) := (blk_cell BK621.out 0).trans rfl
                have hcz25_1 : wc.cell? ⟨gb621, 1, none⟩ = some (.int .i64 a2_1) := (blk_cell BK621.out 1).trans rfl
                have hfz25_0 := blk_frozen BK621.out 0
                have hfz25_1 := blk_frozen BK621.out 1
                obtain ⟨Ao26, co26, eo26⟩ := Kd.R_slice HO_8.out
                subst eo26
                go_wp2_with (first | (go_at_call 15; (with_reducible refine (galloonlaw06_mod.calls a2_0 (t626.length : Int) t631 _ A19.out).mono ?_); rintro e w' ⟨rfl, ⟨nd, rfl⟩⟩; (try first | exact ⟨rfl, _, World.drewN_drewN _ _ _⟩ | exact ⟨rfl, _, Eq.trans (World.drewN_drewN _ _ _) (congrArg (World.drewN _) (Nat.add_assoc _ _ _))⟩); have p632 : 0 ≤ (t631 : Int) := of_decide_eq_true (by first | (with_reducible assumption) | assumption); have q632 : t631 < (t626.length : Int) := of_decide_eq_true (by first | (with_reducible assumption) | assumption); obtain ⟨ad632, e632, hx632_0⟩ := Kd.at_int (Kd.R_reads' HO_8.out).2.2 t631 p632 q632; cases e632; replace p632 := eq_true p632; replace q632 := eq_true q632) | (go_at_call 15; (with_reducible refine (galloonlaw06_mod.calls a2_1 (t626.length : Int) t633 _ A22.out).mono ?_); rintro e w' ⟨rfl, ⟨nd, rfl⟩⟩; (try first | exact ⟨rfl, _, World.drewN_drewN _ _ _⟩ | exact ⟨rfl, _, Eq.trans (World.drewN_drewN _ _ _) (congrArg (World.drewN _) (Nat.add_assoc _ _ _))⟩); have p634 : 0 ≤ (t633 : Int) := of_decide_eq_true (by first | (with_reducible assumption) | assumption); have q634 : t633 < (t626.length : Int) := of_decide_eq_true (by first | (with_reducible assumption) | assumption); obtain ⟨ad634, e634, hx634_0⟩ := Kd.at_int (Kd.R_reads' HO_8.out).2.2 t633 p634 q634; obtain rfl : ad632 = ad634 := (by injection e634); replace p634 := eq_true p634; replace q634 := eq_true q634))
                repeat (go_quiet (first | (go_at_call 15; (with_reducible refine (galloonlaw06_mod.calls a2_0 (t626.length : Int) t631 _ A19.out).mono ?_); rintro e w' ⟨rfl, ⟨nd, rfl⟩⟩; (try first | exact ⟨rfl, _, World.drewN_drewN _ _ _⟩ | exact ⟨rfl, _, Eq.trans (World.drewN_drewN _ _ _) (congrArg (World.drewN _) (Nat.add_assoc _ _ _))⟩); have p632 : 0 ≤ (t631 : Int) := of_decide_eq_true (by first | (with_reducible assumption) | assumption); have q632 : t631 < (t626.length : Int) := of_decide_eq_true (by first | (with_reducible assumption) | assumption); obtain ⟨ad632, e632, hx632_0⟩ := Kd.at_int (Kd.R_reads' HO_8.out).2.2 t631 p632 q632; cases e632; replace p632 := eq_true p632; replace q632 := eq_true q632) | (go_at_call 15; (with_reducible refine (galloonlaw06_mod.calls a2_1 (t626.length : Int) t633 _ A22.out).mono ?_); rintro e w' ⟨rfl, ⟨nd, rfl⟩⟩; (try first | exact ⟨rfl, _, World.drewN_drewN _ _ _⟩ | exact ⟨rfl, _, Eq.trans (World.drewN_drewN _ _ _) (congrArg (World.drewN _) (Nat.add_assoc _ _ _))⟩); have p634 : 0 ≤ (t633 : Int) := of_decide_eq_true (by first | (with_reducible assumption) | assumption); have q634 : t633 < (t626.length : Int) := of_decide_eq_true (by first | (with_reducible assumption) | assumption); obtain ⟨ad634, e634, hx634_0⟩ := Kd.at_int (Kd.R_reads' HO_8.out).2.2 t633 p634 q634; obtain rfl : ad632 = ad634 := (by injection e634); replace p634 := eq_true p634; replace q634 := eq_true q634)); try go_wp2_with (first | (go_at_call 15; (with_reducible refine (galloonlaw06_mod.calls a2_0 (t626.length : Int) t631 _ A19.out).mono ?_); rintro e w' ⟨rfl, ⟨nd, rfl⟩⟩; (try first | exact ⟨rfl, _, World.drewN_drewN _ _ _⟩ | exact ⟨rfl, _, Eq.trans (World.drewN_drewN _ _ _) (congrArg (World.drewN _) (Nat.add_assoc _ _ _))⟩); have p632 : 0 ≤ (t631 : Int) := of_decide_eq_true (by first | (with_reducible assumption) | assumption); have q632 : t631 < (t626.length : Int) := of_decide_eq_true (by first | (with_reducible assumption) | assumption); obtain ⟨ad632, e632, hx632_0⟩ := Kd.at_int (Kd.R_reads' HO_8.out).2.2 t631 p632 q632; cases e632; replace p632 := eq_true p632; replace q632 := eq_true q632) | (go_at_call 15; (with_reducible refine (galloonlaw06_mod.calls a2_1 (t626.length : Int) t633 _ A22.out).mono ?_); rintro e w' ⟨rfl, ⟨nd, rfl⟩⟩; (try first | exact ⟨rfl, _, World.drewN_drewN _ _ _⟩ | exact ⟨rfl, _, Eq.trans (World.drewN_drewN _ _ _) (congrArg (World.drewN _) (Nat.add_assoc _ _ _))⟩); have p634 : 0 ≤ (t633 : Int) := of_decide_eq_true (by first | (with_reducible assumption) | assumption); have q634 : t633 < (t626.length : Int) := of_decide_eq_true (by first | (with_reducible assumption) | assumption); obtain ⟨ad634, e634, hx634_0⟩ := Kd.at_int (Kd.R_reads' HO_8.out).2.2 t633 p634 q634; obtain rfl : ad632 = ad634 := (by injection e634); replace p634 := eq_true p634; replace q634 := eq_true q634)))
                go_loopg [11, 12] kj6 (fun kq v11 v12 w' => ∃ (x11_2 : Bool) (x12_2 : Int), v11 = .bool x11_2 ∧ v12 = .int .i64 x12_2 ∧ Aside0 (galloonlaw06_ShuffleShifted.l0 kq (wrap64 (2 + t622)) t626 (wrap64 ((rd t626 t631) + (rd t626 t633))) x11_2 x12_2 a2_0 a2_1 = some r) ∧ Aside0 (kq ≤ kj6) ∧ Aside0 (Kd.R (Kd.int .i64) 3 w' w.heap.size (fun _ => True) (.slice (some ad632) t626.length co26) t626) ∧ Aside0 (w'.heap[gb621]? = some (.cells #[.int .i64 a2_0, .int .i64 a2_1] 44 (0, 0))) ∧ Aside0 (Below w.heap.size w w'))
                case atStart => exact ⟨(false), (0), (by first | rfl | (simp; done) | (simp [*]; done)), (by first | rfl | (simp; done) | (simp [*]; done)), H', ⟨Nat.le_refl _⟩, ⟨by (with_reducible repeat (first | apply Kd.R_alloc | apply Kd.R_drewN | apply Kd.R_drew)); exact HO_8.out⟩, ⟨by (with_reducible repeat (first | refine blk_drewN ?_ _ | refine blk_drew ?_ | refine blk_alloc ?_ _)); exact BK621.out⟩, ⟨by repeat (first | (with_reducible first | exact HB.out | apply below_alloc | apply pw_below_drewN | apply below_drew1 | refine below_set ?_ GE621.out) | exact HB.out)⟩⟩
                case round =>
                  clear H'
                  try clear c1
                  try clear c2
                  try clear p2
                  try clear p6
                  try clear q6
                  try clear hx6
                  try clear qi6
                  try clear c8
                  try clear c12
                  try clear c12b0
                  try clear c12b1
                  try clear c13
                  try clear c13b0
                  try clear c13b1
                  try clear c14
                  try clear c14b0
                  try clear c14b1
                  try clear c15
                  try clear c15b0
                  try clear c15b1
                  try clear c16
                  try clear c16b0
                  try clear c16b1
                  try clear c16b2
                  try clear c18
                  try clear c20
                  try clear c20b0
                  try clear c21
                  try clear c21b0
                  try clear c23
                  try clear c23b0
                  try clear c24
                  try clear c24b0
                  try clear hcz25_0
                  try clear hcz25_1
                  try clear hfz25_0
                  try clear hfz25_1
                  try clear hx630_0
                  try clear hx632_0
                  try clear hx634_0
                  try clear p2
                  try clear p6
                  try clear p630
                  try clear p632
                  try clear p634
                  try clear q6
                  try clear q630
                  try clear q632
                  try clear q634
                  obtain ⟨x11_2, x12_2, rfl, rfl, HA, HK2, HO_8, BK621, HB⟩ := hrel
                  cases gk with
                  | zero => exact absurd HA.out (by simp [galloonlaw06_ShuffleShifted.l0])
                  | succ k2 =>
                    have H := HA.out
                    clear HA
                    simp only [galloonlaw06_ShuffleShifted.l0] at H
                    by_cases c27 : x12_2 < (t626.length : Int)
                    · rw [if_pos c27] at H
                      have c27b0 : decide (x12_2 < (t626.length : Int)) = true := decide_eq_true c27
                      clear c27
                      by_cases c28 : x12_2 > 0
                      · rw [if_pos c28] at H
                        have c28b0 : decide (0 < x12_2) = true := decide_eq_true c28
                        clear c28
                        obtain ⟨ji29, hji29⟩ : ∃ j_ : Int, (wrap64 (x12_2 - 1)) = j_ := ⟨_, rfl⟩
                        replace H : (if 0 ≤ (ji29) then (if (ji29) < (t626.length : Int) then (if 0 ≤ x12_2 then (if (rd t626 (ji29)) ≥ (rd t626 x12_2) then (none) else (if x11_2 = true then (galloonlaw06_ShuffleShifted.l0 k2 (wrap64 (2 + t622)) t626 (wrap64 ((rd t626 t631) + (rd t626 t633))) true (wrap64 (x12_2 + 1)) a2_0 a2_1) else ((galloonlaw06_mod.f (wrap64 ((rd t626 t631) + (rd t626 t633))) (wrap64 (2 + t622))).bind fun t638 => (galloonlaw06_ShuffleShifted.l0 k2 (wrap64 (2 + t622)) t626 (wrap64 ((rd t626 t631) + (rd t626 t633))) ((rd t626 x12_2) == t638) (wrap64 (x12_2 + 1)) a2_0 a2_1)))) else (none)) else (none)) else (none)) = some r := by first | (rw [hji29] at H; exact H) | (simp only [hji29] at H ⊢; exact H)
                        have hji29w : (IntKind.i64.wrap (x12_2 - 1)) = ji29 := (i64_w _).trans hji29
                        by_cases c30 : 0 ≤ (ji29)
                        · rw [if_pos c30] at H
                          have c30b0 : decide (0 ≤ (ji29)) = true := decide_eq_true c30
                          clear c30
                          by_cases c31 : (ji29) < (t626.length : Int)
                          · rw [if_pos c31] at H
                            have c31b0 : decide ((ji29) < (t626.length : Int)) = true := decide_eq_true c31
                            clear c31
                            by_cases c32 : 0 ≤ x12_2
                            · rw [if_pos c32] at H
                              have c32b0 : decide (0 ≤ x12_2) = true := decide_eq_true c32
                              clear c32
                              by_cases c33 : (rd t626 (ji29)) ≥ (rd t626 x12_2)
                              · rw [if_pos c33] at H
                                exact absurd H (by simp)
                              · rw [if_neg c33] at H
                                have c33b0 : decide ((rd t626 x12_2) ≤ (rd t626 (ji29))) = false := decide_eq_false c33
                                clear c33
                                by_cases c34 : x11_2 = true
                                · subst c34
                                  have H1 : (galloonlaw06_ShuffleShifted.l0 k2 (wrap64 (2 + t622)) t626 (wrap64 ((rd t626 t631) + (rd t626 t633))) true (wrap64 (x12_2 + 1)) a2_0 a2_1) = some r := by rw [if_pos rfl] at H; exact H
                                  clear H
                                  have H := H1
                                  clear H1
                                  have H' := Aside0.mk H
                                  clear H
                                  have p635 : 0 ≤ ((ji29) : Int) := of_decide_eq_true (by first | (with_reducible assumption) | assumption)
                                  have q635 : (ji29) < (t626.length : Int) := of_decide_eq_true (by first | (with_reducible assumption) | assumption)
                                  (first | (obtain ⟨Aq_, cq_, eq_⟩ := Kd.R_slice HO_8.out; subst eq_) | skip)
                                  obtain ⟨ad635, e635, hx635_0⟩ := Kd.at_int (Kd.R_reads' HO_8.out).2.2 (ji29) p635 q635
                                  obtain rfl : ad632 = ad635 := (by injection e635)
                                  replace p635 := eq_true p635
                                  replace q635 := eq_true q635
                                  have p636 : 0 ≤ (x12_2 : Int) := of_decide_eq_true (by first | (with_reducible assumption) | assumption)
                                  have q636 : x12_2 < (t626.length : Int) := of_decide_eq_true (by first | (with_reducible assumption) | assumption)
                                  (first | (obtain ⟨Aq_, cq_, eq_⟩ := Kd.R_slice HO_8.out; subst eq_) | skip)
                                  obtain ⟨ad636, e636, hx636_0⟩ := Kd.at_int (Kd.R_reads' HO_8.out).2.2 x12_2 p636 q636
                                  obtain rfl : ad632 = ad636 := (by injection e636)
                                  replace p636 := eq_true p636
                                  replace q636 := eq_true q636
                                  go_wp2
                                  repeat (go_quiet (fail); try go_wp2)
                                  go_roundg k2
                                  case measure => have := HJ6.out; have := HK2.out; omega
                                  case rel => exact ⟨(true), (wrap64 (x12_2 + 1)), (by first | rfl | (simp; done) | (simp [*]; done)), (by first | rfl | (simp; done) | (simp [*]; done)), H', ⟨by have := HJ6.out; have := HK2.out; omega⟩, ⟨by (with_reducible repeat (first | apply Kd.R_alloc | apply Kd.R_drewN | apply Kd.R_drew)); exact HO_8.out⟩, ⟨by (with_reducible repeat (first | refine blk_drewN ?_ _ | refine blk_drew ?_ | refine blk_alloc ?_ _)); exact BK621.out⟩, ⟨by repeat (first | (with_reducible first | exact HB.out | apply below_alloc | apply pw_below_drewN | apply below_drew1 | refine below_set ?_ GE621.out) | exact HB.out)⟩⟩
                                · replace c34 := Bool.eq_false_iff.mpr c34
                                  subst c34
                                  have H1 : ((galloonlaw06_mod.f (wrap64 ((rd t626 t631) + (rd t626 t633))) (wrap64 (2 + t622))).bind fun t638 => (galloonlaw06_ShuffleShifted.l0 k2 (wrap64 (2 + t622)) t626 (wrap64 ((rd t626 t631) + (rd t626 t633))) ((rd t626 x12_2) == t638) (wrap64 (x12_2 + 1)) a2_0 a2_1)) = some r := by rw [if_neg (show ¬ (false = true) by decide)] at H; exact H
                                  clear H
                                  have H := H1
                                  clear H1
                                  replace H := Option.bind_eq_some_iff.mp H
                                  obtain ⟨t638, A350, H⟩ := H
                                  replace H : (galloonlaw06_ShuffleShifted.l0 k2 (wrap64 (2 + t622)) t626 (wrap64 ((rd t626 t631) + (rd t626 t633))) ((rd t626 x12_2) == t638) (wrap64 (x12_2 + 1)) a2_0 a2_1) = some r := H
                                  have A35 := Aside0.mk A350
                                  clear A350
                                  have H' := Aside0.mk H
                                  clear H
                                  have p635 : 0 ≤ ((ji29) : Int) := of_decide_eq_true (by first | (with_reducible assumption) | assumption)
                                  have q635 : (ji29) < (t626.length : Int) := of_decide_eq_true (by first | (with_reducible assumption) | assumption)
                                  (first | (obtain ⟨Aq_, cq_, eq_⟩ := Kd.R_slice HO_8.out; subst eq_) | skip)
                                  obtain ⟨ad635, e635, hx635_0⟩ := Kd.at_int (Kd.R_reads' HO_8.out).2.2 (ji29) p635 q635
                                  obtain rfl : ad632 = ad635 := (by injection e635)
                                  replace p635 := eq_true p635
                                  replace q635 := eq_true q635
                                  have p636 : 0 ≤ (x12_2 : Int) := of_decide_eq_true (by first | (with_reducible assumption) | assumption)
                                  have q636 : x12_2 < (t626.length : Int) := of_decide_eq_true (by first | (with_reducible assumption) | assumption)
                                  (first | (obtain ⟨Aq_, cq_, eq_⟩ := Kd.R_slice HO_8.out; subst eq_) | skip)
                                  obtain ⟨ad636, e636, hx636_0⟩ := Kd.at_int (Kd.R_reads' HO_8.out).2.2 x12_2 p636 q636
                                  obtain rfl : ad632 = ad636 := (by injection e636)
                                  replace p636 := eq_true p636
                                  replace q636 := eq_true q636
                                  have p637 : 0 ≤ (x12_2 : Int) := of_decide_eq_true (by first | (with_reducible assumption) | assumption)
                                  have q637 : x12_2 < (t626.length : Int) := of_decide_eq_true (by first | (with_reducible assumption) | assumption)
                                  (first | (obtain ⟨Aq_, cq_, eq_⟩ := Kd.R_slice HO_8.out; subst eq_) | skip)
                                  obtain ⟨ad637, e637, hx637_0⟩ := Kd.at_int (Kd.R_reads' HO_8.out).2.2 x12_2 p637 q637
                                  obtain rfl : ad632 = ad637 := (by injection e637)
                                  replace p637 := eq_true p637
                                  replace q637 := eq_true q637
                                  go_wp2_with (first | (go_at_call 15; (with_reducible refine (galloonlaw06_mod.calls (wrap64 ((rd t626 t631) + (rd t626 t633))) (wrap64 (2 + t622)) t638 _ A35.out).mono ?_); rintro e w' ⟨rfl, ⟨nd, rfl⟩⟩; (try first | exact ⟨rfl, _, World.drewN_drewN _ _ _⟩ | exact ⟨rfl, _, Eq.trans (World.drewN_drewN _ _ _) (congrArg (World.drewN _) (Nat.add_assoc _ _ _))⟩)))
                                  repeat (go_quiet (first | (go_at_call 15; (with_reducible refine (galloonlaw06_mod.calls (wrap64 ((rd t626 t631) + (rd t626 t633))) (wrap64 (2 + t622)) t638 _ A35.out).mono ?_); rintro e w' ⟨rfl, ⟨nd, rfl⟩⟩; (try first | exact ⟨rfl, _, World.drewN_drewN _ _ _⟩ | exact ⟨rfl, _, Eq.trans (World.drewN_drewN _ _ _) (congrArg (World.drewN _) (Nat.add_assoc _ _ _))⟩))); try go_wp2_with (first | (go_at_call 15; (with_reducible refine (galloonlaw06_mod.calls (wrap64 ((rd t626 t631) + (rd t626 t633))) (wrap64 (2 + t622)) t638 _ A35.out).mono ?_); rintro e w' ⟨rfl, ⟨nd, rfl⟩⟩; (try first | exact ⟨rfl, _, World.drewN_drewN _ _ _⟩ | exact ⟨rfl, _, Eq.trans (World.drewN_drewN _ _ _) (congrArg (World.drewN _) (Nat.add_assoc _ _ _))⟩))))
                                  go_roundg k2
                                  case measure => have := HJ6.out; have := HK2.out; omega
                                  case rel => exact ⟨(((rd t626 x12_2) == t638)), (wrap64 (x12_2 + 1)), (by first | rfl | (simp; done) | (simp [*]; done)), (by first | rfl | (simp; done) | (simp [*]; done)), H', ⟨by have := HJ6.out; have := HK2.out; omega⟩, ⟨by (with_reducible repeat (first | apply Kd.R_alloc | apply Kd.R_drewN | apply Kd.R_drew)); exact HO_8.out⟩, ⟨by (with_reducible repeat (first | refine blk_drewN ?_ _ | refine blk_drew ?_ | refine blk_alloc ?_ _)); exact BK621.out⟩, ⟨by repeat (first | (with_reducible first | exact HB.out | apply below_alloc | apply pw_below_drewN | apply below_drew1 | refine below_set ?_ GE621.out) | exact HB.out)⟩⟩
                            · rw [if_neg c32] at H
                              exact absurd H (by simp)
                          · rw [if_neg c31] at H
                            exact absurd H (by simp)
                        · rw [if_neg c30] at H
                          exact absurd H (by simp)
                      · rw [if_neg c28] at H
                        have c28b0 : decide (0 < x12_2) = false := decide_eq_false c28
                        clear c28
                        by_cases c36 : x11_2 = true
                        · subst c36
                          have H1 : (galloonlaw06_ShuffleShifted.l0 k2 (wrap64 (2 + t622)) t626 (wrap64 ((rd t626 t631) + (rd t626 t633))) true (wrap64 (x12_2 + 1)) a2_0 a2_1) = some r := by rw [if_pos rfl] at H; exact H
                          clear H
                          have H := H1
                          clear H1
                          have H' := Aside0.mk H
                          clear H
                          go_wp2
                          repeat (go_quiet (fail); try go_wp2)
                          go_roundg k2
                          case measure => have := HJ6.out; have := HK2.out; omega
                          case rel => exact ⟨(true), (wrap64 (x12_2 + 1)), (by first | rfl | (simp; done) | (simp [*]; done)), (by first | rfl | (simp; done) | (simp [*]; done)), H', ⟨by have := HJ6.out; have := HK2.out; omega⟩, ⟨by (with_reducible repeat (first | apply Kd.R_alloc | apply Kd.R_drewN | apply Kd.R_drew)); exact HO_8.out⟩, ⟨by (with_reducible repeat (first | refine blk_drewN ?_ _ | refine blk_drew ?_ | refine blk_alloc ?_ _)); exact BK621.out⟩, ⟨by repeat (first | (with_reducible first | exact HB.out | apply below_alloc | apply pw_below_drewN | apply below_drew1 | refine below_set ?_ GE621.out) | exact HB.out)⟩⟩
                        · replace c36 := Bool.eq_false_iff.mpr c36
                          subst c36
                          have H1 : (if 0 ≤ x12_2 then ((galloonlaw06_mod.f (wrap64 ((rd t626 t631) + (rd t626 t633))) (wrap64 (2 + t622))).bind fun t640 => (galloonlaw06_ShuffleShifted.l0 k2 (wrap64 (2 + t622)) t626 (wrap64 ((rd t626 t631) + (rd t626 t633))) ((rd t626 x12_2) == t640) (wrap64 (x12_2 + 1)) a2_0 a2_1)) else (none)) = some r := by rw [if_neg (show ¬ (false = true) by decide)] at H; exact H
                          clear H
                          have H := H1
                          clear H1
                          by_cases c37 : 0 ≤ x12_2
                          · rw [if_pos c37] at H
                            have c37b0 : decide (0 ≤ x12_2) = true := decide_eq_true c37
                            clear c37
                            replace H := Option.bind_eq_some_iff.mp H
                            obtain ⟨t640, A380, H⟩ := H
                            replace H : (galloonlaw06_ShuffleShifted.l0 k2 (wrap64 (2 + t622)) t626 (wrap64 ((rd t626 t631) + (rd t626 t633))) ((rd t626 x12_2) == t640) (wrap64 (x12_2 + 1)) a2_0 a2_1) = some r := H
                            have A38 := Aside0.mk A380
                            clear A380
                            have H' := Aside0.mk H
                            clear H
                            have p639 : 0 ≤ (x12_2 : Int) := of_decide_eq_true (by first | (with_reducible assumption) | assumption)
                            have q639 : x12_2 < (t626.length : Int) := of_decide_eq_true (by first | (with_reducible assumption) | assumption)
                            (first | (obtain ⟨Aq_, cq_, eq_⟩ := Kd.R_slice HO_8.out; subst eq_) | skip)
                            obtain ⟨ad639, e639, hx639_0⟩ := Kd.at_int (Kd.R_reads' HO_8.out).2.2 x12_2 p639 q639
                            obtain rfl : ad632 = ad639 := (by injection e639)
                            replace p639 := eq_true p639
                            replace q639 := eq_true q639
                            go_wp2_with (first | (go_at_call 15; (with_reducible refine (galloonlaw06_mod.calls (wrap64 ((rd t626 t631) + (rd t626 t633))) (wrap64 (2 + t622)) t640 _ A38.out).mono ?_); rintro e w' ⟨rfl, ⟨nd, rfl⟩⟩; (try first | exact ⟨rfl, _, World.drewN_drewN _ _ _⟩ | exact ⟨rfl, _, Eq.trans (World.drewN_drewN _ _ _) (congrArg (World.drewN _) (Nat.add_assoc _ _ _))⟩)))
                            repeat (go_quiet (first | (go_at_call 15; (with_reducible refine (galloonlaw06_mod.calls (wrap64 ((rd t626 t631) + (rd t626 t633))) (wrap64 (2 + t622)) t640 _ A38.out).mono ?_); rintro e w' ⟨rfl, ⟨nd, rfl⟩⟩; (try first | exact ⟨rfl, _, World.drewN_drewN _ _ _⟩ | exact ⟨rfl, _, Eq.trans (World.drewN_drewN _ _ _) (congrArg (World.drewN _) (Nat.add_assoc _ _ _))⟩))); try go_wp2_with (first | (go_at_call 15; (with_reducible refine (galloonlaw06_mod.calls (wrap64 ((rd t626 t631) + (rd t626 t633))) (wrap64 (2 + t622)) t640 _ A38.out).mono ?_); rintro e w' ⟨rfl, ⟨nd, rfl⟩⟩; (try first | exact ⟨rfl, _, World.drewN_drewN _ _ _⟩ | exact ⟨rfl, _, Eq.trans (World.drewN_drewN _ _ _) (congrArg (World.drewN _) (Nat.add_assoc _ _ _))⟩))))
                            go_roundg k2
                            case measure => have := HJ6.out; have := HK2.out; omega
                            case rel => exact ⟨(((rd t626 x12_2) == t640)), (wrap64 (x12_2 + 1)), (by first | rfl | (simp; done) | (simp [*]; done)), (by first | rfl | (simp; done) | (simp [*]; done)), H', ⟨by have := HJ6.out; have := HK2.out; omega⟩, ⟨by (with_reducible repeat (first | apply Kd.R_alloc | apply Kd.R_drewN | apply Kd.R_drew)); exact HO_8.out⟩, ⟨by (with_reducible repeat (first | refine blk_drewN ?_ _ | refine blk_drew ?_ | refine blk_alloc ?_ _)); exact BK621.out⟩, ⟨by repeat (first | (with_reducible first | exact HB.out | apply below_alloc | apply pw_below_drewN | apply below_drew1 | refine below_set ?_ GE621.out) | exact HB.out)⟩⟩
                          · rw [if_neg c37] at H
                            exact absurd H (by simp)
                    · rw [if_neg c27] at H
                      have c27b0 : decide (x12_2 < (t626.length : Int)) = false := decide_eq_false c27
                      clear c27
                      replace H := Option.bind_eq_some_iff.mp H
                      obtain ⟨t641, A390, H⟩ := H
                      replace H : ((shuffle_Shifts.f k2 (wrap64 (2 + t622)) (([t641, 1] : List Int))).bind fun bt645 => (if x11_2 = true then (if bt645.2 = 0 then (if (bt645.1.length : Int) = (wrap64 (2 + t622)) then ((galloonlaw06_awake.f k2).bind fun t649 => (some t649)) else (none)) else (none)) else (none))) = some r := H
                      have A39 := Aside0.mk A390
                      clear A390
                      obtain ⟨y642, hy642⟩ : ∃ y_ : List Int, y_ = (([t641, 1] : List Int)) := ⟨_, rfl⟩
                      replace H : ((shuffle_Shifts.f k2 (wrap64 (2 + t622)) y642).bind fun bt645 => (if x11_2 = true then (if bt645.2 = 0 then (if (bt645.1.length : Int) = (wrap64 (2 + t622)) then ((galloonlaw06_awake.f k2).bind fun t649 => (some t649)) else (none)) else (none)) else (none))) = some r := by first | (rw [hy642]; with_reducible exact H) | (have H2_ := (Option.bind_some _ _).symm.trans H; rw [hy642]; with_reducible exact H2_) | (have H2_ := (Option.bind_some _ _).symm.trans H; with_reducible exact H2_) | with_reducible exact H | (rw [hy642]; exact H) | exact H
                      have Ny642 := Aside0.mk hy642
                      clear hy642
                      replace H := Option.bind_eq_some_iff.mp H
                      obtain ⟨⟨t645, t646⟩, A400, H⟩ := H
                      replace H : (if x11_2 = true then (if t646 = 0 then (if (t645.length : Int) = (wrap64 (2 + t622)) then ((galloonlaw06_awake.f k2).bind fun t649 => (some t649)) else (none)) else (none)) else (none)) = some r := H
                      have A40 := Aside0.mk A400
                      clear A400
                      by_cases c41 : x11_2 = true
                      · subst c41
                        have H1 : (if t646 = 0 then (if (t645.length : Int) = (wrap64 (2 + t622)) then ((galloonlaw06_awake.f k2).bind fun t649 => (some t649)) else (none)) else (none)) = some r := by rw [if_pos rfl] at H; exact H
                        clear H
                        have H := H1
                        clear H1
                        by_cases c42 : t646 = 0
                        · rw [if_pos c42] at H
                          have c42b0 : (t646 == 0) = true := beq_iff_eq.mpr c42
                          have c42b1 : (t646 != 0) = false := bne_eq_false_iff_eq.mpr c42
                          clear c42
                          by_cases c43 : (t645.length : Int) = (wrap64 (2 + t622))
                          · rw [if_pos c43] at H
                            have c43b0 : ((t645.length : Int) == (wrap64 (2 + t622))) = true := beq_iff_eq.mpr c43
                            have c43b1 : ((t645.length : Int) != (wrap64 (2 + t622))) = false := bne_eq_false_iff_eq.mpr c43
                            clear c43
                            replace H := Option.bind_eq_some_iff.mp H
                            obtain ⟨t649, A440, H⟩ := H
                            replace H : (some t649) = some r := H
                            have A44 := Aside0.mk A440
                            clear A440
                            obtain rfl := Option.some.inj H
                            have hcz45_0 : wr.cell? ⟨gb621, 0, none⟩ = some (.int .i64 a2_0) := (blk_cell BK621.out 0).trans rfl
                            have hcz45_1 : wr.cell? ⟨gb621, 1, none⟩ = some (.int .i64 a2_1) := (blk_cell BK621.out 1).trans rfl
                            have hfz45_0 := blk_frozen BK621.out 0
                            have hfz45_1 := blk_frozen BK621.out 1
                            go_wp2_with (first | (go_at_call 15; (with_reducible refine (galloonlaw06_mod.calls a2_0 (wrap64 (2 + t622)) t641 _ A39.out).mono ?_); rintro e w' ⟨rfl, ⟨nd, rfl⟩⟩; (try first | exact ⟨rfl, _, World.drewN_drewN _ _ _⟩ | exact ⟨rfl, _, Eq.trans (World.drewN_drewN _ _ _) (congrArg (World.drewN _) (Nat.add_assoc _ _ _))⟩)) | ((with_reducible refine gate_dst (N := 101) rfl ?_); (try (refine gate_guard (by rfl) ?_; dsimp only)); refine Kd.R_lit (Kd.int .i64) _ 3 ?hg (N := 101) ?hd (xs := ([t641, 1] : List Int)) (inner := [.int .i64 t641, .int .i64 1]) (ok := fun _ => True) (okp := fun _ => True) ?hr ?hp (fun _ hk => hk) trivial (Below.refl _ _) (Nat.le_refl _) (by simp) ?_; (case hd => rfl); (case hg => rfl); (case hr => first | (go_simp; done) | (go_simp; rfl)); (case hp => exact (Reps.one (show Kd.M (Kd.int .i64) _ _ _ t641 [.int .i64 t641] from rfl) (Reps.one (show Kd.M (Kd.int .i64) _ _ _ 1 [.int .i64 1] from rfl) (Reps.none _ _)))); intro v643 w46 ho47 hb hg_ hnew_; clear hg_ hnew_; (first | rw [← Ny642.out] at ho47 | (simp only [Int.reduceToNat] at ho47; rw [← Ny642.out] at ho47)); have n0_ := Aside0.mk (Kd.R_elder' (by (with_reducible repeat (first | apply Kd.R_alloc | apply Kd.R_drewN | apply Kd.R_drew)); exact HO_8.out) (Kd.R_base ho47) hb); have n1_ := Aside0.mk (Kd.R_lower (Kd.R_new' ho47 (Kd.R_lt (by (with_reducible repeat (first | apply Kd.R_alloc | apply Kd.R_drewN | apply Kd.R_drew)); exact HO_8.out))) (below_size (by repeat (first | (with_reducible first | exact HB.out | apply below_alloc | apply pw_below_drewN | apply below_drew1 | refine below_set ?_ GE621.out) | exact HB.out)))); have n2_ := Aside0.mk (blk_below (g := gb621) (o := .cells #[.int .i64 a2_0, .int .i64 a2_1] 44 (0, 0)) (by (with_reducible repeat (first | refine blk_drewN ?_ _ | refine blk_drew ?_ | refine blk_alloc ?_ _)); exact BK621.out) hb); have n3_ := Aside0.mk (below_step (by repeat (first | (with_reducible first | exact HB.out | apply below_alloc | apply pw_below_drewN | apply below_drew1 | refine below_set ?_ GE621.out) | exact HB.out)) hb); clear HO_8; clear BK621; clear HB; have HO_8 := n0_; have HO644 := n1_; have BK621 := n2_; have HB := n3_; clear n0_ n1_ n2_ n3_; clear hb ho47; obtain ⟨Ao48, co48, eo48⟩ := Kd.R_slice HO644.out; subst eo48) | (go_at_call 35; (with_reducible refine (shuffle_Shifts.calls k2 (wrap64 (2 + t622)) _ _ y642 t645 t646 _ ?side1 ?side2 A40.out).mono ?_); (case side1 => repeat (first | exact (Kd.R_reads' HO644.out).2.2 | (with_reducible refine Kd.C_alloc ?_ _) | (with_reducible refine Kd.C_drewN ?_ _) | (with_reducible refine Kd.C_drew ?_))); (case side2 => exact (Kd.R_reads' HO644.out).2.1); rintro e w49 ⟨v647, rfl, ho0, hb⟩; have n0_ := Aside0.mk (Kd.R_elder' (by (with_reducible repeat (first | apply Kd.R_alloc | apply Kd.R_drewN | apply Kd.R_drew)); exact HO_8.out) (Kd.R_base ho0) hb); have n1_ := Aside0.mk (Kd.R_elder' (by (with_reducible repeat (first | apply Kd.R_alloc | apply Kd.R_drewN | apply Kd.R_drew)); exact HO644.out) (Kd.R_base ho0) hb); have n2_ := Aside0.mk (Kd.R_lower (Kd.R_new' (Kd.R_new' ho0 (Kd.R_lt (by (with_reducible repeat (first | apply Kd.R_alloc | apply Kd.R_drewN | apply Kd.R_drew)); exact HO_8.out))) (Kd.R_lt (by (with_reducible repeat (first | apply Kd.R_alloc | apply Kd.R_drewN | apply Kd.R_drew)); exact HO644.out))) (below_size (by repeat (first | (with_reducible first | exact HB.out | apply below_alloc | apply pw_below_drewN | apply below_drew1 | refine below_set ?_ GE621.out) | exact HB.out)))); have n3_ := Aside0.mk (blk_below (g := gb621) (o := .cells #[.int .i64 a2_0, .int .i64 a2_1] 44 (0, 0)) (by (with_reducible repeat (first | refine blk_drewN ?_ _ | refine blk_drew ?_ | refine blk_alloc ?_ _)); exact BK621.out) hb); have n4_ := Aside0.mk (below_step (by repeat (first | (with_reducible first | exact HB.out | apply below_alloc | apply pw_below_drewN | apply below_drew1 | refine below_set ?_ GE621.out) | exact HB.out)) hb); clear HO_8; clear HO644; clear BK621; clear HB; have HO_8 := n0_; have HO644 := n1_; have HO648 := n2_; have BK621 := n3_; have HB := n4_; clear n0_ n1_ n2_ n3_ n4_; (try clear hb); (try clear hb2); (try clear hk); (try clear hi); (try clear ho0); obtain ⟨Ao50, co50, eo50⟩ := Kd.R_slice HO648.out; subst eo50) | (go_at_call 19; (with_reducible refine (galloonlaw06_awake.calls k2  t649 _ A44.out).mono ?_); rintro e w51 ⟨rfl, hb⟩; have n0_ := Aside0.mk (Kd.R_below (by (with_reducible repeat (first | apply Kd.R_alloc | apply Kd.R_drewN | apply Kd.R_drew)); exact HO_8.out) hb); have n1_ := Aside0.mk (Kd.R_below (by (with_reducible repeat (first | apply Kd.R_alloc | apply Kd.R_drewN | apply Kd.R_drew)); exact HO644.out) hb); have n2_ := Aside0.mk (Kd.R_below (by (with_reducible repeat (first | apply Kd.R_alloc | apply Kd.R_drewN | apply Kd.R_drew)); exact HO648.out) hb); have n3_ := Aside0.mk (blk_below (g := gb621) (o := .cells #[.int .i64 a2_0, .int .i64 a2_1] 44 (0, 0)) (by (with_reducible repeat (first | refine blk_drewN ?_ _ | refine blk_drew ?_ | refine blk_alloc ?_ _)); exact BK621.out) hb); have n4_ := Aside0.mk (below_step (by repeat (first | (with_reducible first | exact HB.out | apply below_alloc | apply pw_below_drewN | apply below_drew1 | refine below_set ?_ GE621.out) | exact HB.out)) hb); clear HO_8; clear HO644; clear HO648; clear BK621; clear HB; have HO_8 := n0_; have HO644 := n1_; have HO648 := n2_; have BK621 := n3_; have HB := n4_; clear n0_ n1_ n2_ n3_ n4_; (try clear hb); (try clear hb2); (try clear hk); (try clear hi)))
                            repeat (go_quiet (first | (go_at_call 15; (with_reducible refine (galloonlaw06_mod.calls a2_0 (wrap64 (2 + t622)) t641 _ A39.out).mono ?_); rintro e w' ⟨rfl, ⟨nd, rfl⟩⟩; (try first | exact ⟨rfl, _, World.drewN_drewN _ _ _⟩ | exact ⟨rfl, _, Eq.trans (World.drewN_drewN _ _ _) (congrArg (World.drewN _) (Nat.add_assoc _ _ _))⟩)) | ((with_reducible refine gate_dst (N := 101) rfl ?_); (try (refine gate_guard (by rfl) ?_; dsimp only)); refine Kd.R_lit (Kd.int .i64) _ 3 ?hg (N := 101) ?hd (xs := ([t641, 1] : List Int)) (inner := [.int .i64 t641, .int .i64 1]) (ok := fun _ => True) (okp := fun _ => True) ?hr ?hp (fun _ hk => hk) trivial (Below.refl _ _) (Nat.le_refl _) (by simp) ?_; (case hd => rfl); (case hg => rfl); (case hr => first | (go_simp; done) | (go_simp; rfl)); (case hp => exact (Reps.one (show Kd.M (Kd.int .i64) _ _ _ t641 [.int .i64 t641] from rfl) (Reps.one (show Kd.M (Kd.int .i64) _ _ _ 1 [.int .i64 1] from rfl) (Reps.none _ _)))); intro v643 w46 ho47 hb hg_ hnew_; clear hg_ hnew_; (first | rw [← Ny642.out] at ho47 | (simp only [Int.reduceToNat] at ho47; rw [← Ny642.out] at ho47)); have n0_ := Aside0.mk (Kd.R_elder' (by (with_reducible repeat (first | apply Kd.R_alloc | apply Kd.R_drewN | apply Kd.R_drew)); exact HO_8.out) (Kd.R_base ho47) hb); have n1_ := Aside0.mk (Kd.R_lower (Kd.R_new' ho47 (Kd.R_lt (by (with_reducible repeat (first | apply Kd.R_alloc | apply Kd.R_drewN | apply Kd.R_drew)); exact HO_8.out))) (below_size (by repeat (first | (with_reducible first | exact HB.out | apply below_alloc | apply pw_below_drewN | apply below_drew1 | refine below_set ?_ GE621.out) | exact HB.out)))); have n2_ := Aside0.mk (blk_below (g := gb621) (o := .cells #[.int .i64 a2_0, .int .i64 a2_1] 44 (0, 0)) (by (with_reducible repeat (first | refine blk_drewN ?_ _ | refine blk_drew ?_ | refine blk_alloc ?_ _)); exact BK621.out) hb); have n3_ := Aside0.mk (below_step (by repeat (first | (with_reducible first | exact HB.out | apply below_alloc | apply pw_below_drewN | apply below_drew1 | refine below_set ?_ GE621.out) | exact HB.out)) hb); clear HO_8; clear BK621; clear HB; have HO_8 := n0_; have HO644 := n1_; have BK621 := n2_; have HB := n3_; clear n0_ n1_ n2_ n3_; clear hb ho47; obtain ⟨Ao48, co48, eo48⟩ := Kd.R_slice HO644.out; subst eo48) | (go_at_call 35; (with_reducible refine (shuffle_Shifts.calls k2 (wrap64 (2 + t622)) _ _ y642 t645 t646 _ ?side1 ?side2 A40.out).mono ?_); (case side1 => repeat (first | exact (Kd.R_reads' HO644.out).2.2 | (with_reducible refine Kd.C_alloc ?_ _) | (with_reducible refine Kd.C_drewN ?_ _) | (with_reducible refine Kd.C_drew ?_))); (case side2 => exact (Kd.R_reads' HO644.out).2.1); rintro e w49 ⟨v647, rfl, ho0, hb⟩; have n0_ := Aside0.mk (Kd.R_elder' (by (with_reducible repeat (first | apply Kd.R_alloc | apply Kd.R_drewN | apply Kd.R_drew)); exact HO_8.out) (Kd.R_base ho0) hb); have n1_ := Aside0.mk (Kd.R_elder' (by (with_reducible repeat (first | apply Kd.R_alloc | apply Kd.R_drewN | apply Kd.R_drew)); exact HO644.out) (Kd.R_base ho0) hb); have n2_ := Aside0.mk (Kd.R_lower (Kd.R_new' (Kd.R_new' ho0 (Kd.R_lt (by (with_reducible repeat (first | apply Kd.R_alloc | apply Kd.R_drewN | apply Kd.R_drew)); exact HO_8.out))) (Kd.R_lt (by (with_reducible repeat (first | apply Kd.R_alloc | apply Kd.R_drewN | apply Kd.R_drew)); exact HO644.out))) (below_size (by repeat (first | (with_reducible first | exact HB.out | apply below_alloc | apply pw_below_drewN | apply below_drew1 | refine below_set ?_ GE621.out) | exact HB.out)))); have n3_ := Aside0.mk (blk_below (g := gb621) (o := .cells #[.int .i64 a2_0, .int .i64 a2_1] 44 (0, 0)) (by (with_reducible repeat (first | refine blk_drewN ?_ _ | refine blk_drew ?_ | refine blk_alloc ?_ _)); exact BK621.out) hb); have n4_ := Aside0.mk (below_step (by repeat (first | (with_reducible first | exact HB.out | apply below_alloc | apply pw_below_drewN | apply below_drew1 | refine below_set ?_ GE621.out) | exact HB.out)) hb); clear HO_8; clear HO644; clear BK621; clear HB; have HO_8 := n0_; have HO644 := n1_; have HO648 := n2_; have BK621 := n3_; have HB := n4_; clear n0_ n1_ n2_ n3_ n4_; (try clear hb); (try clear hb2); (try clear hk); (try clear hi); (try clear ho0); obtain ⟨Ao50, co50, eo50⟩ := Kd.R_slice HO648.out; subst eo50) | (go_at_call 19; (with_reducible refine (galloonlaw06_awake.calls k2  t649 _ A44.out).mono ?_); rintro e w51 ⟨rfl, hb⟩; have n0_ := Aside0.mk (Kd.R_below (by (with_reducible repeat (first | apply Kd.R_alloc | apply Kd.R_drewN | apply Kd.R_drew)); exact HO_8.out) hb); have n1_ := Aside0.mk (Kd.R_below (by (with_reducible repeat (first | apply Kd.R_alloc | apply Kd.R_drewN | apply Kd.R_drew)); exact HO644.out) hb); have n2_ := Aside0.mk (Kd.R_below (by (with_reducible repeat (first | apply Kd.R_alloc | apply Kd.R_drewN | apply Kd.R_drew)); exact HO648.out) hb); have n3_ := Aside0.mk (blk_below (g := gb621) (o := .cells #[.int .i64 a2_0, .int .i64 a2_1] 44 (0, 0)) (by (with_reducible repeat (first | refine blk_drewN ?_ _ | refine blk_drew ?_ | refine blk_alloc ?_ _)); exact BK621.out) hb); have n4_ := Aside0.mk (below_step (by repeat (first | (with_reducible first | exact HB.out | apply below_alloc | apply pw_below_drewN | apply below_drew1 | refine below_set ?_ GE621.out) | exact HB.out)) hb); clear HO_8; clear HO644; clear HO648; clear BK621; clear HB; have HO_8 := n0_; have HO644 := n1_; have HO648 := n2_; have BK621 := n3_; have HB := n4_; clear n0_ n1_ n2_ n3_ n4_; (try clear hb); (try clear hb2); (try clear hk); (try clear hi))); try go_wp2_with (first | (go_at_call 15; (with_reducible refine (galloonlaw06_mod.calls a2_0 (wrap64 (2 + t622)) t641 _ A39.out).mono ?_); rintro e w' ⟨rfl, ⟨nd, rfl⟩⟩; (try first | exact ⟨rfl, _, World.drewN_drewN _ _ _⟩ | exact ⟨rfl, _, Eq.trans (World.drewN_drewN _ _ _) (congrArg (World.drewN _) (Nat.add_assoc _ _ _))⟩)) | ((with_reducible refine gate_dst (N := 101) rfl ?_); (try (refine gate_guard (by rfl) ?_; dsimp only)); refine Kd.R_lit (Kd.int .i64) _ 3 ?hg (N := 101) ?hd (xs := ([t641, 1] : List Int)) (inner := [.int .i64 t641, .int .i64 1]) (ok := fun _ => True) (okp := fun _ => True) ?hr ?hp (fun _ hk => hk) trivial (Below.refl _ _) (Nat.le_refl _) (by simp) ?_; (case hd => rfl); (case hg => rfl); (case hr => first | (go_simp; done) | (go_simp; rfl)); (case hp => exact (Reps.one (show Kd.M (Kd.int .i64) _ _ _ t641 [.int .i64 t641] from rfl) (Reps.one (show Kd.M (Kd.int .i64) _ _ _ 1 [.int .i64 1] from rfl) (Reps.none _ _)))); intro v643 w46 ho47 hb hg_ hnew_; clear hg_ hnew_; (first | rw [← Ny642.out] at ho47 | (simp only [Int.reduceToNat] at ho47; rw [← Ny642.out] at ho47)); have n0_ := Aside0.mk (Kd.R_elder' (by (with_reducible repeat (first | apply Kd.R_alloc | apply Kd.R_drewN | apply Kd.R_drew)); exact HO_8.out) (Kd.R_base ho47) hb); have n1_ := Aside0.mk (Kd.R_lower (Kd.R_new' ho47 (Kd.R_lt (by (with_reducible repeat (first | apply Kd.R_alloc | apply Kd.R_drewN | apply Kd.R_drew)); exact HO_8.out))) (below_size (by repeat (first | (with_reducible first | exact HB.out | apply below_alloc | apply pw_below_drewN | apply below_drew1 | refine below_set ?_ GE621.out) | exact HB.out)))); have n2_ := Aside0.mk (blk_below (g := gb621) (o := .cells #[.int .i64 a2_0, .int .i64 a2_1] 44 (0, 0)) (by (with_reducible repeat (first | refine blk_drewN ?_ _ | refine blk_drew ?_ | refine blk_alloc ?_ _)); exact BK621.out) hb); have n3_ := Aside0.mk (below_step (by repeat (first | (with_reducible first | exact HB.out | apply below_alloc | apply pw_below_drewN | apply below_drew1 | refine below_set ?_ GE621.out) | exact HB.out)) hb); clear HO_8; clear BK621; clear HB; have HO_8 := n0_; have HO644 := n1_; have BK621 := n2_; have HB := n3_; clear n0_ n1_ n2_ n3_; clear hb ho47; obtain ⟨Ao48, co48, eo48⟩ := Kd.R_slice HO644.out; subst eo48) | (go_at_call 35; (with_reducible refine (shuffle_Shifts.calls k2 (wrap64 (2 + t622)) _ _ y642 t645 t646 _ ?side1 ?side2 A40.out).mono ?_); (case side1 => repeat (first | exact (Kd.R_reads' HO644.out).2.2 | (with_reducible refine Kd.C_alloc ?_ _) | (with_reducible refine Kd.C_drewN ?_ _) | (with_reducible refine Kd.C_drew ?_))); (case side2 => exact (Kd.R_reads' HO644.out).2.1); rintro e w49 ⟨v647, rfl, ho0, hb⟩; have n0_ := Aside0.mk (Kd.R_elder' (by (with_reducible repeat (first | apply Kd.R_alloc | apply Kd.R_drewN | apply Kd.R_drew)); exact HO_8.out) (Kd.R_base ho0) hb); have n1_ := Aside0.mk (Kd.R_elder' (by (with_reducible repeat (first | apply Kd.R_alloc | apply Kd.R_drewN | apply Kd.R_drew)); exact HO644.out) (Kd.R_base ho0) hb); have n2_ := Aside0.mk (Kd.R_lower (Kd.R_new' (Kd.R_new' ho0 (Kd.R_lt (by (with_reducible repeat (first | apply Kd.R_alloc | apply Kd.R_drewN | apply Kd.R_drew)); exact HO_8.out))) (Kd.R_lt (by (with_reducible repeat (first | apply Kd.R_alloc | apply Kd.R_drewN | apply Kd.R_drew)); exact HO644.out))) (below_size (by repeat (first | (with_reducible first | exact HB.out | apply below_alloc | apply pw_below_drewN | apply below_drew1 | refine below_set ?_ GE621.out) | exact HB.out)))); have n3_ := Aside0.mk (blk_below (g := gb621) (o := .cells #[.int .i64 a2_0, .int .i64 a2_1] 44 (0, 0)) (by (with_reducible repeat (first | refine blk_drewN ?_ _ | refine blk_drew ?_ | refine blk_alloc ?_ _)); exact BK621.out) hb); have n4_ := Aside0.mk (below_step (by repeat (first | (with_reducible first | exact HB.out | apply below_alloc | apply pw_below_drewN | apply below_drew1 | refine below_set ?_ GE621.out) | exact HB.out)) hb); clear HO_8; clear HO644; clear BK621; clear HB; have HO_8 := n0_; have HO644 := n1_; have HO648 := n2_; have BK621 := n3_; have HB := n4_; clear n0_ n1_ n2_ n3_ n4_; (try clear hb); (try clear hb2); (try clear hk); (try clear hi); (try clear ho0); obtain ⟨Ao50, co50, eo50⟩ := Kd.R_slice HO648.out; subst eo50) | (go_at_call 19; (with_reducible refine (galloonlaw06_awake.calls k2  t649 _ A44.out).mono ?_); rintro e w51 ⟨rfl, hb⟩; have n0_ := Aside0.mk (Kd.R_below (by (with_reducible repeat (first | apply Kd.R_alloc | apply Kd.R_drewN | apply Kd.R_drew)); exact HO_8.out) hb); have n1_ := Aside0.mk (Kd.R_below (by (with_reducible repeat (first | apply Kd.R_alloc | apply Kd.R_drewN | apply Kd.R_drew)); exact HO644.out) hb); have n2_ := Aside0.mk (Kd.R_below (by (with_reducible repeat (first | apply Kd.R_alloc | apply Kd.R_drewN | apply Kd.R_drew)); exact HO648.out) hb); have n3_ := Aside0.mk (blk_below (g := gb621) (o := .cells #[.int .i64 a2_0, .int .i64 a2_1] 44 (0, 0)) (by (with_reducible repeat (first | refine blk_drewN ?_ _ | refine blk_drew ?_ | refine blk_alloc ?_ _)); exact BK621.out) hb); have n4_ := Aside0.mk (below_step (by repeat (first | (with_reducible first | exact HB.out | apply below_alloc | apply pw_below_drewN | apply below_drew1 | refine below_set ?_ GE621.out) | exact HB.out)) hb); clear HO_8; clear HO644; clear HO648; clear BK621; clear HB; have HO_8 := n0_; have HO644 := n1_; have HO648 := n2_; have BK621 := n3_; have HB := n4_; clear n0_ n1_ n2_ n3_ n4_; (try clear hb); (try clear hb2); (try clear hk); (try clear hi))))
                            go_ret
                            exact ⟨by first | rfl | (simp [errW_none, errW_some] <;> rfl) | (simp [*, errW_none, errW_some] <;> rfl), by repeat (first | (with_reducible first | exact HB.out | apply below_alloc | apply pw_below_drewN | apply below_drew1 | refine below_set ?_ GE621.out) | exact HB.out)⟩
                          · rw [if_neg c43] at H
                            exact absurd H (by simp)
                        · rw [if_neg c42] at H
                          exact absurd H (by simp)
                      · replace c41 := Bool.eq_false_iff.mpr c41
                        subst c41
                        have H1 : (none) = some r := by rw [if_neg (show ¬ (false = true) by decide)] at H; exact H
                        clear H
                        have H := H1
                        clear H1
                        exact absurd H (by simp)
              · rw [if_neg c24] at H
                exact absurd H (by simp)
            · rw [if_neg c23] at H
              exact absurd H (by simp)
          · rw [if_neg c21] at H
            exact absurd H (by simp)
        · rw [if_neg c20] at H
          exact absurd H (by simp)

end Go.Proofs.Ytkjjnfbgcdanmaa.P
