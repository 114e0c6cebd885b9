-- Written by a program of this session (wip/xprint.py), over the kit's print; some sections by hand.
import Derived.Test.YtoecbchfdgbliaaPx0
import Derived.Test.YtoecbchfdgbliaaPx1
import Derived.Test.YtoecbchfdgbliaaPx3
import Derived.Test.YtoecbchfdgbliaaPx4
namespace Go.Proofs.Ytoecbchfdgbliaa.P
open Go.RowKit Go.Proofs.YtoecbchfdgbliaaW.PrintWords Go.Proofs.YtoecbchfdgbliaaW.PrintLast Go.Proofs.YtoecbchfdgbliaaW.PrintMore
attribute [local go_sem] max2_int min2_int max_two min_two max_three min_three max_four min_four   -- for this text's walks alone
set_option linter.unusedVariables false
set_option linter.unusedSimpArgs false

/-! ### galloonlaw09_RemnantDivided: function 5 -/
mutual
def galloonlaw09_RemnantDivided.j0 : Nat → Int → Int → List Int → List Int → Int → List Int → Int → Bool → Option (Bool)
 | 0, _, _, _, _, _, _, _, _ => none
 | k + 1, x0, x2, x7, x8, x9, x11, x12, x59 => if x59 = true then (none) else (galloonlaw09_RemnantDivided.l0 k x0 x2 x7 x8 x9 x11 x12 0 0 0 0)
def galloonlaw09_RemnantDivided.l0 : Nat → Int → Int → List Int → List Int → Int → List Int → Int → Int → Int → Int → Int → Option (Bool)
 | 0, _, _, _, _, _, _, _, _, _, _, _ => none
 | k + 1, x0, x2, x7, x8, x9, x11, x12, x14, x15, x16, x17 => if x17 < (x8.length : Int) then (if 0 ≤ x17 then (if 0 ≤ (rd x8 x17) then (if (rd x8 x17) < (x7.length : Int) then (galloonlaw09_RemnantDivided.l0 k x0 x2 x7 x8 x9 x11 x12 (wrap64 (x14 + (rd x7 (rd x8 x17)))) x15 x16 (wrap64 (x17 + 1))) else (none)) else (none)) else (none)) else (galloonlaw09_RemnantDivided.l1 k x0 x2 x7 x8 x9 x11 x12 x14 x15 x16 0)
def galloonlaw09_RemnantDivided.l1 : Nat → Int → Int → List Int → List Int → Int → List Int → Int → Int → Int → Int → Int → Option (Bool)
 | 0, _, _, _, _, _, _, _, _, _, _, _ => none
 | k + 1, x0, x2, x7, x8, x9, x11, x12, x14, x15, x16, x18 => if x18 < (x11.length : Int) then (if 0 ≤ x18 then (if 0 ≤ (rd x11 x18) then (if (rd x11 x18) < (x7.length : Int) then (galloonlaw09_RemnantDivided.l1 k x0 x2 x7 x8 x9 x11 x12 x14 (wrap64 (x15 + (rd x7 (rd x11 x18)))) x16 (wrap64 (x18 + 1))) else (none)) else (none)) else (none)) else (galloonlaw09_RemnantDivided.l2 k x0 x2 x7 x8 x9 x12 x14 x15 x16 0)
def galloonlaw09_RemnantDivided.l2 : Nat → Int → Int → List Int → List Int → Int → Int → Int → Int → Int → Int → Option (Bool)
 | 0, _, _, _, _, _, _, _, _, _, _ => none
 | k + 1, x0, x2, x7, x8, x9, x12, x14, x15, x16, x19 => if x19 < (x7.length : Int) then ((galloonlaw09_mod.f x2 4096).bind fun t321 => (if 0 ≤ x19 then (if (Int.tmod (shr .i64 t321 x19) 2) = 1 then (galloonlaw09_RemnantDivided.l2 k x0 x2 x7 x8 x9 x12 x14 x15 (wrap64 (x16 + (rd x7 x19))) (wrap64 (x19 + 1))) else (galloonlaw09_RemnantDivided.l2 k x0 x2 x7 x8 x9 x12 x14 x15 x16 (wrap64 (x19 + 1)))) else (none))) else ((galloonlaw09_sum.f k x7).bind fun t323 => (if (mx (wrap64 ((wrap64 (2 * x14)) - t323)) (wrap64 (-(wrap64 ((wrap64 (2 * x14)) - t323))))) = x9 then (if (mx (wrap64 ((wrap64 (2 * x16)) - t323)) (wrap64 (-(wrap64 ((wrap64 (2 * x16)) - t323))))) ≥ x9 then (if (Int.tmod (wrap64 (x9 - t323)) 2) = 0 then (if (x7.length : Int) = 0 then (if (wrap64 (x0 - x15)) = x12 then (if x12 ≥ 0 then (if x16 > x0 then ((galloonlaw09_awake.f k).bind fun t324 => (some t324)) else (if x16 ≤ x15 then ((galloonlaw09_awake.f k).bind fun t325 => (some t325)) else (none))) else (none)) else (none)) else (if 0 < (x8.length : Int) then (if (rd x8 0) = 0 then (if (wrap64 (x0 - x15)) = x12 then (if x12 ≥ 0 then (if x16 > x0 then ((galloonlaw09_awake.f k).bind fun t327 => (some t327)) else (if x16 ≤ x15 then ((galloonlaw09_awake.f k).bind fun t328 => (some t328)) else (none))) else (none)) else (none)) else (none)) else (none))) else (none)) else (none)) else (none)))
end
def galloonlaw09_RemnantDivided.f (k : Nat) (a0 : Int) (l1 : List Int) (a2 : Int) : Option (Bool) := (galloonlaw09_tame.f k a0 l1 12).bind fun bt301 => ((remnant_Split.f bt301.2).bind fun bt305 => ((remnant_Rest.f bt301.1 bt301.2).bind fun bt310 => (if bt305.2.2 = 0 then (if bt310.2.2 = 0 then ((galloonlaw09_places.f k bt301.2 bt305.1).bind fun t315 => (if t315 = true then ((galloonlaw09_places.f k bt301.2 bt310.1).bind fun t316 => (galloonlaw09_RemnantDivided.j0 k bt301.1 a2 bt301.2 bt305.1 bt305.2.1 bt310.1 bt310.2.1 (!t316))) else (none))) else (none)) else (none))))
theorem galloonlaw09_RemnantDivided.mono_l : ∀ k, (∀ y0 y1 y2 y3 y4 y5 y6 y7, LeO (galloonlaw09_RemnantDivided.j0 k y0 y1 y2 y3 y4 y5 y6 y7) (galloonlaw09_RemnantDivided.j0 (k + 1) y0 y1 y2 y3 y4 y5 y6 y7)) ∧ (∀ y0 y1 y2 y3 y4 y5 y6 y7 y8 y9 y10, LeO (galloonlaw09_RemnantDivided.l0 k y0 y1 y2 y3 y4 y5 y6 y7 y8 y9 y10) (galloonlaw09_RemnantDivided.l0 (k + 1) y0 y1 y2 y3 y4 y5 y6 y7 y8 y9 y10)) ∧ (∀ y0 y1 y2 y3 y4 y5 y6 y7 y8 y9 y10, LeO (galloonlaw09_RemnantDivided.l1 k y0 y1 y2 y3 y4 y5 y6 y7 y8 y9 y10) (galloonlaw09_RemnantDivided.l1 (k + 1) y0 y1 y2 y3 y4 y5 y6 y7 y8 y9 y10)) ∧ (∀ y0 y1 y2 y3 y4 y5 y6 y7 y8 y9, LeO (galloonlaw09_RemnantDivided.l2 k y0 y1 y2 y3 y4 y5 y6 y7 y8 y9) (galloonlaw09_RemnantDivided.l2 (k + 1) y0 y1 y2 y3 y4 y5 y6 y7 y8 y9))
 | 0 => ⟨fun _ _ _ _ _ _ _ _ r h => by simp [galloonlaw09_RemnantDivided.j0] at h, fun _ _ _ _ _ _ _ _ _ _ _ r h => by simp [galloonlaw09_RemnantDivided.l0] at h, fun _ _ _ _ _ _ _ _ _ _ _ r h => by simp [galloonlaw09_RemnantDivided.l1] at h, fun _ _ _ _ _ _ _ _ _ _ r h => by simp [galloonlaw09_RemnantDivided.l2] at h⟩
 | k + 1 => by
  obtain ⟨ih0, ih1, ih2, ih3⟩ := galloonlaw09_RemnantDivided.mono_l k
  refine ⟨?_, ?_, ?_, ?_⟩
  ·
   intro y0 y1 y2 y3 y4 y5 y6 y7
   unfold galloonlaw09_RemnantDivided.j0
   repeat' first
   | (with_reducible exact ih0 _ _ _ _ _ _ _ _)
   | (with_reducible exact ih1 _ _ _ _ _ _ _ _ _ _ _)
   | (with_reducible exact ih2 _ _ _ _ _ _ _ _ _ _ _)
   | (with_reducible exact ih3 _ _ _ _ _ _ _ _ _ _)
   | (with_reducible exact galloonlaw09_awake.mono _)
   | (with_reducible exact galloonlaw09_places.mono _ _ _)
   | (with_reducible exact galloonlaw09_sum.mono _ _)
   | (with_reducible exact galloonlaw09_tame.mono _ _ _ _)
   | (with_reducible exact LeO.refl _)
   | (with_reducible exact LeO.none _)
   | (with_reducible refine LeO.ite ?_ ?_)
   | (with_reducible refine LeO.bind ?_ (fun _ => ?_))
   | exact ih0 _ _ _ _ _ _ _ _
   | exact ih1 _ _ _ _ _ _ _ _ _ _ _
   | exact ih2 _ _ _ _ _ _ _ _ _ _ _
   | exact ih3 _ _ _ _ _ _ _ _ _ _
   | exact galloonlaw09_awake.mono _
   | exact galloonlaw09_places.mono _ _ _
   | exact galloonlaw09_sum.mono _ _
   | exact galloonlaw09_tame.mono _ _ _ _
   | exact LeO.none _
   | refine LeO.ite ?_ ?_
   | refine LeO.bind ?_ (fun _ => ?_)
  ·
   intro y0 y1 y2 y3 y4 y5 y6 y7 y8 y9 y10
   unfold galloonlaw09_RemnantDivided.l0
   repeat' first
   | (with_reducible exact ih0 _ _ _ _ _ _ _ _)
   | (with_reducible exact ih1 _ _ _ _ _ _ _ _ _ _ _)
   | (with_reducible exact ih2 _ _ _ _ _ _ _ _ _ _ _)
   | (with_reducible exact ih3 _ _ _ _ _ _ _ _ _ _)
   | (with_reducible exact galloonlaw09_awake.mono _)
   | (with_reducible exact galloonlaw09_places.mono _ _ _)
   | (with_reducible exact galloonlaw09_sum.mono _ _)
   | (with_reducible exact galloonlaw09_tame.mono _ _ _ _)
   | (with_reducible exact LeO.refl _)
   | (with_reducible exact LeO.none _)
   | (with_reducible refine LeO.ite ?_ ?_)
   | (with_reducible refine LeO.bind ?_ (fun _ => ?_))
   | exact ih0 _ _ _ _ _ _ _ _
   | exact ih1 _ _ _ _ _ _ _ _ _ _ _
   | exact ih2 _ _ _ _ _ _ _ _ _ _ _
   | exact ih3 _ _ _ _ _ _ _ _ _ _
   | exact galloonlaw09_awake.mono _
   | exact galloonlaw09_places.mono _ _ _
   | exact galloonlaw09_sum.mono _ _
   | exact galloonlaw09_tame.mono _ _ _ _
   | exact LeO.none _
   | refine LeO.ite ?_ ?_
   | refine LeO.bind ?_ (fun _ => ?_)
  ·
   intro y0 y1 y2 y3 y4 y5 y6 y7 y8 y9 y10
   unfold galloonlaw09_RemnantDivided.l1
   repeat' first
   | (with_reducible exact ih0 _ _ _ _ _ _ _ _)
   | (with_reducible exact ih1 _ _ _ _ _ _ _ _ _ _ _)
   | (with_reducible exact ih2 _ _ _ _ _ _ _ _ _ _ _)
   | (with_reducible exact ih3 _ _ _ _ _ _ _ _ _ _)
   | (with_reducible exact galloonlaw09_awake.mono _)
   | (with_reducible exact galloonlaw09_places.mono _ _ _)
   | (with_reducible exact galloonlaw09_sum.mono _ _)
   | (with_reducible exact galloonlaw09_tame.mono _ _ _ _)
   | (with_reducible exact LeO.refl _)
   | (with_reducible exact LeO.none _)
   | (with_reducible refine LeO.ite ?_ ?_)
   | (with_reducible refine LeO.bind ?_ (fun _ => ?_))
   | exact ih0 _ _ _ _ _ _ _ _
   | exact ih1 _ _ _ _ _ _ _ _ _ _ _
   | exact ih2 _ _ _ _ _ _ _ _ _ _ _
   | exact ih3 _ _ _ _ _ _ _ _ _ _
   | exact galloonlaw09_awake.mono _
   | exact galloonlaw09_places.mono _ _ _
   | exact galloonlaw09_sum.mono _ _
   | exact galloonlaw09_tame.mono _ _ _ _
   | exact LeO.none _
   | refine LeO.ite ?_ ?_
   | refine LeO.bind ?_ (fun _ => ?_)
  ·
   intro y0 y1 y2 y3 y4 y5 y6 y7 y8 y9
   unfold galloonlaw09_RemnantDivided.l2
   repeat' first
   | (with_reducible exact ih0 _ _ _ _ _ _ _ _)
   | (with_reducible exact ih1 _ _ _ _ _ _ _ _ _ _ _)
   | (with_reducible exact ih2 _ _ _ _ _ _ _ _ _ _ _)
   | (with_reducible exact ih3 _ _ _ _ _ _ _ _ _ _)
   | (with_reducible exact galloonlaw09_awake.mono _)
   | (with_reducible exact galloonlaw09_places.mono _ _ _)
   | (with_reducible exact galloonlaw09_sum.mono _ _)
   | (with_reducible exact galloonlaw09_tame.mono _ _ _ _)
   | (with_reducible exact LeO.refl _)
   | (with_reducible exact LeO.none _)
   | (with_reducible refine LeO.ite ?_ ?_)
   | (with_reducible refine LeO.bind ?_ (fun _ => ?_))
   | exact ih0 _ _ _ _ _ _ _ _
   | exact ih1 _ _ _ _ _ _ _ _ _ _ _
   | exact ih2 _ _ _ _ _ _ _ _ _ _ _
   | exact ih3 _ _ _ _ _ _ _ _ _ _
   | exact galloonlaw09_awake.mono _
   | exact galloonlaw09_places.mono _ _ _
   | exact galloonlaw09_sum.mono _ _
   | exact galloonlaw09_tame.mono _ _ _ _
   | exact LeO.none _
   | refine LeO.ite ?_ ?_
   | refine LeO.bind ?_ (fun _ => ?_)
theorem galloonlaw09_RemnantDivided.mono : ∀ a0 a1 a2 k, LeO (galloonlaw09_RemnantDivided.f k a0 a1 a2) (galloonlaw09_RemnantDivided.f (k + 1) a0 a1 a2) := by
 intro a0 a1 a2 k
 obtain ⟨ih0, ih1, ih2, ih3⟩ := galloonlaw09_RemnantDivided.mono_l k
 unfold galloonlaw09_RemnantDivided.f
 repeat' first
   | (with_reducible exact ih0 _ _ _ _ _ _ _ _)
   | (with_reducible exact ih1 _ _ _ _ _ _ _ _ _ _ _)
   | (with_reducible exact ih2 _ _ _ _ _ _ _ _ _ _ _)
   | (with_reducible exact ih3 _ _ _ _ _ _ _ _ _ _)
   | (with_reducible exact galloonlaw09_awake.mono _)
   | (with_reducible exact galloonlaw09_places.mono _ _ _)
   | (with_reducible exact galloonlaw09_sum.mono _ _)
   | (with_reducible exact galloonlaw09_tame.mono _ _ _ _)
   | (with_reducible exact LeO.refl _)
   | (with_reducible exact LeO.none _)
   | (with_reducible refine LeO.ite ?_ ?_)
   | (with_reducible refine LeO.bind ?_ (fun _ => ?_))
   | exact ih0 _ _ _ _ _ _ _ _
   | exact ih1 _ _ _ _ _ _ _ _ _ _ _
   | exact ih2 _ _ _ _ _ _ _ _ _ _ _
   | exact ih3 _ _ _ _ _ _ _ _ _ _
   | exact galloonlaw09_awake.mono _
   | exact galloonlaw09_places.mono _ _ _
   | exact galloonlaw09_sum.mono _ _
   | exact galloonlaw09_tame.mono _ _ _ _
   | exact LeO.none _
   | refine LeO.ite ?_ ?_
   | refine LeO.bind ?_ (fun _ => ?_)
set_option maxHeartbeats 8000000 in
set_option maxRecDepth 100000 in
theorem galloonlaw09_RemnantDivided.calls (k : Nat) (a0 : Int) (A1 : Option Addr) (c1 : Nat) (l1 : List Int) (a2 : Int) (r : Bool) (w : World) (hr1 : Kd.C (Kd.int .i64) w A1 l1.length l1) (hc1 : l1.length ≤ c1) (h : galloonlaw09_RemnantDivided.f k a0 l1 a2 = some r) :
  Calls Try.prog 5 #[.int .i64 a0, .slice A1 l1.length c1, .int .i64 a2] w fun e w' => e = .returned (.bool r) ∧ Below w.heap.size w w' := by
 have HR1 := Aside0.mk hr1
 have HC1 := Aside0.mk hc1
 clear hr1 hc1
 have HB := Aside0.mk (Below.refl w.heap.size w)
 have H : ((galloonlaw09_tame.f k a0 l1 12).bind fun bt301 => ((remnant_Split.f bt301.2).bind fun bt305 => ((remnant_Rest.f bt301.1 bt301.2).bind fun bt310 => (if bt305.2.2 = 0 then (if bt310.2.2 = 0 then ((galloonlaw09_places.f k bt301.2 bt305.1).bind fun t315 => (if t315 = true then ((galloonlaw09_places.f k bt301.2 bt310.1).bind fun t316 => (galloonlaw09_RemnantDivided.j0 k bt301.1 a2 bt301.2 bt305.1 bt305.2.1 bt310.1 bt310.2.1 (!t316))) else (none))) else (none)) else (none))))) = some r := h
 clear h
 replace H := Option.bind_eq_some_iff.mp H
 obtain ⟨⟨t301, t302⟩, A40, H⟩ := H
 replace H : ((remnant_Split.f t302).bind fun bt305 => ((remnant_Rest.f t301 t302).bind fun bt310 => (if bt305.2.2 = 0 then (if bt310.2.2 = 0 then ((galloonlaw09_places.f k t302 bt305.1).bind fun t315 => (if t315 = true then ((galloonlaw09_places.f k t302 bt310.1).bind fun t316 => (galloonlaw09_RemnantDivided.j0 k t301 a2 t302 bt305.1 bt305.2.1 bt310.1 bt310.2.1 (!t316))) else (none))) else (none)) else (none)))) = some r := H
 have A4 := Aside0.mk A40
 clear A40
 replace H := Option.bind_eq_some_iff.mp H
 obtain ⟨⟨t305, t306, t307⟩, A50, H⟩ := H
 replace H : ((remnant_Rest.f t301 t302).bind fun bt310 => (if t307 = 0 then (if bt310.2.2 = 0 then ((galloonlaw09_places.f k t302 t305).bind fun t315 => (if t315 = true then ((galloonlaw09_places.f k t302 bt310.1).bind fun t316 => (galloonlaw09_RemnantDivided.j0 k t301 a2 t302 t305 t306 bt310.1 bt310.2.1 (!t316))) else (none))) else (none)) else (none))) = some r := H
 have A5 := Aside0.mk A50
 clear A50
 replace H := Option.bind_eq_some_iff.mp H
 obtain ⟨⟨t310, t311, t312⟩, A60, H⟩ := H
 replace H : (if t307 = 0 then (if t312 = 0 then ((galloonlaw09_places.f k t302 t305).bind fun t315 => (if t315 = true then ((galloonlaw09_places.f k t302 t310).bind fun t316 => (galloonlaw09_RemnantDivided.j0 k t301 a2 t302 t305 t306 t310 t311 (!t316))) else (none))) else (none)) else (none)) = some r := H
 have A6 := Aside0.mk A60
 clear A60
 have HC7 := Aside0.mk H
 clear H
 go_enter Try.func5, Try.ntmps5
 go_upto_region 4 with (first | ((with_reducible refine gate_callee (f := 27) rfl ?_); refine goesL_ (some 26) rfl rfl Try.func27 (by kernel_rfl) rfl #[.int .i64 a0, .slice A1 l1.length c1, .int .i64 12] rfl (by (try simp only [List.map_toArray, List.map_cons, List.map_nil]); first | done | rfl | (simp only [List.length_drop, List.length_take]; rfl)) ?_; (with_reducible refine (galloonlaw09_tame.calls k a0 _ _ l1 12 t301 t302 _ ?side1 ?side2 A4.out).mono ?_); (case side1 => repeat (first | exact HR1.out | (with_reducible refine Kd.C_alloc ?_ _) | (with_reducible refine Kd.C_drewN ?_ _) | (with_reducible refine Kd.C_drew ?_))); (case side2 => exact HC1.out); rintro e w8 ⟨v303, rfl, ho0, hb⟩; refine ⟨_, rfl, ?_⟩; have n0_ := Aside0.mk (Kd.R_lower ho0 (below_size (by repeat (first | (with_reducible first | exact HB.out | apply below_alloc | apply pw_below_drewN | apply below_drew1) | exact HB.out)))); have n1_ := Aside0.mk (below_step (by repeat (first | (with_reducible first | exact HB.out | apply below_alloc | apply pw_below_drewN | apply below_drew1) | exact HB.out)) hb); clear HB; have HO304 := n0_; have HB := n1_; clear n0_ n1_; (try clear hb); (try clear hb2); (try clear hk); (try clear hi); (try clear ho0); obtain ⟨Ao9, co9, eo9⟩ := Kd.R_slice HO304.out; subst eo9) | ((with_reducible refine gate_callee (f := 22) rfl ?_); refine goesL_ (some 31) rfl rfl Try.func22 (by kernel_rfl) rfl #[.slice Ao9 t302.length co9] rfl (by (try simp only [List.map_toArray, List.map_cons, List.map_nil]); first | done | rfl | (simp only [List.length_drop, List.length_take]; rfl)) ?_; (with_reducible refine (remnant_Split.calls _ _ t302 t305 t306 t307 _ ?side1 ?side2 A5.out).mono ?_); (case side1 => repeat (first | exact (Kd.R_reads' HO304.out).2.2 | (with_reducible refine Kd.C_alloc ?_ _) | (with_reducible refine Kd.C_drewN ?_ _) | (with_reducible refine Kd.C_drew ?_))); (case side2 => exact (Kd.R_reads' HO304.out).2.1); rintro e w10 ⟨v308, rfl, ho0, hb⟩; refine ⟨_, rfl, ?_⟩; have n0_ := Aside0.mk (Kd.R_elder' (by (with_reducible repeat (first | apply Kd.R_alloc | apply Kd.R_drewN | apply Kd.R_drew)); exact HO304.out) (Kd.R_base ho0) hb); have n1_ := Aside0.mk (Kd.R_lower (Kd.R_new' ho0 (Kd.R_lt (by (with_reducible repeat (first | apply Kd.R_alloc | apply Kd.R_drewN | apply Kd.R_drew)); exact HO304.out))) (below_size (by repeat (first | (with_reducible first | exact HB.out | apply below_alloc | apply pw_below_drewN | apply below_drew1) | exact HB.out)))); have n2_ := Aside0.mk (below_step (by repeat (first | (with_reducible first | exact HB.out | apply below_alloc | apply pw_below_drewN | apply below_drew1) | exact HB.out)) hb); clear HO304; clear HB; have HO304 := n0_; have HO309 := n1_; have HB := n2_; clear n0_ n1_ n2_; (try clear hb); (try clear hb2); (try clear hk); (try clear hi); (try clear ho0)) | ((with_reducible refine gate_callee (f := 23) rfl ?_); refine goesL_ (some 38) rfl rfl Try.func23 (by kernel_rfl) rfl #[.int .i64 t301, .slice Ao9 t302.length co9] rfl (by (try simp only [List.map_toArray, List.map_cons, List.map_nil]); first | done | rfl | (simp only [List.length_drop, List.length_take]; rfl)) ?_; (with_reducible refine (remnant_Rest.calls t301 _ _ t302 t310 t311 t312 _ ?side1 ?side2 A6.out).mono ?_); (case side1 => repeat (first | exact (Kd.R_reads' HO304.out).2.2 | (with_reducible refine Kd.C_alloc ?_ _) | (with_reducible refine Kd.C_drewN ?_ _) | (with_reducible refine Kd.C_drew ?_))); (case side2 => exact (Kd.R_reads' HO304.out).2.1); rintro e w11 ⟨v313, rfl, ho0, hb⟩; refine ⟨_, rfl, ?_⟩; have n0_ := Aside0.mk (Kd.R_elder' (by (with_reducible repeat (first | apply Kd.R_alloc | apply Kd.R_drewN | apply Kd.R_drew)); exact HO304.out) (Kd.R_base ho0) hb); have n1_ := Aside0.mk (Kd.R_elder' (by (with_reducible repeat (first | apply Kd.R_alloc | apply Kd.R_drewN | apply Kd.R_drew)); exact HO309.out) (Kd.R_base ho0) hb); have n2_ := Aside0.mk (Kd.R_lower (Kd.R_new' (Kd.R_new' ho0 (Kd.R_lt (by (with_reducible repeat (first | apply Kd.R_alloc | apply Kd.R_drewN | apply Kd.R_drew)); exact HO304.out))) (Kd.R_lt (by (with_reducible repeat (first | apply Kd.R_alloc | apply Kd.R_drewN | apply Kd.R_drew)); exact HO309.out))) (below_size (by repeat (first | (with_reducible first | exact HB.out | apply below_alloc | apply pw_below_drewN | apply below_drew1) | exact HB.out)))); have n3_ := Aside0.mk (below_step (by repeat (first | (with_reducible first | exact HB.out | apply below_alloc | apply pw_below_drewN | apply below_drew1) | exact HB.out)) hb); clear HO304; clear HO309; clear HB; have HO304 := n0_; have HO309 := n1_; have HO314 := n2_; have HB := n3_; clear n0_ n1_ n2_ n3_; (try clear hb); (try clear hb2); (try clear hk); (try clear hi); (try clear ho0)))
 (try simp only [Act.put, List.setIfInBounds_toArray, List.set_cons_zero, List.set_cons_succ])
 go_cut [59] (fun v59 wc => ∃ (kq : Nat) (x59_6 : Bool), v59 = .bool x59_6 ∧ Aside0 (galloonlaw09_RemnantDivided.j0 kq t301 a2 t302 t305 t306 t310 t311 x59_6 = some r) ∧ Aside0 (kq ≤ k) ∧ Aside0 (Kd.R (Kd.int .i64) 3 wc w.heap.size (fun k_ => some k_ ≠ (v308 : Value).ownBlock ∧ some k_ ≠ (v313 : Value).ownBlock) (.slice Ao9 t302.length co9) t302) ∧ Aside0 (Kd.R (Kd.int .i64) 3 wc w.heap.size (fun k_ => some k_ ≠ ((.slice Ao9 t302.length co9) : Value).ownBlock ∧ some k_ ≠ (v313 : Value).ownBlock) v308 t305) ∧ Aside0 (Kd.R (Kd.int .i64) 3 wc w.heap.size (fun k_ => some k_ ≠ ((.slice Ao9 t302.length co9) : Value).ownBlock ∧ some k_ ≠ (v308 : Value).ownBlock) v313 t310) ∧ Aside0 (Below w.heap.size w wc))
 case first =>
  as_aux_lemma =>
  have H := HC7.out
  clear HC7
  by_cases c12 : t307 = 0
  ·
   rw [if_pos c12] at H
   have c12b0 : (t307 == 0) = true := beq_iff_eq.mpr c12
   have c12b1 : (t307 != 0) = false := bne_eq_false_iff_eq.mpr c12
   clear c12
   (first | rw [c12b0] | (simp only [i64_w, i32_w]; rw [c12b0]) | skip)
   by_cases c13 : t312 = 0
   ·
    rw [if_pos c13] at H
    have c13b0 : (t312 == 0) = true := beq_iff_eq.mpr c13
    have c13b1 : (t312 != 0) = false := bne_eq_false_iff_eq.mpr c13
    clear c13
    replace H := Option.bind_eq_some_iff.mp H
    obtain ⟨t315, A140, H⟩ := H
    replace H : (if t315 = true then ((galloonlaw09_places.f k t302 t310).bind fun t316 => (galloonlaw09_RemnantDivided.j0 k t301 a2 t302 t305 t306 t310 t311 (!t316))) else (none)) = some r := H
    have A14 := Aside0.mk A140
    clear A140
    by_cases c15 : t315 = true
    ·
     subst c15
     have H1 : ((galloonlaw09_places.f k t302 t310).bind fun t316 => (galloonlaw09_RemnantDivided.j0 k t301 a2 t302 t305 t306 t310 t311 (!t316))) = some r := by rw [if_pos rfl] at H; exact H
     clear H
     have H := H1
     clear H1
     replace H := Option.bind_eq_some_iff.mp H
     obtain ⟨t316, A160, H⟩ := H
     replace H : (galloonlaw09_RemnantDivided.j0 k t301 a2 t302 t305 t306 t310 t311 (!t316)) = some r := H
     have A16 := Aside0.mk A160
     clear A160
     have H' := Aside0.mk H
     clear H
     obtain ⟨Ao17, co17, eo17⟩ := Kd.R_slice HO309.out
     subst eo17
     go_wp2_with (first | (go_at_call 28; (with_reducible refine (galloonlaw09_places.calls k _ _ t302 _ _ t305 true _ ?side1 ?side2 ?side3 ?side4 A14.out).mono ?_); (case side1 => repeat (first | exact (Kd.R_reads' HO304.out).2.2 | (with_reducible refine Kd.C_alloc ?_ _) | (with_reducible refine Kd.C_drewN ?_ _) | (with_reducible refine Kd.C_drew ?_))); (case side2 => exact (Kd.R_reads' HO304.out).2.1); (case side3 => repeat (first | exact (Kd.R_reads' HO309.out).2.2 | (with_reducible refine Kd.C_alloc ?_ _) | (with_reducible refine Kd.C_drewN ?_ _) | (with_reducible refine Kd.C_drew ?_))); (case side4 => exact (Kd.R_reads' HO309.out).2.1); rintro e w' ⟨rfl, ⟨nd, rfl⟩⟩; obtain ⟨Ao18, co18, eo18⟩ := Kd.R_slice HO314.out; subst eo18) | (go_at_call 28; (with_reducible refine (galloonlaw09_places.calls k _ _ t302 _ _ t310 t316 _ ?side1 ?side2 ?side3 ?side4 A16.out).mono ?_); (case side1 => repeat (first | exact (Kd.R_reads' HO304.out).2.2 | (with_reducible refine Kd.C_alloc ?_ _) | (with_reducible refine Kd.C_drewN ?_ _) | (with_reducible refine Kd.C_drew ?_))); (case side2 => exact (Kd.R_reads' HO304.out).2.1); (case side3 => repeat (first | exact (Kd.R_reads' HO314.out).2.2 | (with_reducible refine Kd.C_alloc ?_ _) | (with_reducible refine Kd.C_drewN ?_ _) | (with_reducible refine Kd.C_drew ?_))); (case side4 => exact (Kd.R_reads' HO314.out).2.1); rintro e w' ⟨rfl, ⟨nd, rfl⟩⟩))
     go_meet
     case rel => exact ⟨_, (!t316), (by first | rfl | (simp; done) | (simp [*]; done)), H', ⟨by first | omega | exact Nat.le_refl _⟩, ⟨by (with_reducible repeat (first | apply Kd.R_alloc | apply Kd.R_drewN | apply Kd.R_drew)); exact Kd.R_mono HO304.out (fun _ hk => ⟨hk.1.2, hk.2⟩)⟩, ⟨by (with_reducible repeat (first | apply Kd.R_alloc | apply Kd.R_drewN | apply Kd.R_drew)); exact Kd.R_mono HO309.out (fun _ hk => ⟨hk.1.2, hk.2⟩)⟩, ⟨by (with_reducible repeat (first | apply Kd.R_alloc | apply Kd.R_drewN | apply Kd.R_drew)); exact Kd.R_mono HO314.out (fun _ hk => ⟨hk.1.2, hk.2⟩)⟩, ⟨by repeat (first | (with_reducible first | exact HB.out | apply below_alloc | apply pw_below_drewN | apply below_drew1) | exact HB.out)⟩⟩
    ·
     replace c15 := Bool.eq_false_iff.mpr c15
     subst c15
     have H1 : (none) = some r := by rw [if_neg (show ¬ (false = true) by decide)] at H; exact H
     clear H
     have H := H1
     clear H1
     exact absurd H (by simp)
   ·
    rw [if_neg c13] at H
    exact absurd H (by simp)
  ·
   rw [if_neg c12] at H
   exact absurd H (by simp)
 case rest =>
  as_aux_lemma =>
  clear HC7
  try clear c1
  try clear c2
  try clear p2
  try clear c5
  try clear c12
  try clear c12b0
  try clear c12b1
  try clear c13
  try clear c13b0
  try clear c13b1
  try clear c15
  obtain ⟨kq, x59_6, rfl, HA, HJ6, HO_7, HO_8, HO_11, HB⟩ := hcut
  cases kq with
  | zero => exact absurd HA.out (by simp [galloonlaw09_RemnantDivided.j0])
  | succ kj6 =>
   have H := HA.out
   clear HA
   simp only [galloonlaw09_RemnantDivided.j0] at H
   by_cases c19 : x59_6 = true
   ·
    subst c19
    have H1 : (none) = some r := by rw [if_pos rfl] at H; exact H
    clear H
    have H := H1
    clear H1
    exact absurd H (by simp)
   ·
    replace c19 := Bool.eq_false_iff.mpr c19
    subst c19
    have H1 : (galloonlaw09_RemnantDivided.l0 kj6 t301 a2 t302 t305 t306 t310 t311 0 0 0 0) = some r := by rw [if_neg (show ¬ (false = true) by decide)] at H; exact H
    clear H
    have H := H1
    clear H1
    have H' := Aside0.mk H
    clear H
    go_wp2
    go_loopg [14, 17] kj6 (fun kq v14 v17 w' => ∃ (x14_2 : Int) (x17_2 : Int), v14 = .int .i64 x14_2 ∧ v17 = .int .i64 x17_2 ∧ Aside0 (galloonlaw09_RemnantDivided.l0 kq t301 a2 t302 t305 t306 t310 t311 x14_2 0 0 x17_2 = some r) ∧ Aside0 (kq ≤ kj6) ∧ Aside0 (Kd.R (Kd.int .i64) 3 w' w.heap.size (fun k_ => some k_ ≠ (v308 : Value).ownBlock ∧ some k_ ≠ (v313 : Value).ownBlock) (.slice Ao9 t302.length co9) t302) ∧ Aside0 (Kd.R (Kd.int .i64) 3 w' w.heap.size (fun k_ => some k_ ≠ ((.slice Ao9 t302.length co9) : Value).ownBlock ∧ some k_ ≠ (v313 : Value).ownBlock) v308 t305) ∧ Aside0 (Kd.R (Kd.int .i64) 3 w' w.heap.size (fun k_ => some k_ ≠ ((.slice Ao9 t302.length co9) : Value).ownBlock ∧ some k_ ≠ (v308 : Value).ownBlock) v313 t310) ∧ Aside0 (Below w.heap.size w w'))
    case atStart => exact ⟨(0), (0), (by first | rfl | (simp; done) | (simp [*]; done)), (by first | rfl | (simp; done) | (simp [*]; done)), H', ⟨Nat.le_refl _⟩, ⟨by (with_reducible repeat (first | apply Kd.R_alloc | apply Kd.R_drewN | apply Kd.R_drew)); exact HO_7.out⟩, ⟨by (with_reducible repeat (first | apply Kd.R_alloc | apply Kd.R_drewN | apply Kd.R_drew)); exact HO_8.out⟩, ⟨by (with_reducible repeat (first | apply Kd.R_alloc | apply Kd.R_drewN | apply Kd.R_drew)); exact HO_11.out⟩, ⟨by repeat (first | (with_reducible first | exact HB.out | apply below_alloc | apply pw_below_drewN | apply below_drew1) | exact HB.out)⟩⟩
    case round =>
     as_aux_lemma =>
     clear H'
     try clear c1
     try clear c2
     try clear p2
     try clear c5
     try clear c12
     try clear c12b0
     try clear c12b1
     try clear c13
     try clear c13b0
     try clear c13b1
     try clear c15
     try clear c19
     try clear p2
     obtain ⟨x14_2, x17_2, rfl, rfl, HA, HK2, HO_7, HO_8, HO_11, HB⟩ := hrel
     cases gk with
     | zero => exact absurd HA.out (by simp [galloonlaw09_RemnantDivided.l0])
     | succ k2 =>
      have H := HA.out
      clear HA
      simp only [galloonlaw09_RemnantDivided.l0] at H
      by_cases c20 : x17_2 < (t305.length : Int)
      ·
       rw [if_pos c20] at H
       have c20b0 : decide (x17_2 < (t305.length : Int)) = true := decide_eq_true c20
       clear c20
       by_cases c21 : 0 ≤ x17_2
       ·
        rw [if_pos c21] at H
        have c21b0 : decide (0 ≤ x17_2) = true := decide_eq_true c21
        clear c21
        by_cases c22 : 0 ≤ (rd t305 x17_2)
        ·
         rw [if_pos c22] at H
         have c22b0 : decide (0 ≤ (rd t305 x17_2)) = true := decide_eq_true c22
         clear c22
         by_cases c23 : (rd t305 x17_2) < (t302.length : Int)
         ·
          rw [if_pos c23] at H
          have c23b0 : decide ((rd t305 x17_2) < (t302.length : Int)) = true := decide_eq_true c23
          clear c23
          have H' := Aside0.mk H
          clear H
          obtain ⟨Ao24, co24, eo24⟩ := Kd.R_slice HO_8.out
          subst eo24
          have p317 : 0 ≤ (x17_2 : Int) := of_decide_eq_true (by assumption)
          have q317 : x17_2 < (t305.length : Int) := of_decide_eq_true (by assumption)
          (first | (obtain ⟨Aq_, cq_, eq_⟩ := Kd.R_slice HO_8.out; subst eq_) | skip)
          obtain ⟨ad317, e317, hx317_0⟩ := Kd.at_int (Kd.R_reads' HO_8.out).2.2 x17_2 p317 q317
          cases e317
          replace p317 := eq_true p317
          replace q317 := eq_true q317
          have p318 : 0 ≤ ((rd t305 x17_2) : Int) := of_decide_eq_true (by assumption)
          have q318 : (rd t305 x17_2) < (t302.length : Int) := of_decide_eq_true (by assumption)
          (first | (obtain ⟨Aq_, cq_, eq_⟩ := Kd.R_slice HO_7.out; subst eq_) | skip)
          obtain ⟨ad318, e318, hx318_0⟩ := Kd.at_int (Kd.R_reads' HO_7.out).2.2 (rd t305 x17_2) p318 q318
          cases e318
          replace p318 := eq_true p318
          replace q318 := eq_true q318
          go_wp2
          go_roundg k2
          case measure => have := HJ6.out; have := HK2.out; omega
          case rel => exact ⟨(wrap64 (x14_2 + (rd t302 (rd t305 x17_2)))), (wrap64 (x17_2 + 1)), (by first | rfl | (simp; done) | (simp [*]; done)), (by first | rfl | (simp; done) | (simp [*]; done)), H', ⟨by have := HJ6.out; have := HK2.out; omega⟩, ⟨by (with_reducible repeat (first | apply Kd.R_alloc | apply Kd.R_drewN | apply Kd.R_drew)); exact HO_7.out⟩, ⟨by (with_reducible repeat (first | apply Kd.R_alloc | apply Kd.R_drewN | apply Kd.R_drew)); exact HO_8.out⟩, ⟨by (with_reducible repeat (first | apply Kd.R_alloc | apply Kd.R_drewN | apply Kd.R_drew)); exact HO_11.out⟩, ⟨by repeat (first | (with_reducible first | exact HB.out | apply below_alloc | apply pw_below_drewN | apply below_drew1) | exact HB.out)⟩⟩
         ·
          rw [if_neg c23] at H
          exact absurd H (by simp)
        ·
         rw [if_neg c22] at H
         exact absurd H (by simp)
       ·
        rw [if_neg c21] at H
        exact absurd H (by simp)
      ·
       rw [if_neg c20] at H
       have c20b0 : decide (x17_2 < (t305.length : Int)) = false := decide_eq_false c20
       clear c20
       have H' := Aside0.mk H
       clear H
       obtain ⟨Ao25, co25, eo25⟩ := Kd.R_slice HO_8.out
       subst eo25
       go_wp2
       go_loopg [15, 18] k2 (fun kq v15 v18 w' => ∃ (x15_3 : Int) (x18_3 : Int), v15 = .int .i64 x15_3 ∧ v18 = .int .i64 x18_3 ∧ Aside0 (galloonlaw09_RemnantDivided.l1 kq t301 a2 t302 t305 t306 t310 t311 x14_2 x15_3 0 x18_3 = some r) ∧ Aside0 (kq ≤ k2) ∧ Aside0 (Kd.R (Kd.int .i64) 3 w' w.heap.size (fun k_ => some k_ ≠ ((.slice Ao25 t305.length co25) : Value).ownBlock ∧ some k_ ≠ (v313 : Value).ownBlock) (.slice Ao9 t302.length co9) t302) ∧ Aside0 (Kd.R (Kd.int .i64) 3 w' w.heap.size (fun k_ => some k_ ≠ ((.slice Ao9 t302.length co9) : Value).ownBlock ∧ some k_ ≠ (v313 : Value).ownBlock) (.slice Ao25 t305.length co25) t305) ∧ Aside0 (Kd.R (Kd.int .i64) 3 w' w.heap.size (fun k_ => some k_ ≠ ((.slice Ao9 t302.length co9) : Value).ownBlock ∧ some k_ ≠ ((.slice Ao25 t305.length co25) : Value).ownBlock) v313 t310) ∧ Aside0 (Below w.heap.size w w'))
       case atStart => exact ⟨(0), (0), (by first | rfl | (simp; done) | (simp [*]; done)), (by first | rfl | (simp; done) | (simp [*]; done)), H', ⟨Nat.le_refl _⟩, ⟨by (with_reducible repeat (first | apply Kd.R_alloc | apply Kd.R_drewN | apply Kd.R_drew)); exact HO_7.out⟩, ⟨by (with_reducible repeat (first | apply Kd.R_alloc | apply Kd.R_drewN | apply Kd.R_drew)); exact HO_8.out⟩, ⟨by (with_reducible repeat (first | apply Kd.R_alloc | apply Kd.R_drewN | apply Kd.R_drew)); exact HO_11.out⟩, ⟨by repeat (first | (with_reducible first | exact HB.out | apply below_alloc | apply pw_below_drewN | apply below_drew1) | exact HB.out)⟩⟩
       case round =>
        as_aux_lemma =>
        clear H'
        try clear c1
        try clear c2
        try clear p2
        try clear p3
        try clear q3
        try clear hx3
        try clear c5
        try clear p6
        try clear c12
        try clear c12b0
        try clear c12b1
        try clear c13
        try clear c13b0
        try clear c13b1
        try clear c15
        try clear c19
        try clear c20
        try clear c20b0
        try clear c21
        try clear c21b0
        try clear c22
        try clear c22b0
        try clear c23
        try clear c23b0
        try clear hx317_0
        try clear hx318_0
        try clear p2
        try clear p317
        try clear p318
        try clear q317
        try clear q318
        obtain ⟨x15_3, x18_3, rfl, rfl, HA, HK3, HO_7, HO_8, HO_11, HB⟩ := hrel
        cases gk with
        | zero => exact absurd HA.out (by simp [galloonlaw09_RemnantDivided.l1])
        | succ k3 =>
         have H := HA.out
         clear HA
         simp only [galloonlaw09_RemnantDivided.l1] at H
         by_cases c26 : x18_3 < (t310.length : Int)
         ·
          rw [if_pos c26] at H
          have c26b0 : decide (x18_3 < (t310.length : Int)) = true := decide_eq_true c26
          clear c26
          by_cases c27 : 0 ≤ x18_3
          ·
           rw [if_pos c27] at H
           have c27b0 : decide (0 ≤ x18_3) = true := decide_eq_true c27
           clear c27
           by_cases c28 : 0 ≤ (rd t310 x18_3)
           ·
            rw [if_pos c28] at H
            have c28b0 : decide (0 ≤ (rd t310 x18_3)) = true := decide_eq_true c28
            clear c28
            by_cases c29 : (rd t310 x18_3) < (t302.length : Int)
            ·
             rw [if_pos c29] at H
             have c29b0 : decide ((rd t310 x18_3) < (t302.length : Int)) = true := decide_eq_true c29
             clear c29
             have H' := Aside0.mk H
             clear H
             obtain ⟨Ao30, co30, eo30⟩ := Kd.R_slice HO_11.out
             subst eo30
             have p319 : 0 ≤ (x18_3 : Int) := of_decide_eq_true (by assumption)
             have q319 : x18_3 < (t310.length : Int) := of_decide_eq_true (by assumption)
             (first | (obtain ⟨Aq_, cq_, eq_⟩ := Kd.R_slice HO_11.out; subst eq_) | skip)
             obtain ⟨ad319, e319, hx319_0⟩ := Kd.at_int (Kd.R_reads' HO_11.out).2.2 x18_3 p319 q319
             cases e319
             replace p319 := eq_true p319
             replace q319 := eq_true q319
             have p320 : 0 ≤ ((rd t310 x18_3) : Int) := of_decide_eq_true (by assumption)
             have q320 : (rd t310 x18_3) < (t302.length : Int) := of_decide_eq_true (by assumption)
             (first | (obtain ⟨Aq_, cq_, eq_⟩ := Kd.R_slice HO_7.out; subst eq_) | skip)
             obtain ⟨ad320, e320, hx320_0⟩ := Kd.at_int (Kd.R_reads' HO_7.out).2.2 (rd t310 x18_3) p320 q320
             cases e320
             replace p320 := eq_true p320
             replace q320 := eq_true q320
             go_wp2
             go_roundg k3
             case measure => have := HJ6.out; have := HK2.out; have := HK3.out; omega
             case rel => exact ⟨(wrap64 (x15_3 + (rd t302 (rd t310 x18_3)))), (wrap64 (x18_3 + 1)), (by first | rfl | (simp; done) | (simp [*]; done)), (by first | rfl | (simp; done) | (simp [*]; done)), H', ⟨by have := HJ6.out; have := HK2.out; have := HK3.out; omega⟩, ⟨by (with_reducible repeat (first | apply Kd.R_alloc | apply Kd.R_drewN | apply Kd.R_drew)); exact HO_7.out⟩, ⟨by (with_reducible repeat (first | apply Kd.R_alloc | apply Kd.R_drewN | apply Kd.R_drew)); exact HO_8.out⟩, ⟨by (with_reducible repeat (first | apply Kd.R_alloc | apply Kd.R_drewN | apply Kd.R_drew)); exact HO_11.out⟩, ⟨by repeat (first | (with_reducible first | exact HB.out | apply below_alloc | apply pw_below_drewN | apply below_drew1) | exact HB.out)⟩⟩
            ·
             rw [if_neg c29] at H
             exact absurd H (by simp)
           ·
            rw [if_neg c28] at H
            exact absurd H (by simp)
          ·
           rw [if_neg c27] at H
           exact absurd H (by simp)
         ·
          rw [if_neg c26] at H
          have c26b0 : decide (x18_3 < (t310.length : Int)) = false := decide_eq_false c26
          clear c26
          have H' := Aside0.mk H
          clear H
          obtain ⟨Ao31, co31, eo31⟩ := Kd.R_slice HO_11.out
          subst eo31
          go_wp2
          go_loopg [16, 19] k3 (fun kq v16 v19 w' => ∃ (x16_4 : Int) (x19_4 : Int), v16 = .int .i64 x16_4 ∧ v19 = .int .i64 x19_4 ∧ Aside0 (galloonlaw09_RemnantDivided.l2 kq t301 a2 t302 t305 t306 t311 x14_2 x15_3 x16_4 x19_4 = some r) ∧ Aside0 (kq ≤ k3) ∧ Aside0 (Kd.R (Kd.int .i64) 3 w' w.heap.size (fun k_ => some k_ ≠ ((.slice Ao25 t305.length co25) : Value).ownBlock) (.slice Ao9 t302.length co9) t302) ∧ Aside0 (Kd.R (Kd.int .i64) 3 w' w.heap.size (fun k_ => some k_ ≠ ((.slice Ao9 t302.length co9) : Value).ownBlock) (.slice Ao25 t305.length co25) t305) ∧ Aside0 (Below w.heap.size w w'))
          case atStart => exact ⟨(0), (0), (by first | rfl | (simp; done) | (simp [*]; done)), (by first | rfl | (simp; done) | (simp [*]; done)), H', ⟨Nat.le_refl _⟩, ⟨by (with_reducible repeat (first | apply Kd.R_alloc | apply Kd.R_drewN | apply Kd.R_drew)); exact Kd.R_mono HO_7.out (fun _ hk => hk.1)⟩, ⟨by (with_reducible repeat (first | apply Kd.R_alloc | apply Kd.R_drewN | apply Kd.R_drew)); exact Kd.R_mono HO_8.out (fun _ hk => hk.1)⟩, ⟨by repeat (first | (with_reducible first | exact HB.out | apply below_alloc | apply pw_below_drewN | apply below_drew1) | exact HB.out)⟩⟩
          case round =>
           as_aux_lemma =>
           clear H'
           try clear c1
           try clear c2
           try clear p2
           try clear p3
           try clear q3
           try clear hx3
           try clear c5
           try clear p6
           try clear c12
           try clear c12b0
           try clear c12b1
           try clear c13
           try clear c13b0
           try clear c13b1
           try clear c15
           try clear c19
           try clear c20
           try clear c20b0
           try clear c21
           try clear c21b0
           try clear c22
           try clear c22b0
           try clear c23
           try clear c23b0
           try clear c26
           try clear c26b0
           try clear c27
           try clear c27b0
           try clear c28
           try clear c28b0
           try clear c29
           try clear c29b0
           try clear p31
           try clear q31
           try clear hx31
           try clear hx317_0
           try clear hx318_0
           try clear hx319_0
           try clear hx320_0
           try clear p2
           try clear p3
           try clear p317
           try clear p318
           try clear p319
           try clear p320
           try clear p6
           try clear q3
           try clear q317
           try clear q318
           try clear q319
           try clear q320
           obtain ⟨x16_4, x19_4, rfl, rfl, HA, HK4, HO_7, HO_8, HB⟩ := hrel
           cases gk with
           | zero => exact absurd HA.out (by simp [galloonlaw09_RemnantDivided.l2])
           | succ k4 =>
            have H := HA.out
            clear HA
            simp only [galloonlaw09_RemnantDivided.l2] at H
            by_cases c32 : x19_4 < (t302.length : Int)
            ·
             rw [if_pos c32] at H
             have c32b0 : decide (x19_4 < (t302.length : Int)) = true := decide_eq_true c32
             clear c32
             replace H := Option.bind_eq_some_iff.mp H
             obtain ⟨t321, A330, H⟩ := H
             replace H : (if 0 ≤ x19_4 then (if (Int.tmod (shr .i64 t321 x19_4) 2) = 1 then (galloonlaw09_RemnantDivided.l2 k4 t301 a2 t302 t305 t306 t311 x14_2 x15_3 (wrap64 (x16_4 + (rd t302 x19_4))) (wrap64 (x19_4 + 1))) else (galloonlaw09_RemnantDivided.l2 k4 t301 a2 t302 t305 t306 t311 x14_2 x15_3 x16_4 (wrap64 (x19_4 + 1)))) else (none)) = some r := H
             have A33 := Aside0.mk A330
             clear A330
             by_cases c34 : 0 ≤ x19_4
             ·
              rw [if_pos c34] at H
              have c34b0 := eq_true c34
              have c34b1 : decide (0 ≤ x19_4) = true := decide_eq_true c34
              clear c34
              obtain ⟨ji35, hji35⟩ : ∃ j_ : Int, (shr .i64 t321 x19_4) = j_ := ⟨_, rfl⟩
              replace H : (if (Int.tmod (ji35) 2) = 1 then (galloonlaw09_RemnantDivided.l2 k4 t301 a2 t302 t305 t306 t311 x14_2 x15_3 (wrap64 (x16_4 + (rd t302 x19_4))) (wrap64 (x19_4 + 1))) else (galloonlaw09_RemnantDivided.l2 k4 t301 a2 t302 t305 t306 t311 x14_2 x15_3 x16_4 (wrap64 (x19_4 + 1)))) = some r := by first | (rw [hji35] at H; exact H) | (simp only [hji35] at H ⊢; exact H)
              (try rw [hji35] at A33)
              have hji35_ : (t321 / 2 ^ min x19_4.toNat 64) = ji35 := hji35
              have hji35z : x19_4 ≤ 64 → (t321 / 2 ^ x19_4.toNat) = ji35 := shr_small hji35
              by_cases c36 : (Int.tmod (ji35) 2) = 1
              ·
               rw [if_pos c36] at H
               have c36b0 : ((Int.tmod (ji35) 2) == 1) = true := beq_iff_eq.mpr c36
               have c36b1 : ((Int.tmod (ji35) 2) != 1) = false := bne_eq_false_iff_eq.mpr c36
               clear c36
               have H' := Aside0.mk H
               clear H
               go_wp2_with (first | ((with_reducible refine gate_callee (f := 29) rfl ?_); refine goesL_ (some 97) rfl rfl Try.func29 (by kernel_rfl) rfl #[.int .i64 a2, .int .i64 4096] rfl (by (try simp only [List.map_toArray, List.map_cons, List.map_nil]); first | done | rfl | (simp only [List.length_drop, List.length_take]; rfl)) ?_; (with_reducible refine (galloonlaw09_mod.calls a2 4096 t321 _ A33.out).mono ?_); rintro e w' ⟨rfl, ⟨nd, rfl⟩⟩; refine ⟨_, rfl, ?_⟩; have p322 : 0 ≤ (x19_4 : Int) := of_decide_eq_true (by assumption); have q322 : x19_4 < (t302.length : Int) := of_decide_eq_true (by assumption); obtain ⟨ad322, e322, hx322_0⟩ := Kd.at_int (Kd.R_reads' HO_7.out).2.2 x19_4 p322 q322; cases e322; replace p322 := eq_true p322; replace q322 := eq_true q322))
               go_roundg k4
               case measure => have := HJ6.out; have := HK2.out; have := HK3.out; have := HK4.out; omega
               case rel => exact ⟨(wrap64 (x16_4 + (rd t302 x19_4))), (wrap64 (x19_4 + 1)), (by first | rfl | (simp; done) | (simp [*]; done)), (by first | rfl | (simp; done) | (simp [*]; done)), H', ⟨by have := HJ6.out; have := HK2.out; have := HK3.out; have := HK4.out; omega⟩, ⟨by (with_reducible repeat (first | apply Kd.R_alloc | apply Kd.R_drewN | apply Kd.R_drew)); exact HO_7.out⟩, ⟨by (with_reducible repeat (first | apply Kd.R_alloc | apply Kd.R_drewN | apply Kd.R_drew)); exact HO_8.out⟩, ⟨by repeat (first | (with_reducible first | exact HB.out | apply below_alloc | apply pw_below_drewN | apply below_drew1) | exact HB.out)⟩⟩
              ·
               rw [if_neg c36] at H
               have c36b0 : ((Int.tmod (ji35) 2) == 1) = false := beq_eq_false_iff_ne.mpr c36
               have c36b1 : ((Int.tmod (ji35) 2) != 1) = true := bne_iff_ne.mpr c36
               have H' := Aside0.mk H
               clear H
               go_wp2_with (first | ((with_reducible refine gate_callee (f := 29) rfl ?_); refine goesL_ (some 97) rfl rfl Try.func29 (by kernel_rfl) rfl #[.int .i64 a2, .int .i64 4096] rfl (by (try simp only [List.map_toArray, List.map_cons, List.map_nil]); first | done | rfl | (simp only [List.length_drop, List.length_take]; rfl)) ?_; (with_reducible refine (galloonlaw09_mod.calls a2 4096 t321 _ A33.out).mono ?_); rintro e w' ⟨rfl, ⟨nd, rfl⟩⟩; refine ⟨_, rfl, ?_⟩))
               go_roundg k4
               case measure => have := HJ6.out; have := HK2.out; have := HK3.out; have := HK4.out; omega
               case rel => exact ⟨(x16_4), (wrap64 (x19_4 + 1)), (by first | rfl | (simp; done) | (simp [*]; done)), (by first | rfl | (simp; done) | (simp [*]; done)), H', ⟨by have := HJ6.out; have := HK2.out; have := HK3.out; have := HK4.out; omega⟩, ⟨by (with_reducible repeat (first | apply Kd.R_alloc | apply Kd.R_drewN | apply Kd.R_drew)); exact HO_7.out⟩, ⟨by (with_reducible repeat (first | apply Kd.R_alloc | apply Kd.R_drewN | apply Kd.R_drew)); exact HO_8.out⟩, ⟨by repeat (first | (with_reducible first | exact HB.out | apply below_alloc | apply pw_below_drewN | apply below_drew1) | exact HB.out)⟩⟩
             ·
              rw [if_neg c34] at H
              exact absurd H (by simp)
            ·
             rw [if_neg c32] at H
             have c32b0 : decide (x19_4 < (t302.length : Int)) = false := decide_eq_false c32
             clear c32
             replace H := Option.bind_eq_some_iff.mp H
             obtain ⟨t323, A370, H⟩ := H
             replace H : (if (mx (wrap64 ((wrap64 (2 * x14_2)) - t323)) (wrap64 (-(wrap64 ((wrap64 (2 * x14_2)) - t323))))) = t306 then (if (mx (wrap64 ((wrap64 (2 * x16_4)) - t323)) (wrap64 (-(wrap64 ((wrap64 (2 * x16_4)) - t323))))) ≥ t306 then (if (Int.tmod (wrap64 (t306 - t323)) 2) = 0 then (if (t302.length : Int) = 0 then (if (wrap64 (t301 - x15_3)) = t311 then (if t311 ≥ 0 then (if x16_4 > t301 then ((galloonlaw09_awake.f k4).bind fun t324 => (some t324)) else (if x16_4 ≤ x15_3 then ((galloonlaw09_awake.f k4).bind fun t325 => (some t325)) else (none))) else (none)) else (none)) else (if 0 < (t305.length : Int) then (if (rd t305 0) = 0 then (if (wrap64 (t301 - x15_3)) = t311 then (if t311 ≥ 0 then (if x16_4 > t301 then ((galloonlaw09_awake.f k4).bind fun t327 => (some t327)) else (if x16_4 ≤ x15_3 then ((galloonlaw09_awake.f k4).bind fun t328 => (some t328)) else (none))) else (none)) else (none)) else (none)) else (none))) else (none)) else (none)) else (none)) = some r := H
             have A37 := Aside0.mk A370
             clear A370
             obtain ⟨ji38, hji38⟩ : ∃ j_ : Int, (mx (wrap64 ((wrap64 (2 * x14_2)) - t323)) (wrap64 (-(wrap64 ((wrap64 (2 * x14_2)) - t323))))) = j_ := ⟨_, rfl⟩
             replace H : (if (ji38) = t306 then (if (mx (wrap64 ((wrap64 (2 * x16_4)) - t323)) (wrap64 (-(wrap64 ((wrap64 (2 * x16_4)) - t323))))) ≥ t306 then (if (Int.tmod (wrap64 (t306 - t323)) 2) = 0 then (if (t302.length : Int) = 0 then (if (wrap64 (t301 - x15_3)) = t311 then (if t311 ≥ 0 then (if x16_4 > t301 then ((galloonlaw09_awake.f k4).bind fun t324 => (some t324)) else (if x16_4 ≤ x15_3 then ((galloonlaw09_awake.f k4).bind fun t325 => (some t325)) else (none))) else (none)) else (none)) else (if 0 < (t305.length : Int) then (if (rd t305 0) = 0 then (if (wrap64 (t301 - x15_3)) = t311 then (if t311 ≥ 0 then (if x16_4 > t301 then ((galloonlaw09_awake.f k4).bind fun t327 => (some t327)) else (if x16_4 ≤ x15_3 then ((galloonlaw09_awake.f k4).bind fun t328 => (some t328)) else (none))) else (none)) else (none)) else (none)) else (none))) else (none)) else (none)) else (none)) = some r := by first | (rw [hji38] at H; exact H) | (simp only [hji38] at H ⊢; exact H)
             (try rw [hji38] at A37)
             have hji38_ : (if (wrap64 ((wrap64 (2 * x14_2)) - t323)) < (wrap64 (-(wrap64 ((wrap64 (2 * x14_2)) - t323)))) then (wrap64 (-(wrap64 ((wrap64 (2 * x14_2)) - t323)))) else (wrap64 ((wrap64 (2 * x14_2)) - t323))) = ji38 := hji38
             by_cases c39 : (ji38) = t306
             ·
              rw [if_pos c39] at H
              have c39b0 : ((ji38) == t306) = true := beq_iff_eq.mpr c39
              have c39b1 : ((ji38) != t306) = false := bne_eq_false_iff_eq.mpr c39
              clear c39
              obtain ⟨ji40, hji40⟩ : ∃ j_ : Int, (mx (wrap64 ((wrap64 (2 * x16_4)) - t323)) (wrap64 (-(wrap64 ((wrap64 (2 * x16_4)) - t323))))) = j_ := ⟨_, rfl⟩
              replace H : (if (ji40) ≥ t306 then (if (Int.tmod (wrap64 (t306 - t323)) 2) = 0 then (if (t302.length : Int) = 0 then (if (wrap64 (t301 - x15_3)) = t311 then (if t311 ≥ 0 then (if x16_4 > t301 then ((galloonlaw09_awake.f k4).bind fun t324 => (some t324)) else (if x16_4 ≤ x15_3 then ((galloonlaw09_awake.f k4).bind fun t325 => (some t325)) else (none))) else (none)) else (none)) else (if 0 < (t305.length : Int) then (if (rd t305 0) = 0 then (if (wrap64 (t301 - x15_3)) = t311 then (if t311 ≥ 0 then (if x16_4 > t301 then ((galloonlaw09_awake.f k4).bind fun t327 => (some t327)) else (if x16_4 ≤ x15_3 then ((galloonlaw09_awake.f k4).bind fun t328 => (some t328)) else (none))) else (none)) else (none)) else (none)) else (none))) else (none)) else (none)) = some r := by first | (rw [hji40] at H; exact H) | (simp only [hji40] at H ⊢; exact H)
              (try rw [hji40] at A37)
              have hji40_ : (if (wrap64 ((wrap64 (2 * x16_4)) - t323)) < (wrap64 (-(wrap64 ((wrap64 (2 * x16_4)) - t323)))) then (wrap64 (-(wrap64 ((wrap64 (2 * x16_4)) - t323)))) else (wrap64 ((wrap64 (2 * x16_4)) - t323))) = ji40 := hji40
              by_cases c41 : (ji40) ≥ t306
              ·
               rw [if_pos c41] at H
               have c41b0 : decide (t306 ≤ (ji40)) = true := decide_eq_true c41
               clear c41
               by_cases c42 : (Int.tmod (wrap64 (t306 - t323)) 2) = 0
               ·
                rw [if_pos c42] at H
                have c42b0 : ((Int.tmod (wrap64 (t306 - t323)) 2) == 0) = true := beq_iff_eq.mpr c42
                have c42b1 : ((Int.tmod (wrap64 (t306 - t323)) 2) != 0) = false := bne_eq_false_iff_eq.mpr c42
                clear c42
                by_cases c43 : (t302.length : Int) = 0
                ·
                 rw [if_pos c43] at H
                 have c43b0 : ((t302.length : Int) == 0) = true := beq_iff_eq.mpr c43
                 have c43b1 : ((t302.length : Int) != 0) = false := bne_eq_false_iff_eq.mpr c43
                 clear c43
                 by_cases c44 : (wrap64 (t301 - x15_3)) = t311
                 ·
                  rw [if_pos c44] at H
                  have c44b0 : ((wrap64 (t301 - x15_3)) == t311) = true := beq_iff_eq.mpr c44
                  have c44b1 : ((wrap64 (t301 - x15_3)) != t311) = false := bne_eq_false_iff_eq.mpr c44
                  clear c44
                  by_cases c45 : t311 ≥ 0
                  ·
                   rw [if_pos c45] at H
                   have c45b0 : decide (0 ≤ t311) = true := decide_eq_true c45
                   clear c45
                   by_cases c46 : x16_4 > t301
                   ·
                    rw [if_pos c46] at H
                    have c46b0 : decide (t301 < x16_4) = true := decide_eq_true c46
                    clear c46
                    replace H := Option.bind_eq_some_iff.mp H
                    obtain ⟨t324, A470, H⟩ := H
                    replace H : (some t324) = some r := H
                    have A47 := Aside0.mk A470
                    clear A470
                    obtain rfl := Option.some.inj H
                    go_wp2_with (first | ((with_reducible refine gate_callee (f := 30) rfl ?_); refine goesL_ (some 109) rfl rfl Try.func30 (by kernel_rfl) rfl #[.slice Ao9 t302.length co9] rfl (by (try simp only [List.map_toArray, List.map_cons, List.map_nil]); first | done | rfl | (simp only [List.length_drop, List.length_take]; rfl)) ?_; (with_reducible refine (galloonlaw09_sum.calls k4 _ _ t302 t323 _ ?side1 ?side2 A37.out).mono ?_); (case side1 => repeat (first | exact (Kd.R_reads' HO_7.out).2.2 | (with_reducible refine Kd.C_alloc ?_ _) | (with_reducible refine Kd.C_drewN ?_ _) | (with_reducible refine Kd.C_drew ?_))); (case side2 => exact (Kd.R_reads' HO_7.out).2.1); rintro e w' ⟨rfl, ⟨nd, rfl⟩⟩; refine ⟨_, rfl, ?_⟩) | (go_at_call 19; (with_reducible refine (galloonlaw09_awake.calls k4  t324 _ A47.out).mono ?_); rintro e w48 ⟨rfl, hb⟩; have n0_ := Aside0.mk (Kd.R_below (by (with_reducible repeat (first | apply Kd.R_alloc | apply Kd.R_drewN | apply Kd.R_drew)); exact HO_7.out) hb); have n1_ := Aside0.mk (Kd.R_below (by (with_reducible repeat (first | apply Kd.R_alloc | apply Kd.R_drewN | apply Kd.R_drew)); exact HO_8.out) hb); have n2_ := Aside0.mk (below_step (by repeat (first | (with_reducible first | exact HB.out | apply below_alloc | apply pw_below_drewN | apply below_drew1) | exact HB.out)) hb); clear HO_7; clear HO_8; clear HB; have HO_7 := n0_; have HO_8 := n1_; have HB := n2_; clear n0_ n1_ n2_; (try clear hb); (try clear hb2); (try clear hk); (try clear hi)))
                    go_ret
                    exact ⟨by first | rfl | (simp [errW_none, errW_some] <;> rfl) | (simp only [← hji38, ← hji40]; first | rfl | (simp [errW_none, errW_some] <;> rfl)) | (simp [*, errW_none, errW_some] <;> rfl), by repeat (first | (with_reducible first | exact HB.out | apply below_alloc | apply pw_below_drewN | apply below_drew1) | exact HB.out)⟩
                   ·
                    rw [if_neg c46] at H
                    have c46b0 : decide (t301 < x16_4) = false := decide_eq_false c46
                    clear c46
                    by_cases c49 : x16_4 ≤ x15_3
                    ·
                     rw [if_pos c49] at H
                     have c49b0 : decide (x16_4 ≤ x15_3) = true := decide_eq_true c49
                     clear c49
                     replace H := Option.bind_eq_some_iff.mp H
                     obtain ⟨t325, A500, H⟩ := H
                     replace H : (some t325) = some r := H
                     have A50 := Aside0.mk A500
                     clear A500
                     obtain rfl := Option.some.inj H
                     go_wp2_with (first | ((with_reducible refine gate_callee (f := 30) rfl ?_); refine goesL_ (some 109) rfl rfl Try.func30 (by kernel_rfl) rfl #[.slice Ao9 t302.length co9] rfl (by (try simp only [List.map_toArray, List.map_cons, List.map_nil]); first | done | rfl | (simp only [List.length_drop, List.length_take]; rfl)) ?_; (with_reducible refine (galloonlaw09_sum.calls k4 _ _ t302 t323 _ ?side1 ?side2 A37.out).mono ?_); (case side1 => repeat (first | exact (Kd.R_reads' HO_7.out).2.2 | (with_reducible refine Kd.C_alloc ?_ _) | (with_reducible refine Kd.C_drewN ?_ _) | (with_reducible refine Kd.C_drew ?_))); (case side2 => exact (Kd.R_reads' HO_7.out).2.1); rintro e w' ⟨rfl, ⟨nd, rfl⟩⟩; refine ⟨_, rfl, ?_⟩) | (go_at_call 19; (with_reducible refine (galloonlaw09_awake.calls k4  t325 _ A50.out).mono ?_); rintro e w51 ⟨rfl, hb⟩; have n0_ := Aside0.mk (Kd.R_below (by (with_reducible repeat (first | apply Kd.R_alloc | apply Kd.R_drewN | apply Kd.R_drew)); exact HO_7.out) hb); have n1_ := Aside0.mk (Kd.R_below (by (with_reducible repeat (first | apply Kd.R_alloc | apply Kd.R_drewN | apply Kd.R_drew)); exact HO_8.out) hb); have n2_ := Aside0.mk (below_step (by repeat (first | (with_reducible first | exact HB.out | apply below_alloc | apply pw_below_drewN | apply below_drew1) | exact HB.out)) hb); clear HO_7; clear HO_8; clear HB; have HO_7 := n0_; have HO_8 := n1_; have HB := n2_; clear n0_ n1_ n2_; (try clear hb); (try clear hb2); (try clear hk); (try clear hi)))
                     go_ret
                     exact ⟨by first | rfl | (simp [errW_none, errW_some] <;> rfl) | (simp only [← hji38, ← hji40]; first | rfl | (simp [errW_none, errW_some] <;> rfl)) | (simp [*, errW_none, errW_some] <;> rfl), by repeat (first | (with_reducible first | exact HB.out | apply below_alloc | apply pw_below_drewN | apply below_drew1) | exact HB.out)⟩
                    ·
                     rw [if_neg c49] at H
                     exact absurd H (by simp)
                  ·
                   rw [if_neg c45] at H
                   exact absurd H (by simp)
                 ·
                  rw [if_neg c44] at H
                  exact absurd H (by simp)
                ·
                 rw [if_neg c43] at H
                 have c43b0 : ((t302.length : Int) == 0) = false := beq_eq_false_iff_ne.mpr c43
                 have c43b1 : ((t302.length : Int) != 0) = true := bne_iff_ne.mpr c43
                 have c43b2 : ¬ (t302 = []) := fun h_ => c43 (by rw [h_]; rfl)
                 by_cases c52 : 0 < (t305.length : Int)
                 ·
                  rw [if_pos c52] at H
                  have c52b0 : decide (0 < (t305.length : Int)) = true := decide_eq_true c52
                  have c52b1 : decide (0 < t305.length) = true := decide_eq_true (by omega)
                  clear c52
                  by_cases c53 : (rd t305 0) = 0
                  ·
                   rw [if_pos c53] at H
                   have c53b0 : ((rd t305 0) == 0) = true := beq_iff_eq.mpr c53
                   have c53b1 : ((rd t305 0) != 0) = false := bne_eq_false_iff_eq.mpr c53
                   clear c53
                   by_cases c54 : (wrap64 (t301 - x15_3)) = t311
                   ·
                    rw [if_pos c54] at H
                    have c54b0 : ((wrap64 (t301 - x15_3)) == t311) = true := beq_iff_eq.mpr c54
                    have c54b1 : ((wrap64 (t301 - x15_3)) != t311) = false := bne_eq_false_iff_eq.mpr c54
                    clear c54
                    by_cases c55 : t311 ≥ 0
                    ·
                     rw [if_pos c55] at H
                     have c55b0 : decide (0 ≤ t311) = true := decide_eq_true c55
                     clear c55
                     by_cases c56 : x16_4 > t301
                     ·
                      rw [if_pos c56] at H
                      have c56b0 : decide (t301 < x16_4) = true := decide_eq_true c56
                      clear c56
                      replace H := Option.bind_eq_some_iff.mp H
                      obtain ⟨t327, A570, H⟩ := H
                      replace H : (some t327) = some r := H
                      have A57 := Aside0.mk A570
                      clear A570
                      obtain rfl := Option.some.inj H
                      go_wp2_with (first | ((with_reducible refine gate_callee (f := 30) rfl ?_); refine goesL_ (some 109) rfl rfl Try.func30 (by kernel_rfl) rfl #[.slice Ao9 t302.length co9] rfl (by (try simp only [List.map_toArray, List.map_cons, List.map_nil]); first | done | rfl | (simp only [List.length_drop, List.length_take]; rfl)) ?_; (with_reducible refine (galloonlaw09_sum.calls k4 _ _ t302 t323 _ ?side1 ?side2 A37.out).mono ?_); (case side1 => repeat (first | exact (Kd.R_reads' HO_7.out).2.2 | (with_reducible refine Kd.C_alloc ?_ _) | (with_reducible refine Kd.C_drewN ?_ _) | (with_reducible refine Kd.C_drew ?_))); (case side2 => exact (Kd.R_reads' HO_7.out).2.1); rintro e w' ⟨rfl, ⟨nd, rfl⟩⟩; refine ⟨_, rfl, ?_⟩; have p326 : 0 ≤ (0 : Int) := (by omega); have q326 : 0 < (t305.length : Int) := of_decide_eq_true (by assumption); obtain ⟨ad326, e326, hx326_0⟩ := Kd.at_int (Kd.R_reads' HO_8.out).2.2 0 p326 q326; cases e326; have qi326 : (0 < t305.length) = True := eq_true (by omega); (try rw [show ((0 : Int)).toNat = 0 from rfl] at hx326_0); (try rw [Addr.add_zero'] at hx326_0); replace p326 := eq_true p326; replace q326 := eq_true q326) | (go_at_call 19; (with_reducible refine (galloonlaw09_awake.calls k4  t327 _ A57.out).mono ?_); rintro e w58 ⟨rfl, hb⟩; have n0_ := Aside0.mk (Kd.R_below (by (with_reducible repeat (first | apply Kd.R_alloc | apply Kd.R_drewN | apply Kd.R_drew)); exact HO_7.out) hb); have n1_ := Aside0.mk (Kd.R_below (by (with_reducible repeat (first | apply Kd.R_alloc | apply Kd.R_drewN | apply Kd.R_drew)); exact HO_8.out) hb); have n2_ := Aside0.mk (below_step (by repeat (first | (with_reducible first | exact HB.out | apply below_alloc | apply pw_below_drewN | apply below_drew1) | exact HB.out)) hb); clear HO_7; clear HO_8; clear HB; have HO_7 := n0_; have HO_8 := n1_; have HB := n2_; clear n0_ n1_ n2_; (try clear hb); (try clear hb2); (try clear hk); (try clear hi)))
                      go_ret
                      exact ⟨by first | rfl | (simp [errW_none, errW_some] <;> rfl) | (simp only [← hji38, ← hji40]; first | rfl | (simp [errW_none, errW_some] <;> rfl)) | (simp [*, errW_none, errW_some] <;> rfl), by repeat (first | (with_reducible first | exact HB.out | apply below_alloc | apply pw_below_drewN | apply below_drew1) | exact HB.out)⟩
                     ·
                      rw [if_neg c56] at H
                      have c56b0 : decide (t301 < x16_4) = false := decide_eq_false c56
                      clear c56
                      by_cases c59 : x16_4 ≤ x15_3
                      ·
                       rw [if_pos c59] at H
                       have c59b0 : decide (x16_4 ≤ x15_3) = true := decide_eq_true c59
                       clear c59
                       replace H := Option.bind_eq_some_iff.mp H
                       obtain ⟨t328, A600, H⟩ := H
                       replace H : (some t328) = some r := H
                       have A60 := Aside0.mk A600
                       clear A600
                       obtain rfl := Option.some.inj H
                       go_wp2_with (first | ((with_reducible refine gate_callee (f := 30) rfl ?_); refine goesL_ (some 109) rfl rfl Try.func30 (by kernel_rfl) rfl #[.slice Ao9 t302.length co9] rfl (by (try simp only [List.map_toArray, List.map_cons, List.map_nil]); first | done | rfl | (simp only [List.length_drop, List.length_take]; rfl)) ?_; (with_reducible refine (galloonlaw09_sum.calls k4 _ _ t302 t323 _ ?side1 ?side2 A37.out).mono ?_); (case side1 => repeat (first | exact (Kd.R_reads' HO_7.out).2.2 | (with_reducible refine Kd.C_alloc ?_ _) | (with_reducible refine Kd.C_drewN ?_ _) | (with_reducible refine Kd.C_drew ?_))); (case side2 => exact (Kd.R_reads' HO_7.out).2.1); rintro e w' ⟨rfl, ⟨nd, rfl⟩⟩; refine ⟨_, rfl, ?_⟩; have p326 : 0 ≤ (0 : Int) := (by omega); have q326 : 0 < (t305.length : Int) := of_decide_eq_true (by assumption); obtain ⟨ad326, e326, hx326_0⟩ := Kd.at_int (Kd.R_reads' HO_8.out).2.2 0 p326 q326; cases e326; have qi326 : (0 < t305.length) = True := eq_true (by omega); (try rw [show ((0 : Int)).toNat = 0 from rfl] at hx326_0); (try rw [Addr.add_zero'] at hx326_0); replace p326 := eq_true p326; replace q326 := eq_true q326) | (go_at_call 19; (with_reducible refine (galloonlaw09_awake.calls k4  t328 _ A60.out).mono ?_); rintro e w61 ⟨rfl, hb⟩; have n0_ := Aside0.mk (Kd.R_below (by (with_reducible repeat (first | apply Kd.R_alloc | apply Kd.R_drewN | apply Kd.R_drew)); exact HO_7.out) hb); have n1_ := Aside0.mk (Kd.R_below (by (with_reducible repeat (first | apply Kd.R_alloc | apply Kd.R_drewN | apply Kd.R_drew)); exact HO_8.out) hb); have n2_ := Aside0.mk (below_step (by repeat (first | (with_reducible first | exact HB.out | apply below_alloc | apply pw_below_drewN | apply below_drew1) | exact HB.out)) hb); clear HO_7; clear HO_8; clear HB; have HO_7 := n0_; have HO_8 := n1_; have HB := n2_; clear n0_ n1_ n2_; (try clear hb); (try clear hb2); (try clear hk); (try clear hi)))
                       go_ret
                       exact ⟨by first | rfl | (simp [errW_none, errW_some] <;> rfl) | (simp only [← hji38, ← hji40]; first | rfl | (simp [errW_none, errW_some] <;> rfl)) | (simp [*, errW_none, errW_some] <;> rfl), by repeat (first | (with_reducible first | exact HB.out | apply below_alloc | apply pw_below_drewN | apply below_drew1) | exact HB.out)⟩
                      ·
                       rw [if_neg c59] at H
                       exact absurd H (by simp)
                    ·
                     rw [if_neg c55] at H
                     exact absurd H (by simp)
                   ·
                    rw [if_neg c54] at H
                    exact absurd H (by simp)
                  ·
                   rw [if_neg c53] at H
                   exact absurd H (by simp)
                 ·
                  rw [if_neg c52] at H
                  exact absurd H (by simp)
               ·
                rw [if_neg c42] at H
                exact absurd H (by simp)
              ·
               rw [if_neg c41] at H
               exact absurd H (by simp)
             ·
              rw [if_neg c39] at H
              exact absurd H (by simp)

/-- THE ONE PURE STATEMENT of galloonlaw09_RemnantDivided: yours. -/
def galloonlaw09_RemnantDivided.Pure : Prop := ∀ (a0 : Int) (l1 : List Int) (a2 : Int), (Lit.int .i64 a0).wf = true → l1.length ≤ maxLen → l1.length * 8 ≤ 140737488351232 → (∀ x ∈ l1, (Lit.int .i64 x).wf = true) → (Lit.int .i64 a2).wf = true → ∃ k, galloonlaw09_RemnantDivided.f k a0 l1 a2 = some true
theorem galloonlaw09_RemnantDivided.walk (P : galloonlaw09_RemnantDivided.Pure) (a0 : Int) (a1 : Option Addr) (len1 cap1 : Nat) (z1 : List Int) (a2 : Int) (w : World) (w0 : (Lit.int .i64 a0).wf = true) (w1 : (a1 = none ∧ len1 = 0 ∧ cap1 = 0 ∧ z1 = []) ∨ ∃ x, a1 = some x ∧ len1 ≤ cap1 ∧ cap1 ≤ maxLen ∧ z1.length = cap1 ∧ (∀ i, i < z1.length → w.cell? (x.add i) = some (.int .i64 (z1.getD i 0))) ∧ ∀ n ∈ z1, (Lit.int .i64 n).wf = true) (y1 : len1 * 8 ≤ 140737488351232) (w2 : (Lit.int .i64 a2).wf = true) :
  Calls Try.prog 5 #[.int .i64 a0, .slice a1 len1 cap1, .int .i64 a2] w fun e w' => e = .returned (.bool true) ∧ Below w.heap.size w w' := by
 obtain ⟨l1, rfl, hr1, hm1, hw1, hc1⟩ := ReadsInt.ofRowC w1
 obtain ⟨k, h⟩ := P a0 l1 a2 w0 hm1 y1 hw1 w2
 refine (galloonlaw09_RemnantDivided.calls k a0 _ _ l1 a2 true w (Kd.C_of_reads (d := (0 : Int)) (h1 := fun _ => rfl) hr1) hc1 h).mono ?_
 rintro e w' ⟨rfl, hd⟩
 exact ⟨rfl, hd⟩

/-! ### remnant_boxes: function 65 -/
def remnant_boxes.l0 : Nat → Int → Int → List Int → Int → Int → Option (Int × Bool)
 | 0, _, _, _, _, _ => none
 | k + 1, x1, x6, x9, x10, x11 => if x11 < x10 then (if 0 ≤ x11 then (if x11 < (x9.length : Int) then ((remnant_within.f (rd x9 x11) x1 x6).bind fun t330 => (if t330 = true then (remnant_boxes.l0 k x1 (mx x6 (wrap64 ((rd x9 x11) + 1))) x9 x10 (wrap64 (x11 + 1))) else (some (0, false)))) else (none)) else (none)) else (some (x6, true))
def remnant_boxes.f (k : Nat) (l0 : List Int) (a1 : Int) : Option (Int × Bool) := remnant_boxes.l0 k a1 0 l0 (l0.length : Int) 0
theorem remnant_boxes.mono_l : ∀ k, (∀ y0 y1 y2 y3 y4, LeO (remnant_boxes.l0 k y0 y1 y2 y3 y4) (remnant_boxes.l0 (k + 1) y0 y1 y2 y3 y4))
 | 0 => fun _ _ _ _ _ r h => by simp [remnant_boxes.l0] at h
 | k + 1 => by
  have ih0 := remnant_boxes.mono_l k
  ·
   intro y0 y1 y2 y3 y4
   unfold remnant_boxes.l0
   repeat' first
   | (with_reducible exact ih0 _ _ _ _ _)
   | (with_reducible exact LeO.refl _)
   | (with_reducible exact LeO.none _)
   | (with_reducible refine LeO.ite ?_ ?_)
   | (with_reducible refine LeO.bind ?_ (fun _ => ?_))
   | exact ih0 _ _ _ _ _
   | exact LeO.none _
   | refine LeO.ite ?_ ?_
   | refine LeO.bind ?_ (fun _ => ?_)
theorem remnant_boxes.mono : ∀ a0 a1 k, LeO (remnant_boxes.f k a0 a1) (remnant_boxes.f (k + 1) a0 a1) := by
 intro a0 a1 k
 have ih0 := remnant_boxes.mono_l k
 unfold remnant_boxes.f
 repeat' first
   | (with_reducible exact ih0 _ _ _ _ _)
   | (with_reducible exact LeO.refl _)
   | (with_reducible exact LeO.none _)
   | (with_reducible refine LeO.ite ?_ ?_)
   | (with_reducible refine LeO.bind ?_ (fun _ => ?_))
   | exact ih0 _ _ _ _ _
   | exact LeO.none _
   | refine LeO.ite ?_ ?_
   | refine LeO.bind ?_ (fun _ => ?_)
set_option maxHeartbeats 8000000 in
set_option maxRecDepth 100000 in
theorem remnant_boxes.calls (k : Nat) (A0 : Option Addr) (c0 : Nat) (l0 : List Int) (a1 : Int) (r1 : Int) (r2 : Bool) (w : World) (hr0 : Kd.C (Kd.int .i64) w A0 l0.length l0) (hc0 : l0.length ≤ c0) (h : remnant_boxes.f k l0 a1 = some (r1, r2)) :
  Calls Try.prog 65 #[.slice A0 l0.length c0, .int .i64 a1] w fun e w' => e = .returned (.tuple #[.int .i64 r1, .bool r2]) ∧ Below w.heap.size w w' := by
 have HR0 := Aside0.mk hr0
 have HC0 := Aside0.mk hc0
 clear hr0 hc0
 have HB := Aside0.mk (Below.refl w.heap.size w)
 have H : (remnant_boxes.l0 k a1 0 l0 (l0.length : Int) 0) = some (r1, r2) := h
 clear h
 have H' := Aside0.mk H
 clear H
 go_enter Try.func65, Try.ntmps65
 go_wp2
 go_loopg [6, 11] k (fun kq v6 v11 w' => ∃ (x6_1 : Int) (x11_1 : Int), v6 = .int .i64 x6_1 ∧ v11 = .int .i64 x11_1 ∧ Aside0 (remnant_boxes.l0 kq a1 x6_1 l0 (l0.length : Int) x11_1 = some (r1, r2)) ∧ Aside0 (kq ≤ k) ∧ Aside0 (Below w.heap.size w w'))
 case atStart => exact ⟨(0), (0), (by first | rfl | (simp; done) | (simp [*]; done)), (by first | rfl | (simp; done) | (simp [*]; done)), H', ⟨Nat.le_refl _⟩, ⟨by repeat (first | (with_reducible first | exact HB.out | apply below_alloc | apply pw_below_drewN | apply below_drew1) | exact HB.out)⟩⟩
 case round =>
  as_aux_lemma =>
  clear H'
  try clear p2
  obtain ⟨x6_1, x11_1, rfl, rfl, HA, HK1, HB⟩ := hrel
  cases gk with
  | zero => exact absurd HA.out (by simp [remnant_boxes.l0])
  | succ k1 =>
   have H := HA.out
   clear HA
   simp only [remnant_boxes.l0] at H
   by_cases c3 : x11_1 < (l0.length : Int)
   ·
    rw [if_pos c3] at H
    have c3b0 : decide (x11_1 < (l0.length : Int)) = true := decide_eq_true c3
    clear c3
    by_cases c4 : 0 ≤ x11_1
    ·
     rw [if_pos c4] at H
     have c4b0 : decide (0 ≤ x11_1) = true := decide_eq_true c4
     clear c4
     by_cases c5 : x11_1 < (l0.length : Int)
     ·
      rw [if_pos c5] at H
      have c5b0 : decide (x11_1 < (l0.length : Int)) = true := decide_eq_true c5
      clear c5
      replace H := Option.bind_eq_some_iff.mp H
      obtain ⟨t330, A60, H⟩ := H
      replace H : (if t330 = true then (remnant_boxes.l0 k1 a1 (mx x6_1 (wrap64 ((rd l0 x11_1) + 1))) l0 (l0.length : Int) (wrap64 (x11_1 + 1))) else (some (0, false))) = some (r1, r2) := H
      have A6 := Aside0.mk A60
      clear A60
      by_cases c7 : t330 = true
      ·
       subst c7
       have H1 : (remnant_boxes.l0 k1 a1 (mx x6_1 (wrap64 ((rd l0 x11_1) + 1))) l0 (l0.length : Int) (wrap64 (x11_1 + 1))) = some (r1, r2) := by rw [if_pos rfl] at H; exact H
       clear H
       have H := H1
       clear H1
       obtain ⟨ji8, hji8⟩ : ∃ j_ : Int, (mx x6_1 (wrap64 ((rd l0 x11_1) + 1))) = j_ := ⟨_, rfl⟩
       replace H : (remnant_boxes.l0 k1 a1 ji8 l0 (l0.length : Int) (wrap64 (x11_1 + 1))) = some (r1, r2) := by first | (rw [hji8] at H; exact H) | (simp only [hji8] at H ⊢; exact H)
       (try rw [hji8] at A6)
       have hji8_ : (if x6_1 < (wrap64 ((rd l0 x11_1) + 1)) then (wrap64 ((rd l0 x11_1) + 1)) else x6_1) = ji8 := hji8
       have H' := Aside0.mk H
       clear H
       have p329 : 0 ≤ (x11_1 : Int) := of_decide_eq_true (by assumption)
       have q329 : x11_1 < (l0.length : Int) := of_decide_eq_true (by assumption)
       obtain ⟨ad329, e329, hx329_0⟩ := Kd.at_int HR0.out x11_1 p329 q329
       cases e329
       replace hx329_0 := (HB.out.cell (World.block_lt_of_cell? w _ hx329_0)).trans hx329_0
       replace p329 := eq_true p329
       replace q329 := eq_true q329
       go_wp2_with (first | ((with_reducible refine gate_callee (f := 54) rfl ?_); refine goesL_ (some 18) rfl rfl Try.func54 (by kernel_rfl) rfl #[.int .i64 (rd l0 x11_1), .int .i64 a1, .int .i64 x6_1] rfl (by (try simp only [List.map_toArray, List.map_cons, List.map_nil]); first | done | rfl | (simp only [List.length_drop, List.length_take]; rfl)) ?_; (with_reducible refine (remnant_within.calls (rd l0 x11_1) a1 x6_1 true _ A6.out).mono ?_); rintro e w' ⟨rfl, ⟨nd, rfl⟩⟩; refine ⟨_, rfl, ?_⟩))
       go_roundg k1
       case measure => have := HK1.out; omega
       case rel => exact ⟨(ji8), (wrap64 (x11_1 + 1)), (by first | rfl | (simp; done) | (simp only [← hji8] <;> (first | rfl | simp)) | (simp [*]; done)), (by first | rfl | (simp; done) | (simp [*]; done)), H', ⟨by have := HK1.out; omega⟩, ⟨by repeat (first | (with_reducible first | exact HB.out | apply below_alloc | apply pw_below_drewN | apply below_drew1) | exact HB.out)⟩⟩
      ·
       replace c7 := Bool.eq_false_iff.mpr c7
       subst c7
       have H1 : (some (0, false)) = some (r1, r2) := by rw [if_neg (show ¬ (false = true) by decide)] at H; exact H
       clear H
       have H := H1
       clear H1
       simp only [Option.some.injEq, Prod.mk.injEq] at H
       obtain ⟨rfl, rfl⟩ := H
       have p329 : 0 ≤ (x11_1 : Int) := of_decide_eq_true (by assumption)
       have q329 : x11_1 < (l0.length : Int) := of_decide_eq_true (by assumption)
       obtain ⟨ad329, e329, hx329_0⟩ := Kd.at_int HR0.out x11_1 p329 q329
       cases e329
       replace hx329_0 := (HB.out.cell (World.block_lt_of_cell? w _ hx329_0)).trans hx329_0
       replace p329 := eq_true p329
       replace q329 := eq_true q329
       go_wp2_with (first | ((with_reducible refine gate_callee (f := 54) rfl ?_); refine goesL_ (some 18) rfl rfl Try.func54 (by kernel_rfl) rfl #[.int .i64 (rd l0 x11_1), .int .i64 a1, .int .i64 x6_1] rfl (by (try simp only [List.map_toArray, List.map_cons, List.map_nil]); first | done | rfl | (simp only [List.length_drop, List.length_take]; rfl)) ?_; (with_reducible refine (remnant_within.calls (rd l0 x11_1) a1 x6_1 false _ A6.out).mono ?_); rintro e w' ⟨rfl, ⟨nd, rfl⟩⟩; refine ⟨_, rfl, ?_⟩))
       go_ret2
       exact ⟨by first | rfl | (simp [errW_none, errW_some] <;> rfl) | (simp [*, errW_none, errW_some] <;> rfl), by repeat (first | (with_reducible first | exact HB.out | apply below_alloc | apply pw_below_drewN | apply below_drew1) | exact HB.out)⟩
     ·
      rw [if_neg c5] at H
      exact absurd H (by simp)
    ·
     rw [if_neg c4] at H
     exact absurd H (by simp)
   ·
    rw [if_neg c3] at H
    have c3b0 : decide (x11_1 < (l0.length : Int)) = false := decide_eq_false c3
    clear c3
    simp only [Option.some.injEq, Prod.mk.injEq] at H
    obtain ⟨rfl, rfl⟩ := H
    go_wp2
    go_ret2
    exact ⟨by first | rfl | (simp [errW_none, errW_some] <;> rfl) | (simp [*, errW_none, errW_some] <;> rfl), by repeat (first | (with_reducible first | exact HB.out | apply below_alloc | apply pw_below_drewN | apply below_drew1) | exact HB.out)⟩

-- NOT PRINTED: function 66 (remnant_loaded)

-- NOT PRINTED: function 32 (remnant_IsFilling)

/-! ### galloonref09_numbered: function 67 -/
mutual
def galloonref09_numbered.l0 : Nat → List Int → Int → Int → Int → Option (Int × Bool)
 | 0, _, _, _, _ => none
 | k + 1, x0, x1, x6, x7 => if x7 < (x0.length : Int) then (if 0 ≤ x7 then (if (rd x0 x7) < x1 then (galloonref09_numbered.j1 k x0 x1 x6 x7 true) else (galloonref09_numbered.j1 k x0 x1 x6 x7 (decide ((rd x0 x7) > x6)))) else (none)) else (some (x6, true))
def galloonref09_numbered.j1 : Nat → List Int → Int → Int → Int → Bool → Option (Int × Bool)
 | 0, _, _, _, _, _ => none
 | k + 1, x0, x1, x6, x7, x27 => if x27 = true then (some (0, false)) else (if 0 ≤ x7 then (if x7 < (x0.length : Int) then (if (rd x0 x7) = x6 then (galloonref09_numbered.l0 k x0 x1 (wrap64 (x6 + 1)) (wrap64 (x7 + 1))) else (galloonref09_numbered.l0 k x0 x1 x6 (wrap64 (x7 + 1)))) else (none)) else (none))
end
def galloonref09_numbered.f (k : Nat) (l0 : List Int) (a1 : Int) : Option (Int × Bool) := galloonref09_numbered.l0 k l0 a1 0 0
theorem galloonref09_numbered.mono_l : ∀ k, (∀ y0 y1 y2 y3, LeO (galloonref09_numbered.l0 k y0 y1 y2 y3) (galloonref09_numbered.l0 (k + 1) y0 y1 y2 y3)) ∧ (∀ y0 y1 y2 y3 y4, LeO (galloonref09_numbered.j1 k y0 y1 y2 y3 y4) (galloonref09_numbered.j1 (k + 1) y0 y1 y2 y3 y4))
 | 0 => ⟨fun _ _ _ _ r h => by simp [galloonref09_numbered.l0] at h, fun _ _ _ _ _ r h => by simp [galloonref09_numbered.j1] at h⟩
 | k + 1 => by
  obtain ⟨ih0, ih1⟩ := galloonref09_numbered.mono_l k
  refine ⟨?_, ?_⟩
  ·
   intro y0 y1 y2 y3
   unfold galloonref09_numbered.l0
   repeat' first
   | (with_reducible exact ih0 _ _ _ _)
   | (with_reducible exact ih1 _ _ _ _ _)
   | (with_reducible exact LeO.refl _)
   | (with_reducible exact LeO.none _)
   | (with_reducible refine LeO.ite ?_ ?_)
   | (with_reducible refine LeO.bind ?_ (fun _ => ?_))
   | exact ih0 _ _ _ _
   | exact ih1 _ _ _ _ _
   | exact LeO.none _
   | refine LeO.ite ?_ ?_
   | refine LeO.bind ?_ (fun _ => ?_)
  ·
   intro y0 y1 y2 y3 y4
   unfold galloonref09_numbered.j1
   repeat' first
   | (with_reducible exact ih0 _ _ _ _)
   | (with_reducible exact ih1 _ _ _ _ _)
   | (with_reducible exact LeO.refl _)
   | (with_reducible exact LeO.none _)
   | (with_reducible refine LeO.ite ?_ ?_)
   | (with_reducible refine LeO.bind ?_ (fun _ => ?_))
   | exact ih0 _ _ _ _
   | exact ih1 _ _ _ _ _
   | exact LeO.none _
   | refine LeO.ite ?_ ?_
   | refine LeO.bind ?_ (fun _ => ?_)
theorem galloonref09_numbered.mono : ∀ a0 a1 k, LeO (galloonref09_numbered.f k a0 a1) (galloonref09_numbered.f (k + 1) a0 a1) := by
 intro a0 a1 k
 obtain ⟨ih0, ih1⟩ := galloonref09_numbered.mono_l k
 unfold galloonref09_numbered.f
 repeat' first
   | (with_reducible exact ih0 _ _ _ _)
   | (with_reducible exact ih1 _ _ _ _ _)
   | (with_reducible exact LeO.refl _)
   | (with_reducible exact LeO.none _)
   | (with_reducible refine LeO.ite ?_ ?_)
   | (with_reducible refine LeO.bind ?_ (fun _ => ?_))
   | exact ih0 _ _ _ _
   | exact ih1 _ _ _ _ _
   | exact LeO.none _
   | refine LeO.ite ?_ ?_
   | refine LeO.bind ?_ (fun _ => ?_)
set_option maxHeartbeats 8000000 in
set_option maxRecDepth 100000 in
theorem galloonref09_numbered.calls (k : Nat) (A0 : Option Addr) (c0 : Nat) (l0 : List Int) (a1 : Int) (r1 : Int) (r2 : Bool) (w : World) (hr0 : Kd.C (Kd.int .i64) w A0 l0.length l0) (hc0 : l0.length ≤ c0) (h : galloonref09_numbered.f k l0 a1 = some (r1, r2)) :
  Calls Try.prog 67 #[.slice A0 l0.length c0, .int .i64 a1] w fun e w' => e = .returned (.tuple #[.int .i64 r1, .bool r2]) ∧ Drawn0 w w' := by
 have HR0 := Aside0.mk hr0
 have HC0 := Aside0.mk hc0
 clear hr0 hc0
 have H : (galloonref09_numbered.l0 k l0 a1 0 0) = some (r1, r2) := h
 clear h
 have H' := Aside0.mk H
 clear H
 go_enter Try.func67, Try.ntmps67
 go_wp2
 go_loopg [6, 7] k (fun kq v6 v7 w' => ∃ (x6_1 : Int) (x7_1 : Int), v6 = .int .i64 x6_1 ∧ v7 = .int .i64 x7_1 ∧ Aside0 (galloonref09_numbered.l0 kq l0 a1 x6_1 x7_1 = some (r1, r2)) ∧ Aside0 (kq ≤ k) ∧ Drawn0 w w')
 case atStart => exact ⟨(0), (0), (by first | rfl | (simp; done) | (simp [*]; done)), (by first | rfl | (simp; done) | (simp [*]; done)), H', ⟨Nat.le_refl _⟩, by repeat (first | exact Drawn0.refl _ | apply Drawn0.step)⟩
 case round =>
  as_aux_lemma =>
  clear H'
  try clear p2
  obtain ⟨x6_1, x7_1, rfl, rfl, HA, HK1, ⟨m1, rfl⟩⟩ := hrel
  cases gk with
  | zero => exact absurd HA.out (by simp [galloonref09_numbered.l0])
  | succ k1 =>
   have H := HA.out
   clear HA
   simp only [galloonref09_numbered.l0] at H
   by_cases c3 : x7_1 < (l0.length : Int)
   ·
    rw [if_pos c3] at H
    have c3b0 : decide (x7_1 < (l0.length : Int)) = true := decide_eq_true c3
    clear c3
    have HC4 := Aside0.mk H
    clear H
    go_upto_region 5 with (fail)
    go_cut [27] (fun v27 wc => ∃ (kq : Nat) (x27_3 : Bool), v27 = .bool x27_3 ∧ Aside0 (galloonref09_numbered.j1 kq l0 a1 x6_1 x7_1 x27_3 = some (r1, r2)) ∧ Aside0 (kq ≤ k1) ∧ Drawn0 w wc)
    case first =>
     as_aux_lemma =>
     have H := HC4.out
     clear HC4
     by_cases c5 : 0 ≤ x7_1
     ·
      rw [if_pos c5] at H
      have c5b0 : decide (0 ≤ x7_1) = true := decide_eq_true c5
      clear c5
      (first | rw [c5b0] | (simp only [i64_w, i32_w]; rw [c5b0]) | skip)
      by_cases c6 : (rd l0 x7_1) < a1
      ·
       rw [if_pos c6] at H
       have c6b0 : decide ((rd l0 x7_1) < a1) = true := decide_eq_true c6
       clear c6
       have H' := Aside0.mk H
       clear H
       have p334 : 0 ≤ (x7_1 : Int) := of_decide_eq_true (by assumption)
       have q334 : x7_1 < (l0.length : Int) := of_decide_eq_true (by assumption)
       obtain ⟨ad334, e334, hx334_0⟩ := Kd.at_int HR0.out x7_1 p334 q334
       cases e334
       replace p334 := eq_true p334
       replace q334 := eq_true q334
       go_wp2
       go_meet
       case rel => exact ⟨_, (true), (by first | rfl | (simp; done) | (simp [*]; done)), H', ⟨by have := HK1.out; first | omega | exact Nat.le_refl _⟩, by repeat (first | exact Drawn0.refl _ | apply Drawn0.step)⟩
      ·
       rw [if_neg c6] at H
       have c6b0 : decide ((rd l0 x7_1) < a1) = false := decide_eq_false c6
       clear c6
       have H' := Aside0.mk H
       clear H
       have p334 : 0 ≤ (x7_1 : Int) := of_decide_eq_true (by assumption)
       have q334 : x7_1 < (l0.length : Int) := of_decide_eq_true (by assumption)
       obtain ⟨ad334, e334, hx334_0⟩ := Kd.at_int HR0.out x7_1 p334 q334
       cases e334
       replace p334 := eq_true p334
       replace q334 := eq_true q334
       have p335 : 0 ≤ (x7_1 : Int) := of_decide_eq_true (by assumption)
       have q335 : x7_1 < (l0.length : Int) := of_decide_eq_true (by assumption)
       obtain ⟨ad335, e335, hx335_0⟩ := Kd.at_int HR0.out x7_1 p335 q335
       obtain rfl : ad334 = ad335 := (by injection e335)
       replace p335 := eq_true p335
       replace q335 := eq_true q335
       go_wp2
       go_meet
       case rel => exact ⟨_, (decide ((rd l0 x7_1) > x6_1)), (by first | rfl | (simp; done) | (simp [*]; done)), H', ⟨by have := HK1.out; first | omega | exact Nat.le_refl _⟩, by repeat (first | exact Drawn0.refl _ | apply Drawn0.step)⟩
     ·
      rw [if_neg c5] at H
      exact absurd H (by simp)
    case rest =>
     as_aux_lemma =>
     clear HC4
     try clear p2
     try clear c3
     try clear c3b0
     try clear p3
     try clear q3
     try clear hx3
     try clear c5
     try clear c5b0
     try clear c6
     try clear c6b0
     try clear hx334_0
     try clear hx335_0
     try clear p2
     try clear p334
     try clear p335
     try clear q334
     try clear q335
     obtain ⟨kq, x27_3, rfl, HA, HJ3, ⟨mc3, rfl⟩⟩ := hcut
     cases kq with
     | zero => exact absurd HA.out (by simp [galloonref09_numbered.j1])
     | succ kj3 =>
      have H := HA.out
      clear HA
      simp only [galloonref09_numbered.j1] at H
      by_cases c7 : x27_3 = true
      ·
       subst c7
       have H1 : (some (0, false)) = some (r1, r2) := by rw [if_pos rfl] at H; exact H
       clear H
       have H := H1
       clear H1
       simp only [Option.some.injEq, Prod.mk.injEq] at H
       obtain ⟨rfl, rfl⟩ := H
       go_wp2
       go_ret2
       exact ⟨by first | rfl | (simp; done) | (simp [*]; done), by repeat (first | exact Drawn0.refl _ | apply Drawn0.step)⟩
      ·
       replace c7 := Bool.eq_false_iff.mpr c7
       subst c7
       have H1 : (if 0 ≤ x7_1 then (if x7_1 < (l0.length : Int) then (if (rd l0 x7_1) = x6_1 then (galloonref09_numbered.l0 kj3 l0 a1 (wrap64 (x6_1 + 1)) (wrap64 (x7_1 + 1))) else (galloonref09_numbered.l0 kj3 l0 a1 x6_1 (wrap64 (x7_1 + 1)))) else (none)) else (none)) = some (r1, r2) := by rw [if_neg (show ¬ (false = true) by decide)] at H; exact H
       clear H
       have H := H1
       clear H1
       by_cases c8 : 0 ≤ x7_1
       ·
        rw [if_pos c8] at H
        have c8b0 : decide (0 ≤ x7_1) = true := decide_eq_true c8
        clear c8
        by_cases c9 : x7_1 < (l0.length : Int)
        ·
         rw [if_pos c9] at H
         have c9b0 : decide (x7_1 < (l0.length : Int)) = true := decide_eq_true c9
         clear c9
         by_cases c10 : (rd l0 x7_1) = x6_1
         ·
          rw [if_pos c10] at H
          have c10b0 : ((rd l0 x7_1) == x6_1) = true := beq_iff_eq.mpr c10
          have c10b1 : ((rd l0 x7_1) != x6_1) = false := bne_eq_false_iff_eq.mpr c10
          clear c10
          have H' := Aside0.mk H
          clear H
          have p336 : 0 ≤ (x7_1 : Int) := of_decide_eq_true (by assumption)
          have q336 : x7_1 < (l0.length : Int) := of_decide_eq_true (by assumption)
          obtain ⟨ad336, e336, hx336_0⟩ := Kd.at_int HR0.out x7_1 p336 q336
          cases e336
          replace p336 := eq_true p336
          replace q336 := eq_true q336
          go_wp2
          go_roundg kj3
          case measure => have := HK1.out; have := HJ3.out; omega
          case rel => exact ⟨(wrap64 (x6_1 + 1)), (wrap64 (x7_1 + 1)), (by first | rfl | (simp; done) | (simp [*]; done)), (by first | rfl | (simp; done) | (simp [*]; done)), H', ⟨by have := HK1.out; have := HJ3.out; omega⟩, by repeat (first | exact Drawn0.refl _ | apply Drawn0.step)⟩
         ·
          rw [if_neg c10] at H
          have c10b0 : ((rd l0 x7_1) == x6_1) = false := beq_eq_false_iff_ne.mpr c10
          have c10b1 : ((rd l0 x7_1) != x6_1) = true := bne_iff_ne.mpr c10
          have H' := Aside0.mk H
          clear H
          have p336 : 0 ≤ (x7_1 : Int) := of_decide_eq_true (by assumption)
          have q336 : x7_1 < (l0.length : Int) := of_decide_eq_true (by assumption)
          obtain ⟨ad336, e336, hx336_0⟩ := Kd.at_int HR0.out x7_1 p336 q336
          cases e336
          replace p336 := eq_true p336
          replace q336 := eq_true q336
          go_wp2
          go_roundg kj3
          case measure => have := HK1.out; have := HJ3.out; omega
          case rel => exact ⟨(x6_1), (wrap64 (x7_1 + 1)), (by first | rfl | (simp; done) | (simp [*]; done)), (by first | rfl | (simp; done) | (simp [*]; done)), H', ⟨by have := HK1.out; have := HJ3.out; omega⟩, by repeat (first | exact Drawn0.refl _ | apply Drawn0.step)⟩
        ·
         rw [if_neg c9] at H
         exact absurd H (by simp)
       ·
        rw [if_neg c8] at H
        exact absurd H (by simp)
   ·
    rw [if_neg c3] at H
    have c3b0 : decide (x7_1 < (l0.length : Int)) = false := decide_eq_false c3
    clear c3
    simp only [Option.some.injEq, Prod.mk.injEq] at H
    obtain ⟨rfl, rfl⟩ := H
    go_wp2
    go_ret2
    exact ⟨by first | rfl | (simp; done) | (simp [*]; done), by repeat (first | exact Drawn0.refl _ | apply Drawn0.step)⟩

/-! ### galloonref09_Listed: function 33 -/
def galloonref09_Listed.f (k : Nat) (l0 : List Int) (l1 : List Int) : Option (Bool) := (galloonref09_numbered.f k l1 (-1)).bind fun bt337 => (if bt337.2 = true then (some ((l1.length : Int) == (l0.length : Int))) else (some false))
theorem galloonref09_Listed.mono : ∀ a0 a1 k, LeO (galloonref09_Listed.f k a0 a1) (galloonref09_Listed.f (k + 1) a0 a1) := by
 intro a0 a1 k
 unfold galloonref09_Listed.f
 repeat' first
   | (with_reducible exact galloonref09_numbered.mono _ _ _)
   | (with_reducible exact LeO.refl _)
   | (with_reducible exact LeO.none _)
   | (with_reducible refine LeO.ite ?_ ?_)
   | (with_reducible refine LeO.bind ?_ (fun _ => ?_))
   | exact galloonref09_numbered.mono _ _ _
   | exact LeO.none _
   | refine LeO.ite ?_ ?_
   | refine LeO.bind ?_ (fun _ => ?_)
set_option maxHeartbeats 8000000 in
set_option maxRecDepth 100000 in
theorem galloonref09_Listed.calls (k : Nat) (A0 : Option Addr) (c0 : Nat) (l0 : List Int) (A1 : Option Addr) (c1 : Nat) (l1 : List Int) (r : Bool) (w : World) (hr0 : Kd.C (Kd.int .i64) w A0 l0.length l0) (hc0 : l0.length ≤ c0) (hr1 : Kd.C (Kd.int .i64) w A1 l1.length l1) (hc1 : l1.length ≤ c1) (h : galloonref09_Listed.f k l0 l1 = some r) :
  Calls Try.prog 33 #[.slice A0 l0.length c0, .slice A1 l1.length c1] w fun e w' => e = .returned (.bool r) ∧ Drawn0 w w' := by
 have HR0 := Aside0.mk hr0
 have HC0 := Aside0.mk hc0
 clear hr0 hc0
 have HR1 := Aside0.mk hr1
 have HC1 := Aside0.mk hc1
 clear hr1 hc1
 have H : ((galloonref09_numbered.f k l1 (-1)).bind fun bt337 => (if bt337.2 = true then (some ((l1.length : Int) == (l0.length : Int))) else (some false))) = some r := h
 clear h
 replace H := Option.bind_eq_some_iff.mp H
 obtain ⟨⟨t337, t338⟩, A30, H⟩ := H
 replace H : (if t338 = true then (some ((l1.length : Int) == (l0.length : Int))) else (some false)) = some r := H
 have A3 := Aside0.mk A30
 clear A30
 by_cases c4 : t338 = true
 ·
  subst c4
  have H1 : (some ((l1.length : Int) == (l0.length : Int))) = some r := by rw [if_pos rfl] at H; exact H
  clear H
  have H := H1
  clear H1
  obtain rfl := Option.some.inj H
  go_enter Try.func33, Try.ntmps33
  go_wp2_with (first | ((with_reducible refine gate_callee (f := 67) rfl ?_); refine goesL_ (some 9) rfl rfl Try.func67 (by kernel_rfl) rfl #[.slice A1 l1.length c1, .int .i64 (-1)] rfl (by (try simp only [List.map_toArray, List.map_cons, List.map_nil]); first | done | rfl | (simp only [List.length_drop, List.length_take]; rfl)) ?_; (with_reducible refine (galloonref09_numbered.calls k _ _ l1 (-1) t337 true _ ?side1 ?side2 A3.out).mono ?_); (case side1 => repeat (first | exact HR1.out | (with_reducible refine Kd.C_alloc ?_ _) | (with_reducible refine Kd.C_drewN ?_ _) | (with_reducible refine Kd.C_drew ?_))); (case side2 => exact HC1.out); rintro e w' ⟨rfl, ⟨nd, rfl⟩⟩; refine ⟨_, rfl, ?_⟩))
  go_ret
  exact ⟨by first | rfl | (simp; done) | (simp [*]; done), by repeat (first | exact Drawn0.refl _ | apply Drawn0.step)⟩
 ·
  replace c4 := Bool.eq_false_iff.mpr c4
  subst c4
  have H1 : (some false) = some r := by rw [if_neg (show ¬ (false = true) by decide)] at H; exact H
  clear H
  have H := H1
  clear H1
  obtain rfl := Option.some.inj H
  go_enter Try.func33, Try.ntmps33
  go_wp2_with (first | ((with_reducible refine gate_callee (f := 67) rfl ?_); refine goesL_ (some 9) rfl rfl Try.func67 (by kernel_rfl) rfl #[.slice A1 l1.length c1, .int .i64 (-1)] rfl (by (try simp only [List.map_toArray, List.map_cons, List.map_nil]); first | done | rfl | (simp only [List.length_drop, List.length_take]; rfl)) ?_; (with_reducible refine (galloonref09_numbered.calls k _ _ l1 (-1) t337 false _ ?side1 ?side2 A3.out).mono ?_); (case side1 => repeat (first | exact HR1.out | (with_reducible refine Kd.C_alloc ?_ _) | (with_reducible refine Kd.C_drewN ?_ _) | (with_reducible refine Kd.C_drew ?_))); (case side2 => exact HC1.out); rintro e w' ⟨rfl, ⟨nd, rfl⟩⟩; refine ⟨_, rfl, ?_⟩))
  go_ret
  exact ⟨by first | rfl | (simp; done) | (simp [*]; done), by repeat (first | exact Drawn0.refl _ | apply Drawn0.step)⟩

end Go.Proofs.Ytoecbchfdgbliaa.P
