-- Written by a program of this session (wip/xprint.py), over the kit's print; some sections by hand.
import Derived.Test.YtkjjnfbgcdanmaaPx0
import Derived.Test.YtkjjnfbgcdanmaaPx2
import Derived.Test.YtkjjnfbgcdanmaaPx4
import Derived.Test.YtkjjnfbgcdanmaaPx6
import Derived.Test.YtkjjnfbgcdanmaaPx7
import Derived.Test.YtkjjnfbgcdanmaaPx8
import Derived.Test.YtkjjnfbgcdanmaaPx9
import Derived.Test.YtkjjnfbgcdanmaaPx10
import Derived.Test.YtkjjnfbgcdanmaaHandC
namespace Go.Proofs.Ytkjjnfbgcdanmaa.P
open Go.RowKit Go.Proofs.YtkjjnfbgcdanmaaW.PrintWords Go.Proofs.YtkjjnfbgcdanmaaW.PrintLast Go.Proofs.YtkjjnfbgcdanmaaW.PrintMore
attribute [local go_sem] max2_int min2_int max_two min_two max_three min_three max_four min_four   -- for this text's walks alone
set_option linter.unusedVariables false
set_option linter.unusedSimpArgs false

/-! ### galloonlaw06_ShuffleParted: function 14 -/
mutual
def galloonlaw06_ShuffleParted.j0 : Nat → Int → Int → List Int → Int → List (S44) → List (List Int) → Bool → Option (Bool)
 | 0, _, _, _, _, _, _, _ => none
 | k + 1, x0, x2, x8, x10, x13, x14, x77 => if x77 = true then (none) else ((galloonlaw06_mod.f x2 x0).bind fun t313 => (galloonlaw06_ShuffleParted.l0 k x8 x10 x13 x14 t313 true ([] : List Int) 0))
def galloonlaw06_ShuffleParted.l0 : Nat → List Int → Int → List (S44) → List (List Int) → Int → Bool → List Int → Int → Option (Bool)
 | 0, _, _, _, _, _, _, _, _ => none
 | k + 1, x8, x10, x13, x14, x16, x17, x18, x19 => if x19 < (x13.length : Int) then (if 0 ≤ x19 then ((galloonref06_Power.f k ((rd_T44 x13 x19).f0) ((rd_T44 x13 x19).f1)).bind fun t320 => (if x19 < (x14.length : Int) then ((galloonref06_Function.f k t320 (rd_L2 x14 x19)).bind fun t322 => (if t322 = true then (if x17 = true then ((galloonref06_Permutation.f k (rd_L2 x14 x19)).bind fun t324 => (if t320 = 0 then (none) else (if 0 ≤ (Int.tmod x16 t320) then (if (Int.tmod x16 t320) < ((rd_L2 x14 x19).length : Int) then (if x18.length < 17592186044416 then (galloonlaw06_ShuffleParted.l0 k x8 x10 x13 x14 x16 t324 (x18 ++ [rd (rd_L2 x14 x19) (Int.tmod x16 t320)]) (wrap64 (x19 + 1))) else (none)) else (none)) else (none)))) else (if t320 = 0 then (none) else (if 0 ≤ (Int.tmod x16 t320) then (if (Int.tmod x16 t320) < ((rd_L2 x14 x19).length : Int) then (if x18.length < 17592186044416 then (galloonlaw06_ShuffleParted.l0 k x8 x10 x13 x14 x16 false (x18 ++ [rd (rd_L2 x14 x19) (Int.tmod x16 t320)]) (wrap64 (x19 + 1))) else (none)) else (none)) else (none)))) else (none))) else (none))) else (none)) else ((shuffle_Joined.f k x13 x18).bind fun bt314 => (if bt314.2 = 0 then (if 0 ≤ x16 then (if x16 < (x8.length : Int) then (if bt314.1 = (rd x8 x16) then (if (x17 == (x10 == (-1))) = true then ((galloonlaw06_awake.f k).bind fun t317 => (some t317)) else (none)) else (none)) else (none)) else (none)) else (none)))
end
def galloonlaw06_ShuffleParted.f (k : Nat) (a0 : Int) (l1 : List Int) (a2 : Int) : Option (Bool) := (galloonlaw06_mod.f a0 63).bind fun t294 => ((galloonlaw06_tame.f k (wrap64 (2 + t294)) l1).bind fun t295 => ((shuffle_Values.f k (wrap64 (2 + t294)) t295).bind fun bt298 => ((shuffle_Permutes.f k (wrap64 (2 + t294)) t295).bind fun bt302 => ((shuffle_Split.f k (wrap64 (2 + t294)) t295).bind fun bt305 => (if bt298.2 = 0 then (if bt302.2.2 = 0 then (if bt305.2.2 = 0 then (if (bt298.1.length : Int) = (wrap64 (2 + t294)) then ((galloonref06_Product.f k bt305.1).bind fun t312 => (if t312 = (wrap64 (2 + t294)) then (galloonlaw06_ShuffleParted.j0 k (wrap64 (2 + t294)) a2 bt298.1 bt302.1 bt305.1 bt305.2.1 ((bt305.2.1.length : Int) != (bt305.1.length : Int))) else (none))) else (none)) else (none)) else (none)) else (none))))))
theorem galloonlaw06_ShuffleParted.mono_l : ∀ k, (∀ y0 y1 y2 y3 y4 y5 y6, LeO (galloonlaw06_ShuffleParted.j0 k y0 y1 y2 y3 y4 y5 y6) (galloonlaw06_ShuffleParted.j0 (k + 1) y0 y1 y2 y3 y4 y5 y6)) ∧ (∀ y0 y1 y2 y3 y4 y5 y6 y7, LeO (galloonlaw06_ShuffleParted.l0 k y0 y1 y2 y3 y4 y5 y6 y7) (galloonlaw06_ShuffleParted.l0 (k + 1) y0 y1 y2 y3 y4 y5 y6 y7))
 | 0 => ⟨fun _ _ _ _ _ _ _ r h => by simp [galloonlaw06_ShuffleParted.j0] at h, fun _ _ _ _ _ _ _ _ r h => by simp [galloonlaw06_ShuffleParted.l0] at h⟩
 | k + 1 => by
  obtain ⟨ih0, ih1⟩ := galloonlaw06_ShuffleParted.mono_l k
  refine ⟨?_, ?_⟩
  ·
   intro y0 y1 y2 y3 y4 y5 y6
   unfold galloonlaw06_ShuffleParted.j0
   repeat' first
   | (with_reducible exact ih0 _ _ _ _ _ _ _)
   | (with_reducible exact ih1 _ _ _ _ _ _ _ _)
   | (with_reducible exact galloonlaw06_awake.mono _)
   | (with_reducible exact galloonlaw06_tame.mono _ _ _)
   | (with_reducible exact galloonref06_Function.mono _ _ _)
   | (with_reducible exact galloonref06_Permutation.mono _ _)
   | (with_reducible exact galloonref06_Power.mono _ _ _)
   | (with_reducible exact galloonref06_Product.mono _ _)
   | (with_reducible exact shuffle_Joined.mono _ _ _)
   | (with_reducible exact shuffle_Permutes.mono _ _ _)
   | (with_reducible exact shuffle_Split.mono _ _ _)
   | (with_reducible exact shuffle_Values.mono _ _ _)
   | (with_reducible exact LeO.refl _)
   | (with_reducible exact LeO.none _)
   | (with_reducible refine LeO.ite ?_ ?_)
   | (with_reducible refine LeO.bind ?_ (fun _ => ?_))
   | exact ih0 _ _ _ _ _ _ _
   | exact ih1 _ _ _ _ _ _ _ _
   | exact galloonlaw06_awake.mono _
   | exact galloonlaw06_tame.mono _ _ _
   | exact galloonref06_Function.mono _ _ _
   | exact galloonref06_Permutation.mono _ _
   | exact galloonref06_Power.mono _ _ _
   | exact galloonref06_Product.mono _ _
   | exact shuffle_Joined.mono _ _ _
   | exact shuffle_Permutes.mono _ _ _
   | exact shuffle_Split.mono _ _ _
   | exact shuffle_Values.mono _ _ _
   | exact LeO.none _
   | refine LeO.ite ?_ ?_
   | refine LeO.bind ?_ (fun _ => ?_)
  ·
   intro y0 y1 y2 y3 y4 y5 y6 y7
   unfold galloonlaw06_ShuffleParted.l0
   repeat' first
   | (with_reducible exact ih0 _ _ _ _ _ _ _)
   | (with_reducible exact ih1 _ _ _ _ _ _ _ _)
   | (with_reducible exact galloonlaw06_awake.mono _)
   | (with_reducible exact galloonlaw06_tame.mono _ _ _)
   | (with_reducible exact galloonref06_Function.mono _ _ _)
   | (with_reducible exact galloonref06_Permutation.mono _ _)
   | (with_reducible exact galloonref06_Power.mono _ _ _)
   | (with_reducible exact galloonref06_Product.mono _ _)
   | (with_reducible exact shuffle_Joined.mono _ _ _)
   | (with_reducible exact shuffle_Permutes.mono _ _ _)
   | (with_reducible exact shuffle_Split.mono _ _ _)
   | (with_reducible exact shuffle_Values.mono _ _ _)
   | (with_reducible exact LeO.refl _)
   | (with_reducible exact LeO.none _)
   | (with_reducible refine LeO.ite ?_ ?_)
   | (with_reducible refine LeO.bind ?_ (fun _ => ?_))
   | exact ih0 _ _ _ _ _ _ _
   | exact ih1 _ _ _ _ _ _ _ _
   | exact galloonlaw06_awake.mono _
   | exact galloonlaw06_tame.mono _ _ _
   | exact galloonref06_Function.mono _ _ _
   | exact galloonref06_Permutation.mono _ _
   | exact galloonref06_Power.mono _ _ _
   | exact galloonref06_Product.mono _ _
   | exact shuffle_Joined.mono _ _ _
   | exact shuffle_Permutes.mono _ _ _
   | exact shuffle_Split.mono _ _ _
   | exact shuffle_Values.mono _ _ _
   | exact LeO.none _
   | refine LeO.ite ?_ ?_
   | refine LeO.bind ?_ (fun _ => ?_)
theorem galloonlaw06_ShuffleParted.mono : ∀ a0 a1 a2 k, LeO (galloonlaw06_ShuffleParted.f k a0 a1 a2) (galloonlaw06_ShuffleParted.f (k + 1) a0 a1 a2) := by
 intro a0 a1 a2 k
 obtain ⟨ih0, ih1⟩ := galloonlaw06_ShuffleParted.mono_l k
 unfold galloonlaw06_ShuffleParted.f
 repeat' first
   | (with_reducible exact ih0 _ _ _ _ _ _ _)
   | (with_reducible exact ih1 _ _ _ _ _ _ _ _)
   | (with_reducible exact galloonlaw06_awake.mono _)
   | (with_reducible exact galloonlaw06_tame.mono _ _ _)
   | (with_reducible exact galloonref06_Function.mono _ _ _)
   | (with_reducible exact galloonref06_Permutation.mono _ _)
   | (with_reducible exact galloonref06_Power.mono _ _ _)
   | (with_reducible exact galloonref06_Product.mono _ _)
   | (with_reducible exact shuffle_Joined.mono _ _ _)
   | (with_reducible exact shuffle_Permutes.mono _ _ _)
   | (with_reducible exact shuffle_Split.mono _ _ _)
   | (with_reducible exact shuffle_Values.mono _ _ _)
   | (with_reducible exact LeO.refl _)
   | (with_reducible exact LeO.none _)
   | (with_reducible refine LeO.ite ?_ ?_)
   | (with_reducible refine LeO.bind ?_ (fun _ => ?_))
   | exact ih0 _ _ _ _ _ _ _
   | exact ih1 _ _ _ _ _ _ _ _
   | exact galloonlaw06_awake.mono _
   | exact galloonlaw06_tame.mono _ _ _
   | exact galloonref06_Function.mono _ _ _
   | exact galloonref06_Permutation.mono _ _
   | exact galloonref06_Power.mono _ _ _
   | exact galloonref06_Product.mono _ _
   | exact shuffle_Joined.mono _ _ _
   | exact shuffle_Permutes.mono _ _ _
   | exact shuffle_Split.mono _ _ _
   | exact shuffle_Values.mono _ _ _
   | exact LeO.none _
   | refine LeO.ite ?_ ?_
   | refine LeO.bind ?_ (fun _ => ?_)
def galloonlaw06_ShuffleParted.T14 : Bool × List (List Nat × List Nat) := (true, [([], []), ([], []), ([0, 1], [0, 1]), ([2], [2]), ([3], [3]), ([], []), ([], []), ([5, 6], [5, 6]), ([7], [7]), ([8], [8]), ([4, 9], [4, 9]), ([10, 10, 0, 1, 2, 3, 4, 5, 6, 7, 8, 9, 10], [10])])
def galloonlaw06_ShuffleParted.B14 : List Nat := [0, 0, 3, 7, 15, 0, 0, 96, 224, 480, 1023, 2047]
theorem galloonlaw06_ShuffleParted.tab14 : rtab .any (opsOf Try.f14 14) = galloonlaw06_ShuffleParted.T14 := by kernel_rfl
theorem galloonlaw06_ShuffleParted.bits14 : waitsOk galloonlaw06_ShuffleParted.T14.2 galloonlaw06_ShuffleParted.B14 = true := by kernel_rfl
def galloonlaw06_ShuffleParted.T18 : Bool × List (List Nat × List Nat) := (true, [([], []), ([], []), ([], []), ([1, 2], [1, 2]), ([3], [3]), ([], []), ([], []), ([5, 6], [5, 6]), ([4, 7], [4, 7]), ([8], [8]), ([9], [9]), ([0, 10], [0, 10]), ([11, 11, 0, 1, 2, 3, 4, 5, 6, 7, 8, 9, 10, 11], [0, 11])])
def galloonlaw06_ShuffleParted.B18 : List Nat := [0, 0, 0, 6, 14, 0, 0, 96, 254, 510, 1022, 2047, 4095]
theorem galloonlaw06_ShuffleParted.tab18 : rtab .any (opsOf Try.f14 18) = galloonlaw06_ShuffleParted.T18 := by kernel_rfl
theorem galloonlaw06_ShuffleParted.bits18 : waitsOk galloonlaw06_ShuffleParted.T18.2 galloonlaw06_ShuffleParted.B18 = true := by kernel_rfl
set_option maxHeartbeats 8000000 in
set_option maxRecDepth 100000 in
theorem galloonlaw06_ShuffleParted.calls (k : Nat) (a0 : Int) (A1 : Option Addr) (c1 : Nat) (l1 : List Int) (a2 : Int) (r : Bool) (w : World) (hr1 : Kd.C (Kd.int .i64) w A1 l1.length l1) (hc1 : l1.length ≤ c1) (h : galloonlaw06_ShuffleParted.f k a0 l1 a2 = some r) :
  Calls Try.prog 14 #[.int .i64 a0, .slice A1 l1.length c1, .int .i64 a2] w fun e w' => e = .returned (.bool r) ∧ Below w.heap.size w w' := by
 have HR1 := Aside0.mk hr1
 have HC1 := Aside0.mk hc1
 clear hr1 hc1
 have HB := Aside0.mk (Below.refl w.heap.size w)
 have H : ((galloonlaw06_mod.f a0 63).bind fun t294 => ((galloonlaw06_tame.f k (wrap64 (2 + t294)) l1).bind fun t295 => ((shuffle_Values.f k (wrap64 (2 + t294)) t295).bind fun bt298 => ((shuffle_Permutes.f k (wrap64 (2 + t294)) t295).bind fun bt302 => ((shuffle_Split.f k (wrap64 (2 + t294)) t295).bind fun bt305 => (if bt298.2 = 0 then (if bt302.2.2 = 0 then (if bt305.2.2 = 0 then (if (bt298.1.length : Int) = (wrap64 (2 + t294)) then ((galloonref06_Product.f k bt305.1).bind fun t312 => (if t312 = (wrap64 (2 + t294)) then (galloonlaw06_ShuffleParted.j0 k (wrap64 (2 + t294)) a2 bt298.1 bt302.1 bt305.1 bt305.2.1 ((bt305.2.1.length : Int) != (bt305.1.length : Int))) else (none))) else (none)) else (none)) else (none)) else (none))))))) = some r := h
 clear h
 replace H := Option.bind_eq_some_iff.mp H
 obtain ⟨t294, A40, H⟩ := H
 replace H : ((galloonlaw06_tame.f k (wrap64 (2 + t294)) l1).bind fun t295 => ((shuffle_Values.f k (wrap64 (2 + t294)) t295).bind fun bt298 => ((shuffle_Permutes.f k (wrap64 (2 + t294)) t295).bind fun bt302 => ((shuffle_Split.f k (wrap64 (2 + t294)) t295).bind fun bt305 => (if bt298.2 = 0 then (if bt302.2.2 = 0 then (if bt305.2.2 = 0 then (if (bt298.1.length : Int) = (wrap64 (2 + t294)) then ((galloonref06_Product.f k bt305.1).bind fun t312 => (if t312 = (wrap64 (2 + t294)) then (galloonlaw06_ShuffleParted.j0 k (wrap64 (2 + t294)) a2 bt298.1 bt302.1 bt305.1 bt305.2.1 ((bt305.2.1.length : Int) != (bt305.1.length : Int))) else (none))) else (none)) else (none)) else (none)) else (none)))))) = some r := H
 have A4 := Aside0.mk A40
 clear A40
 replace H := Option.bind_eq_some_iff.mp H
 obtain ⟨t295, A50, H⟩ := H
 replace H : ((shuffle_Values.f k (wrap64 (2 + t294)) t295).bind fun bt298 => ((shuffle_Permutes.f k (wrap64 (2 + t294)) t295).bind fun bt302 => ((shuffle_Split.f k (wrap64 (2 + t294)) t295).bind fun bt305 => (if bt298.2 = 0 then (if bt302.2.2 = 0 then (if bt305.2.2 = 0 then (if (bt298.1.length : Int) = (wrap64 (2 + t294)) then ((galloonref06_Product.f k bt305.1).bind fun t312 => (if t312 = (wrap64 (2 + t294)) then (galloonlaw06_ShuffleParted.j0 k (wrap64 (2 + t294)) a2 bt298.1 bt302.1 bt305.1 bt305.2.1 ((bt305.2.1.length : Int) != (bt305.1.length : Int))) else (none))) else (none)) else (none)) else (none)) else (none))))) = some r := H
 have A5 := Aside0.mk A50
 clear A50
 replace H := Option.bind_eq_some_iff.mp H
 obtain ⟨⟨t298, t299⟩, A60, H⟩ := H
 replace H : ((shuffle_Permutes.f k (wrap64 (2 + t294)) t295).bind fun bt302 => ((shuffle_Split.f k (wrap64 (2 + t294)) t295).bind fun bt305 => (if t299 = 0 then (if bt302.2.2 = 0 then (if bt305.2.2 = 0 then (if (t298.length : Int) = (wrap64 (2 + t294)) then ((galloonref06_Product.f k bt305.1).bind fun t312 => (if t312 = (wrap64 (2 + t294)) then (galloonlaw06_ShuffleParted.j0 k (wrap64 (2 + t294)) a2 t298 bt302.1 bt305.1 bt305.2.1 ((bt305.2.1.length : Int) != (bt305.1.length : Int))) else (none))) else (none)) else (none)) else (none)) else (none)))) = some r := H
 have A6 := Aside0.mk A60
 clear A60
 replace H := Option.bind_eq_some_iff.mp H
 obtain ⟨⟨t302, t303, t304⟩, A70, H⟩ := H
 replace H : ((shuffle_Split.f k (wrap64 (2 + t294)) t295).bind fun bt305 => (if t299 = 0 then (if t304 = 0 then (if bt305.2.2 = 0 then (if (t298.length : Int) = (wrap64 (2 + t294)) then ((galloonref06_Product.f k bt305.1).bind fun t312 => (if t312 = (wrap64 (2 + t294)) then (galloonlaw06_ShuffleParted.j0 k (wrap64 (2 + t294)) a2 t298 t302 bt305.1 bt305.2.1 ((bt305.2.1.length : Int) != (bt305.1.length : Int))) else (none))) else (none)) else (none)) else (none)) else (none))) = some r := H
 have A7 := Aside0.mk A70
 clear A70
 replace H := Option.bind_eq_some_iff.mp H
 obtain ⟨⟨t305, t306, t307⟩, A80, H⟩ := H
 replace H : (if t299 = 0 then (if t304 = 0 then (if t307 = 0 then (if (t298.length : Int) = (wrap64 (2 + t294)) then ((galloonref06_Product.f k t305).bind fun t312 => (if t312 = (wrap64 (2 + t294)) then (galloonlaw06_ShuffleParted.j0 k (wrap64 (2 + t294)) a2 t298 t302 t305 t306 ((t306.length : Int) != (t305.length : Int))) else (none))) else (none)) else (none)) else (none)) else (none)) = some r := H
 have A8 := Aside0.mk A80
 clear A80
 have HC9 := Aside0.mk H
 clear H
 go_enter Try.func14, Try.ntmps14
 go_upto_region 6 with (first | ((with_reducible refine gate_callee (f := 15) rfl ?_); refine goesL_ (some 24) rfl rfl Try.func15 (by kernel_rfl) rfl #[.int .i64 a0, .int .i64 63] rfl (by (try simp only [List.map_toArray, List.map_cons, List.map_nil]); first | done | rfl | (simp only [List.length_drop, List.length_take]; rfl)) ?_; (with_reducible refine (galloonlaw06_mod.calls a0 63 t294 _ A4.out).mono ?_); rintro e w' ⟨rfl, ⟨nd, rfl⟩⟩; refine ⟨_, rfl, ?_⟩) | ((with_reducible refine gate_callee (f := 21) rfl ?_); refine goesL_ (some 28) rfl rfl Try.func21 (by kernel_rfl) rfl #[.int .i64 (wrap64 (2 + t294)), .slice A1 l1.length c1] rfl (by (try simp only [List.map_toArray, List.map_cons, List.map_nil]); first | done | rfl | (simp only [List.length_drop, List.length_take]; rfl)) ?_; (with_reducible refine (galloonlaw06_tame.calls k (wrap64 (2 + t294)) _ _ l1 t295 _ ?side1 ?side2 A5.out).mono ?_); (case side1 => repeat (first | exact HR1.out | (with_reducible refine Kd.C_alloc ?_ _) | (with_reducible refine Kd.C_drewN ?_ _) | (with_reducible refine Kd.C_drew ?_))); (case side2 => exact HC1.out); rintro e w10 ⟨v296, rfl, ho0, hb⟩; refine ⟨_, rfl, ?_⟩; have n0_ := Aside0.mk (Kd.R_lower ho0 (below_size (by repeat (first | (with_reducible first | exact HB.out | apply below_alloc | apply pw_below_drewN | apply below_drew1) | exact HB.out)))); have n1_ := Aside0.mk (below_step (by repeat (first | (with_reducible first | exact HB.out | apply below_alloc | apply pw_below_drewN | apply below_drew1) | exact HB.out)) hb); clear HB; have HO297 := n0_; have HB := n1_; clear n0_ n1_; (try clear hb); (try clear hb2); (try clear hk); (try clear hi); (try clear ho0); obtain ⟨Ao11, co11, eo11⟩ := Kd.R_slice HO297.out; subst eo11) | ((with_reducible refine gate_callee (f := 20) rfl ?_); refine goesL_ (some 32) rfl rfl Try.func20 (by kernel_rfl) rfl #[.int .i64 (wrap64 (2 + t294)), .slice Ao11 t295.length co11] rfl (by (try simp only [List.map_toArray, List.map_cons, List.map_nil]); first | done | rfl | (simp only [List.length_drop, List.length_take]; rfl)) ?_; (with_reducible refine (shuffle_Values.calls k (wrap64 (2 + t294)) _ _ t295 t298 t299 _ ?side1 ?side2 A6.out).mono ?_); (case side1 => repeat (first | exact (Kd.R_reads' HO297.out).2.2 | (with_reducible refine Kd.C_alloc ?_ _) | (with_reducible refine Kd.C_drewN ?_ _) | (with_reducible refine Kd.C_drew ?_))); (case side2 => exact (Kd.R_reads' HO297.out).2.1); rintro e w12 ⟨v300, rfl, ho0, hb⟩; refine ⟨_, rfl, ?_⟩; have n0_ := Aside0.mk (Kd.R_elder' (by (with_reducible repeat (first | apply Kd.R_alloc | apply Kd.R_drewN | apply Kd.R_drew)); exact HO297.out) (Kd.R_base ho0) hb); have n1_ := Aside0.mk (Kd.R_lower (Kd.R_new' ho0 (Kd.R_lt (by (with_reducible repeat (first | apply Kd.R_alloc | apply Kd.R_drewN | apply Kd.R_drew)); exact HO297.out))) (below_size (by repeat (first | (with_reducible first | exact HB.out | apply below_alloc | apply pw_below_drewN | apply below_drew1) | exact HB.out)))); have n2_ := Aside0.mk (below_step (by repeat (first | (with_reducible first | exact HB.out | apply below_alloc | apply pw_below_drewN | apply below_drew1) | exact HB.out)) hb); clear HO297; clear HB; have HO297 := n0_; have HO301 := n1_; have HB := n2_; clear n0_ n1_ n2_; (try clear hb); (try clear hb2); (try clear hk); (try clear hi); (try clear ho0)) | ((with_reducible refine gate_callee (f := 41) rfl ?_); refine goesL_ (some 38) rfl rfl Try.func41 (by kernel_rfl) rfl #[.int .i64 (wrap64 (2 + t294)), .slice Ao11 t295.length co11] rfl (by (try simp only [List.map_toArray, List.map_cons, List.map_nil]); first | done | rfl | (simp only [List.length_drop, List.length_take]; rfl)) ?_; (with_reducible refine (shuffle_Permutes.calls k (wrap64 (2 + t294)) _ _ t295 t302 t303 t304 _ ?side1 ?side2 A7.out).mono ?_); (case side1 => repeat (first | exact (Kd.R_reads' HO297.out).2.2 | (with_reducible refine Kd.C_alloc ?_ _) | (with_reducible refine Kd.C_drewN ?_ _) | (with_reducible refine Kd.C_drew ?_))); (case side2 => exact (Kd.R_reads' HO297.out).2.1); rintro e w13 ⟨rfl, hb⟩; refine ⟨_, rfl, ?_⟩; have n0_ := Aside0.mk (Kd.R_below (by (with_reducible repeat (first | apply Kd.R_alloc | apply Kd.R_drewN | apply Kd.R_drew)); exact HO297.out) hb); have n1_ := Aside0.mk (Kd.R_below (by (with_reducible repeat (first | apply Kd.R_alloc | apply Kd.R_drewN | apply Kd.R_drew)); exact HO301.out) hb); have n2_ := Aside0.mk (below_step (by repeat (first | (with_reducible first | exact HB.out | apply below_alloc | apply pw_below_drewN | apply below_drew1) | exact HB.out)) hb); clear HO297; clear HO301; clear HB; have HO297 := n0_; have HO301 := n1_; have HB := n2_; clear n0_ n1_ n2_; (try clear hb); (try clear hb2); (try clear hk); (try clear hi)) | ((with_reducible refine gate_callee (f := 42) rfl ?_); refine goesL_ (some 45) rfl rfl Try.func42 (by kernel_rfl) rfl #[.int .i64 (wrap64 (2 + t294)), .slice Ao11 t295.length co11] rfl (by (try simp only [List.map_toArray, List.map_cons, List.map_nil]); first | done | rfl | (simp only [List.length_drop, List.length_take]; rfl)) ?_; (with_reducible refine (shuffle_Split.calls k (wrap64 (2 + t294)) _ _ t295 t305 t306 t307 _ ?side1 ?side2 A8.out).mono ?_); (case side1 => repeat (first | exact (Kd.R_reads' HO297.out).2.2 | (with_reducible refine Kd.C_alloc ?_ _) | (with_reducible refine Kd.C_drewN ?_ _) | (with_reducible refine Kd.C_drew ?_))); (case side2 => exact (Kd.R_reads' HO297.out).2.1); rintro e w14 ⟨v308, v310, rfl, ho0, ho1, hb⟩; refine ⟨_, rfl, ?_⟩; have n0_ := Aside0.mk (Kd.R_below (by (with_reducible repeat (first | apply Kd.R_alloc | apply Kd.R_drewN | apply Kd.R_drew)); exact HO297.out) hb); have n1_ := Aside0.mk (Kd.R_below (by (with_reducible repeat (first | apply Kd.R_alloc | apply Kd.R_drewN | apply Kd.R_drew)); exact HO301.out) hb); have n2_ := Aside0.mk (Kd.R_lower ho0 (below_size (by repeat (first | (with_reducible first | exact HB.out | apply below_alloc | apply pw_below_drewN | apply below_drew1) | exact HB.out)))); have n3_ := Aside0.mk (Kd.S_lower (Kd.S_new' (Kd.S_new' ho1 (Kd.R_lt (by (with_reducible repeat (first | apply Kd.R_alloc | apply Kd.R_drewN | apply Kd.R_drew)); exact HO297.out))) (Kd.R_lt (by (with_reducible repeat (first | apply Kd.R_alloc | apply Kd.R_drewN | apply Kd.R_drew)); exact HO301.out))) (below_size (by repeat (first | (with_reducible first | exact HB.out | apply below_alloc | apply pw_below_drewN | apply below_drew1) | exact HB.out)))); have n4_ := Aside0.mk (below_step (by repeat (first | (with_reducible first | exact HB.out | apply below_alloc | apply pw_below_drewN | apply below_drew1) | exact HB.out)) hb); clear HO297; clear HO301; clear HB; have HO297 := n0_; have HO301 := n1_; have HO309 := n2_; have HO311 := n3_; have HB := n4_; clear n0_ n1_ n2_ n3_ n4_; (try clear hb); (try clear hb2); (try clear hk); (try clear hi); (try clear ho0); (try clear ho1)))
 (try simp only [Act.put, List.setIfInBounds_toArray, List.set_cons_zero, List.set_cons_succ])
 go_cut [77] (fun v77 wc => ∃ (kq : Nat) (x77_8 : Bool), v77 = .bool x77_8 ∧ Aside0 (galloonlaw06_ShuffleParted.j0 kq (wrap64 (2 + t294)) a2 t298 t302 t305 t306 x77_8 = some r) ∧ Aside0 (kq ≤ k) ∧ Aside0 (Kd.R (Kd.int .i64) 3 wc w.heap.size (fun _ => True) v300 t298) ∧ Aside0 (Kd.R k44 44 wc w.heap.size (fun _ => True) v308 t305) ∧ Aside0 (Kd.S (Kd.slice 3 (Kd.int .i64)) 28 wc w.heap.size (fun k_ => some k_ ≠ (v300 : Value).ownBlock) v310 t306) ∧ Aside0 (Below w.heap.size w wc))
 case first =>
  as_aux_lemma =>
  have H := HC9.out
  clear HC9
  by_cases c15 : t299 = 0
  ·
   rw [if_pos c15] at H
   have c15b0 : (t299 == 0) = true := beq_iff_eq.mpr c15
   have c15b1 : (t299 != 0) = false := bne_eq_false_iff_eq.mpr c15
   clear c15
   (first | rw [c15b0] | (simp only [i64_w, i32_w]; rw [c15b0]) | skip)
   by_cases c16 : t304 = 0
   ·
    rw [if_pos c16] at H
    have c16b0 : (t304 == 0) = true := beq_iff_eq.mpr c16
    have c16b1 : (t304 != 0) = false := bne_eq_false_iff_eq.mpr c16
    clear c16
    by_cases c17 : t307 = 0
    ·
     rw [if_pos c17] at H
     have c17b0 : (t307 == 0) = true := beq_iff_eq.mpr c17
     have c17b1 : (t307 != 0) = false := bne_eq_false_iff_eq.mpr c17
     clear c17
     by_cases c18 : (t298.length : Int) = (wrap64 (2 + t294))
     ·
      rw [if_pos c18] at H
      have c18b0 : ((t298.length : Int) == (wrap64 (2 + t294))) = true := beq_iff_eq.mpr c18
      have c18b1 : ((t298.length : Int) != (wrap64 (2 + t294))) = false := bne_eq_false_iff_eq.mpr c18
      clear c18
      replace H := Option.bind_eq_some_iff.mp H
      obtain ⟨t312, A190, H⟩ := H
      replace H : (if t312 = (wrap64 (2 + t294)) then (galloonlaw06_ShuffleParted.j0 k (wrap64 (2 + t294)) a2 t298 t302 t305 t306 ((t306.length : Int) != (t305.length : Int))) else (none)) = some r := H
      have A19 := Aside0.mk A190
      clear A190
      by_cases c20 : t312 = (wrap64 (2 + t294))
      ·
       rw [if_pos c20] at H
       have c20b0 : (t312 == (wrap64 (2 + t294))) = true := beq_iff_eq.mpr c20
       have c20b1 : (t312 != (wrap64 (2 + t294))) = false := bne_eq_false_iff_eq.mpr c20
       clear c20
       have H' := Aside0.mk H
       clear H
       obtain ⟨Ao21, co21, eo21⟩ := Kd.R_slice HO301.out
       subst eo21
       obtain ⟨Ao22, co22, eo22⟩ := Kd.R_slice HO309.out
       subst eo22
       go_wp2_with (first | (go_at_call 45; (with_reducible refine (galloonref06_Product.calls k _ _ t305 t312 _ ?side1 ?side2 A19.out).mono ?_); (case side1 => repeat (first | exact (Kd.R_reads' HO309.out).2.2 | (with_reducible refine Kd.C_alloc ?_ _) | (with_reducible refine Kd.C_drewN ?_ _) | (with_reducible refine Kd.C_drew ?_))); (case side2 => exact (Kd.R_reads' HO309.out).2.1); rintro e w' ⟨rfl, ⟨nd, rfl⟩⟩; obtain ⟨Ao23, co23, eo23⟩ := Kd.S_slice HO311.out; subst eo23))
       go_meet
       case rel => exact ⟨_, (((t306.length : Int) != (t305.length : Int))), (by first | rfl | (simp; done) | (simp [*]; done)), H', ⟨by first | omega | exact Nat.le_refl _⟩, ⟨by (with_reducible repeat (first | apply Kd.R_alloc | apply Kd.R_drewN | apply Kd.R_drew)); exact Kd.R_mono HO301.out (fun _ hk => trivial)⟩, ⟨by (with_reducible repeat (first | apply Kd.R_alloc | apply Kd.R_drewN | apply Kd.R_drew)); exact HO309.out⟩, ⟨by (with_reducible repeat (first | apply Kd.S_alloc | apply Kd.S_drewN | apply Kd.S_drew)); exact Kd.S_mono HO311.out (fun _ hk => hk.2)⟩, ⟨by repeat (first | (with_reducible first | exact HB.out | apply below_alloc | apply pw_below_drewN | apply below_drew1) | exact HB.out)⟩⟩
      ·
       rw [if_neg c20] at H
       exact absurd H (by simp)
     ·
      rw [if_neg c18] at H
      exact absurd H (by simp)
    ·
     rw [if_neg c17] at H
     exact absurd H (by simp)
   ·
    rw [if_neg c16] at H
    exact absurd H (by simp)
  ·
   rw [if_neg c15] at H
   exact absurd H (by simp)
 case rest =>
  as_aux_lemma =>
  clear HC9
  try clear c1
  try clear c2
  try clear p2
  try clear c4
  try clear p6
  try clear c14
  try clear c15
  try clear c15b0
  try clear c15b1
  try clear c16
  try clear c16b0
  try clear c16b1
  try clear c17
  try clear c17b0
  try clear c17b1
  try clear c18
  try clear c18b0
  try clear c18b1
  try clear c20
  try clear c20b0
  try clear c20b1
  try clear c21
  obtain ⟨kq, x77_8, rfl, HA, HJ8, HO_8, HO_13, HO_14, HB⟩ := hcut
  cases kq with
  | zero => exact absurd HA.out (by simp [galloonlaw06_ShuffleParted.j0])
  | succ kj8 =>
   have H := HA.out
   clear HA
   simp only [galloonlaw06_ShuffleParted.j0] at H
   by_cases c24 : x77_8 = true
   ·
    subst c24
    have H1 : (none) = some r := by rw [if_pos rfl] at H; exact H
    clear H
    have H := H1
    clear H1
    exact absurd H (by simp)
   ·
    replace c24 := Bool.eq_false_iff.mpr c24
    subst c24
    have H1 : ((galloonlaw06_mod.f a2 (wrap64 (2 + t294))).bind fun t313 => (galloonlaw06_ShuffleParted.l0 kj8 t298 t302 t305 t306 t313 true ([] : List Int) 0)) = some r := by rw [if_neg (show ¬ (false = true) by decide)] at H; exact H
    clear H
    have H := H1
    clear H1
    replace H := Option.bind_eq_some_iff.mp H
    obtain ⟨t313, A250, H⟩ := H
    replace H : (galloonlaw06_ShuffleParted.l0 kj8 t298 t302 t305 t306 t313 true ([] : List Int) 0) = some r := H
    have A25 := Aside0.mk A250
    clear A250
    have H' := Aside0.mk H
    clear H
    go_wp2_with (first | ((with_reducible refine gate_callee (f := 15) rfl ?_); refine goesL_ (some 80) rfl rfl Try.func15 (by kernel_rfl) rfl #[.int .i64 a2, .int .i64 (wrap64 (2 + t294))] rfl (by (try simp only [List.map_toArray, List.map_cons, List.map_nil]); first | done | rfl | (simp only [List.length_drop, List.length_take]; rfl)) ?_; (with_reducible refine (galloonlaw06_mod.calls a2 (wrap64 (2 + t294)) t313 _ A25.out).mono ?_); rintro e w' ⟨rfl, ⟨nd, rfl⟩⟩; refine ⟨_, rfl, ?_⟩))
    go_loopg [17, 18, 19] kj8 (fun kq v17 v18 v19 w' => ∃ (x17_2 : Bool) (x18_2 : List Int) (x19_2 : Int), v17 = .bool x17_2 ∧ v19 = .int .i64 x19_2 ∧ Aside0 (galloonlaw06_ShuffleParted.l0 kq t298 t302 t305 t306 t313 x17_2 x18_2 x19_2 = some r) ∧ Aside0 (kq ≤ kj8) ∧ Aside0 (Kd.R (Kd.int .i64) 3 w' w.heap.size (fun k_ => some k_ ≠ (v18 : Value).ownBlock) v300 t298) ∧ Aside0 (Kd.R k44 44 w' w.heap.size (fun _ => True) v308 t305) ∧ Aside0 (Kd.S (Kd.slice 3 (Kd.int .i64)) 28 w' w.heap.size (fun k_ => some k_ ≠ (v300 : Value).ownBlock ∧ some k_ ≠ (v18 : Value).ownBlock) v310 t306) ∧ Aside0 (Kd.R (Kd.int .i64) 3 w' w.heap.size (fun k_ => some k_ ≠ (v300 : Value).ownBlock) v18 x18_2) ∧ Aside0 (Below w.heap.size w w'))
    case atStart => exact ⟨(true), (([] : List Int)), (0), (by first | rfl | (simp; done) | (simp [*]; done)), (by first | rfl | (simp; done) | (simp [*]; done)), H', ⟨Nat.le_refl _⟩, ⟨by (with_reducible repeat (first | apply Kd.R_alloc | apply Kd.R_drewN | apply Kd.R_drew)); exact Kd.R_mono HO_8.out (fun _ hk => (by simp [Value.ownBlock]))⟩, ⟨by (with_reducible repeat (first | apply Kd.R_alloc | apply Kd.R_drewN | apply Kd.R_drew)); exact HO_13.out⟩, ⟨by (with_reducible repeat (first | apply Kd.S_alloc | apply Kd.S_drewN | apply Kd.S_drew)); exact Kd.S_mono HO_14.out (fun _ hk => ⟨hk, (by simp [Value.ownBlock])⟩)⟩, ⟨by first | exact Kd.R_nil _ _ _ _ _ | exact Kd.N_nil _ _ _ _ _ | exact Kd.V_nil _ _ _ _ _ | exact Kd.Q_nil _ _ _ _ _ | exact Kd.S_nil _ _ _ _ _⟩, ⟨by repeat (first | (with_reducible first | exact HB.out | apply below_alloc | apply pw_below_drewN | apply below_drew1) | exact HB.out)⟩⟩
    case round =>
     as_aux_lemma =>
     clear H'
     try clear c1
     try clear c2
     try clear p2
     try clear c4
     try clear p6
     try clear c14
     try clear c15
     try clear c15b0
     try clear c15b1
     try clear c16
     try clear c16b0
     try clear c16b1
     try clear c17
     try clear c17b0
     try clear c17b1
     try clear c18
     try clear c18b0
     try clear c18b1
     try clear c20
     try clear c20b0
     try clear c20b1
     try clear c21
     try clear c24
     try clear p2
     try clear p6
     obtain ⟨x17_2, x18_2, x19_2, rfl, rfl, HA, HK2, HO_8, HO_13, HO_14, HO_18, HB⟩ := hrel
     cases gk with
     | zero => exact absurd HA.out (by simp [galloonlaw06_ShuffleParted.l0])
     | succ k2 =>
      have H := HA.out
      clear HA
      simp only [galloonlaw06_ShuffleParted.l0] at H
      by_cases c26 : x19_2 < (t305.length : Int)
      ·
       rw [if_pos c26] at H
       have c26b0 : decide (x19_2 < (t305.length : Int)) = true := decide_eq_true c26
       clear c26
       by_cases c27 : 0 ≤ x19_2
       ·
        rw [if_pos c27] at H
        have c27b0 : decide (0 ≤ x19_2) = true := decide_eq_true c27
        clear c27
        replace H := Option.bind_eq_some_iff.mp H
        obtain ⟨t320, A280, H⟩ := H
        replace H : (if x19_2 < (t306.length : Int) then ((galloonref06_Function.f k2 t320 (rd_L2 t306 x19_2)).bind fun t322 => (if t322 = true then (if x17_2 = true then ((galloonref06_Permutation.f k2 (rd_L2 t306 x19_2)).bind fun t324 => (if t320 = 0 then (none) else (if 0 ≤ (Int.tmod t313 t320) then (if (Int.tmod t313 t320) < ((rd_L2 t306 x19_2).length : Int) then (if x18_2.length < 17592186044416 then (galloonlaw06_ShuffleParted.l0 k2 t298 t302 t305 t306 t313 t324 (x18_2 ++ [rd (rd_L2 t306 x19_2) (Int.tmod t313 t320)]) (wrap64 (x19_2 + 1))) else (none)) else (none)) else (none)))) else (if t320 = 0 then (none) else (if 0 ≤ (Int.tmod t313 t320) then (if (Int.tmod t313 t320) < ((rd_L2 t306 x19_2).length : Int) then (if x18_2.length < 17592186044416 then (galloonlaw06_ShuffleParted.l0 k2 t298 t302 t305 t306 t313 false (x18_2 ++ [rd (rd_L2 t306 x19_2) (Int.tmod t313 t320)]) (wrap64 (x19_2 + 1))) else (none)) else (none)) else (none)))) else (none))) else (none)) = some r := H
        have A28 := Aside0.mk A280
        clear A280
        by_cases c29 : x19_2 < (t306.length : Int)
        ·
         rw [if_pos c29] at H
         have c29b0 : decide (x19_2 < (t306.length : Int)) = true := decide_eq_true c29
         clear c29
         replace H := Option.bind_eq_some_iff.mp H
         obtain ⟨t322, A300, H⟩ := H
         replace H : (if t322 = true then (if x17_2 = true then ((galloonref06_Permutation.f k2 (rd_L2 t306 x19_2)).bind fun t324 => (if t320 = 0 then (none) else (if 0 ≤ (Int.tmod t313 t320) then (if (Int.tmod t313 t320) < ((rd_L2 t306 x19_2).length : Int) then (if x18_2.length < 17592186044416 then (galloonlaw06_ShuffleParted.l0 k2 t298 t302 t305 t306 t313 t324 (x18_2 ++ [rd (rd_L2 t306 x19_2) (Int.tmod t313 t320)]) (wrap64 (x19_2 + 1))) else (none)) else (none)) else (none)))) else (if t320 = 0 then (none) else (if 0 ≤ (Int.tmod t313 t320) then (if (Int.tmod t313 t320) < ((rd_L2 t306 x19_2).length : Int) then (if x18_2.length < 17592186044416 then (galloonlaw06_ShuffleParted.l0 k2 t298 t302 t305 t306 t313 false (x18_2 ++ [rd (rd_L2 t306 x19_2) (Int.tmod t313 t320)]) (wrap64 (x19_2 + 1))) else (none)) else (none)) else (none)))) else (none)) = some r := H
         have A30 := Aside0.mk A300
         clear A300
         by_cases c31 : t322 = true
         ·
          subst c31
          have H1 : (if x17_2 = true then ((galloonref06_Permutation.f k2 (rd_L2 t306 x19_2)).bind fun t324 => (if t320 = 0 then (none) else (if 0 ≤ (Int.tmod t313 t320) then (if (Int.tmod t313 t320) < ((rd_L2 t306 x19_2).length : Int) then (if x18_2.length < 17592186044416 then (galloonlaw06_ShuffleParted.l0 k2 t298 t302 t305 t306 t313 t324 (x18_2 ++ [rd (rd_L2 t306 x19_2) (Int.tmod t313 t320)]) (wrap64 (x19_2 + 1))) else (none)) else (none)) else (none)))) else (if t320 = 0 then (none) else (if 0 ≤ (Int.tmod t313 t320) then (if (Int.tmod t313 t320) < ((rd_L2 t306 x19_2).length : Int) then (if x18_2.length < 17592186044416 then (galloonlaw06_ShuffleParted.l0 k2 t298 t302 t305 t306 t313 false (x18_2 ++ [rd (rd_L2 t306 x19_2) (Int.tmod t313 t320)]) (wrap64 (x19_2 + 1))) else (none)) else (none)) else (none)))) = some r := by rw [if_pos rfl] at H; exact H
          clear H
          have H := H1
          clear H1
          by_cases c32 : x17_2 = true
          ·
           subst c32
           have H1 : ((galloonref06_Permutation.f k2 (rd_L2 t306 x19_2)).bind fun t324 => (if t320 = 0 then (none) else (if 0 ≤ (Int.tmod t313 t320) then (if (Int.tmod t313 t320) < ((rd_L2 t306 x19_2).length : Int) then (if x18_2.length < 17592186044416 then (galloonlaw06_ShuffleParted.l0 k2 t298 t302 t305 t306 t313 t324 (x18_2 ++ [rd (rd_L2 t306 x19_2) (Int.tmod t313 t320)]) (wrap64 (x19_2 + 1))) else (none)) else (none)) else (none)))) = some r := by rw [if_pos rfl] at H; exact H
           clear H
           have H := H1
           clear H1
           replace H := Option.bind_eq_some_iff.mp H
           obtain ⟨t324, A330, H⟩ := H
           replace H : (if t320 = 0 then (none) else (if 0 ≤ (Int.tmod t313 t320) then (if (Int.tmod t313 t320) < ((rd_L2 t306 x19_2).length : Int) then (if x18_2.length < 17592186044416 then (galloonlaw06_ShuffleParted.l0 k2 t298 t302 t305 t306 t313 t324 (x18_2 ++ [rd (rd_L2 t306 x19_2) (Int.tmod t313 t320)]) (wrap64 (x19_2 + 1))) else (none)) else (none)) else (none))) = some r := H
           have A33 := Aside0.mk A330
           clear A330
           by_cases c34 : t320 = 0
           ·
            rw [if_pos c34] at H
            exact absurd H (by simp)
           ·
            rw [if_neg c34] at H
            have c34b0 : (t320 == 0) = false := beq_eq_false_iff_ne.mpr c34
            have c34b1 : (t320 != 0) = true := bne_iff_ne.mpr c34
            obtain ⟨ji35, hji35⟩ : ∃ j_ : Int, (Int.tmod t313 t320) = j_ := ⟨_, rfl⟩
            replace H : (if 0 ≤ (ji35) then (if (ji35) < ((rd_L2 t306 x19_2).length : Int) then (if x18_2.length < 17592186044416 then (galloonlaw06_ShuffleParted.l0 k2 t298 t302 t305 t306 t313 t324 (x18_2 ++ [rd (rd_L2 t306 x19_2) (ji35)]) (wrap64 (x19_2 + 1))) else (none)) else (none)) else (none)) = some r := by first | (rw [hji35] at H; exact H) | (simp only [hji35] at H ⊢; exact H)
            (try rw [hji35] at A28)
            (try rw [hji35] at A30)
            (try rw [hji35] at A33)
            by_cases c36 : 0 ≤ (ji35)
            ·
             rw [if_pos c36] at H
             have c36b0 : decide (0 ≤ (ji35)) = true := decide_eq_true c36
             clear c36
             by_cases c37 : (ji35) < ((rd_L2 t306 x19_2).length : Int)
             ·
              rw [if_pos c37] at H
              have c37b0 : decide ((ji35) < ((rd_L2 t306 x19_2).length : Int)) = true := decide_eq_true c37
              clear c37
              by_cases c38 : x18_2.length < 17592186044416
              ·
               rw [if_pos c38] at H
               have LMc38 := Aside0.mk c38
               clear c38
               obtain ⟨y327, hy327⟩ : ∃ y_ : List Int, y_ = (x18_2 ++ [rd (rd_L2 t306 x19_2) (ji35)]) := ⟨_, rfl⟩
               replace H : (galloonlaw06_ShuffleParted.l0 k2 t298 t302 t305 t306 t313 t324 y327 (wrap64 (x19_2 + 1))) = some r := by first | (rw [hy327]; with_reducible exact H) | (have H2_ := (Option.bind_some _ _).symm.trans H; rw [hy327]; with_reducible exact H2_) | (have H2_ := (Option.bind_some _ _).symm.trans H; with_reducible exact H2_) | with_reducible exact H | (rw [hy327]; exact H) | exact H
               have Ny327 := Aside0.mk hy327
               clear hy327
               have H' := Aside0.mk H
               clear H
               obtain ⟨Ao39, co39, eo39⟩ := Kd.R_slice HO_13.out
               subst eo39
               try go_wp2
               have n0_ := Aside0.mk (Kd.R_drew HO_8.out)
               have n1_ := Aside0.mk (Kd.R_drew HO_13.out)
               have n2_ := Aside0.mk (Kd.S_drew HO_14.out)
               have n3_ := Aside0.mk (Kd.R_drew HO_18.out)
               have n4_ := Aside0.mk (below_drew1 HB.out)
               clear HO_8
               clear HO_13
               clear HO_14
               clear HO_18
               clear HB
               have HO_8 := n0_
               have HO_13 := n1_
               have HO_14 := n2_
               have HO_18 := n3_
               have HB := n4_
               clear n0_ n1_ n2_ n3_ n4_
               have p318 : 0 ≤ (x19_2 : Int) := of_decide_eq_true (by assumption)
               have q318 : x19_2 < (t305.length : Int) := of_decide_eq_true (by assumption)
               obtain ⟨ad318, e318, hx318_0, hx318_1⟩ := at_T44 (Kd.R_reads' HO_13.out).2.2 x19_2 p318 q318
               cases e318
               replace p318 := eq_true p318
               replace q318 := eq_true q318
               have p319 : 0 ≤ (x19_2 : Int) := of_decide_eq_true (by assumption)
               have q319 : x19_2 < (t305.length : Int) := of_decide_eq_true (by assumption)
               obtain ⟨ad319, e319, hx319_0, hx319_1⟩ := at_T44 (Kd.R_reads' HO_13.out).2.2 x19_2 p319 q319
               obtain rfl : ad318 = ad319 := (by injection e319)
               replace p319 := eq_true p319
               replace q319 := eq_true q319
               as_aux_lemma =>
               refine start_ (n := 12) (S := fun w' => w'.cell? (ad318.add ((x19_2).toNat * 2)) = some (.int .i64 ((rd_T44 t305 x19_2).f0)) ∧ w'.cell? ⟨(ad318.add ((x19_2).toNat * 2)).block, (ad318.add ((x19_2).toNat * 2)).off + 1, none⟩ = some (.int .i64 ((rd_T44 t305 x19_2).f1)) ∧ w'.cell? (ad318.add ((x19_2).toNat * 2)) = some (.int .i64 ((rd_T44 t305 x19_2).f0)) ∧ w'.cell? ⟨(ad318.add ((x19_2).toNat * 2)).block, (ad318.add ((x19_2).toNat * 2)).off + 1, none⟩ = some (.int .i64 ((rd_T44 t305 x19_2).f1))) (ds := []) #[false,false,false,false,false,false,false,false,false,false,false,false] (by kernel_rfl) rfl rfl ⟨hx318_0, hx318_1, hx319_0, hx319_1⟩ (fun hHeld => ?_); refine with_tabW galloonlaw06_ShuffleParted.tab14 galloonlaw06_ShuffleParted.bits14 (fun HT_ HW_ => ?_)
               generalize wr.drew = w40 at HO_8 HO_13 HO_14 HO_18 HB hx318_0 hx318_1 hx319_0 hx319_1 hHeld ⊢
               refine pure_ (i := 0) (N := some 87) (v := ?_) (a' := ?_) #[true,false,false,false,false,false,false,false,false,false,false,false] rfl rfl (any_of HT_.out (by kernel_rfl)) (fun _ _ _ h => h) (Or.inl ⟨by rfl, ?_⟩) ?_ ?_
               rotate_left
               ·
                intro w'
                go_simp
                with_reducible rfl
               rotate_left
               ·
                simp only [Act.put, Hand.s0_, List.set_cons_zero, Hand.s1_, i64_w, i32_w]
                rfl
               refine pure_ (i := 1) (N := some 88) (v := ?_) (a' := ?_) #[true,true,false,false,false,false,false,false,false,false,false,false] rfl rfl (any_of HT_.out (by kernel_rfl)) (fun _ _ _ h => h) (Or.inl ⟨by rfl, ?_⟩) ?_ ?_
               rotate_left
               ·
                intro w'
                go_simp
                with_reducible rfl
               rotate_left
               ·
                simp only [Act.put, Hand.s0_, List.set_cons_zero, Hand.s1_, i64_w, i32_w]
                rfl
               refine pure_ (i := 2) (N := some 89) (v := ?_) (a' := ?_) #[true,true,true,false,false,false,false,false,false,false,false,false] rfl rfl (any_of HT_.out (by kernel_rfl)) (fun _ _ _ h => h) (Or.inl ⟨by rfl, ?_⟩) ?_ ?_
               rotate_left
               ·
                intro w'
                go_simp
                with_reducible rfl
               rotate_left
               ·
                simp only [Act.put, Hand.s0_, List.set_cons_zero, Hand.s1_, i64_w, i32_w]
                rfl
               refine pure_ (i := 3) (N := some 90) (v := ?_) (a' := ?_) #[true,true,true,true,false,false,false,false,false,false,false,false] rfl rfl (any_of HT_.out (by kernel_rfl)) (fun _ _ _ h => h) (Or.inl ⟨by rfl, ?_⟩) ?_ ?_
               rotate_left
               ·
                intro w'
                go_simp
                with_reducible rfl
               rotate_left
               ·
                simp only [Act.put, Hand.s0_, List.set_cons_zero, Hand.s1_, i64_w, i32_w]
                rfl
               refine pure_ (i := 5) (N := some 92) (v := ?_) (a' := ?_) #[true,true,true,true,false,true,false,false,false,false,false,false] rfl rfl (any_of HT_.out (by kernel_rfl)) (fun _ _ _ h => h) (Or.inl ⟨by rfl, ?_⟩) ?_ ?_
               rotate_left
               ·
                intro w'
                go_simp
                with_reducible rfl
               rotate_left
               ·
                simp only [Act.put, Hand.s0_, List.set_cons_zero, Hand.s1_, i64_w, i32_w]
                rfl
               refine pure_ (i := 6) (N := some 93) (v := ?_) (a' := ?_) #[true,true,true,true,false,true,true,false,false,false,false,false] rfl rfl (any_of HT_.out (by kernel_rfl)) (fun _ _ _ h => h) (Or.inl ⟨by rfl, ?_⟩) ?_ ?_
               rotate_left
               ·
                intro w'
                go_simp
                with_reducible rfl
               rotate_left
               ·
                simp only [Act.put, Hand.s0_, List.set_cons_zero, Hand.s1_, i64_w, i32_w]
                rfl
               refine pure_ (i := 7) (N := some 94) (v := ?_) (a' := ?_) #[true,true,true,true,false,true,true,true,false,false,false,false] rfl rfl (any_of HT_.out (by kernel_rfl)) (fun _ _ _ h => h) (Or.inl ⟨by rfl, ?_⟩) ?_ ?_
               rotate_left
               ·
                intro w'
                go_simp
                with_reducible rfl
               rotate_left
               ·
                simp only [Act.put, Hand.s0_, List.set_cons_zero, Hand.s1_, i64_w, i32_w]
                rfl
               refine pure_ (i := 8) (N := some 95) (v := ?_) (a' := ?_) #[true,true,true,true,false,true,true,true,true,false,false,false] rfl rfl (any_of HT_.out (by kernel_rfl)) (fun _ _ _ h => h) (Or.inl ⟨by rfl, ?_⟩) ?_ ?_
               rotate_left
               ·
                intro w'
                go_simp
                with_reducible rfl
               rotate_left
               ·
                simp only [Act.put, Hand.s0_, List.set_cons_zero, Hand.s1_, i64_w, i32_w]
                rfl
               refine take_ (i := 4) (N := some 91) (v := ?_) (a' := ?_) #[true,true,true,true,true,true,true,true,true,false,false,false] rfl rfl (take_ofW HT_.out HW_.out (by kernel_rfl)) (fun _ _ _ h => h) (Or.inl ⟨by rfl, ?_⟩) hHeld ?_ ?_
               rotate_left
               ·
                rintro w' ⟨s0, s1, s2, s3⟩
                go_simp
                with_reducible rfl
               rotate_left
               ·
                simp only [Act.put, Hand.s0_, List.set_cons_zero, Hand.s1_, i64_w, i32_w]
                rfl
               refine take_ (i := 9) (N := some 96) (v := ?_) (a' := ?_) #[true,true,true,true,true,true,true,true,true,true,false,false] rfl rfl (take_ofW HT_.out HW_.out (by kernel_rfl)) (fun _ _ _ h => h) (Or.inl ⟨by rfl, ?_⟩) hHeld ?_ ?_
               rotate_left
               ·
                rintro w' ⟨s0, s1, s2, s3⟩
                go_simp
                with_reducible rfl
               rotate_left
               ·
                simp only [Act.put, Hand.s0_, List.set_cons_zero, Hand.s1_, i64_w, i32_w]
                rfl
               refine one_ (i := 10) (N := some 97) #[true,true,true,true,true,true,true,true,true,true,true,false] rfl rfl (one_of HT_.out (by kernel_rfl)) (by decide) (fun K hK => ?_)
               refine goes_ Try.func50 (by kernel_rfl) rfl #[.int .i64 ((rd_T44 t305 x19_2).f0), .int .i64 ((rd_T44 t305 x19_2).f1)] (by rfl) rfl rfl (by (try simp only [List.map_toArray, List.map_cons, List.map_nil]); first | done | rfl | (simp only [List.length_drop, List.length_take]; rfl)) ?_
               with_reducible refine (galloonref06_Power.calls k2 ((rd_T44 t305 x19_2).f0) ((rd_T44 t305 x19_2).f1) t320 _ A28.out).mono ?_
               rintro e w' ⟨rfl, ⟨nd, rfl⟩⟩
               refine ⟨_, rfl, ?_⟩
               refine hK.out _ _ ⟨hHeld.1, hHeld.2.1, hHeld.2.2.1, hHeld.2.2.2⟩ (fun hHeld => ?_)
               clear hK K
               refine norm_ (a' := ?_) ?_ ?_
               rotate_left
               ·
                show Act.put _ (some 97) _ = _
                simp only [Act.put, Hand.s0_, List.set_cons_zero, Hand.s1_, i64_w, i32_w]
                rfl
               refine pure_ (i := 11) (N := some 20) (v := ?_) (a' := ?_) #[true,true,true,true,true,true,true,true,true,true,true,true] rfl rfl (any_of HT_.out (by kernel_rfl)) (fun _ _ _ h => h) (Or.inl ⟨by rfl, ?_⟩) ?_ ?_
               rotate_left
               ·
                intro w'
                go_simp
                with_reducible rfl
               rotate_left
               ·
                simp only [Act.put, Hand.s0_, List.set_cons_zero, Hand.s1_, i64_w, i32_w]
                rfl
               refine done_ (done_of HT_.out (by kernel_rfl)) ?_
               obtain ⟨Ao41, co41, eo41⟩ := Kd.S_slice HO_14.out
               subst eo41
               have p321 : 0 ≤ (x19_2 : Int) := of_decide_eq_true (by assumption)
               have q321 : x19_2 < (t306.length : Int) := of_decide_eq_true (by assumption)
               obtain ⟨ad321, A321_0, c321_0, e321, hx321_0, hl321_0, hi321_0⟩ := at_L2 (Kd.S_reads' HO_14.out).2.2 x19_2 p321 q321
               cases e321
               obtain ⟨ce321, hce321, hMe321, hcc321⟩ := Kd.S_get HO_14.out [] x19_2 p321 (by first | exact q321 | exact of_decide_eq_true (by assumption) | (have e_ := (Kd.S_reads' HO_14.out).1; omega))
               obtain ⟨ve321_0, rfl, ge321_0⟩ := hMe321
               have hv321_0 := hcc321 0 _ rfl
               rw [Nat.add_zero, show ((Kd.slice 3 (Kd.int .i64))).sz = 1 from rfl, Nat.mul_one] at hv321_0
               replace hv321_0 := Option.some.inj (hv321_0.symm.trans hx321_0)
               rw [hv321_0] at ge321_0
               have HL321_0 := Aside0.mk (show Kd.R (Kd.int .i64) 3 _ _ _ _ (rd_L2 t306 x19_2) from ge321_0)
               clear hv321_0 ge321_0
               clear hcc321 hce321
               have HR321_0 := Aside0.mk hi321_0
               have HC321_0 := Aside0.mk hl321_0
               clear hi321_0 hl321_0
               replace p321 := eq_true p321
               replace q321 := eq_true q321
               try go_wp2_with (first | ((with_reducible refine gate_callee (f := 36) rfl ?_); refine goesL_ (some 103) rfl rfl Try.func36 (by kernel_rfl) rfl #[.int .i64 t320, .slice A321_0 (rd_L2 t306 x19_2).length c321_0] rfl (by (try simp only [List.map_toArray, List.map_cons, List.map_nil]); first | done | rfl | (simp only [List.length_drop, List.length_take]; rfl)) ?_; (with_reducible refine (galloonref06_Function.calls k2 t320 _ _ (rd_L2 t306 x19_2) true _ ?side1 ?side2 A30.out).mono ?_); (case side1 => repeat (first | exact (by repeat (first | (with_reducible exact HR321_0.out) | (with_reducible refine Kd.C_alloc ?_ _) | (with_reducible refine Kd.C_drewN ?_ _) | (with_reducible refine Kd.C_drew ?_) | exact HR321_0.out)) | (with_reducible refine Kd.C_alloc ?_ _) | (with_reducible refine Kd.C_drewN ?_ _) | (with_reducible refine Kd.C_drew ?_))); (case side2 => exact HC321_0.out); rintro e w' ⟨rfl, ⟨nd, rfl⟩⟩; refine ⟨_, rfl, ?_⟩; have p323 : 0 ≤ (x19_2 : Int) := of_decide_eq_true (by assumption); have q323 : x19_2 < (t306.length : Int) := of_decide_eq_true (by assumption); obtain ⟨ad323, A323_0, c323_0, e323, hx323_0, hl323_0, hi323_0⟩ := at_L2 (Kd.S_reads' HO_14.out).2.2 x19_2 p323 q323; obtain rfl : ad321 = ad323 := (by injection e323); obtain ⟨ce323, hce323, hMe323, hcc323⟩ := Kd.S_get HO_14.out [] x19_2 p323 (by first | exact q323 | exact of_decide_eq_true (by assumption) | (have e_ := (Kd.S_reads' HO_14.out).1; omega)); obtain ⟨ve323_0, rfl, ge323_0⟩ := hMe323; have hv323_0 := hcc323 0 _ rfl; rw [Nat.add_zero, show ((Kd.slice 3 (Kd.int .i64))).sz = 1 from rfl, Nat.mul_one] at hv323_0; replace hv323_0 := Option.some.inj (hv323_0.symm.trans hx323_0); rw [hv323_0] at ge323_0; have HL323_0 := Aside0.mk (show Kd.R (Kd.int .i64) 3 _ _ _ _ (rd_L2 t306 x19_2) from ge323_0); clear hv323_0 ge323_0; clear hcc323 hce323; have HR323_0 := Aside0.mk hi323_0; have HC323_0 := Aside0.mk hl323_0; clear hi323_0 hl323_0; replace p323 := eq_true p323; replace q323 := eq_true q323; have ea_ := Option.some.inj (hx321_0.symm.trans hx323_0); injection ea_ with ea_ en_ ec_; subst ea_; subst ec_; clear en_) | (go_at_call 52; (with_reducible refine (galloonref06_Permutation.calls k2 _ _ (rd_L2 t306 x19_2) t324 _ ?side1 ?side2 A33.out).mono ?_); (case side1 => repeat (first | exact (by repeat (first | (with_reducible exact HR323_0.out) | (with_reducible refine Kd.C_alloc ?_ _) | (with_reducible refine Kd.C_drewN ?_ _) | (with_reducible refine Kd.C_drew ?_) | exact HR323_0.out)) | (with_reducible refine Kd.C_alloc ?_ _) | (with_reducible refine Kd.C_drewN ?_ _) | (with_reducible refine Kd.C_drew ?_))); (case side2 => exact HC323_0.out); rintro e w' ⟨rfl, ⟨nd, rfl⟩⟩))
               (try (rw [drewN_self w40]; generalize hq_ : World.drewN w40 _ = w40; have n0_ : Aside0 (Kd.R (Kd.int .i64) 3 w40 w.heap.size (fun k_ => some k_ ≠ (.slice (some ad321) t306.length co41 : Value).ownBlock ∧ some k_ ≠ (u18 : Value).ownBlock ∧ some k_ ≠ (v300 : Value).ownBlock) (.slice A321_0 (rd_L2 t306 x19_2).length c321_0) (rd_L2 t306 x19_2)) := ⟨by rw [← hq_]; exact (by (with_reducible repeat (first | apply Kd.R_alloc | apply Kd.R_drewN | apply Kd.R_drew)); exact Kd.R_mono HL321_0.out (fun _ hk => ⟨hk.2, ⟨hk.1.2, hk.1.1⟩⟩))⟩; have n1_ : Aside0 (Kd.R (Kd.int .i64) 3 w40 w.heap.size (fun k_ => some k_ ≠ (.slice (some ad321) t306.length co41 : Value).ownBlock ∧ some k_ ≠ (u18 : Value).ownBlock ∧ some k_ ≠ (v300 : Value).ownBlock) (.slice A321_0 (rd_L2 t306 x19_2).length c321_0) (rd_L2 t306 x19_2)) := ⟨by rw [← hq_]; exact (by (with_reducible repeat (first | apply Kd.R_alloc | apply Kd.R_drewN | apply Kd.R_drew)); exact Kd.R_mono HL323_0.out (fun _ hk => ⟨hk.2, ⟨hk.1.2, hk.1.1⟩⟩))⟩; have n2_ : Aside0 (Kd.R k44 44 w40 w.heap.size (fun _ => True) (.slice (some ad318) t305.length co39) t305) := ⟨by rw [← hq_]; exact (by (with_reducible repeat (first | apply Kd.R_alloc | apply Kd.R_drewN | apply Kd.R_drew)); exact HO_13.out)⟩; have n3_ : Aside0 (Kd.S (Kd.slice 3 (Kd.int .i64)) 28 w40 w.heap.size (fun k_ => some k_ ≠ (u18 : Value).ownBlock ∧ some k_ ≠ (v300 : Value).ownBlock) (.slice (some ad321) t306.length co41) t306) := ⟨by rw [← hq_]; exact (by (with_reducible repeat (first | apply Kd.S_alloc | apply Kd.S_drewN | apply Kd.S_drew)); exact Kd.S_mono HO_14.out (fun _ hk => ⟨hk.2, hk.1⟩))⟩; have n4_ : Aside0 (Kd.R (Kd.int .i64) 3 w40 w.heap.size (fun k_ => some k_ ≠ (v300 : Value).ownBlock) u18 x18_2) := ⟨by rw [← hq_]; exact (by (with_reducible repeat (first | apply Kd.R_alloc | apply Kd.R_drewN | apply Kd.R_drew)); exact HO_18.out)⟩; have n5_ : Aside0 (Kd.R (Kd.int .i64) 3 w40 w.heap.size (fun k_ => some k_ ≠ (u18 : Value).ownBlock) v300 t298) := ⟨by rw [← hq_]; exact (by (with_reducible repeat (first | apply Kd.R_alloc | apply Kd.R_drewN | apply Kd.R_drew)); exact HO_8.out)⟩; have n6_ : Aside0 (Below w.heap.size w w40) := ⟨by rw [← hq_]; exact (by repeat (first | (with_reducible first | exact HB.out | apply below_alloc | apply pw_below_drewN | apply below_drew1) | exact HB.out))⟩; have n7_ : Aside0 (Kd.C (Kd.int .i64) w40 A321_0 (rd_L2 t306 x19_2).length (rd_L2 t306 x19_2)) := ⟨by rw [← hq_]; exact (by repeat (first | (with_reducible exact HR321_0.out) | (with_reducible refine Kd.C_alloc ?_ _) | (with_reducible refine Kd.C_drewN ?_ _) | (with_reducible refine Kd.C_drew ?_) | exact HR321_0.out))⟩; have n8_ : Aside0 (Kd.C (Kd.int .i64) w40 A321_0 (rd_L2 t306 x19_2).length (rd_L2 t306 x19_2)) := ⟨by rw [← hq_]; exact (by repeat (first | (with_reducible exact HR323_0.out) | (with_reducible refine Kd.C_alloc ?_ _) | (with_reducible refine Kd.C_drewN ?_ _) | (with_reducible refine Kd.C_drew ?_) | exact HR323_0.out))⟩; clear HL321_0 HL323_0 HO_13 HO_14 HO_18 HO_8 HB HR321_0 HR323_0 hq_; have HL321_0 := n0_; have HL323_0 := n1_; have HO_13 := n2_; have HO_14 := n3_; have HO_18 := n4_; have HO_8 := n5_; have HB := n6_; have HR321_0 := n7_; have HR323_0 := n8_; clear n0_ n1_ n2_ n3_ n4_ n5_ n6_ n7_ n8_))
               have n0_ := Aside0.mk (Kd.R_drew HO_8.out)
               have n1_ := Aside0.mk (Kd.R_drew HO_13.out)
               have n2_ := Aside0.mk (Kd.S_drew HO_14.out)
               have n3_ := Aside0.mk (Kd.R_drew HO_18.out)
               have n4_ := Aside0.mk (Kd.R_drew HL321_0.out)
               have n5_ := Aside0.mk (Kd.R_drew HL323_0.out)
               have n6_ := Aside0.mk (Kd.C_drew HR321_0.out)
               have n7_ := Aside0.mk (Kd.C_drew HR323_0.out)
               have n8_ := Aside0.mk (below_drew1 HB.out)
               clear HO_8
               clear HO_13
               clear HO_14
               clear HO_18
               clear HL321_0
               clear HL323_0
               clear HR321_0
               clear HR323_0
               clear HB
               have HO_8 := n0_
               have HO_13 := n1_
               have HO_14 := n2_
               have HO_18 := n3_
               have HL321_0 := n4_
               have HL323_0 := n5_
               have HR321_0 := n6_
               have HR323_0 := n7_
               have HB := n8_
               clear n0_ n1_ n2_ n3_ n4_ n5_ n6_ n7_ n8_
               have p325 : 0 ≤ (x19_2 : Int) := of_decide_eq_true (by assumption)
               have q325 : x19_2 < (t306.length : Int) := of_decide_eq_true (by assumption)
               obtain ⟨ad325, A325_0, c325_0, e325, hx325_0, hl325_0, hi325_0⟩ := at_L2 (Kd.S_reads' HO_14.out).2.2 x19_2 p325 q325
               obtain rfl : ad321 = ad325 := (by injection e325)
               obtain ⟨ce325, hce325, hMe325, hcc325⟩ := Kd.S_get HO_14.out [] x19_2 p325 (by first | exact q325 | exact of_decide_eq_true (by assumption) | (have e_ := (Kd.S_reads' HO_14.out).1; omega))
               obtain ⟨ve325_0, rfl, ge325_0⟩ := hMe325
               have hv325_0 := hcc325 0 _ rfl
               rw [Nat.add_zero, show ((Kd.slice 3 (Kd.int .i64))).sz = 1 from rfl, Nat.mul_one] at hv325_0
               replace hv325_0 := Option.some.inj (hv325_0.symm.trans hx325_0)
               rw [hv325_0] at ge325_0
               have HL325_0 := Aside0.mk (show Kd.R (Kd.int .i64) 3 _ _ _ _ (rd_L2 t306 x19_2) from ge325_0)
               clear hv325_0 ge325_0
               clear hcc325 hce325
               have HR325_0 := Aside0.mk hi325_0
               have HC325_0 := Aside0.mk hl325_0
               clear hi325_0 hl325_0
               replace p325 := eq_true p325
               replace q325 := eq_true q325
               have p326 : 0 ≤ ((ji35) : Int) := of_decide_eq_true (by assumption)
               have q326 : (ji35) < ((rd_L2 t306 x19_2).length : Int) := of_decide_eq_true (by assumption)
               obtain ⟨ad326, e326, hx326_0⟩ := Kd.at_int (by repeat (first | (with_reducible exact HR325_0.out) | (with_reducible refine Kd.C_alloc ?_ _) | (with_reducible refine Kd.C_drewN ?_ _) | (with_reducible refine Kd.C_drew ?_) | exact HR325_0.out)) (ji35) p326 q326
               cases e326
               replace p326 := eq_true p326
               replace q326 := eq_true q326
               as_aux_lemma =>
               refine start_ (n := 13) (S := fun w' => w'.cell? (ad321.add (x19_2).toNat) = some (.slice (some ad326) (rd_L2 t306 x19_2).length c325_0) ∧ w'.cell? (ad326.add ((ji35)).toNat) = some (.int .i64 (rd (rd_L2 t306 x19_2) (ji35)))) (ds := [10, 11]) #[false,false,false,false,false,false,false,false,false,false,false,false,false] (by kernel_rfl) rfl rfl ⟨hx325_0, hx326_0⟩ (fun hHeld => ?_); refine with_tabW galloonlaw06_ShuffleParted.tab18 galloonlaw06_ShuffleParted.bits18 (fun HT_ HW_ => ?_)
               generalize w40.drew = w42 at HO_8 HO_13 HO_14 HO_18 HL321_0 HL323_0 HR321_0 HR323_0 HB HL325_0 HR325_0 hx325_0 hx326_0 hHeld ⊢
               refine pure_ (i := 0) (N := some 113) (v := ?_) (a' := ?_) #[true,false,false,false,false,false,false,false,false,false,false,false,false] rfl rfl (any_of HT_.out (by kernel_rfl)) (fun _ _ _ h => h) (Or.inl ⟨by rfl, ?_⟩) ?_ ?_
               rotate_left
               ·
                intro w'
                go_simp
                with_reducible rfl
               rotate_left
               ·
                simp only [Act.put, Hand.s0_, List.set_cons_zero, Hand.s1_, i64_w, i32_w]
                rfl
               refine pure_ (i := 1) (N := some 114) (v := ?_) (a' := ?_) #[true,true,false,false,false,false,false,false,false,false,false,false,false] rfl rfl (any_of HT_.out (by kernel_rfl)) (fun _ _ _ h => h) (Or.inl ⟨by rfl, ?_⟩) ?_ ?_
               rotate_left
               ·
                intro w'
                go_simp
                with_reducible rfl
               rotate_left
               ·
                simp only [Act.put, Hand.s0_, List.set_cons_zero, Hand.s1_, i64_w, i32_w]
                rfl
               refine pure_ (i := 2) (N := some 115) (v := ?_) (a' := ?_) #[true,true,true,false,false,false,false,false,false,false,false,false,false] rfl rfl (any_of HT_.out (by kernel_rfl)) (fun _ _ _ h => h) (Or.inl ⟨by rfl, ?_⟩) ?_ ?_
               rotate_left
               ·
                intro w'
                go_simp
                with_reducible rfl
               rotate_left
               ·
                simp only [Act.put, Hand.s0_, List.set_cons_zero, Hand.s1_, i64_w, i32_w]
                rfl
               refine pure_ (i := 3) (N := some 116) (v := ?_) (a' := ?_) #[true,true,true,true,false,false,false,false,false,false,false,false,false] rfl rfl (any_of HT_.out (by kernel_rfl)) (fun _ _ _ h => h) (Or.inl ⟨by rfl, ?_⟩) ?_ ?_
               rotate_left
               ·
                intro w'
                go_simp
                with_reducible rfl
               rotate_left
               ·
                simp only [Act.put, Hand.s0_, List.set_cons_zero, Hand.s1_, i64_w, i32_w]
                rfl
               refine pure_ (i := 5) (N := some 118) (v := ?_) (a' := ?_) #[true,true,true,true,false,true,false,false,false,false,false,false,false] rfl rfl (any_of HT_.out (by kernel_rfl)) (fun _ _ _ h => h) (Or.inl ⟨by rfl, ?_⟩) ?_ ?_
               rotate_left
               ·
                intro w'
                go_simp
                with_reducible rfl
               rotate_left
               ·
                simp only [Act.put, Hand.s0_, List.set_cons_zero, Hand.s1_, i64_w, i32_w]
                rfl
               refine pure_ (i := 6) (N := some 119) (v := ?_) (a' := ?_) #[true,true,true,true,false,true,true,false,false,false,false,false,false] rfl rfl (any_of HT_.out (by kernel_rfl)) (fun _ _ _ h => h) (Or.inl ⟨by rfl, ?_⟩) ?_ ?_
               rotate_left
               ·
                intro w'
                go_simp
                with_reducible rfl
               rotate_left
               ·
                simp only [Act.put, Hand.s0_, List.set_cons_zero, Hand.s1_, i64_w, i32_w]
                rfl
               refine pure_ (i := 7) (N := some 120) (v := ?_) (a' := ?_) #[true,true,true,true,false,true,true,true,false,false,false,false,false] rfl rfl (any_of HT_.out (by kernel_rfl)) (fun _ _ _ h => h) (Or.inl ⟨by rfl, ?_⟩) ?_ ?_
               rotate_left
               ·
                intro w'
                go_simp
                with_reducible rfl
               rotate_left
               ·
                simp only [Act.put, Hand.s0_, List.set_cons_zero, Hand.s1_, i64_w, i32_w]
                rfl
               refine take_ (i := 4) (N := some 117) (v := ?_) (a' := ?_) #[true,true,true,true,true,true,true,true,false,false,false,false,false] rfl rfl (take_ofW HT_.out HW_.out (by kernel_rfl)) (fun _ _ _ h => h) (Or.inl ⟨by rfl, ?_⟩) hHeld ?_ ?_
               rotate_left
               ·
                rintro w' ⟨s0, s1⟩
                go_simp
                with_reducible rfl
               rotate_left
               ·
                simp only [Act.put, Hand.s0_, List.set_cons_zero, Hand.s1_, i64_w, i32_w]
                rfl
               refine pure_ (i := 8) (N := some 121) (v := ?_) (a' := ?_) #[true,true,true,true,true,true,true,true,true,false,false,false,false] rfl rfl (any_of HT_.out (by kernel_rfl)) (fun _ _ _ h => h) (Or.inl ⟨by rfl, ?_⟩) ?_ ?_
               rotate_left
               ·
                intro w'
                go_simp
                with_reducible rfl
               rotate_left
               ·
                simp only [Act.put, Hand.s0_, List.set_cons_zero, Hand.s1_, i64_w, i32_w]
                rfl
               refine take_ (i := 9) (N := some 122) (v := ?_) (a' := ?_) #[true,true,true,true,true,true,true,true,true,true,false,false,false] rfl rfl (take_ofW HT_.out HW_.out (by kernel_rfl)) (fun _ _ _ h => h) (Or.inl ⟨by rfl, ?_⟩) hHeld ?_ ?_
               rotate_left
               ·
                rintro w' ⟨s0, s1⟩
                go_simp
                with_reducible rfl
               rotate_left
               ·
                simp only [Act.put, Hand.s0_, List.set_cons_zero, Hand.s1_, i64_w, i32_w]
                rfl
               refine last_ (i := 10) (N := some 123) #[true,true,true,true,true,true,true,true,true,true,true,false,false] rfl rfl (one_of HT_.out (by kernel_rfl)) (by decide) (fun K hK => ?_)
               refine value_ (w1 := ?_) (v := ?_) (by rfl) rfl ?_ ?_
               rotate_left 2
               ·
                go_simp
                constructor
                ·
                 rfl
                ·
                 rfl
               refine hK.out _ _ ?_
               clear hK K
               refine norm_ (a' := ?_) ?_ ?_
               rotate_left
               ·
                show Act.put _ (some 123) _ = _
                simp only [Act.put, Hand.s0_, List.set_cons_zero, Hand.s1_, i64_w, i32_w]
                rfl
               refine last_ (i := 11) (N := some 124) #[true,true,true,true,true,true,true,true,true,true,true,true,false] rfl rfl (one_of HT_.out (by kernel_rfl)) (by decide) (fun K hK => ?_)
               refine Kd.R_append_step (Kd.int .i64) (w0 := w) w.heap.size (by rfl) (.tmp 113) (.tmp 123) 28 3 (.int .i64 0) 8 rfl Try.underlying28 info3 rfl (by decide) (by omega) u18 x18_2 (rd (rd_L2 t306 x19_2) (ji35)) [.int .i64 (rd (rd_L2 t306 x19_2) (ji35))] (fun k_ => some k_ ≠ (v300 : Value).ownBlock) (fun _ => False) rfl rfl ?aP (fun _ hk => hk.elim) ?aF ?aO ?aB ?aS ?aL ?_
               (case aP => exact rfl)
               (case aB => exact (by repeat (first | (with_reducible first | exact HB.out | apply below_alloc | apply pw_below_drewN | apply below_drew1) | exact HB.out)))
               (case aF => exact (fun k_ hk => Kd.fresh' (Kd.R_lt (by (with_reducible repeat (first | apply Kd.R_alloc | apply Kd.R_drewN | apply Kd.R_drew)); exact HO_8.out)) k_ hk))
               (case aO => exact (by (with_reducible repeat (first | apply Kd.R_alloc | apply Kd.R_drewN | apply Kd.R_drew)); exact HO_18.out))
               (case aS => exact (below_size (by repeat (first | (with_reducible first | exact HB.out | apply below_alloc | apply pw_below_drewN | apply below_drew1) | exact HB.out))))
               (case aL => have := LMc38.out; omega)
               intro v328 w43 ho hb hg hat
               rw [← Ny327.out] at ho
               have n0_ := Aside0.mk (Kd.R_after (ok := (fun _ => True)) (by (with_reducible repeat (first | apply Kd.R_alloc | apply Kd.R_drewN | apply Kd.R_drew)); exact Kd.R_mono HO_8.out (fun _ hk => ⟨trivial, hk⟩)) hg hat)
               have n1_ := Aside0.mk (Kd.R_over' (by (with_reducible repeat (first | apply Kd.R_alloc | apply Kd.R_drewN | apply Kd.R_drew)); exact HO_13.out) (Kd.R_typed (by (with_reducible repeat (first | apply Kd.R_alloc | apply Kd.R_drewN | apply Kd.R_drew)); exact HO_18.out)) (by decide) hg)
               have n2_ := Aside0.mk (Kd.S_after (ok := (fun k_ => some k_ ≠ (v300 : Value).ownBlock)) (by (with_reducible repeat (first | apply Kd.S_alloc | apply Kd.S_drewN | apply Kd.S_drew)); first | exact HO_14.out | exact Kd.S_mono HO_14.out (fun _ hk => ⟨hk.2, hk.1⟩)) hg hat)
               have n3_ := Aside0.mk (Kd.R_after (ok := (fun k_ => some k_ ≠ (v300 : Value).ownBlock ∧ some k_ ≠ (.slice (some ad321) t306.length co41 : Value).ownBlock)) (by (with_reducible repeat (first | apply Kd.R_alloc | apply Kd.R_drewN | apply Kd.R_drew)); exact Kd.R_mono HL321_0.out (fun _ hk => by first | exact ⟨⟨hk.1.1, hk.2⟩, hk.1.2⟩ | exact ⟨⟨hk.2.2, hk.1⟩, hk.2.1⟩ | exact ⟨⟨hk.1.2, hk.2⟩, hk.1.1⟩)) hg hat)
               have n4_ := Aside0.mk (Kd.R_after (ok := (fun k_ => some k_ ≠ (v300 : Value).ownBlock ∧ some k_ ≠ (.slice (some ad321) t306.length co41 : Value).ownBlock)) (by (with_reducible repeat (first | apply Kd.R_alloc | apply Kd.R_drewN | apply Kd.R_drew)); exact Kd.R_mono HL323_0.out (fun _ hk => by first | exact ⟨⟨hk.1.1, hk.2⟩, hk.1.2⟩ | exact ⟨⟨hk.2.2, hk.1⟩, hk.2.1⟩ | exact ⟨⟨hk.1.2, hk.2⟩, hk.1.1⟩)) hg hat)
               have n5_ := Aside0.mk (Kd.R_after (ok := (fun k_ => some k_ ≠ (v300 : Value).ownBlock ∧ some k_ ≠ (.slice (some ad321) t306.length co41 : Value).ownBlock)) (by (with_reducible repeat (first | apply Kd.R_alloc | apply Kd.R_drewN | apply Kd.R_drew)); exact Kd.R_mono HL325_0.out (fun _ hk => by first | exact ⟨⟨hk.1.1, hk.2⟩, hk.1.2⟩ | exact ⟨⟨hk.2.2, hk.1⟩, hk.2.1⟩ | exact ⟨⟨hk.1.2, hk.2⟩, hk.1.1⟩)) hg hat)
               have n6_ := Aside0.mk (hb)
               have n7_ := Aside0.mk (ho)
               clear HO_8
               clear HO_13
               clear HO_14
               clear HL321_0
               clear HL323_0
               clear HL325_0
               clear HB
               clear HO_18
               have HO_8 := n0_
               have HO_13 := n1_
               have HO_14 := n2_
               have HL321_0 := n3_
               have HL323_0 := n4_
               have HL325_0 := n5_
               have HB := n6_
               have HO329 := n7_
               clear n0_ n1_ n2_ n3_ n4_ n5_ n6_ n7_
               clear ho hb hg hat
               refine hK.out _ _ ?_
               clear hK K
               refine norm_ (a' := ?_) ?_ ?_
               rotate_left
               ·
                show Act.put _ (some 124) _ = _
                simp only [Act.put, Hand.s0_, List.set_cons_zero, Hand.s1_, i64_w, i32_w]
                rfl
               refine pure_ (i := 12) (N := some 18) (v := ?_) (a' := ?_) #[true,true,true,true,true,true,true,true,true,true,true,true,true] rfl rfl (any_of HT_.out (by kernel_rfl)) (fun _ _ _ h => h) (Or.inl ⟨by rfl, ?_⟩) ?_ ?_
               rotate_left
               ·
                intro w'
                go_simp
                with_reducible rfl
               rotate_left
               ·
                simp only [Act.put, Hand.s0_, List.set_cons_zero, Hand.s1_, i64_w, i32_w]
                rfl
               refine done_ (done_of HT_.out (by kernel_rfl)) ?_
               try go_wp2
               go_roundg k2
               case measure => have := HJ8.out; have := HK2.out; omega
               case rel => exact ⟨(t324), (y327), (wrap64 (x19_2 + 1)), (by first | rfl | (simp; done) | (simp [*]; done)), (by first | rfl | (simp; done) | (simp [*]; done)), H', ⟨by have := HJ8.out; have := HK2.out; omega⟩, ⟨by (with_reducible repeat (first | apply Kd.R_alloc | apply Kd.R_drewN | apply Kd.R_drew)); exact Kd.R_mono HO_8.out (fun _ hk => hk.2)⟩, ⟨by (with_reducible repeat (first | apply Kd.R_alloc | apply Kd.R_drewN | apply Kd.R_drew)); exact HO_13.out⟩, ⟨by (with_reducible repeat (first | apply Kd.S_alloc | apply Kd.S_drewN | apply Kd.S_drew)); exact HO_14.out⟩, ⟨by (with_reducible repeat (first | apply Kd.R_alloc | apply Kd.R_drewN | apply Kd.R_drew)); exact HO329.out⟩, ⟨by repeat (first | (with_reducible first | exact HB.out | apply below_alloc | apply pw_below_drewN | apply below_drew1) | exact HB.out)⟩⟩
              ·
               rw [if_neg c38] at H
               exact absurd H (by simp)
             ·
              rw [if_neg c37] at H
              exact absurd H (by simp)
            ·
             rw [if_neg c36] at H
             exact absurd H (by simp)
          ·
           replace c32 := Bool.eq_false_iff.mpr c32
           subst c32
           have H1 : (if t320 = 0 then (none) else (if 0 ≤ (Int.tmod t313 t320) then (if (Int.tmod t313 t320) < ((rd_L2 t306 x19_2).length : Int) then (if x18_2.length < 17592186044416 then (galloonlaw06_ShuffleParted.l0 k2 t298 t302 t305 t306 t313 false (x18_2 ++ [rd (rd_L2 t306 x19_2) (Int.tmod t313 t320)]) (wrap64 (x19_2 + 1))) else (none)) else (none)) else (none))) = some r := by rw [if_neg (show ¬ (false = true) by decide)] at H; exact H
           clear H
           have H := H1
           clear H1
           by_cases c44 : t320 = 0
           ·
            rw [if_pos c44] at H
            exact absurd H (by simp)
           ·
            rw [if_neg c44] at H
            have c44b0 : (t320 == 0) = false := beq_eq_false_iff_ne.mpr c44
            have c44b1 : (t320 != 0) = true := bne_iff_ne.mpr c44
            obtain ⟨ji45, hji45⟩ : ∃ j_ : Int, (Int.tmod t313 t320) = j_ := ⟨_, rfl⟩
            replace H : (if 0 ≤ (ji45) then (if (ji45) < ((rd_L2 t306 x19_2).length : Int) then (if x18_2.length < 17592186044416 then (galloonlaw06_ShuffleParted.l0 k2 t298 t302 t305 t306 t313 false (x18_2 ++ [rd (rd_L2 t306 x19_2) (ji45)]) (wrap64 (x19_2 + 1))) else (none)) else (none)) else (none)) = some r := by first | (rw [hji45] at H; exact H) | (simp only [hji45] at H ⊢; exact H)
            (try rw [hji45] at A28)
            (try rw [hji45] at A30)
            by_cases c46 : 0 ≤ (ji45)
            ·
             rw [if_pos c46] at H
             have c46b0 : decide (0 ≤ (ji45)) = true := decide_eq_true c46
             clear c46
             by_cases c47 : (ji45) < ((rd_L2 t306 x19_2).length : Int)
             ·
              rw [if_pos c47] at H
              have c47b0 : decide ((ji45) < ((rd_L2 t306 x19_2).length : Int)) = true := decide_eq_true c47
              clear c47
              by_cases c48 : x18_2.length < 17592186044416
              ·
               rw [if_pos c48] at H
               have LMc48 := Aside0.mk c48
               clear c48
               obtain ⟨y332, hy332⟩ : ∃ y_ : List Int, y_ = (x18_2 ++ [rd (rd_L2 t306 x19_2) (ji45)]) := ⟨_, rfl⟩
               replace H : (galloonlaw06_ShuffleParted.l0 k2 t298 t302 t305 t306 t313 false y332 (wrap64 (x19_2 + 1))) = some r := by first | (rw [hy332]; with_reducible exact H) | (have H2_ := (Option.bind_some _ _).symm.trans H; rw [hy332]; with_reducible exact H2_) | (have H2_ := (Option.bind_some _ _).symm.trans H; with_reducible exact H2_) | with_reducible exact H | (rw [hy332]; exact H) | exact H
               have Ny332 := Aside0.mk hy332
               clear hy332
               have H' := Aside0.mk H
               clear H
               obtain ⟨Ao49, co49, eo49⟩ := Kd.R_slice HO_13.out
               subst eo49
               try go_wp2
               have n0_ := Aside0.mk (Kd.R_drew HO_8.out)
               have n1_ := Aside0.mk (Kd.R_drew HO_13.out)
               have n2_ := Aside0.mk (Kd.S_drew HO_14.out)
               have n3_ := Aside0.mk (Kd.R_drew HO_18.out)
               have n4_ := Aside0.mk (below_drew1 HB.out)
               clear HO_8
               clear HO_13
               clear HO_14
               clear HO_18
               clear HB
               have HO_8 := n0_
               have HO_13 := n1_
               have HO_14 := n2_
               have HO_18 := n3_
               have HB := n4_
               clear n0_ n1_ n2_ n3_ n4_
               have p318 : 0 ≤ (x19_2 : Int) := of_decide_eq_true (by assumption)
               have q318 : x19_2 < (t305.length : Int) := of_decide_eq_true (by assumption)
               obtain ⟨ad318, e318, hx318_0, hx318_1⟩ := at_T44 (Kd.R_reads' HO_13.out).2.2 x19_2 p318 q318
               cases e318
               replace p318 := eq_true p318
               replace q318 := eq_true q318
               have p319 : 0 ≤ (x19_2 : Int) := of_decide_eq_true (by assumption)
               have q319 : x19_2 < (t305.length : Int) := of_decide_eq_true (by assumption)
               obtain ⟨ad319, e319, hx319_0, hx319_1⟩ := at_T44 (Kd.R_reads' HO_13.out).2.2 x19_2 p319 q319
               obtain rfl : ad318 = ad319 := (by injection e319)
               replace p319 := eq_true p319
               replace q319 := eq_true q319
               as_aux_lemma =>
               refine start_ (n := 12) (S := fun w' => w'.cell? (ad318.add ((x19_2).toNat * 2)) = some (.int .i64 ((rd_T44 t305 x19_2).f0)) ∧ w'.cell? ⟨(ad318.add ((x19_2).toNat * 2)).block, (ad318.add ((x19_2).toNat * 2)).off + 1, none⟩ = some (.int .i64 ((rd_T44 t305 x19_2).f1)) ∧ w'.cell? (ad318.add ((x19_2).toNat * 2)) = some (.int .i64 ((rd_T44 t305 x19_2).f0)) ∧ w'.cell? ⟨(ad318.add ((x19_2).toNat * 2)).block, (ad318.add ((x19_2).toNat * 2)).off + 1, none⟩ = some (.int .i64 ((rd_T44 t305 x19_2).f1))) (ds := []) #[false,false,false,false,false,false,false,false,false,false,false,false] (by kernel_rfl) rfl rfl ⟨hx318_0, hx318_1, hx319_0, hx319_1⟩ (fun hHeld => ?_); refine with_tabW galloonlaw06_ShuffleParted.tab14 galloonlaw06_ShuffleParted.bits14 (fun HT_ HW_ => ?_)
               generalize wr.drew = w50 at HO_8 HO_13 HO_14 HO_18 HB hx318_0 hx318_1 hx319_0 hx319_1 hHeld ⊢
               refine pure_ (i := 0) (N := some 87) (v := ?_) (a' := ?_) #[true,false,false,false,false,false,false,false,false,false,false,false] rfl rfl (any_of HT_.out (by kernel_rfl)) (fun _ _ _ h => h) (Or.inl ⟨by rfl, ?_⟩) ?_ ?_
               rotate_left
               ·
                intro w'
                go_simp
                with_reducible rfl
               rotate_left
               ·
                simp only [Act.put, Hand.s0_, List.set_cons_zero, Hand.s1_, i64_w, i32_w]
                rfl
               refine pure_ (i := 1) (N := some 88) (v := ?_) (a' := ?_) #[true,true,false,false,false,false,false,false,false,false,false,false] rfl rfl (any_of HT_.out (by kernel_rfl)) (fun _ _ _ h => h) (Or.inl ⟨by rfl, ?_⟩) ?_ ?_
               rotate_left
               ·
                intro w'
                go_simp
                with_reducible rfl
               rotate_left
               ·
                simp only [Act.put, Hand.s0_, List.set_cons_zero, Hand.s1_, i64_w, i32_w]
                rfl
               refine pure_ (i := 2) (N := some 89) (v := ?_) (a' := ?_) #[true,true,true,false,false,false,false,false,false,false,false,false] rfl rfl (any_of HT_.out (by kernel_rfl)) (fun _ _ _ h => h) (Or.inl ⟨by rfl, ?_⟩) ?_ ?_
               rotate_left
               ·
                intro w'
                go_simp
                with_reducible rfl
               rotate_left
               ·
                simp only [Act.put, Hand.s0_, List.set_cons_zero, Hand.s1_, i64_w, i32_w]
                rfl
               refine pure_ (i := 3) (N := some 90) (v := ?_) (a' := ?_) #[true,true,true,true,false,false,false,false,false,false,false,false] rfl rfl (any_of HT_.out (by kernel_rfl)) (fun _ _ _ h => h) (Or.inl ⟨by rfl, ?_⟩) ?_ ?_
               rotate_left
               ·
                intro w'
                go_simp
                with_reducible rfl
               rotate_left
               ·
                simp only [Act.put, Hand.s0_, List.set_cons_zero, Hand.s1_, i64_w, i32_w]
                rfl
               refine pure_ (i := 5) (N := some 92) (v := ?_) (a' := ?_) #[true,true,true,true,false,true,false,false,false,false,false,false] rfl rfl (any_of HT_.out (by kernel_rfl)) (fun _ _ _ h => h) (Or.inl ⟨by rfl, ?_⟩) ?_ ?_
               rotate_left
               ·
                intro w'
                go_simp
                with_reducible rfl
               rotate_left
               ·
                simp only [Act.put, Hand.s0_, List.set_cons_zero, Hand.s1_, i64_w, i32_w]
                rfl
               refine pure_ (i := 6) (N := some 93) (v := ?_) (a' := ?_) #[true,true,true,true,false,true,true,false,false,false,false,false] rfl rfl (any_of HT_.out (by kernel_rfl)) (fun _ _ _ h => h) (Or.inl ⟨by rfl, ?_⟩) ?_ ?_
               rotate_left
               ·
                intro w'
                go_simp
                with_reducible rfl
               rotate_left
               ·
                simp only [Act.put, Hand.s0_, List.set_cons_zero, Hand.s1_, i64_w, i32_w]
                rfl
               refine pure_ (i := 7) (N := some 94) (v := ?_) (a' := ?_) #[true,true,true,true,false,true,true,true,false,false,false,false] rfl rfl (any_of HT_.out (by kernel_rfl)) (fun _ _ _ h => h) (Or.inl ⟨by rfl, ?_⟩) ?_ ?_
               rotate_left
               ·
                intro w'
                go_simp
                with_reducible rfl
               rotate_left
               ·
                simp only [Act.put, Hand.s0_, List.set_cons_zero, Hand.s1_, i64_w, i32_w]
                rfl
               refine pure_ (i := 8) (N := some 95) (v := ?_) (a' := ?_) #[true,true,true,true,false,true,true,true,true,false,false,false] rfl rfl (any_of HT_.out (by kernel_rfl)) (fun _ _ _ h => h) (Or.inl ⟨by rfl, ?_⟩) ?_ ?_
               rotate_left
               ·
                intro w'
                go_simp
                with_reducible rfl
               rotate_left
               ·
                simp only [Act.put, Hand.s0_, List.set_cons_zero, Hand.s1_, i64_w, i32_w]
                rfl
               refine take_ (i := 4) (N := some 91) (v := ?_) (a' := ?_) #[true,true,true,true,true,true,true,true,true,false,false,false] rfl rfl (take_ofW HT_.out HW_.out (by kernel_rfl)) (fun _ _ _ h => h) (Or.inl ⟨by rfl, ?_⟩) hHeld ?_ ?_
               rotate_left
               ·
                rintro w' ⟨s0, s1, s2, s3⟩
                go_simp
                with_reducible rfl
               rotate_left
               ·
                simp only [Act.put, Hand.s0_, List.set_cons_zero, Hand.s1_, i64_w, i32_w]
                rfl
               refine take_ (i := 9) (N := some 96) (v := ?_) (a' := ?_) #[true,true,true,true,true,true,true,true,true,true,false,false] rfl rfl (take_ofW HT_.out HW_.out (by kernel_rfl)) (fun _ _ _ h => h) (Or.inl ⟨by rfl, ?_⟩) hHeld ?_ ?_
               rotate_left
               ·
                rintro w' ⟨s0, s1, s2, s3⟩
                go_simp
                with_reducible rfl
               rotate_left
               ·
                simp only [Act.put, Hand.s0_, List.set_cons_zero, Hand.s1_, i64_w, i32_w]
                rfl
               refine one_ (i := 10) (N := some 97) #[true,true,true,true,true,true,true,true,true,true,true,false] rfl rfl (one_of HT_.out (by kernel_rfl)) (by decide) (fun K hK => ?_)
               refine goes_ Try.func50 (by kernel_rfl) rfl #[.int .i64 ((rd_T44 t305 x19_2).f0), .int .i64 ((rd_T44 t305 x19_2).f1)] (by rfl) rfl rfl (by (try simp only [List.map_toArray, List.map_cons, List.map_nil]); first | done | rfl | (simp only [List.length_drop, List.length_take]; rfl)) ?_
               with_reducible refine (galloonref06_Power.calls k2 ((rd_T44 t305 x19_2).f0) ((rd_T44 t305 x19_2).f1) t320 _ A28.out).mono ?_
               rintro e w' ⟨rfl, ⟨nd, rfl⟩⟩
               refine ⟨_, rfl, ?_⟩
               refine hK.out _ _ ⟨hHeld.1, hHeld.2.1, hHeld.2.2.1, hHeld.2.2.2⟩ (fun hHeld => ?_)
               clear hK K
               refine norm_ (a' := ?_) ?_ ?_
               rotate_left
               ·
                show Act.put _ (some 97) _ = _
                simp only [Act.put, Hand.s0_, List.set_cons_zero, Hand.s1_, i64_w, i32_w]
                rfl
               refine pure_ (i := 11) (N := some 20) (v := ?_) (a' := ?_) #[true,true,true,true,true,true,true,true,true,true,true,true] rfl rfl (any_of HT_.out (by kernel_rfl)) (fun _ _ _ h => h) (Or.inl ⟨by rfl, ?_⟩) ?_ ?_
               rotate_left
               ·
                intro w'
                go_simp
                with_reducible rfl
               rotate_left
               ·
                simp only [Act.put, Hand.s0_, List.set_cons_zero, Hand.s1_, i64_w, i32_w]
                rfl
               refine done_ (done_of HT_.out (by kernel_rfl)) ?_
               obtain ⟨Ao51, co51, eo51⟩ := Kd.S_slice HO_14.out
               subst eo51
               have p321 : 0 ≤ (x19_2 : Int) := of_decide_eq_true (by assumption)
               have q321 : x19_2 < (t306.length : Int) := of_decide_eq_true (by assumption)
               obtain ⟨ad321, A321_0, c321_0, e321, hx321_0, hl321_0, hi321_0⟩ := at_L2 (Kd.S_reads' HO_14.out).2.2 x19_2 p321 q321
               cases e321
               obtain ⟨ce321, hce321, hMe321, hcc321⟩ := Kd.S_get HO_14.out [] x19_2 p321 (by first | exact q321 | exact of_decide_eq_true (by assumption) | (have e_ := (Kd.S_reads' HO_14.out).1; omega))
               obtain ⟨ve321_0, rfl, ge321_0⟩ := hMe321
               have hv321_0 := hcc321 0 _ rfl
               rw [Nat.add_zero, show ((Kd.slice 3 (Kd.int .i64))).sz = 1 from rfl, Nat.mul_one] at hv321_0
               replace hv321_0 := Option.some.inj (hv321_0.symm.trans hx321_0)
               rw [hv321_0] at ge321_0
               have HL321_0 := Aside0.mk (show Kd.R (Kd.int .i64) 3 _ _ _ _ (rd_L2 t306 x19_2) from ge321_0)
               clear hv321_0 ge321_0
               clear hcc321 hce321
               have HR321_0 := Aside0.mk hi321_0
               have HC321_0 := Aside0.mk hl321_0
               clear hi321_0 hl321_0
               replace p321 := eq_true p321
               replace q321 := eq_true q321
               try go_wp2_with (first | ((with_reducible refine gate_callee (f := 36) rfl ?_); refine goesL_ (some 103) rfl rfl Try.func36 (by kernel_rfl) rfl #[.int .i64 t320, .slice A321_0 (rd_L2 t306 x19_2).length c321_0] rfl (by (try simp only [List.map_toArray, List.map_cons, List.map_nil]); first | done | rfl | (simp only [List.length_drop, List.length_take]; rfl)) ?_; (with_reducible refine (galloonref06_Function.calls k2 t320 _ _ (rd_L2 t306 x19_2) true _ ?side1 ?side2 A30.out).mono ?_); (case side1 => repeat (first | exact (by repeat (first | (with_reducible exact HR321_0.out) | (with_reducible refine Kd.C_alloc ?_ _) | (with_reducible refine Kd.C_drewN ?_ _) | (with_reducible refine Kd.C_drew ?_) | exact HR321_0.out)) | (with_reducible refine Kd.C_alloc ?_ _) | (with_reducible refine Kd.C_drewN ?_ _) | (with_reducible refine Kd.C_drew ?_))); (case side2 => exact HC321_0.out); rintro e w' ⟨rfl, ⟨nd, rfl⟩⟩; refine ⟨_, rfl, ?_⟩))
               (try (rw [drewN_self w50]; generalize hq_ : World.drewN w50 _ = w50; have n0_ : Aside0 (Kd.R (Kd.int .i64) 3 w50 w.heap.size (fun k_ => some k_ ≠ (.slice (some ad321) t306.length co51 : Value).ownBlock ∧ some k_ ≠ (u18 : Value).ownBlock ∧ some k_ ≠ (v300 : Value).ownBlock) (.slice A321_0 (rd_L2 t306 x19_2).length c321_0) (rd_L2 t306 x19_2)) := ⟨by rw [← hq_]; exact (by (with_reducible repeat (first | apply Kd.R_alloc | apply Kd.R_drewN | apply Kd.R_drew)); exact Kd.R_mono HL321_0.out (fun _ hk => ⟨hk.2, ⟨hk.1.2, hk.1.1⟩⟩))⟩; have n1_ : Aside0 (Kd.R k44 44 w50 w.heap.size (fun _ => True) (.slice (some ad318) t305.length co49) t305) := ⟨by rw [← hq_]; exact (by (with_reducible repeat (first | apply Kd.R_alloc | apply Kd.R_drewN | apply Kd.R_drew)); exact HO_13.out)⟩; have n2_ : Aside0 (Kd.S (Kd.slice 3 (Kd.int .i64)) 28 w50 w.heap.size (fun k_ => some k_ ≠ (u18 : Value).ownBlock ∧ some k_ ≠ (v300 : Value).ownBlock) (.slice (some ad321) t306.length co51) t306) := ⟨by rw [← hq_]; exact (by (with_reducible repeat (first | apply Kd.S_alloc | apply Kd.S_drewN | apply Kd.S_drew)); exact Kd.S_mono HO_14.out (fun _ hk => ⟨hk.2, hk.1⟩))⟩; have n3_ : Aside0 (Kd.R (Kd.int .i64) 3 w50 w.heap.size (fun k_ => some k_ ≠ (v300 : Value).ownBlock) u18 x18_2) := ⟨by rw [← hq_]; exact (by (with_reducible repeat (first | apply Kd.R_alloc | apply Kd.R_drewN | apply Kd.R_drew)); exact HO_18.out)⟩; have n4_ : Aside0 (Kd.R (Kd.int .i64) 3 w50 w.heap.size (fun k_ => some k_ ≠ (u18 : Value).ownBlock) v300 t298) := ⟨by rw [← hq_]; exact (by (with_reducible repeat (first | apply Kd.R_alloc | apply Kd.R_drewN | apply Kd.R_drew)); exact HO_8.out)⟩; have n5_ : Aside0 (Below w.heap.size w w50) := ⟨by rw [← hq_]; exact (by repeat (first | (with_reducible first | exact HB.out | apply below_alloc | apply pw_below_drewN | apply below_drew1) | exact HB.out))⟩; have n6_ : Aside0 (Kd.C (Kd.int .i64) w50 A321_0 (rd_L2 t306 x19_2).length (rd_L2 t306 x19_2)) := ⟨by rw [← hq_]; exact (by repeat (first | (with_reducible exact HR321_0.out) | (with_reducible refine Kd.C_alloc ?_ _) | (with_reducible refine Kd.C_drewN ?_ _) | (with_reducible refine Kd.C_drew ?_) | exact HR321_0.out))⟩; clear HL321_0 HO_13 HO_14 HO_18 HO_8 HB HR321_0 hq_; have HL321_0 := n0_; have HO_13 := n1_; have HO_14 := n2_; have HO_18 := n3_; have HO_8 := n4_; have HB := n5_; have HR321_0 := n6_; clear n0_ n1_ n2_ n3_ n4_ n5_ n6_))
               have n0_ := Aside0.mk (Kd.R_drew HO_8.out)
               have n1_ := Aside0.mk (Kd.R_drew HO_13.out)
               have n2_ := Aside0.mk (Kd.S_drew HO_14.out)
               have n3_ := Aside0.mk (Kd.R_drew HO_18.out)
               have n4_ := Aside0.mk (Kd.R_drew HL321_0.out)
               have n5_ := Aside0.mk (Kd.C_drew HR321_0.out)
               have n6_ := Aside0.mk (below_drew1 HB.out)
               clear HO_8
               clear HO_13
               clear HO_14
               clear HO_18
               clear HL321_0
               clear HR321_0
               clear HB
               have HO_8 := n0_
               have HO_13 := n1_
               have HO_14 := n2_
               have HO_18 := n3_
               have HL321_0 := n4_
               have HR321_0 := n5_
               have HB := n6_
               clear n0_ n1_ n2_ n3_ n4_ n5_ n6_
               have p330 : 0 ≤ (x19_2 : Int) := of_decide_eq_true (by assumption)
               have q330 : x19_2 < (t306.length : Int) := of_decide_eq_true (by assumption)
               obtain ⟨ad330, A330_0, c330_0, e330, hx330_0, hl330_0, hi330_0⟩ := at_L2 (Kd.S_reads' HO_14.out).2.2 x19_2 p330 q330
               obtain rfl : ad321 = ad330 := (by injection e330)
               obtain ⟨ce330, hce330, hMe330, hcc330⟩ := Kd.S_get HO_14.out [] x19_2 p330 (by first | exact q330 | exact of_decide_eq_true (by assumption) | (have e_ := (Kd.S_reads' HO_14.out).1; omega))
               obtain ⟨ve330_0, rfl, ge330_0⟩ := hMe330
               have hv330_0 := hcc330 0 _ rfl
               rw [Nat.add_zero, show ((Kd.slice 3 (Kd.int .i64))).sz = 1 from rfl, Nat.mul_one] at hv330_0
               replace hv330_0 := Option.some.inj (hv330_0.symm.trans hx330_0)
               rw [hv330_0] at ge330_0
               have HL330_0 := Aside0.mk (show Kd.R (Kd.int .i64) 3 _ _ _ _ (rd_L2 t306 x19_2) from ge330_0)
               clear hv330_0 ge330_0
               clear hcc330 hce330
               have HR330_0 := Aside0.mk hi330_0
               have HC330_0 := Aside0.mk hl330_0
               clear hi330_0 hl330_0
               replace p330 := eq_true p330
               replace q330 := eq_true q330
               have p331 : 0 ≤ ((ji45) : Int) := of_decide_eq_true (by assumption)
               have q331 : (ji45) < ((rd_L2 t306 x19_2).length : Int) := of_decide_eq_true (by assumption)
               obtain ⟨ad331, e331, hx331_0⟩ := Kd.at_int (by repeat (first | (with_reducible exact HR330_0.out) | (with_reducible refine Kd.C_alloc ?_ _) | (with_reducible refine Kd.C_drewN ?_ _) | (with_reducible refine Kd.C_drew ?_) | exact HR330_0.out)) (ji45) p331 q331
               cases e331
               replace p331 := eq_true p331
               replace q331 := eq_true q331
               as_aux_lemma =>
               refine start_ (n := 13) (S := fun w' => w'.cell? (ad321.add (x19_2).toNat) = some (.slice (some ad331) (rd_L2 t306 x19_2).length c330_0) ∧ w'.cell? (ad331.add ((ji45)).toNat) = some (.int .i64 (rd (rd_L2 t306 x19_2) (ji45)))) (ds := [10, 11]) #[false,false,false,false,false,false,false,false,false,false,false,false,false] (by kernel_rfl) rfl rfl ⟨hx330_0, hx331_0⟩ (fun hHeld => ?_); refine with_tabW galloonlaw06_ShuffleParted.tab18 galloonlaw06_ShuffleParted.bits18 (fun HT_ HW_ => ?_)
               generalize w50.drew = w52 at HO_8 HO_13 HO_14 HO_18 HL321_0 HR321_0 HB HL330_0 HR330_0 hx330_0 hx331_0 hHeld ⊢
               refine pure_ (i := 0) (N := some 113) (v := ?_) (a' := ?_) #[true,false,false,false,false,false,false,false,false,false,false,false,false] rfl rfl (any_of HT_.out (by kernel_rfl)) (fun _ _ _ h => h) (Or.inl ⟨by rfl, ?_⟩) ?_ ?_
               rotate_left
               ·
                intro w'
                go_simp
                with_reducible rfl
               rotate_left
               ·
                simp only [Act.put, Hand.s0_, List.set_cons_zero, Hand.s1_, i64_w, i32_w]
                rfl
               refine pure_ (i := 1) (N := some 114) (v := ?_) (a' := ?_) #[true,true,false,false,false,false,false,false,false,false,false,false,false] rfl rfl (any_of HT_.out (by kernel_rfl)) (fun _ _ _ h => h) (Or.inl ⟨by rfl, ?_⟩) ?_ ?_
               rotate_left
               ·
                intro w'
                go_simp
                with_reducible rfl
               rotate_left
               ·
                simp only [Act.put, Hand.s0_, List.set_cons_zero, Hand.s1_, i64_w, i32_w]
                rfl
               refine pure_ (i := 2) (N := some 115) (v := ?_) (a' := ?_) #[true,true,true,false,false,false,false,false,false,false,false,false,false] rfl rfl (any_of HT_.out (by kernel_rfl)) (fun _ _ _ h => h) (Or.inl ⟨by rfl, ?_⟩) ?_ ?_
               rotate_left
               ·
                intro w'
                go_simp
                with_reducible rfl
               rotate_left
               ·
                simp only [Act.put, Hand.s0_, List.set_cons_zero, Hand.s1_, i64_w, i32_w]
                rfl
               refine pure_ (i := 3) (N := some 116) (v := ?_) (a' := ?_) #[true,true,true,true,false,false,false,false,false,false,false,false,false] rfl rfl (any_of HT_.out (by kernel_rfl)) (fun _ _ _ h => h) (Or.inl ⟨by rfl, ?_⟩) ?_ ?_
               rotate_left
               ·
                intro w'
                go_simp
                with_reducible rfl
               rotate_left
               ·
                simp only [Act.put, Hand.s0_, List.set_cons_zero, Hand.s1_, i64_w, i32_w]
                rfl
               refine pure_ (i := 5) (N := some 118) (v := ?_) (a' := ?_) #[true,true,true,true,false,true,false,false,false,false,false,false,false] rfl rfl (any_of HT_.out (by kernel_rfl)) (fun _ _ _ h => h) (Or.inl ⟨by rfl, ?_⟩) ?_ ?_
               rotate_left
               ·
                intro w'
                go_simp
                with_reducible rfl
               rotate_left
               ·
                simp only [Act.put, Hand.s0_, List.set_cons_zero, Hand.s1_, i64_w, i32_w]
                rfl
               refine pure_ (i := 6) (N := some 119) (v := ?_) (a' := ?_) #[true,true,true,true,false,true,true,false,false,false,false,false,false] rfl rfl (any_of HT_.out (by kernel_rfl)) (fun _ _ _ h => h) (Or.inl ⟨by rfl, ?_⟩) ?_ ?_
               rotate_left
               ·
                intro w'
                go_simp
                with_reducible rfl
               rotate_left
               ·
                simp only [Act.put, Hand.s0_, List.set_cons_zero, Hand.s1_, i64_w, i32_w]
                rfl
               refine pure_ (i := 7) (N := some 120) (v := ?_) (a' := ?_) #[true,true,true,true,false,true,true,true,false,false,false,false,false] rfl rfl (any_of HT_.out (by kernel_rfl)) (fun _ _ _ h => h) (Or.inl ⟨by rfl, ?_⟩) ?_ ?_
               rotate_left
               ·
                intro w'
                go_simp
                with_reducible rfl
               rotate_left
               ·
                simp only [Act.put, Hand.s0_, List.set_cons_zero, Hand.s1_, i64_w, i32_w]
                rfl
               refine take_ (i := 4) (N := some 117) (v := ?_) (a' := ?_) #[true,true,true,true,true,true,true,true,false,false,false,false,false] rfl rfl (take_ofW HT_.out HW_.out (by kernel_rfl)) (fun _ _ _ h => h) (Or.inl ⟨by rfl, ?_⟩) hHeld ?_ ?_
               rotate_left
               ·
                rintro w' ⟨s0, s1⟩
                go_simp
                with_reducible rfl
               rotate_left
               ·
                simp only [Act.put, Hand.s0_, List.set_cons_zero, Hand.s1_, i64_w, i32_w]
                rfl
               refine pure_ (i := 8) (N := some 121) (v := ?_) (a' := ?_) #[true,true,true,true,true,true,true,true,true,false,false,false,false] rfl rfl (any_of HT_.out (by kernel_rfl)) (fun _ _ _ h => h) (Or.inl ⟨by rfl, ?_⟩) ?_ ?_
               rotate_left
               ·
                intro w'
                go_simp
                with_reducible rfl
               rotate_left
               ·
                simp only [Act.put, Hand.s0_, List.set_cons_zero, Hand.s1_, i64_w, i32_w]
                rfl
               refine take_ (i := 9) (N := some 122) (v := ?_) (a' := ?_) #[true,true,true,true,true,true,true,true,true,true,false,false,false] rfl rfl (take_ofW HT_.out HW_.out (by kernel_rfl)) (fun _ _ _ h => h) (Or.inl ⟨by rfl, ?_⟩) hHeld ?_ ?_
               rotate_left
               ·
                rintro w' ⟨s0, s1⟩
                go_simp
                with_reducible rfl
               rotate_left
               ·
                simp only [Act.put, Hand.s0_, List.set_cons_zero, Hand.s1_, i64_w, i32_w]
                rfl
               refine last_ (i := 10) (N := some 123) #[true,true,true,true,true,true,true,true,true,true,true,false,false] rfl rfl (one_of HT_.out (by kernel_rfl)) (by decide) (fun K hK => ?_)
               refine value_ (w1 := ?_) (v := ?_) (by rfl) rfl ?_ ?_
               rotate_left 2
               ·
                go_simp
                constructor
                ·
                 rfl
                ·
                 rfl
               refine hK.out _ _ ?_
               clear hK K
               refine norm_ (a' := ?_) ?_ ?_
               rotate_left
               ·
                show Act.put _ (some 123) _ = _
                simp only [Act.put, Hand.s0_, List.set_cons_zero, Hand.s1_, i64_w, i32_w]
                rfl
               refine last_ (i := 11) (N := some 124) #[true,true,true,true,true,true,true,true,true,true,true,true,false] rfl rfl (one_of HT_.out (by kernel_rfl)) (by decide) (fun K hK => ?_)
               refine Kd.R_append_step (Kd.int .i64) (w0 := w) w.heap.size (by rfl) (.tmp 113) (.tmp 123) 28 3 (.int .i64 0) 8 rfl Try.underlying28 info3 rfl (by decide) (by omega) u18 x18_2 (rd (rd_L2 t306 x19_2) (ji45)) [.int .i64 (rd (rd_L2 t306 x19_2) (ji45))] (fun k_ => some k_ ≠ (v300 : Value).ownBlock) (fun _ => False) rfl rfl ?aP (fun _ hk => hk.elim) ?aF ?aO ?aB ?aS ?aL ?_
               (case aP => exact rfl)
               (case aB => exact (by repeat (first | (with_reducible first | exact HB.out | apply below_alloc | apply pw_below_drewN | apply below_drew1) | exact HB.out)))
               (case aF => exact (fun k_ hk => Kd.fresh' (Kd.R_lt (by (with_reducible repeat (first | apply Kd.R_alloc | apply Kd.R_drewN | apply Kd.R_drew)); exact HO_8.out)) k_ hk))
               (case aO => exact (by (with_reducible repeat (first | apply Kd.R_alloc | apply Kd.R_drewN | apply Kd.R_drew)); exact HO_18.out))
               (case aS => exact (below_size (by repeat (first | (with_reducible first | exact HB.out | apply below_alloc | apply pw_below_drewN | apply below_drew1) | exact HB.out))))
               (case aL => have := LMc48.out; omega)
               intro v333 w53 ho hb hg hat
               rw [← Ny332.out] at ho
               have n0_ := Aside0.mk (Kd.R_after (ok := (fun _ => True)) (by (with_reducible repeat (first | apply Kd.R_alloc | apply Kd.R_drewN | apply Kd.R_drew)); exact Kd.R_mono HO_8.out (fun _ hk => ⟨trivial, hk⟩)) hg hat)
               have n1_ := Aside0.mk (Kd.R_over' (by (with_reducible repeat (first | apply Kd.R_alloc | apply Kd.R_drewN | apply Kd.R_drew)); exact HO_13.out) (Kd.R_typed (by (with_reducible repeat (first | apply Kd.R_alloc | apply Kd.R_drewN | apply Kd.R_drew)); exact HO_18.out)) (by decide) hg)
               have n2_ := Aside0.mk (Kd.S_after (ok := (fun k_ => some k_ ≠ (v300 : Value).ownBlock)) (by (with_reducible repeat (first | apply Kd.S_alloc | apply Kd.S_drewN | apply Kd.S_drew)); first | exact HO_14.out | exact Kd.S_mono HO_14.out (fun _ hk => ⟨hk.2, hk.1⟩)) hg hat)
               have n3_ := Aside0.mk (Kd.R_after (ok := (fun k_ => some k_ ≠ (v300 : Value).ownBlock ∧ some k_ ≠ (.slice (some ad321) t306.length co51 : Value).ownBlock)) (by (with_reducible repeat (first | apply Kd.R_alloc | apply Kd.R_drewN | apply Kd.R_drew)); exact Kd.R_mono HL321_0.out (fun _ hk => by first | exact ⟨⟨hk.1.1, hk.2⟩, hk.1.2⟩ | exact ⟨⟨hk.2.2, hk.1⟩, hk.2.1⟩ | exact ⟨⟨hk.1.2, hk.2⟩, hk.1.1⟩)) hg hat)
               have n4_ := Aside0.mk (Kd.R_after (ok := (fun k_ => some k_ ≠ (v300 : Value).ownBlock ∧ some k_ ≠ (.slice (some ad321) t306.length co51 : Value).ownBlock)) (by (with_reducible repeat (first | apply Kd.R_alloc | apply Kd.R_drewN | apply Kd.R_drew)); exact Kd.R_mono HL330_0.out (fun _ hk => by first | exact ⟨⟨hk.1.1, hk.2⟩, hk.1.2⟩ | exact ⟨⟨hk.2.2, hk.1⟩, hk.2.1⟩ | exact ⟨⟨hk.1.2, hk.2⟩, hk.1.1⟩)) hg hat)
               have n5_ := Aside0.mk (hb)
               have n6_ := Aside0.mk (ho)
               clear HO_8
               clear HO_13
               clear HO_14
               clear HL321_0
               clear HL330_0
               clear HB
               clear HO_18
               have HO_8 := n0_
               have HO_13 := n1_
               have HO_14 := n2_
               have HL321_0 := n3_
               have HL330_0 := n4_
               have HB := n5_
               have HO334 := n6_
               clear n0_ n1_ n2_ n3_ n4_ n5_ n6_
               clear ho hb hg hat
               refine hK.out _ _ ?_
               clear hK K
               refine norm_ (a' := ?_) ?_ ?_
               rotate_left
               ·
                show Act.put _ (some 124) _ = _
                simp only [Act.put, Hand.s0_, List.set_cons_zero, Hand.s1_, i64_w, i32_w]
                rfl
               refine pure_ (i := 12) (N := some 18) (v := ?_) (a' := ?_) #[true,true,true,true,true,true,true,true,true,true,true,true,true] rfl rfl (any_of HT_.out (by kernel_rfl)) (fun _ _ _ h => h) (Or.inl ⟨by rfl, ?_⟩) ?_ ?_
               rotate_left
               ·
                intro w'
                go_simp
                with_reducible rfl
               rotate_left
               ·
                simp only [Act.put, Hand.s0_, List.set_cons_zero, Hand.s1_, i64_w, i32_w]
                rfl
               refine done_ (done_of HT_.out (by kernel_rfl)) ?_
               try go_wp2
               go_roundg k2
               case measure => have := HJ8.out; have := HK2.out; omega
               case rel => exact ⟨(false), (y332), (wrap64 (x19_2 + 1)), (by first | rfl | (simp; done) | (simp [*]; done)), (by first | rfl | (simp; done) | (simp [*]; done)), H', ⟨by have := HJ8.out; have := HK2.out; omega⟩, ⟨by (with_reducible repeat (first | apply Kd.R_alloc | apply Kd.R_drewN | apply Kd.R_drew)); exact Kd.R_mono HO_8.out (fun _ hk => hk.2)⟩, ⟨by (with_reducible repeat (first | apply Kd.R_alloc | apply Kd.R_drewN | apply Kd.R_drew)); exact HO_13.out⟩, ⟨by (with_reducible repeat (first | apply Kd.S_alloc | apply Kd.S_drewN | apply Kd.S_drew)); exact HO_14.out⟩, ⟨by (with_reducible repeat (first | apply Kd.R_alloc | apply Kd.R_drewN | apply Kd.R_drew)); exact HO334.out⟩, ⟨by repeat (first | (with_reducible first | exact HB.out | apply below_alloc | apply pw_below_drewN | apply below_drew1) | exact HB.out)⟩⟩
              ·
               rw [if_neg c48] at H
               exact absurd H (by simp)
             ·
              rw [if_neg c47] at H
              exact absurd H (by simp)
            ·
             rw [if_neg c46] at H
             exact absurd H (by simp)
         ·
          replace c31 := Bool.eq_false_iff.mpr c31
          subst c31
          have H1 : (none) = some r := by rw [if_neg (show ¬ (false = true) by decide)] at H; exact H
          clear H
          have H := H1
          clear H1
          exact absurd H (by simp)
        ·
         rw [if_neg c29] at H
         exact absurd H (by simp)
       ·
        rw [if_neg c27] at H
        exact absurd H (by simp)
      ·
       rw [if_neg c26] at H
       have c26b0 : decide (x19_2 < (t305.length : Int)) = false := decide_eq_false c26
       (first | (simp only [hl321_0] at c26b0) | (simp only [hl323_0] at c26b0) | (simp only [hl325_0] at c26b0) | (simp only [hl330_0] at c26b0) | skip)
       clear c26
       replace H := Option.bind_eq_some_iff.mp H
       obtain ⟨⟨t314, t315⟩, A540, H⟩ := H
       replace H : (if t315 = 0 then (if 0 ≤ t313 then (if t313 < (t298.length : Int) then (if t314 = (rd t298 t313) then (if (x17_2 == (t302 == (-1))) = true then ((galloonlaw06_awake.f k2).bind fun t317 => (some t317)) else (none)) else (none)) else (none)) else (none)) else (none)) = some r := H
       have A54 := Aside0.mk A540
       clear A540
       by_cases c55 : t315 = 0
       ·
        rw [if_pos c55] at H
        have c55b0 : (t315 == 0) = true := beq_iff_eq.mpr c55
        have c55b1 : (t315 != 0) = false := bne_eq_false_iff_eq.mpr c55
        clear c55
        by_cases c56 : 0 ≤ t313
        ·
         rw [if_pos c56] at H
         have c56b0 : decide (0 ≤ t313) = true := decide_eq_true c56
         clear c56
         by_cases c57 : t313 < (t298.length : Int)
         ·
          rw [if_pos c57] at H
          have c57b0 : decide (t313 < (t298.length : Int)) = true := decide_eq_true c57
          clear c57
          by_cases c58 : t314 = (rd t298 t313)
          ·
           rw [if_pos c58] at H
           have c58b0 : (t314 == (rd t298 t313)) = true := beq_iff_eq.mpr c58
           have c58b1 : (t314 != (rd t298 t313)) = false := bne_eq_false_iff_eq.mpr c58
           clear c58
           by_cases c59 : (x17_2 == (t302 == (-1))) = true
           ·
            rw [if_pos c59] at H
            have c59b0 : (x17_2 == (t302 == (-1))) = true := c59
            (try (have c59b1 : decide (x17_2 = (t302 == (-1))) = true := by simpa using c59))
            (try (have c59b2 : (x17_2 == (t302 == (-1))) = true := by simpa using c59))
            clear c59
            replace H := Option.bind_eq_some_iff.mp H
            obtain ⟨t317, A600, H⟩ := H
            replace H : (some t317) = some r := H
            have A60 := Aside0.mk A600
            clear A600
            obtain rfl := Option.some.inj H
            obtain ⟨Ao61, co61, eo61⟩ := Kd.R_slice HO_13.out
            subst eo61
            obtain ⟨Ao62, co62, eo62⟩ := Kd.R_slice HO_18.out
            subst eo62
            go_wp2_with (first | ((with_reducible refine gate_callee (f := 44) rfl ?_); refine goesL_ (some 128) rfl rfl Try.func44 (by kernel_rfl) rfl #[.slice Ao61 t305.length co61, .slice Ao62 x18_2.length co62] rfl (by (try simp only [List.map_toArray, List.map_cons, List.map_nil]); first | done | rfl | (simp only [List.length_drop, List.length_take]; rfl)) ?_; (with_reducible refine (shuffle_Joined.calls k2 _ _ t305 _ _ x18_2 t314 t315 _ ?side1 ?side2 ?side3 ?side4 A54.out).mono ?_); (case side1 => repeat (first | exact (Kd.R_reads' HO_13.out).2.2 | (with_reducible refine Kd.C_alloc ?_ _) | (with_reducible refine Kd.C_drewN ?_ _) | (with_reducible refine Kd.C_drew ?_))); (case side2 => exact (Kd.R_reads' HO_13.out).2.1); (case side3 => repeat (first | exact (Kd.R_reads' HO_18.out).2.2 | (with_reducible refine Kd.C_alloc ?_ _) | (with_reducible refine Kd.C_drewN ?_ _) | (with_reducible refine Kd.C_drew ?_))); (case side4 => exact (Kd.R_reads' HO_18.out).2.1); rintro e w63 ⟨rfl, hb⟩; refine ⟨_, rfl, ?_⟩; have n0_ := Aside0.mk (Kd.R_below (by (with_reducible repeat (first | apply Kd.R_alloc | apply Kd.R_drewN | apply Kd.R_drew)); exact HO_8.out) hb); have n1_ := Aside0.mk (Kd.R_below (by (with_reducible repeat (first | apply Kd.R_alloc | apply Kd.R_drewN | apply Kd.R_drew)); exact HO_13.out) hb); have n2_ := Aside0.mk (Kd.S_below (by (with_reducible repeat (first | apply Kd.S_alloc | apply Kd.S_drewN | apply Kd.S_drew)); exact HO_14.out) hb); have n3_ := Aside0.mk (Kd.R_below (by (with_reducible repeat (first | apply Kd.R_alloc | apply Kd.R_drewN | apply Kd.R_drew)); exact HO_18.out) hb); have n4_ := Aside0.mk (below_step (by repeat (first | (with_reducible first | exact HB.out | apply below_alloc | apply pw_below_drewN | apply below_drew1) | exact HB.out)) hb); clear HO_8; clear HO_13; clear HO_14; clear HO_18; clear HB; have HO_8 := n0_; have HO_13 := n1_; have HO_14 := n2_; have HO_18 := n3_; have HB := n4_; clear n0_ n1_ n2_ n3_ n4_; (try clear hb); (try clear hb2); (try clear hk); (try clear hi); obtain ⟨Ao64, co64, eo64⟩ := Kd.R_slice HO_8.out; subst eo64; have p316 : 0 ≤ (t313 : Int) := of_decide_eq_true (by assumption); have q316 : t313 < (t298.length : Int) := of_decide_eq_true (by assumption); obtain ⟨ad316, e316, hx316_0⟩ := Kd.at_int (Kd.R_reads' HO_8.out).2.2 t313 p316 q316; cases e316; replace p316 := eq_true p316; replace q316 := eq_true q316) | (go_at_call 19; (with_reducible refine (galloonlaw06_awake.calls k2  t317 _ A60.out).mono ?_); rintro e w65 ⟨rfl, hb⟩; have n0_ := Aside0.mk (Kd.R_below (by (with_reducible repeat (first | apply Kd.R_alloc | apply Kd.R_drewN | apply Kd.R_drew)); exact HO_8.out) hb); have n1_ := Aside0.mk (Kd.R_below (by (with_reducible repeat (first | apply Kd.R_alloc | apply Kd.R_drewN | apply Kd.R_drew)); exact HO_13.out) hb); have n2_ := Aside0.mk (Kd.S_below (by (with_reducible repeat (first | apply Kd.S_alloc | apply Kd.S_drewN | apply Kd.S_drew)); exact HO_14.out) hb); have n3_ := Aside0.mk (Kd.R_below (by (with_reducible repeat (first | apply Kd.R_alloc | apply Kd.R_drewN | apply Kd.R_drew)); exact HO_18.out) hb); have n4_ := Aside0.mk (below_step (by repeat (first | (with_reducible first | exact HB.out | apply below_alloc | apply pw_below_drewN | apply below_drew1) | exact HB.out)) hb); clear HO_8; clear HO_13; clear HO_14; clear HO_18; clear HB; have HO_8 := n0_; have HO_13 := n1_; have HO_14 := n2_; have HO_18 := n3_; have HB := n4_; clear n0_ n1_ n2_ n3_ n4_; (try clear hb); (try clear hb2); (try clear hk); (try clear hi)))
            go_ret
            exact ⟨by first | rfl | (simp [errW_none, errW_some] <;> rfl) | (simp [*, errW_none, errW_some] <;> rfl), by repeat (first | (with_reducible first | exact HB.out | apply below_alloc | apply pw_below_drewN | apply below_drew1) | exact HB.out)⟩
           ·
            rw [if_neg c59] at H
            exact absurd H (by simp)
          ·
           rw [if_neg c58] at H
           exact absurd H (by simp)
         ·
          rw [if_neg c57] at H
          exact absurd H (by simp)
        ·
         rw [if_neg c56] at H
         exact absurd H (by simp)
       ·
        rw [if_neg c55] at H
        exact absurd H (by simp)

/-- THE ONE PURE STATEMENT of galloonlaw06_ShuffleParted: yours. -/
def galloonlaw06_ShuffleParted.Pure : Prop := ∀ (a0 : Int) (l1 : List Int) (a2 : Int), (Lit.int .i64 a0).wf = true → l1.length ≤ maxLen → l1.length * 8 ≤ 140737488351232 → (∀ x ∈ l1, (Lit.int .i64 x).wf = true) → (Lit.int .i64 a2).wf = true → ∃ k, galloonlaw06_ShuffleParted.f k a0 l1 a2 = some true
theorem galloonlaw06_ShuffleParted.walk (P : galloonlaw06_ShuffleParted.Pure) (a0 : Int) (a1 : Option Addr) (len1 cap1 : Nat) (z1 : List Int) (a2 : Int) (w : World) (w0 : (Lit.int .i64 a0).wf = true) (w1 : (a1 = none ∧ len1 = 0 ∧ cap1 = 0 ∧ z1 = []) ∨ ∃ x, a1 = some x ∧ len1 ≤ cap1 ∧ cap1 ≤ maxLen ∧ z1.length = cap1 ∧ (∀ i, i < z1.length → w.cell? (x.add i) = some (.int .i64 (z1.getD i 0))) ∧ ∀ n ∈ z1, (Lit.int .i64 n).wf = true) (y1 : len1 * 8 ≤ 140737488351232) (w2 : (Lit.int .i64 a2).wf = true) :
  Calls Try.prog 14 #[.int .i64 a0, .slice a1 len1 cap1, .int .i64 a2] w fun e w' => e = .returned (.bool true) ∧ Below w.heap.size w w' := by
 obtain ⟨l1, rfl, hr1, hm1, hw1, hc1⟩ := ReadsInt.ofRowC w1
 obtain ⟨k, h⟩ := P a0 l1 a2 w0 hm1 y1 hw1 w2
 refine (galloonlaw06_ShuffleParted.calls k a0 _ _ l1 a2 true w (Kd.C_of_reads (d := (0 : Int)) (h1 := fun _ => rfl) hr1) hc1 h).mono ?_
 rintro e w' ⟨rfl, hd⟩
 exact ⟨rfl, hd⟩

/-! ### shuffle_After: function 22 -/
mutual
def shuffle_After.j0 : Nat → List Int → List Int → Bool → Option (List Int × Int)
 | 0, _, _, _ => none
 | k + 1, x1, x2, x20 => if x20 = true then (some (([] : List Int), 2)) else (shuffle_After.l0 k x2 ([] : List Int) x1 (x1.length : Int) 0)
def shuffle_After.l0 : Nat → List Int → List Int → List Int → Int → Int → Option (List Int × Int)
 | 0, _, _, _, _, _ => none
 | k + 1, x2, x8, x21, x22, x23 => if x23 < x22 then (if 0 ≤ x23 then (if x23 < (x21.length : Int) then (if 0 ≤ (rd x21 x23) then (if (rd x21 x23) < (x2.length : Int) then (if x8.length < 17592186044416 then (shuffle_After.l0 k x2 (x8 ++ [rd x2 (rd x21 x23)]) x21 x22 (wrap64 (x23 + 1))) else (none)) else (none)) else (none)) else (none)) else (none)) else (some (x8, 0))
end
def shuffle_After.f (k : Nat) (a0 : Int) (l1 : List Int) (l2 : List Int) : Option (List Int × Int) := (shuffle_isFunction.f a0 l1).bind fun t335 => (if t335 = true then ((shuffle_isFunction.f a0 l2).bind fun t336 => (shuffle_After.j0 k l1 l2 (!t336))) else (shuffle_After.j0 k l1 l2 true))
theorem shuffle_After.mono_l : ∀ k, (∀ y0 y1 y2, LeO (shuffle_After.j0 k y0 y1 y2) (shuffle_After.j0 (k + 1) y0 y1 y2)) ∧ (∀ y0 y1 y2 y3 y4, LeO (shuffle_After.l0 k y0 y1 y2 y3 y4) (shuffle_After.l0 (k + 1) y0 y1 y2 y3 y4))
 | 0 => ⟨fun _ _ _ r h => by simp [shuffle_After.j0] at h, fun _ _ _ _ _ r h => by simp [shuffle_After.l0] at h⟩
 | k + 1 => by
  obtain ⟨ih0, ih1⟩ := shuffle_After.mono_l k
  refine ⟨?_, ?_⟩
  ·
   intro y0 y1 y2
   unfold shuffle_After.j0
   repeat' first
   | (with_reducible exact ih0 _ _ _)
   | (with_reducible exact ih1 _ _ _ _ _)
   | (with_reducible exact LeO.refl _)
   | (with_reducible exact LeO.none _)
   | (with_reducible refine LeO.ite ?_ ?_)
   | (with_reducible refine LeO.bind ?_ (fun _ => ?_))
   | exact ih0 _ _ _
   | exact ih1 _ _ _ _ _
   | exact LeO.none _
   | refine LeO.ite ?_ ?_
   | refine LeO.bind ?_ (fun _ => ?_)
  ·
   intro y0 y1 y2 y3 y4
   unfold shuffle_After.l0
   repeat' first
   | (with_reducible exact ih0 _ _ _)
   | (with_reducible exact ih1 _ _ _ _ _)
   | (with_reducible exact LeO.refl _)
   | (with_reducible exact LeO.none _)
   | (with_reducible refine LeO.ite ?_ ?_)
   | (with_reducible refine LeO.bind ?_ (fun _ => ?_))
   | exact ih0 _ _ _
   | exact ih1 _ _ _ _ _
   | exact LeO.none _
   | refine LeO.ite ?_ ?_
   | refine LeO.bind ?_ (fun _ => ?_)
theorem shuffle_After.mono : ∀ a0 a1 a2 k, LeO (shuffle_After.f k a0 a1 a2) (shuffle_After.f (k + 1) a0 a1 a2) := by
 intro a0 a1 a2 k
 obtain ⟨ih0, ih1⟩ := shuffle_After.mono_l k
 unfold shuffle_After.f
 repeat' first
   | (with_reducible exact ih0 _ _ _)
   | (with_reducible exact ih1 _ _ _ _ _)
   | (with_reducible exact LeO.refl _)
   | (with_reducible exact LeO.none _)
   | (with_reducible refine LeO.ite ?_ ?_)
   | (with_reducible refine LeO.bind ?_ (fun _ => ?_))
   | exact ih0 _ _ _
   | exact ih1 _ _ _ _ _
   | exact LeO.none _
   | refine LeO.ite ?_ ?_
   | refine LeO.bind ?_ (fun _ => ?_)
set_option maxHeartbeats 8000000 in
set_option maxRecDepth 100000 in
theorem shuffle_After.calls (k : Nat) (a0 : Int) (A1 : Option Addr) (c1 : Nat) (l1 : List Int) (A2 : Option Addr) (c2 : Nat) (l2 : List Int) (r1 : List Int) (r2 : Int) (w : World) (hr1 : Kd.C (Kd.int .i64) w A1 l1.length l1) (hc1 : l1.length ≤ c1) (hr2 : Kd.C (Kd.int .i64) w A2 l2.length l2) (hc2 : l2.length ≤ c2) (h : shuffle_After.f k a0 l1 l2 = some (r1, r2)) :
  Calls Try.prog 22 #[.int .i64 a0, .slice A1 l1.length c1, .slice A2 l2.length c2] w fun e w' => ∃ v0_ : Value, e = .returned (.tuple #[v0_, .int .i64 r2]) ∧ Kd.R (Kd.int .i64) 3 w' w.heap.size (fun _ => True) v0_ r1 ∧ Below w.heap.size w w' := by
 have HR1 := Aside0.mk hr1
 have HC1 := Aside0.mk hc1
 clear hr1 hc1
 have HR2 := Aside0.mk hr2
 have HC2 := Aside0.mk hc2
 clear hr2 hc2
 have HB := Aside0.mk (Below.refl w.heap.size w)
 have H : ((shuffle_isFunction.f a0 l1).bind fun t335 => (if t335 = true then ((shuffle_isFunction.f a0 l2).bind fun t336 => (shuffle_After.j0 k l1 l2 (!t336))) else (shuffle_After.j0 k l1 l2 true))) = some (r1, r2) := h
 clear h
 have HC4 := Aside0.mk H
 clear H
 go_enter Try.func22, Try.ntmps22
 go_upto_region 1 with (fail)
 go_cut [20] (fun v20 wc => ∃ (kq : Nat) (x20_3 : Bool), v20 = .bool x20_3 ∧ Aside0 (shuffle_After.j0 kq l1 l2 x20_3 = some (r1, r2)) ∧ Aside0 (kq ≤ k) ∧ Aside0 (Below w.heap.size w wc))
 case first =>
  as_aux_lemma =>
  have H := HC4.out
  clear HC4
  replace H := Option.bind_eq_some_iff.mp H
  obtain ⟨t335, A50, H⟩ := H
  replace H : (if t335 = true then ((shuffle_isFunction.f a0 l2).bind fun t336 => (shuffle_After.j0 k l1 l2 (!t336))) else (shuffle_After.j0 k l1 l2 true)) = some (r1, r2) := H
  have A5 := Aside0.mk A50
  clear A50
  by_cases c6 : t335 = true
  ·
   subst c6
   have H1 : ((shuffle_isFunction.f a0 l2).bind fun t336 => (shuffle_After.j0 k l1 l2 (!t336))) = some (r1, r2) := by rw [if_pos rfl] at H; exact H
   clear H
   have H := H1
   clear H1
   replace H := Option.bind_eq_some_iff.mp H
   obtain ⟨t336, A70, H⟩ := H
   replace H : (shuffle_After.j0 k l1 l2 (!t336)) = some (r1, r2) := H
   have A7 := Aside0.mk A70
   clear A70
   have H' := Aside0.mk H
   clear H
   go_wp2_with (first | ((with_reducible refine gate_callee (f := 58) rfl ?_); refine goesL_ (some 13) rfl rfl Try.func58 (by kernel_rfl) rfl #[.int .i64 a0, .slice A1 l1.length c1] rfl (by (try simp only [List.map_toArray, List.map_cons, List.map_nil]); first | done | rfl | (simp only [List.length_drop, List.length_take]; rfl)) ?_; (with_reducible refine (shuffle_isFunction.calls a0 _ _ l1 true _ ?side1 ?side2 A5.out).mono ?_); (case side1 => repeat (first | exact (Kd.C_below HR1.out HB.out) | (with_reducible refine Kd.C_alloc ?_ _) | (with_reducible refine Kd.C_drewN ?_ _) | (with_reducible refine Kd.C_drew ?_))); (case side2 => exact HC1.out); rintro e w8 ⟨rfl, hb⟩; refine ⟨_, rfl, ?_⟩; have n0_ := Aside0.mk (below_step (by repeat (first | (with_reducible first | exact HB.out | apply below_alloc | apply pw_below_drewN | apply below_drew1) | exact HB.out)) hb); clear HB; have HB := n0_; clear n0_; (try clear hb); (try clear hb2); (try clear hk); (try clear hi)) | (go_at_call 58; (with_reducible refine (shuffle_isFunction.calls a0 _ _ l2 t336 _ ?side1 ?side2 A7.out).mono ?_); (case side1 => repeat (first | exact (Kd.C_below HR2.out HB.out) | (with_reducible refine Kd.C_alloc ?_ _) | (with_reducible refine Kd.C_drewN ?_ _) | (with_reducible refine Kd.C_drew ?_))); (case side2 => exact HC2.out); rintro e w9 ⟨rfl, hb⟩; have n0_ := Aside0.mk (below_step (by repeat (first | (with_reducible first | exact HB.out | apply below_alloc | apply pw_below_drewN | apply below_drew1) | exact HB.out)) hb); clear HB; have HB := n0_; clear n0_; (try clear hb); (try clear hb2); (try clear hk); (try clear hi)))
   go_meet
   case rel => exact ⟨_, (!t336), (by first | rfl | (simp; done) | (simp [*]; done)), H', ⟨by first | omega | exact Nat.le_refl _⟩, ⟨by repeat (first | (with_reducible first | exact HB.out | apply below_alloc | apply pw_below_drewN | apply below_drew1) | exact HB.out)⟩⟩
  ·
   replace c6 := Bool.eq_false_iff.mpr c6
   subst c6
   have H1 : (shuffle_After.j0 k l1 l2 true) = some (r1, r2) := by rw [if_neg (show ¬ (false = true) by decide)] at H; exact H
   clear H
   have H := H1
   clear H1
   have H' := Aside0.mk H
   clear H
   go_wp2_with (first | ((with_reducible refine gate_callee (f := 58) rfl ?_); refine goesL_ (some 13) rfl rfl Try.func58 (by kernel_rfl) rfl #[.int .i64 a0, .slice A1 l1.length c1] rfl (by (try simp only [List.map_toArray, List.map_cons, List.map_nil]); first | done | rfl | (simp only [List.length_drop, List.length_take]; rfl)) ?_; (with_reducible refine (shuffle_isFunction.calls a0 _ _ l1 false _ ?side1 ?side2 A5.out).mono ?_); (case side1 => repeat (first | exact (Kd.C_below HR1.out HB.out) | (with_reducible refine Kd.C_alloc ?_ _) | (with_reducible refine Kd.C_drewN ?_ _) | (with_reducible refine Kd.C_drew ?_))); (case side2 => exact HC1.out); rintro e w10 ⟨rfl, hb⟩; refine ⟨_, rfl, ?_⟩; have n0_ := Aside0.mk (below_step (by repeat (first | (with_reducible first | exact HB.out | apply below_alloc | apply pw_below_drewN | apply below_drew1) | exact HB.out)) hb); clear HB; have HB := n0_; clear n0_; (try clear hb); (try clear hb2); (try clear hk); (try clear hi)))
   go_meet
   case rel => exact ⟨_, (true), (by first | rfl | (simp; done) | (simp [*]; done)), H', ⟨by first | omega | exact Nat.le_refl _⟩, ⟨by repeat (first | (with_reducible first | exact HB.out | apply below_alloc | apply pw_below_drewN | apply below_drew1) | exact HB.out)⟩⟩
 case rest =>
  as_aux_lemma =>
  clear HC4
  try clear c1
  try clear c2
  try clear p2
  try clear c5
  try clear c6
  obtain ⟨kq, x20_3, rfl, HA, HJ3, HB⟩ := hcut
  cases kq with
  | zero => exact absurd HA.out (by simp [shuffle_After.j0])
  | succ kj3 =>
   have H := HA.out
   clear HA
   simp only [shuffle_After.j0] at H
   by_cases c11 : x20_3 = true
   ·
    subst c11
    have H1 : (some (([] : List Int), 2)) = some (r1, r2) := by rw [if_pos rfl] at H; exact H
    clear H
    have H := H1
    clear H1
    simp only [Option.some.injEq, Prod.mk.injEq] at H
    obtain ⟨rfl, rfl⟩ := H
    go_wp2
    go_ret2
    exact ⟨_, by first | rfl | (simp [errW_none, errW_some] <;> rfl) | (simp [*, errW_none, errW_some] <;> rfl), by first | exact Kd.R_nil _ _ _ _ _ | exact Kd.N_nil _ _ _ _ _ | exact Kd.V_nil _ _ _ _ _ | exact Kd.Q_nil _ _ _ _ _ | exact Kd.S_nil _ _ _ _ _, by repeat (first | (with_reducible first | exact HB.out | apply below_alloc | apply pw_below_drewN | apply below_drew1) | exact HB.out)⟩
   ·
    replace c11 := Bool.eq_false_iff.mpr c11
    subst c11
    have H1 : (shuffle_After.l0 kj3 l2 ([] : List Int) l1 (l1.length : Int) 0) = some (r1, r2) := by rw [if_neg (show ¬ (false = true) by decide)] at H; exact H
    clear H
    have H := H1
    clear H1
    have H' := Aside0.mk H
    clear H
    go_wp2
    go_loopg [8, 23] kj3 (fun kq v8 v23 w' => ∃ (x8_2 : List Int) (x23_2 : Int), v23 = .int .i64 x23_2 ∧ Aside0 (shuffle_After.l0 kq l2 x8_2 l1 (l1.length : Int) x23_2 = some (r1, r2)) ∧ Aside0 (kq ≤ kj3) ∧ Aside0 (Kd.R (Kd.int .i64) 3 w' w.heap.size (fun _ => True) v8 x8_2) ∧ Aside0 (Below w.heap.size w w'))
    case atStart => exact ⟨(([] : List Int)), (0), (by first | rfl | (simp; done) | (simp [*]; done)), H', ⟨Nat.le_refl _⟩, ⟨by first | exact Kd.R_nil _ _ _ _ _ | exact Kd.N_nil _ _ _ _ _ | exact Kd.V_nil _ _ _ _ _ | exact Kd.Q_nil _ _ _ _ _ | exact Kd.S_nil _ _ _ _ _⟩, ⟨by repeat (first | (with_reducible first | exact HB.out | apply below_alloc | apply pw_below_drewN | apply below_drew1) | exact HB.out)⟩⟩
    case round =>
     as_aux_lemma =>
     clear H'
     try clear c1
     try clear c2
     try clear p2
     try clear c5
     try clear c6
     try clear c11
     try clear p2
     obtain ⟨x8_2, x23_2, rfl, HA, HK2, HO_8, HB⟩ := hrel
     cases gk with
     | zero => exact absurd HA.out (by simp [shuffle_After.l0])
     | succ k2 =>
      have H := HA.out
      clear HA
      simp only [shuffle_After.l0] at H
      by_cases c12 : x23_2 < (l1.length : Int)
      ·
       rw [if_pos c12] at H
       have c12b0 : decide (x23_2 < (l1.length : Int)) = true := decide_eq_true c12
       clear c12
       by_cases c13 : 0 ≤ x23_2
       ·
        rw [if_pos c13] at H
        have c13b0 : decide (0 ≤ x23_2) = true := decide_eq_true c13
        clear c13
        by_cases c14 : x23_2 < (l1.length : Int)
        ·
         rw [if_pos c14] at H
         have c14b0 : decide (x23_2 < (l1.length : Int)) = true := decide_eq_true c14
         clear c14
         by_cases c15 : 0 ≤ (rd l1 x23_2)
         ·
          rw [if_pos c15] at H
          have c15b0 : decide (0 ≤ (rd l1 x23_2)) = true := decide_eq_true c15
          clear c15
          by_cases c16 : (rd l1 x23_2) < (l2.length : Int)
          ·
           rw [if_pos c16] at H
           have c16b0 : decide ((rd l1 x23_2) < (l2.length : Int)) = true := decide_eq_true c16
           clear c16
           by_cases c17 : x8_2.length < 17592186044416
           ·
            rw [if_pos c17] at H
            have LMc17 := Aside0.mk c17
            clear c17
            obtain ⟨y339, hy339⟩ : ∃ y_ : List Int, y_ = (x8_2 ++ [rd l2 (rd l1 x23_2)]) := ⟨_, rfl⟩
            replace H : (shuffle_After.l0 k2 l2 y339 l1 (l1.length : Int) (wrap64 (x23_2 + 1))) = some (r1, r2) := by first | (rw [hy339]; with_reducible exact H) | (have H2_ := (Option.bind_some _ _).symm.trans H; rw [hy339]; with_reducible exact H2_) | (have H2_ := (Option.bind_some _ _).symm.trans H; with_reducible exact H2_) | with_reducible exact H | (rw [hy339]; exact H) | exact H
            have Ny339 := Aside0.mk hy339
            clear hy339
            have H' := Aside0.mk H
            clear H
            have p337 : 0 ≤ (x23_2 : Int) := of_decide_eq_true (by assumption)
            have q337 : x23_2 < (l1.length : Int) := of_decide_eq_true (by assumption)
            obtain ⟨ad337, e337, hx337_0⟩ := Kd.at_int HR1.out x23_2 p337 q337
            cases e337
            replace hx337_0 := (HB.out.cell (World.block_lt_of_cell? w _ hx337_0)).trans hx337_0
            replace p337 := eq_true p337
            replace q337 := eq_true q337
            have p338 : 0 ≤ ((rd l1 x23_2) : Int) := of_decide_eq_true (by assumption)
            have q338 : (rd l1 x23_2) < (l2.length : Int) := of_decide_eq_true (by assumption)
            obtain ⟨ad338, e338, hx338_0⟩ := Kd.at_int HR2.out (rd l1 x23_2) p338 q338
            cases e338
            replace hx338_0 := (HB.out.cell (World.block_lt_of_cell? w _ hx338_0)).trans hx338_0
            replace p338 := eq_true p338
            replace q338 := eq_true q338
            go_wp2_with (first | ((with_reducible refine gate_builtin (b := .append) (xs := #[.tmp 27, .tmp 32]) rfl ?_); at_builtin; refine Kd.R_append (Kd.int .i64) (w0 := w) w.heap.size rfl (.tmp 27) (.tmp 32) 28 3 (.int .i64 0) 8 rfl Try.underlying28 info3 rfl (by decide) (by omega) u8 x8_2 (rd l2 (rd l1 x23_2)) [.int .i64 (rd l2 (rd l1 x23_2))] (fun _ => True) (fun _ => False) rfl rfl ?aP (fun _ hk => hk.elim) ?aF ?aO ?aB ?aS ?aL ?_; (case aP => exact rfl); (case aB => exact (by repeat (first | (with_reducible first | exact HB.out | apply below_alloc | apply pw_below_drewN | apply below_drew1) | exact HB.out))); (case aF => exact (fun _ _ => trivial)); (case aO => exact (by (with_reducible repeat (first | apply Kd.R_alloc | apply Kd.R_drewN | apply Kd.R_drew)); exact HO_8.out)); (case aS => exact (below_size (by repeat (first | (with_reducible first | exact HB.out | apply below_alloc | apply pw_below_drewN | apply below_drew1) | exact HB.out)))); (case aL => have := LMc17.out; omega); intro v340 w18 ho hb hg hat; rw [← Ny339.out] at ho; have n0_ := Aside0.mk (hb); have n1_ := Aside0.mk (ho); clear HB; clear HO_8; have HB := n0_; have HO341 := n1_; clear n0_ n1_; clear ho hb hg hat))
            go_roundg k2
            case measure => have := HJ3.out; have := HK2.out; omega
            case rel => exact ⟨(y339), (wrap64 (x23_2 + 1)), (by first | rfl | (simp; done) | (simp [*]; done)), H', ⟨by have := HJ3.out; have := HK2.out; omega⟩, ⟨by (with_reducible repeat (first | apply Kd.R_alloc | apply Kd.R_drewN | apply Kd.R_drew)); exact HO341.out⟩, ⟨by repeat (first | (with_reducible first | exact HB.out | apply below_alloc | apply pw_below_drewN | apply below_drew1) | exact HB.out)⟩⟩
           ·
            rw [if_neg c17] at H
            exact absurd H (by simp)
          ·
           rw [if_neg c16] at H
           exact absurd H (by simp)
         ·
          rw [if_neg c15] at H
          exact absurd H (by simp)
        ·
         rw [if_neg c14] at H
         exact absurd H (by simp)
       ·
        rw [if_neg c13] at H
        exact absurd H (by simp)
      ·
       rw [if_neg c12] at H
       have c12b0 : decide (x23_2 < (l1.length : Int)) = false := decide_eq_false c12
       clear c12
       simp only [Option.some.injEq, Prod.mk.injEq] at H
       obtain ⟨rfl, rfl⟩ := H
       go_wp2
       go_ret2
       exact ⟨_, by first | rfl | (simp [errW_none, errW_some] <;> rfl) | (simp [*, errW_none, errW_some] <;> rfl), by (with_reducible repeat (first | apply Kd.R_alloc | apply Kd.R_drewN | apply Kd.R_drew)); exact HO_8.out, by repeat (first | (with_reducible first | exact HB.out | apply below_alloc | apply pw_below_drewN | apply below_drew1) | exact HB.out)⟩

-- NOT PRINTED: function 11 (galloonlaw06_ShuffleOwn)

end Go.Proofs.Ytkjjnfbgcdanmaa.P
