-- Written by a program of this session (wip/xprint.py), over the kit's print; some sections by hand.
import Derived.Test.YtkjjnfbgcdanmaaPx0
import Derived.Test.YtkjjnfbgcdanmaaPx1
import Derived.Test.YtkjjnfbgcdanmaaPx2
import Derived.Test.YtkjjnfbgcdanmaaPx4
import Derived.Test.YtkjjnfbgcdanmaaPx5
import Derived.Test.YtkjjnfbgcdanmaaPx6
import Derived.Test.YtkjjnfbgcdanmaaPx7
import Derived.Test.YtkjjnfbgcdanmaaHandC
namespace Go.Proofs.Ytkjjnfbgcdanmaa.P
open Go.RowKit Go.Proofs.YtkjjnfbgcdanmaaW.PrintWords Go.Proofs.YtkjjnfbgcdanmaaW.PrintLast Go.Proofs.YtkjjnfbgcdanmaaW.PrintMore
attribute [local go_sem] max2_int min2_int max_two min_two max_three min_three max_four min_four   -- for this text's walks alone
set_option linter.unusedVariables false
set_option linter.unusedSimpArgs false

attribute [local go_sem high] eqA44
/-! ### galloonlaw06_ShuffleValues: function 13 -/
mutual
def galloonlaw06_ShuffleValues.j0 : Nat → Int → List Int → List Int → Int → Int → Int → Int → List Int → Int → List (S44) → List (List Int) → Int → Bool → Option (Bool)
 | 0, _, _, _, _, _, _, _, _, _, _, _, _, _ => none
 | k + 1, x0, x5, x6, x7, x8, x9, x10, x11, x12, x13, x14, x15, x58 => if x58 = true then (if (x6.length : Int) = 0 then (if x7 = 2 then (if x8 = 0 then (if x9 = 0 then (if x10 = 2 then (if (x11.length : Int) = 0 then (if x12 = 2 then (if (x13.length : Int) = 0 then (if (x14.length : Int) = 0 then (if x15 = 2 then ((galloonlaw06_awake.f k).bind fun t255 => (some t255)) else (none)) else (none)) else (none)) else (none)) else (none)) else (none)) else (none)) else (none)) else (none)) else (none)) else ((galloonref06_Values.f k x0 x5).bind fun t256 => ((galloonref06_Equal.f k t256).bind fun bt259 => ((galloonref06_Parts.f k x0).bind fun t261 => ((galloonlaw06_ints.f k x6 t256).bind fun t264 => (if t264 = true then (if x7 = 0 then (if x8 = bt259.1 then (if x9 = bt259.2 then (if x10 = 0 then ((galloonref06_Shifts.f k t256).bind fun t265 => ((galloonlaw06_ints.f k x11 t265).bind fun t268 => (if t268 = true then (if x12 = 0 then (if x15 = 0 then (if (x13.length : Int) = (t261.length : Int) then (galloonlaw06_ShuffleValues.j1 k x5 x13 x14 t261 ((x14.length : Int) != (t261.length : Int))) else (galloonlaw06_ShuffleValues.j1 k x5 x13 x14 t261 true)) else (galloonlaw06_ShuffleValues.j1 k x5 x13 x14 t261 true)) else (galloonlaw06_ShuffleValues.j1 k x5 x13 x14 t261 true)) else (galloonlaw06_ShuffleValues.j1 k x5 x13 x14 t261 true)))) else (galloonlaw06_ShuffleValues.j1 k x5 x13 x14 t261 true)) else (galloonlaw06_ShuffleValues.j1 k x5 x13 x14 t261 true)) else (galloonlaw06_ShuffleValues.j1 k x5 x13 x14 t261 true)) else (galloonlaw06_ShuffleValues.j1 k x5 x13 x14 t261 true)) else (galloonlaw06_ShuffleValues.j1 k x5 x13 x14 t261 true))))))
def galloonlaw06_ShuffleValues.j1 : Nat → List Int → List (S44) → List (List Int) → List (S44) → Bool → Option (Bool)
 | 0, _, _, _, _, _ => none
 | k + 1, x5, x13, x14, x19, x164 => if x164 = true then (none) else (galloonlaw06_ShuffleValues.l0 k x5 x13 x14 x19 0)
def galloonlaw06_ShuffleValues.l0 : Nat → List Int → List (S44) → List (List Int) → List (S44) → Int → Option (Bool)
 | 0, _, _, _, _, _ => none
 | k + 1, x5, x13, x14, x19, x20 => if x20 < (x13.length : Int) then (if 0 ≤ x20 then (if x20 < (x19.length : Int) then ((galloonref06_Power.f k ((rd_T44 x19 x20).f0) ((rd_T44 x19 x20).f1)).bind fun t272 => (if (!(((rd_T44 x13 x20).f0) == ((rd_T44 x19 x20).f0)) || (!(((rd_T44 x13 x20).f1) == ((rd_T44 x19 x20).f1)))) = true then (none) else (if x20 < (x14.length : Int) then ((galloonref06_Reduced.f k t272 x5).bind fun t276 => ((galloonref06_Values.f k t272 t276).bind fun t279 => ((galloonlaw06_ints.f k (rd_L2 x14 x20) t279).bind fun t282 => (if t282 = true then (galloonlaw06_ShuffleValues.l0 k x5 x13 x14 x19 (wrap64 (x20 + 1))) else (none))))) else (none)))) else (none)) else (none)) else ((galloonlaw06_awake.f k).bind fun t269 => (some t269))
end
def galloonlaw06_ShuffleValues.f (k : Nat) (a0 : Int) (l1 : List Int) : Option (Bool) := (galloonlaw06_list.f l1).bind fun t232 => ((shuffle_Values.f k a0 t232).bind fun bt235 => ((shuffle_Permutes.f k a0 t232).bind fun bt239 => ((shuffle_Shifts.f k a0 t232).bind fun bt242 => ((shuffle_Split.f k a0 t232).bind fun bt246 => ((galloonref06_Modulus.f a0).bind fun t253 => (if t253 = true then ((galloonref06_Polynomial.f k a0 t232).bind fun t254 => (galloonlaw06_ShuffleValues.j0 k a0 t232 bt235.1 bt235.2 bt239.1 bt239.2.1 bt239.2.2 bt242.1 bt242.2 bt246.1 bt246.2.1 bt246.2.2 (!t254))) else (galloonlaw06_ShuffleValues.j0 k a0 t232 bt235.1 bt235.2 bt239.1 bt239.2.1 bt239.2.2 bt242.1 bt242.2 bt246.1 bt246.2.1 bt246.2.2 true)))))))
theorem galloonlaw06_ShuffleValues.mono_l : ∀ k, (∀ y0 y1 y2 y3 y4 y5 y6 y7 y8 y9 y10 y11 y12, LeO (galloonlaw06_ShuffleValues.j0 k y0 y1 y2 y3 y4 y5 y6 y7 y8 y9 y10 y11 y12) (galloonlaw06_ShuffleValues.j0 (k + 1) y0 y1 y2 y3 y4 y5 y6 y7 y8 y9 y10 y11 y12)) ∧ (∀ y0 y1 y2 y3 y4, LeO (galloonlaw06_ShuffleValues.j1 k y0 y1 y2 y3 y4) (galloonlaw06_ShuffleValues.j1 (k + 1) y0 y1 y2 y3 y4)) ∧ (∀ y0 y1 y2 y3 y4, LeO (galloonlaw06_ShuffleValues.l0 k y0 y1 y2 y3 y4) (galloonlaw06_ShuffleValues.l0 (k + 1) y0 y1 y2 y3 y4))
 | 0 => ⟨fun _ _ _ _ _ _ _ _ _ _ _ _ _ r h => by simp [galloonlaw06_ShuffleValues.j0] at h, fun _ _ _ _ _ r h => by simp [galloonlaw06_ShuffleValues.j1] at h, fun _ _ _ _ _ r h => by simp [galloonlaw06_ShuffleValues.l0] at h⟩
 | k + 1 => by
  obtain ⟨ih0, ih1, ih2⟩ := galloonlaw06_ShuffleValues.mono_l k
  refine ⟨?_, ?_, ?_⟩
  ·
   intro y0 y1 y2 y3 y4 y5 y6 y7 y8 y9 y10 y11 y12
   unfold galloonlaw06_ShuffleValues.j0
   repeat' first
   | (with_reducible exact ih0 _ _ _ _ _ _ _ _ _ _ _ _ _)
   | (with_reducible exact ih1 _ _ _ _ _)
   | (with_reducible exact ih2 _ _ _ _ _)
   | (with_reducible exact galloonlaw06_awake.mono _)
   | (with_reducible exact galloonlaw06_ints.mono _ _ _)
   | (with_reducible exact galloonref06_Equal.mono _ _)
   | (with_reducible exact galloonref06_Parts.mono _ _)
   | (with_reducible exact galloonref06_Polynomial.mono _ _ _)
   | (with_reducible exact galloonref06_Power.mono _ _ _)
   | (with_reducible exact galloonref06_Reduced.mono _ _ _)
   | (with_reducible exact galloonref06_Shifts.mono _ _)
   | (with_reducible exact galloonref06_Values.mono _ _ _)
   | (with_reducible exact shuffle_Permutes.mono _ _ _)
   | (with_reducible exact shuffle_Shifts.mono _ _ _)
   | (with_reducible exact shuffle_Split.mono _ _ _)
   | (with_reducible exact shuffle_Values.mono _ _ _)
   | (with_reducible exact LeO.refl _)
   | (with_reducible exact LeO.none _)
   | (with_reducible refine LeO.ite ?_ ?_)
   | (with_reducible refine LeO.bind ?_ (fun _ => ?_))
   | exact ih0 _ _ _ _ _ _ _ _ _ _ _ _ _
   | exact ih1 _ _ _ _ _
   | exact ih2 _ _ _ _ _
   | exact galloonlaw06_awake.mono _
   | exact galloonlaw06_ints.mono _ _ _
   | exact galloonref06_Equal.mono _ _
   | exact galloonref06_Parts.mono _ _
   | exact galloonref06_Polynomial.mono _ _ _
   | exact galloonref06_Power.mono _ _ _
   | exact galloonref06_Reduced.mono _ _ _
   | exact galloonref06_Shifts.mono _ _
   | exact galloonref06_Values.mono _ _ _
   | exact shuffle_Permutes.mono _ _ _
   | exact shuffle_Shifts.mono _ _ _
   | exact shuffle_Split.mono _ _ _
   | exact shuffle_Values.mono _ _ _
   | exact LeO.none _
   | refine LeO.ite ?_ ?_
   | refine LeO.bind ?_ (fun _ => ?_)
  ·
   intro y0 y1 y2 y3 y4
   unfold galloonlaw06_ShuffleValues.j1
   repeat' first
   | (with_reducible exact ih0 _ _ _ _ _ _ _ _ _ _ _ _ _)
   | (with_reducible exact ih1 _ _ _ _ _)
   | (with_reducible exact ih2 _ _ _ _ _)
   | (with_reducible exact galloonlaw06_awake.mono _)
   | (with_reducible exact galloonlaw06_ints.mono _ _ _)
   | (with_reducible exact galloonref06_Equal.mono _ _)
   | (with_reducible exact galloonref06_Parts.mono _ _)
   | (with_reducible exact galloonref06_Polynomial.mono _ _ _)
   | (with_reducible exact galloonref06_Power.mono _ _ _)
   | (with_reducible exact galloonref06_Reduced.mono _ _ _)
   | (with_reducible exact galloonref06_Shifts.mono _ _)
   | (with_reducible exact galloonref06_Values.mono _ _ _)
   | (with_reducible exact shuffle_Permutes.mono _ _ _)
   | (with_reducible exact shuffle_Shifts.mono _ _ _)
   | (with_reducible exact shuffle_Split.mono _ _ _)
   | (with_reducible exact shuffle_Values.mono _ _ _)
   | (with_reducible exact LeO.refl _)
   | (with_reducible exact LeO.none _)
   | (with_reducible refine LeO.ite ?_ ?_)
   | (with_reducible refine LeO.bind ?_ (fun _ => ?_))
   | exact ih0 _ _ _ _ _ _ _ _ _ _ _ _ _
   | exact ih1 _ _ _ _ _
   | exact ih2 _ _ _ _ _
   | exact galloonlaw06_awake.mono _
   | exact galloonlaw06_ints.mono _ _ _
   | exact galloonref06_Equal.mono _ _
   | exact galloonref06_Parts.mono _ _
   | exact galloonref06_Polynomial.mono _ _ _
   | exact galloonref06_Power.mono _ _ _
   | exact galloonref06_Reduced.mono _ _ _
   | exact galloonref06_Shifts.mono _ _
   | exact galloonref06_Values.mono _ _ _
   | exact shuffle_Permutes.mono _ _ _
   | exact shuffle_Shifts.mono _ _ _
   | exact shuffle_Split.mono _ _ _
   | exact shuffle_Values.mono _ _ _
   | exact LeO.none _
   | refine LeO.ite ?_ ?_
   | refine LeO.bind ?_ (fun _ => ?_)
  ·
   intro y0 y1 y2 y3 y4
   unfold galloonlaw06_ShuffleValues.l0
   repeat' first
   | (with_reducible exact ih0 _ _ _ _ _ _ _ _ _ _ _ _ _)
   | (with_reducible exact ih1 _ _ _ _ _)
   | (with_reducible exact ih2 _ _ _ _ _)
   | (with_reducible exact galloonlaw06_awake.mono _)
   | (with_reducible exact galloonlaw06_ints.mono _ _ _)
   | (with_reducible exact galloonref06_Equal.mono _ _)
   | (with_reducible exact galloonref06_Parts.mono _ _)
   | (with_reducible exact galloonref06_Polynomial.mono _ _ _)
   | (with_reducible exact galloonref06_Power.mono _ _ _)
   | (with_reducible exact galloonref06_Reduced.mono _ _ _)
   | (with_reducible exact galloonref06_Shifts.mono _ _)
   | (with_reducible exact galloonref06_Values.mono _ _ _)
   | (with_reducible exact shuffle_Permutes.mono _ _ _)
   | (with_reducible exact shuffle_Shifts.mono _ _ _)
   | (with_reducible exact shuffle_Split.mono _ _ _)
   | (with_reducible exact shuffle_Values.mono _ _ _)
   | (with_reducible exact LeO.refl _)
   | (with_reducible exact LeO.none _)
   | (with_reducible refine LeO.ite ?_ ?_)
   | (with_reducible refine LeO.bind ?_ (fun _ => ?_))
   | exact ih0 _ _ _ _ _ _ _ _ _ _ _ _ _
   | exact ih1 _ _ _ _ _
   | exact ih2 _ _ _ _ _
   | exact galloonlaw06_awake.mono _
   | exact galloonlaw06_ints.mono _ _ _
   | exact galloonref06_Equal.mono _ _
   | exact galloonref06_Parts.mono _ _
   | exact galloonref06_Polynomial.mono _ _ _
   | exact galloonref06_Power.mono _ _ _
   | exact galloonref06_Reduced.mono _ _ _
   | exact galloonref06_Shifts.mono _ _
   | exact galloonref06_Values.mono _ _ _
   | exact shuffle_Permutes.mono _ _ _
   | exact shuffle_Shifts.mono _ _ _
   | exact shuffle_Split.mono _ _ _
   | exact shuffle_Values.mono _ _ _
   | exact LeO.none _
   | refine LeO.ite ?_ ?_
   | refine LeO.bind ?_ (fun _ => ?_)
theorem galloonlaw06_ShuffleValues.mono : ∀ a0 a1 k, LeO (galloonlaw06_ShuffleValues.f k a0 a1) (galloonlaw06_ShuffleValues.f (k + 1) a0 a1) := by
 intro a0 a1 k
 obtain ⟨ih0, ih1, ih2⟩ := galloonlaw06_ShuffleValues.mono_l k
 unfold galloonlaw06_ShuffleValues.f
 repeat' first
   | (with_reducible exact ih0 _ _ _ _ _ _ _ _ _ _ _ _ _)
   | (with_reducible exact ih1 _ _ _ _ _)
   | (with_reducible exact ih2 _ _ _ _ _)
   | (with_reducible exact galloonlaw06_awake.mono _)
   | (with_reducible exact galloonlaw06_ints.mono _ _ _)
   | (with_reducible exact galloonref06_Equal.mono _ _)
   | (with_reducible exact galloonref06_Parts.mono _ _)
   | (with_reducible exact galloonref06_Polynomial.mono _ _ _)
   | (with_reducible exact galloonref06_Power.mono _ _ _)
   | (with_reducible exact galloonref06_Reduced.mono _ _ _)
   | (with_reducible exact galloonref06_Shifts.mono _ _)
   | (with_reducible exact galloonref06_Values.mono _ _ _)
   | (with_reducible exact shuffle_Permutes.mono _ _ _)
   | (with_reducible exact shuffle_Shifts.mono _ _ _)
   | (with_reducible exact shuffle_Split.mono _ _ _)
   | (with_reducible exact shuffle_Values.mono _ _ _)
   | (with_reducible exact LeO.refl _)
   | (with_reducible exact LeO.none _)
   | (with_reducible refine LeO.ite ?_ ?_)
   | (with_reducible refine LeO.bind ?_ (fun _ => ?_))
   | exact ih0 _ _ _ _ _ _ _ _ _ _ _ _ _
   | exact ih1 _ _ _ _ _
   | exact ih2 _ _ _ _ _
   | exact galloonlaw06_awake.mono _
   | exact galloonlaw06_ints.mono _ _ _
   | exact galloonref06_Equal.mono _ _
   | exact galloonref06_Parts.mono _ _
   | exact galloonref06_Polynomial.mono _ _ _
   | exact galloonref06_Power.mono _ _ _
   | exact galloonref06_Reduced.mono _ _ _
   | exact galloonref06_Shifts.mono _ _
   | exact galloonref06_Values.mono _ _ _
   | exact shuffle_Permutes.mono _ _ _
   | exact shuffle_Shifts.mono _ _ _
   | exact shuffle_Split.mono _ _ _
   | exact shuffle_Values.mono _ _ _
   | exact LeO.none _
   | refine LeO.ite ?_ ?_
   | refine LeO.bind ?_ (fun _ => ?_)
def galloonlaw06_ShuffleValues.T16 : Bool × List (List Nat × List Nat) := (true, [([], []), ([], []), ([0, 1], [0, 1]), ([2], [2]), ([3], [3]), ([], []), ([], []), ([5, 6], [5, 6]), ([7], [7]), ([8], [8]), ([4, 9], [4, 9]), ([10, 10, 0, 1, 2, 3, 4, 5, 6, 7, 8, 9, 10], [10])])
def galloonlaw06_ShuffleValues.B16 : List Nat := [0, 0, 3, 7, 15, 0, 0, 96, 224, 480, 1023, 2047]
theorem galloonlaw06_ShuffleValues.tab16 : rtab .any (opsOf Try.f13 16) = galloonlaw06_ShuffleValues.T16 := by kernel_rfl
theorem galloonlaw06_ShuffleValues.bits16 : waitsOk galloonlaw06_ShuffleValues.T16.2 galloonlaw06_ShuffleValues.B16 = true := by kernel_rfl
def galloonlaw06_ShuffleValues.T17 : Bool × List (List Nat × List Nat) := (true, [([], []), ([], []), ([0, 1], [0, 1]), ([2], [2]), ([], []), ([], []), ([4, 5], [4, 5]), ([6], [6]), ([3, 7], [3, 7]), ([8], [8]), ([9], [9]), ([9], [9]), ([10, 11, 9], [9, 10, 11]), ([12, 9], [9, 12]), ([9], [9]), ([9], [9]), ([9], [9]), ([15, 16, 9, 9], [9, 15, 16]), ([14, 17, 17, 9], [9, 14, 17]), ([13, 18, 18, 9], [9, 13, 18]), ([19, 9], [9, 19]), ([9, 20], [9, 20])])
def galloonlaw06_ShuffleValues.B17 : List Nat := [0, 0, 3, 7, 0, 0, 48, 112, 255, 511, 1023, 1023, 4095, 8191, 1023, 1023, 1023, 99327, 246783, 524287, 1048575, 2097151]
theorem galloonlaw06_ShuffleValues.tab17 : rtab .any (opsOf Try.f13 17) = galloonlaw06_ShuffleValues.T17 := by kernel_rfl
theorem galloonlaw06_ShuffleValues.bits17 : waitsOk galloonlaw06_ShuffleValues.T17.2 galloonlaw06_ShuffleValues.B17 = true := by kernel_rfl
set_option maxHeartbeats 8000000 in
set_option maxRecDepth 100000 in
theorem galloonlaw06_ShuffleValues.calls (k : Nat) (a0 : Int) (A1 : Option Addr) (c1 : Nat) (l1 : List Int) (r : Bool) (w : World) (hr1 : Kd.C (Kd.int .i64) w A1 l1.length l1) (hc1 : l1.length ≤ c1) (h : galloonlaw06_ShuffleValues.f k a0 l1 = some r) :
  Calls Try.prog 13 #[.int .i64 a0, .slice A1 l1.length c1] w fun e w' => e = .returned (.bool r) ∧ Below w.heap.size w w' := by
 have hu44 := Try.underlying44
 have HR1 := Aside0.mk hr1
 have HC1 := Aside0.mk hc1
 clear hr1 hc1
 have HB := Aside0.mk (Below.refl w.heap.size w)
 have H : ((galloonlaw06_list.f l1).bind fun t232 => ((shuffle_Values.f k a0 t232).bind fun bt235 => ((shuffle_Permutes.f k a0 t232).bind fun bt239 => ((shuffle_Shifts.f k a0 t232).bind fun bt242 => ((shuffle_Split.f k a0 t232).bind fun bt246 => ((galloonref06_Modulus.f a0).bind fun t253 => (if t253 = true then ((galloonref06_Polynomial.f k a0 t232).bind fun t254 => (galloonlaw06_ShuffleValues.j0 k a0 t232 bt235.1 bt235.2 bt239.1 bt239.2.1 bt239.2.2 bt242.1 bt242.2 bt246.1 bt246.2.1 bt246.2.2 (!t254))) else (galloonlaw06_ShuffleValues.j0 k a0 t232 bt235.1 bt235.2 bt239.1 bt239.2.1 bt239.2.2 bt242.1 bt242.2 bt246.1 bt246.2.1 bt246.2.2 true)))))))) = some r := h
 clear h
 replace H := Option.bind_eq_some_iff.mp H
 obtain ⟨t232, A30, H⟩ := H
 replace H : ((shuffle_Values.f k a0 t232).bind fun bt235 => ((shuffle_Permutes.f k a0 t232).bind fun bt239 => ((shuffle_Shifts.f k a0 t232).bind fun bt242 => ((shuffle_Split.f k a0 t232).bind fun bt246 => ((galloonref06_Modulus.f a0).bind fun t253 => (if t253 = true then ((galloonref06_Polynomial.f k a0 t232).bind fun t254 => (galloonlaw06_ShuffleValues.j0 k a0 t232 bt235.1 bt235.2 bt239.1 bt239.2.1 bt239.2.2 bt242.1 bt242.2 bt246.1 bt246.2.1 bt246.2.2 (!t254))) else (galloonlaw06_ShuffleValues.j0 k a0 t232 bt235.1 bt235.2 bt239.1 bt239.2.1 bt239.2.2 bt242.1 bt242.2 bt246.1 bt246.2.1 bt246.2.2 true))))))) = some r := H
 have A3 := Aside0.mk A30
 clear A30
 replace H := Option.bind_eq_some_iff.mp H
 obtain ⟨⟨t235, t236⟩, A40, H⟩ := H
 replace H : ((shuffle_Permutes.f k a0 t232).bind fun bt239 => ((shuffle_Shifts.f k a0 t232).bind fun bt242 => ((shuffle_Split.f k a0 t232).bind fun bt246 => ((galloonref06_Modulus.f a0).bind fun t253 => (if t253 = true then ((galloonref06_Polynomial.f k a0 t232).bind fun t254 => (galloonlaw06_ShuffleValues.j0 k a0 t232 t235 t236 bt239.1 bt239.2.1 bt239.2.2 bt242.1 bt242.2 bt246.1 bt246.2.1 bt246.2.2 (!t254))) else (galloonlaw06_ShuffleValues.j0 k a0 t232 t235 t236 bt239.1 bt239.2.1 bt239.2.2 bt242.1 bt242.2 bt246.1 bt246.2.1 bt246.2.2 true)))))) = some r := H
 have A4 := Aside0.mk A40
 clear A40
 replace H := Option.bind_eq_some_iff.mp H
 obtain ⟨⟨t239, t240, t241⟩, A50, H⟩ := H
 replace H : ((shuffle_Shifts.f k a0 t232).bind fun bt242 => ((shuffle_Split.f k a0 t232).bind fun bt246 => ((galloonref06_Modulus.f a0).bind fun t253 => (if t253 = true then ((galloonref06_Polynomial.f k a0 t232).bind fun t254 => (galloonlaw06_ShuffleValues.j0 k a0 t232 t235 t236 t239 t240 t241 bt242.1 bt242.2 bt246.1 bt246.2.1 bt246.2.2 (!t254))) else (galloonlaw06_ShuffleValues.j0 k a0 t232 t235 t236 t239 t240 t241 bt242.1 bt242.2 bt246.1 bt246.2.1 bt246.2.2 true))))) = some r := H
 have A5 := Aside0.mk A50
 clear A50
 replace H := Option.bind_eq_some_iff.mp H
 obtain ⟨⟨t242, t243⟩, A60, H⟩ := H
 replace H : ((shuffle_Split.f k a0 t232).bind fun bt246 => ((galloonref06_Modulus.f a0).bind fun t253 => (if t253 = true then ((galloonref06_Polynomial.f k a0 t232).bind fun t254 => (galloonlaw06_ShuffleValues.j0 k a0 t232 t235 t236 t239 t240 t241 t242 t243 bt246.1 bt246.2.1 bt246.2.2 (!t254))) else (galloonlaw06_ShuffleValues.j0 k a0 t232 t235 t236 t239 t240 t241 t242 t243 bt246.1 bt246.2.1 bt246.2.2 true)))) = some r := H
 have A6 := Aside0.mk A60
 clear A60
 replace H := Option.bind_eq_some_iff.mp H
 obtain ⟨⟨t246, t247, t248⟩, A70, H⟩ := H
 replace H : ((galloonref06_Modulus.f a0).bind fun t253 => (if t253 = true then ((galloonref06_Polynomial.f k a0 t232).bind fun t254 => (galloonlaw06_ShuffleValues.j0 k a0 t232 t235 t236 t239 t240 t241 t242 t243 t246 t247 t248 (!t254))) else (galloonlaw06_ShuffleValues.j0 k a0 t232 t235 t236 t239 t240 t241 t242 t243 t246 t247 t248 true))) = some r := H
 have A7 := Aside0.mk A70
 clear A70
 have HC8 := Aside0.mk H
 clear H
 go_enter Try.func13, Try.ntmps13
 go_upto_region 6 with (first | ((with_reducible refine gate_callee (f := 27) rfl ?_); refine goesL_ (some 23) rfl rfl Try.func27 (by kernel_rfl) rfl #[.slice A1 l1.length c1] rfl (by (try simp only [List.map_toArray, List.map_cons, List.map_nil]); first | done | rfl | (simp only [List.length_drop, List.length_take]; rfl)) ?_; (with_reducible refine (galloonlaw06_list.calls _ _ l1 t232 _ ?side1 ?side2 A3.out).mono ?_); (case side1 => repeat (first | exact HR1.out | (with_reducible refine Kd.C_alloc ?_ _) | (with_reducible refine Kd.C_drewN ?_ _) | (with_reducible refine Kd.C_drew ?_))); (case side2 => exact HC1.out); rintro e w9 ⟨v233, rfl, ho0, hb⟩; refine ⟨_, rfl, ?_⟩; have n0_ := Aside0.mk (Kd.R_lower ho0 (below_size (by repeat (first | (with_reducible first | exact HB.out | apply below_alloc | apply pw_below_drewN | apply below_drew1) | exact HB.out)))); have n1_ := Aside0.mk (below_step (by repeat (first | (with_reducible first | exact HB.out | apply below_alloc | apply pw_below_drewN | apply below_drew1) | exact HB.out)) hb); clear HB; have HO234 := n0_; have HB := n1_; clear n0_ n1_; (try clear hb); (try clear hb2); (try clear hk); (try clear hi); (try clear ho0); obtain ⟨Ao10, co10, eo10⟩ := Kd.R_slice HO234.out; subst eo10) | ((with_reducible refine gate_callee (f := 20) rfl ?_); refine goesL_ (some 27) rfl rfl Try.func20 (by kernel_rfl) rfl #[.int .i64 a0, .slice Ao10 t232.length co10] rfl (by (try simp only [List.map_toArray, List.map_cons, List.map_nil]); first | done | rfl | (simp only [List.length_drop, List.length_take]; rfl)) ?_; (with_reducible refine (shuffle_Values.calls k a0 _ _ t232 t235 t236 _ ?side1 ?side2 A4.out).mono ?_); (case side1 => repeat (first | exact (Kd.R_reads' HO234.out).2.2 | (with_reducible refine Kd.C_alloc ?_ _) | (with_reducible refine Kd.C_drewN ?_ _) | (with_reducible refine Kd.C_drew ?_))); (case side2 => exact (Kd.R_reads' HO234.out).2.1); rintro e w11 ⟨v237, rfl, ho0, hb⟩; refine ⟨_, rfl, ?_⟩; have n0_ := Aside0.mk (Kd.R_elder' (by (with_reducible repeat (first | apply Kd.R_alloc | apply Kd.R_drewN | apply Kd.R_drew)); exact HO234.out) (Kd.R_base ho0) hb); have n1_ := Aside0.mk (Kd.R_lower (Kd.R_new' ho0 (Kd.R_lt (by (with_reducible repeat (first | apply Kd.R_alloc | apply Kd.R_drewN | apply Kd.R_drew)); exact HO234.out))) (below_size (by repeat (first | (with_reducible first | exact HB.out | apply below_alloc | apply pw_below_drewN | apply below_drew1) | exact HB.out)))); have n2_ := Aside0.mk (below_step (by repeat (first | (with_reducible first | exact HB.out | apply below_alloc | apply pw_below_drewN | apply below_drew1) | exact HB.out)) hb); clear HO234; clear HB; have HO234 := n0_; have HO238 := n1_; have HB := n2_; clear n0_ n1_ n2_; (try clear hb); (try clear hb2); (try clear hk); (try clear hi); (try clear ho0)) | ((with_reducible refine gate_callee (f := 41) rfl ?_); refine goesL_ (some 33) rfl rfl Try.func41 (by kernel_rfl) rfl #[.int .i64 a0, .slice Ao10 t232.length co10] rfl (by (try simp only [List.map_toArray, List.map_cons, List.map_nil]); first | done | rfl | (simp only [List.length_drop, List.length_take]; rfl)) ?_; (with_reducible refine (shuffle_Permutes.calls k a0 _ _ t232 t239 t240 t241 _ ?side1 ?side2 A5.out).mono ?_); (case side1 => repeat (first | exact (Kd.R_reads' HO234.out).2.2 | (with_reducible refine Kd.C_alloc ?_ _) | (with_reducible refine Kd.C_drewN ?_ _) | (with_reducible refine Kd.C_drew ?_))); (case side2 => exact (Kd.R_reads' HO234.out).2.1); rintro e w12 ⟨rfl, hb⟩; refine ⟨_, rfl, ?_⟩; have n0_ := Aside0.mk (Kd.R_below (by (with_reducible repeat (first | apply Kd.R_alloc | apply Kd.R_drewN | apply Kd.R_drew)); exact HO234.out) hb); have n1_ := Aside0.mk (Kd.R_below (by (with_reducible repeat (first | apply Kd.R_alloc | apply Kd.R_drewN | apply Kd.R_drew)); exact HO238.out) hb); have n2_ := Aside0.mk (below_step (by repeat (first | (with_reducible first | exact HB.out | apply below_alloc | apply pw_below_drewN | apply below_drew1) | exact HB.out)) hb); clear HO234; clear HO238; clear HB; have HO234 := n0_; have HO238 := n1_; have HB := n2_; clear n0_ n1_ n2_; (try clear hb); (try clear hb2); (try clear hk); (try clear hi)) | ((with_reducible refine gate_callee (f := 35) rfl ?_); refine goesL_ (some 40) rfl rfl Try.func35 (by kernel_rfl) rfl #[.int .i64 a0, .slice Ao10 t232.length co10] rfl (by (try simp only [List.map_toArray, List.map_cons, List.map_nil]); first | done | rfl | (simp only [List.length_drop, List.length_take]; rfl)) ?_; (with_reducible refine (shuffle_Shifts.calls k a0 _ _ t232 t242 t243 _ ?side1 ?side2 A6.out).mono ?_); (case side1 => repeat (first | exact (Kd.R_reads' HO234.out).2.2 | (with_reducible refine Kd.C_alloc ?_ _) | (with_reducible refine Kd.C_drewN ?_ _) | (with_reducible refine Kd.C_drew ?_))); (case side2 => exact (Kd.R_reads' HO234.out).2.1); rintro e w13 ⟨v244, rfl, ho0, hb⟩; refine ⟨_, rfl, ?_⟩; have n0_ := Aside0.mk (Kd.R_elder' (by (with_reducible repeat (first | apply Kd.R_alloc | apply Kd.R_drewN | apply Kd.R_drew)); exact HO234.out) (Kd.R_base ho0) hb); have n1_ := Aside0.mk (Kd.R_elder' (by (with_reducible repeat (first | apply Kd.R_alloc | apply Kd.R_drewN | apply Kd.R_drew)); exact HO238.out) (Kd.R_base ho0) hb); have n2_ := Aside0.mk (Kd.R_lower (Kd.R_new' (Kd.R_new' ho0 (Kd.R_lt (by (with_reducible repeat (first | apply Kd.R_alloc | apply Kd.R_drewN | apply Kd.R_drew)); exact HO234.out))) (Kd.R_lt (by (with_reducible repeat (first | apply Kd.R_alloc | apply Kd.R_drewN | apply Kd.R_drew)); exact HO238.out))) (below_size (by repeat (first | (with_reducible first | exact HB.out | apply below_alloc | apply pw_below_drewN | apply below_drew1) | exact HB.out)))); have n3_ := Aside0.mk (below_step (by repeat (first | (with_reducible first | exact HB.out | apply below_alloc | apply pw_below_drewN | apply below_drew1) | exact HB.out)) hb); clear HO234; clear HO238; clear HB; have HO234 := n0_; have HO238 := n1_; have HO245 := n2_; have HB := n3_; clear n0_ n1_ n2_ n3_; (try clear hb); (try clear hb2); (try clear hk); (try clear hi); (try clear ho0)) | ((with_reducible refine gate_callee (f := 42) rfl ?_); refine goesL_ (some 46) rfl rfl Try.func42 (by kernel_rfl) rfl #[.int .i64 a0, .slice Ao10 t232.length co10] rfl (by (try simp only [List.map_toArray, List.map_cons, List.map_nil]); first | done | rfl | (simp only [List.length_drop, List.length_take]; rfl)) ?_; (with_reducible refine (shuffle_Split.calls k a0 _ _ t232 t246 t247 t248 _ ?side1 ?side2 A7.out).mono ?_); (case side1 => repeat (first | exact (Kd.R_reads' HO234.out).2.2 | (with_reducible refine Kd.C_alloc ?_ _) | (with_reducible refine Kd.C_drewN ?_ _) | (with_reducible refine Kd.C_drew ?_))); (case side2 => exact (Kd.R_reads' HO234.out).2.1); rintro e w14 ⟨v249, v251, rfl, ho0, ho1, hb⟩; refine ⟨_, rfl, ?_⟩; have n0_ := Aside0.mk (Kd.R_below (by (with_reducible repeat (first | apply Kd.R_alloc | apply Kd.R_drewN | apply Kd.R_drew)); exact HO234.out) hb); have n1_ := Aside0.mk (Kd.R_below (by (with_reducible repeat (first | apply Kd.R_alloc | apply Kd.R_drewN | apply Kd.R_drew)); exact HO238.out) hb); have n2_ := Aside0.mk (Kd.R_below (by (with_reducible repeat (first | apply Kd.R_alloc | apply Kd.R_drewN | apply Kd.R_drew)); exact HO245.out) hb); have n3_ := Aside0.mk (Kd.R_lower ho0 (below_size (by repeat (first | (with_reducible first | exact HB.out | apply below_alloc | apply pw_below_drewN | apply below_drew1) | exact HB.out)))); have n4_ := Aside0.mk (Kd.S_lower (Kd.S_new' (Kd.S_new' (Kd.S_new' ho1 (Kd.R_lt (by (with_reducible repeat (first | apply Kd.R_alloc | apply Kd.R_drewN | apply Kd.R_drew)); exact HO234.out))) (Kd.R_lt (by (with_reducible repeat (first | apply Kd.R_alloc | apply Kd.R_drewN | apply Kd.R_drew)); exact HO238.out))) (Kd.R_lt (by (with_reducible repeat (first | apply Kd.R_alloc | apply Kd.R_drewN | apply Kd.R_drew)); exact HO245.out))) (below_size (by repeat (first | (with_reducible first | exact HB.out | apply below_alloc | apply pw_below_drewN | apply below_drew1) | exact HB.out)))); have n5_ := Aside0.mk (below_step (by repeat (first | (with_reducible first | exact HB.out | apply below_alloc | apply pw_below_drewN | apply below_drew1) | exact HB.out)) hb); clear HO234; clear HO238; clear HO245; clear HB; have HO234 := n0_; have HO238 := n1_; have HO245 := n2_; have HO250 := n3_; have HO252 := n4_; have HB := n5_; clear n0_ n1_ n2_ n3_ n4_ n5_; (try clear hb); (try clear hb2); (try clear hk); (try clear hi); (try clear ho0); (try clear ho1)))
 (try simp only [Act.put, List.setIfInBounds_toArray, List.set_cons_zero, List.set_cons_succ])
 go_cut [58] (fun v58 wc => ∃ (kq : Nat) (x58_7 : Bool), v58 = .bool x58_7 ∧ Aside0 (galloonlaw06_ShuffleValues.j0 kq a0 t232 t235 t236 t239 t240 t241 t242 t243 t246 t247 t248 x58_7 = some r) ∧ Aside0 (kq ≤ k) ∧ Aside0 (Kd.R (Kd.int .i64) 3 wc w.heap.size (fun k_ => some k_ ≠ (v237 : Value).ownBlock ∧ some k_ ≠ (v244 : Value).ownBlock) (.slice Ao10 t232.length co10) t232) ∧ Aside0 (Kd.R (Kd.int .i64) 3 wc w.heap.size (fun k_ => some k_ ≠ ((.slice Ao10 t232.length co10) : Value).ownBlock ∧ some k_ ≠ (v244 : Value).ownBlock) v237 t235) ∧ Aside0 (Kd.R (Kd.int .i64) 3 wc w.heap.size (fun k_ => some k_ ≠ ((.slice Ao10 t232.length co10) : Value).ownBlock ∧ some k_ ≠ (v237 : Value).ownBlock) v244 t242) ∧ Aside0 (Kd.R k44 44 wc w.heap.size (fun _ => True) v249 t246) ∧ Aside0 (Kd.S (Kd.slice 3 (Kd.int .i64)) 28 wc w.heap.size (fun k_ => some k_ ≠ ((.slice Ao10 t232.length co10) : Value).ownBlock ∧ some k_ ≠ (v237 : Value).ownBlock ∧ some k_ ≠ (v244 : Value).ownBlock) v251 t247) ∧ Aside0 (Below w.heap.size w wc))
 case first =>
  as_aux_lemma =>
  have H := HC8.out
  clear HC8
  replace H := Option.bind_eq_some_iff.mp H
  obtain ⟨t253, A150, H⟩ := H
  replace H : (if t253 = true then ((galloonref06_Polynomial.f k a0 t232).bind fun t254 => (galloonlaw06_ShuffleValues.j0 k a0 t232 t235 t236 t239 t240 t241 t242 t243 t246 t247 t248 (!t254))) else (galloonlaw06_ShuffleValues.j0 k a0 t232 t235 t236 t239 t240 t241 t242 t243 t246 t247 t248 true)) = some r := H
  have A15 := Aside0.mk A150
  clear A150
  by_cases c16 : t253 = true
  ·
   subst c16
   have H1 : ((galloonref06_Polynomial.f k a0 t232).bind fun t254 => (galloonlaw06_ShuffleValues.j0 k a0 t232 t235 t236 t239 t240 t241 t242 t243 t246 t247 t248 (!t254))) = some r := by rw [if_pos rfl] at H; exact H
   clear H
   have H := H1
   clear H1
   replace H := Option.bind_eq_some_iff.mp H
   obtain ⟨t254, A170, H⟩ := H
   replace H : (galloonlaw06_ShuffleValues.j0 k a0 t232 t235 t236 t239 t240 t241 t242 t243 t246 t247 t248 (!t254)) = some r := H
   have A17 := Aside0.mk A170
   clear A170
   have H' := Aside0.mk H
   clear H
   go_wp2_with (first | ((with_reducible refine gate_callee (f := 29) rfl ?_); refine goesL_ (some 51) rfl rfl Try.func29 (by kernel_rfl) rfl #[.int .i64 a0] rfl (by (try simp only [List.map_toArray, List.map_cons, List.map_nil]); first | done | rfl | (simp only [List.length_drop, List.length_take]; rfl)) ?_; (with_reducible refine (galloonref06_Modulus.calls a0 true _ A15.out).mono ?_); rintro e w' ⟨rfl, ⟨nd, rfl⟩⟩; refine ⟨_, rfl, ?_⟩) | (go_at_call 38; (with_reducible refine (galloonref06_Polynomial.calls k a0 _ _ t232 t254 _ ?side1 ?side2 A17.out).mono ?_); (case side1 => repeat (first | exact (Kd.R_reads' HO234.out).2.2 | (with_reducible refine Kd.C_alloc ?_ _) | (with_reducible refine Kd.C_drewN ?_ _) | (with_reducible refine Kd.C_drew ?_))); (case side2 => exact (Kd.R_reads' HO234.out).2.1); rintro e w' ⟨rfl, ⟨nd, rfl⟩⟩))
   go_meet
   case rel => exact ⟨_, (!t254), (by first | rfl | (simp; done) | (simp [*]; done)), H', ⟨by first | omega | exact Nat.le_refl _⟩, ⟨by (with_reducible repeat (first | apply Kd.R_alloc | apply Kd.R_drewN | apply Kd.R_drew)); exact Kd.R_mono HO234.out (fun _ hk => ⟨hk.1.2, hk.2⟩)⟩, ⟨by (with_reducible repeat (first | apply Kd.R_alloc | apply Kd.R_drewN | apply Kd.R_drew)); exact Kd.R_mono HO238.out (fun _ hk => ⟨hk.1.2, hk.2⟩)⟩, ⟨by (with_reducible repeat (first | apply Kd.R_alloc | apply Kd.R_drewN | apply Kd.R_drew)); exact Kd.R_mono HO245.out (fun _ hk => ⟨hk.1.2, hk.2⟩)⟩, ⟨by (with_reducible repeat (first | apply Kd.R_alloc | apply Kd.R_drewN | apply Kd.R_drew)); exact HO250.out⟩, ⟨by (with_reducible repeat (first | apply Kd.S_alloc | apply Kd.S_drewN | apply Kd.S_drew)); exact Kd.S_mono HO252.out (fun _ hk => ⟨hk.1.1.2, ⟨hk.1.2, hk.2⟩⟩)⟩, ⟨by repeat (first | (with_reducible first | exact HB.out | apply below_alloc | apply pw_below_drewN | apply below_drew1) | exact HB.out)⟩⟩
  ·
   replace c16 := Bool.eq_false_iff.mpr c16
   subst c16
   have H1 : (galloonlaw06_ShuffleValues.j0 k a0 t232 t235 t236 t239 t240 t241 t242 t243 t246 t247 t248 true) = some r := by rw [if_neg (show ¬ (false = true) by decide)] at H; exact H
   clear H
   have H := H1
   clear H1
   have H' := Aside0.mk H
   clear H
   go_wp2_with (first | ((with_reducible refine gate_callee (f := 29) rfl ?_); refine goesL_ (some 51) rfl rfl Try.func29 (by kernel_rfl) rfl #[.int .i64 a0] rfl (by (try simp only [List.map_toArray, List.map_cons, List.map_nil]); first | done | rfl | (simp only [List.length_drop, List.length_take]; rfl)) ?_; (with_reducible refine (galloonref06_Modulus.calls a0 false _ A15.out).mono ?_); rintro e w' ⟨rfl, ⟨nd, rfl⟩⟩; refine ⟨_, rfl, ?_⟩))
   go_meet
   case rel => exact ⟨_, (true), (by first | rfl | (simp; done) | (simp [*]; done)), H', ⟨by first | omega | exact Nat.le_refl _⟩, ⟨by (with_reducible repeat (first | apply Kd.R_alloc | apply Kd.R_drewN | apply Kd.R_drew)); exact Kd.R_mono HO234.out (fun _ hk => ⟨hk.1.2, hk.2⟩)⟩, ⟨by (with_reducible repeat (first | apply Kd.R_alloc | apply Kd.R_drewN | apply Kd.R_drew)); exact Kd.R_mono HO238.out (fun _ hk => ⟨hk.1.2, hk.2⟩)⟩, ⟨by (with_reducible repeat (first | apply Kd.R_alloc | apply Kd.R_drewN | apply Kd.R_drew)); exact Kd.R_mono HO245.out (fun _ hk => ⟨hk.1.2, hk.2⟩)⟩, ⟨by (with_reducible repeat (first | apply Kd.R_alloc | apply Kd.R_drewN | apply Kd.R_drew)); exact HO250.out⟩, ⟨by (with_reducible repeat (first | apply Kd.S_alloc | apply Kd.S_drewN | apply Kd.S_drew)); exact Kd.S_mono HO252.out (fun _ hk => ⟨hk.1.1.2, ⟨hk.1.2, hk.2⟩⟩)⟩, ⟨by repeat (first | (with_reducible first | exact HB.out | apply below_alloc | apply pw_below_drewN | apply below_drew1) | exact HB.out)⟩⟩
 case rest =>
  as_aux_lemma =>
  clear HC8
  try clear c1
  try clear c2
  try clear p2
  try clear c3
  try clear c4
  try clear c13
  try clear c16
  obtain ⟨kq, x58_7, rfl, HA, HJ7, HO_5, HO_6, HO_11, HO_13, HO_14, HB⟩ := hcut
  cases kq with
  | zero => exact absurd HA.out (by simp [galloonlaw06_ShuffleValues.j0])
  | succ kj7 =>
   have H := HA.out
   clear HA
   simp only [galloonlaw06_ShuffleValues.j0] at H
   by_cases c18 : x58_7 = true
   ·
    subst c18
    have H1 : (if (t235.length : Int) = 0 then (if t236 = 2 then (if t239 = 0 then (if t240 = 0 then (if t241 = 2 then (if (t242.length : Int) = 0 then (if t243 = 2 then (if (t246.length : Int) = 0 then (if (t247.length : Int) = 0 then (if t248 = 2 then ((galloonlaw06_awake.f kj7).bind fun t255 => (some t255)) else (none)) else (none)) else (none)) else (none)) else (none)) else (none)) else (none)) else (none)) else (none)) else (none)) = some r := by rw [if_pos rfl] at H; exact H
    clear H
    have H := H1
    clear H1
    by_cases c19 : (t235.length : Int) = 0
    ·
     rw [if_pos c19] at H
     have c19b0 : ((t235.length : Int) == 0) = true := beq_iff_eq.mpr c19
     have c19b1 : ((t235.length : Int) != 0) = false := bne_eq_false_iff_eq.mpr c19
     clear c19
     by_cases c20 : t236 = 2
     ·
      rw [if_pos c20] at H
      have c20b0 : (t236 == 2) = true := beq_iff_eq.mpr c20
      have c20b1 : (t236 != 2) = false := bne_eq_false_iff_eq.mpr c20
      clear c20
      by_cases c21 : t239 = 0
      ·
       rw [if_pos c21] at H
       have c21b0 : (t239 == 0) = true := beq_iff_eq.mpr c21
       have c21b1 : (t239 != 0) = false := bne_eq_false_iff_eq.mpr c21
       clear c21
       by_cases c22 : t240 = 0
       ·
        rw [if_pos c22] at H
        have c22b0 : (t240 == 0) = true := beq_iff_eq.mpr c22
        have c22b1 : (t240 != 0) = false := bne_eq_false_iff_eq.mpr c22
        clear c22
        by_cases c23 : t241 = 2
        ·
         rw [if_pos c23] at H
         have c23b0 : (t241 == 2) = true := beq_iff_eq.mpr c23
         have c23b1 : (t241 != 2) = false := bne_eq_false_iff_eq.mpr c23
         clear c23
         by_cases c24 : (t242.length : Int) = 0
         ·
          rw [if_pos c24] at H
          have c24b0 : ((t242.length : Int) == 0) = true := beq_iff_eq.mpr c24
          have c24b1 : ((t242.length : Int) != 0) = false := bne_eq_false_iff_eq.mpr c24
          clear c24
          by_cases c25 : t243 = 2
          ·
           rw [if_pos c25] at H
           have c25b0 : (t243 == 2) = true := beq_iff_eq.mpr c25
           have c25b1 : (t243 != 2) = false := bne_eq_false_iff_eq.mpr c25
           clear c25
           by_cases c26 : (t246.length : Int) = 0
           ·
            rw [if_pos c26] at H
            have c26b0 : ((t246.length : Int) == 0) = true := beq_iff_eq.mpr c26
            have c26b1 : ((t246.length : Int) != 0) = false := bne_eq_false_iff_eq.mpr c26
            clear c26
            by_cases c27 : (t247.length : Int) = 0
            ·
             rw [if_pos c27] at H
             have c27b0 : ((t247.length : Int) == 0) = true := beq_iff_eq.mpr c27
             have c27b1 : ((t247.length : Int) != 0) = false := bne_eq_false_iff_eq.mpr c27
             clear c27
             by_cases c28 : t248 = 2
             ·
              rw [if_pos c28] at H
              have c28b0 : (t248 == 2) = true := beq_iff_eq.mpr c28
              have c28b1 : (t248 != 2) = false := bne_eq_false_iff_eq.mpr c28
              clear c28
              replace H := Option.bind_eq_some_iff.mp H
              obtain ⟨t255, A290, H⟩ := H
              replace H : (some t255) = some r := H
              have A29 := Aside0.mk A290
              clear A290
              obtain rfl := Option.some.inj H
              obtain ⟨Ao30, co30, eo30⟩ := Kd.R_slice HO_6.out
              subst eo30
              obtain ⟨Ao31, co31, eo31⟩ := Kd.R_slice HO_11.out
              subst eo31
              obtain ⟨Ao32, co32, eo32⟩ := Kd.R_slice HO_13.out
              subst eo32
              obtain ⟨Ao33, co33, eo33⟩ := Kd.S_slice HO_14.out
              subst eo33
              go_wp2_with (first | (go_at_call 19; (with_reducible refine (galloonlaw06_awake.calls kj7  t255 _ A29.out).mono ?_); rintro e w34 ⟨rfl, hb⟩; have n0_ := Aside0.mk (Kd.R_below (by (with_reducible repeat (first | apply Kd.R_alloc | apply Kd.R_drewN | apply Kd.R_drew)); exact HO_5.out) hb); have n1_ := Aside0.mk (Kd.R_below (by (with_reducible repeat (first | apply Kd.R_alloc | apply Kd.R_drewN | apply Kd.R_drew)); exact HO_6.out) hb); have n2_ := Aside0.mk (Kd.R_below (by (with_reducible repeat (first | apply Kd.R_alloc | apply Kd.R_drewN | apply Kd.R_drew)); exact HO_11.out) hb); have n3_ := Aside0.mk (Kd.R_below (by (with_reducible repeat (first | apply Kd.R_alloc | apply Kd.R_drewN | apply Kd.R_drew)); exact HO_13.out) hb); have n4_ := Aside0.mk (Kd.S_below (by (with_reducible repeat (first | apply Kd.S_alloc | apply Kd.S_drewN | apply Kd.S_drew)); exact HO_14.out) hb); have n5_ := Aside0.mk (below_step (by repeat (first | (with_reducible first | exact HB.out | apply below_alloc | apply pw_below_drewN | apply below_drew1) | exact HB.out)) hb); clear HO_5; clear HO_6; clear HO_11; clear HO_13; clear HO_14; clear HB; have HO_5 := n0_; have HO_6 := n1_; have HO_11 := n2_; have HO_13 := n3_; have HO_14 := n4_; have HB := n5_; clear n0_ n1_ n2_ n3_ n4_ n5_; (try clear hb); (try clear hb2); (try clear hk); (try clear hi)))
              go_ret
              exact ⟨by first | rfl | (simp [errW_none, errW_some] <;> rfl) | (simp [*, errW_none, errW_some] <;> rfl), by repeat (first | (with_reducible first | exact HB.out | apply below_alloc | apply pw_below_drewN | apply below_drew1) | exact HB.out)⟩
             ·
              rw [if_neg c28] at H
              exact absurd H (by simp)
            ·
             rw [if_neg c27] at H
             exact absurd H (by simp)
           ·
            rw [if_neg c26] at H
            exact absurd H (by simp)
          ·
           rw [if_neg c25] at H
           exact absurd H (by simp)
         ·
          rw [if_neg c24] at H
          exact absurd H (by simp)
        ·
         rw [if_neg c23] at H
         exact absurd H (by simp)
       ·
        rw [if_neg c22] at H
        exact absurd H (by simp)
      ·
       rw [if_neg c21] at H
       exact absurd H (by simp)
     ·
      rw [if_neg c20] at H
      exact absurd H (by simp)
    ·
     rw [if_neg c19] at H
     exact absurd H (by simp)
   ·
    replace c18 := Bool.eq_false_iff.mpr c18
    subst c18
    have H1 : ((galloonref06_Values.f kj7 a0 t232).bind fun t256 => ((galloonref06_Equal.f kj7 t256).bind fun bt259 => ((galloonref06_Parts.f kj7 a0).bind fun t261 => ((galloonlaw06_ints.f kj7 t235 t256).bind fun t264 => (if t264 = true then (if t236 = 0 then (if t239 = bt259.1 then (if t240 = bt259.2 then (if t241 = 0 then ((galloonref06_Shifts.f kj7 t256).bind fun t265 => ((galloonlaw06_ints.f kj7 t242 t265).bind fun t268 => (if t268 = true then (if t243 = 0 then (if t248 = 0 then (if (t246.length : Int) = (t261.length : Int) then (galloonlaw06_ShuffleValues.j1 kj7 t232 t246 t247 t261 ((t247.length : Int) != (t261.length : Int))) else (galloonlaw06_ShuffleValues.j1 kj7 t232 t246 t247 t261 true)) else (galloonlaw06_ShuffleValues.j1 kj7 t232 t246 t247 t261 true)) else (galloonlaw06_ShuffleValues.j1 kj7 t232 t246 t247 t261 true)) else (galloonlaw06_ShuffleValues.j1 kj7 t232 t246 t247 t261 true)))) else (galloonlaw06_ShuffleValues.j1 kj7 t232 t246 t247 t261 true)) else (galloonlaw06_ShuffleValues.j1 kj7 t232 t246 t247 t261 true)) else (galloonlaw06_ShuffleValues.j1 kj7 t232 t246 t247 t261 true)) else (galloonlaw06_ShuffleValues.j1 kj7 t232 t246 t247 t261 true)) else (galloonlaw06_ShuffleValues.j1 kj7 t232 t246 t247 t261 true)))))) = some r := by rw [if_neg (show ¬ (false = true) by decide)] at H; exact H
    clear H
    have H := H1
    clear H1
    replace H := Option.bind_eq_some_iff.mp H
    obtain ⟨t256, A350, H⟩ := H
    replace H : ((galloonref06_Equal.f kj7 t256).bind fun bt259 => ((galloonref06_Parts.f kj7 a0).bind fun t261 => ((galloonlaw06_ints.f kj7 t235 t256).bind fun t264 => (if t264 = true then (if t236 = 0 then (if t239 = bt259.1 then (if t240 = bt259.2 then (if t241 = 0 then ((galloonref06_Shifts.f kj7 t256).bind fun t265 => ((galloonlaw06_ints.f kj7 t242 t265).bind fun t268 => (if t268 = true then (if t243 = 0 then (if t248 = 0 then (if (t246.length : Int) = (t261.length : Int) then (galloonlaw06_ShuffleValues.j1 kj7 t232 t246 t247 t261 ((t247.length : Int) != (t261.length : Int))) else (galloonlaw06_ShuffleValues.j1 kj7 t232 t246 t247 t261 true)) else (galloonlaw06_ShuffleValues.j1 kj7 t232 t246 t247 t261 true)) else (galloonlaw06_ShuffleValues.j1 kj7 t232 t246 t247 t261 true)) else (galloonlaw06_ShuffleValues.j1 kj7 t232 t246 t247 t261 true)))) else (galloonlaw06_ShuffleValues.j1 kj7 t232 t246 t247 t261 true)) else (galloonlaw06_ShuffleValues.j1 kj7 t232 t246 t247 t261 true)) else (galloonlaw06_ShuffleValues.j1 kj7 t232 t246 t247 t261 true)) else (galloonlaw06_ShuffleValues.j1 kj7 t232 t246 t247 t261 true)) else (galloonlaw06_ShuffleValues.j1 kj7 t232 t246 t247 t261 true))))) = some r := H
    have A35 := Aside0.mk A350
    clear A350
    replace H := Option.bind_eq_some_iff.mp H
    obtain ⟨⟨t259, t260⟩, A360, H⟩ := H
    replace H : ((galloonref06_Parts.f kj7 a0).bind fun t261 => ((galloonlaw06_ints.f kj7 t235 t256).bind fun t264 => (if t264 = true then (if t236 = 0 then (if t239 = t259 then (if t240 = t260 then (if t241 = 0 then ((galloonref06_Shifts.f kj7 t256).bind fun t265 => ((galloonlaw06_ints.f kj7 t242 t265).bind fun t268 => (if t268 = true then (if t243 = 0 then (if t248 = 0 then (if (t246.length : Int) = (t261.length : Int) then (galloonlaw06_ShuffleValues.j1 kj7 t232 t246 t247 t261 ((t247.length : Int) != (t261.length : Int))) else (galloonlaw06_ShuffleValues.j1 kj7 t232 t246 t247 t261 true)) else (galloonlaw06_ShuffleValues.j1 kj7 t232 t246 t247 t261 true)) else (galloonlaw06_ShuffleValues.j1 kj7 t232 t246 t247 t261 true)) else (galloonlaw06_ShuffleValues.j1 kj7 t232 t246 t247 t261 true)))) else (galloonlaw06_ShuffleValues.j1 kj7 t232 t246 t247 t261 true)) else (galloonlaw06_ShuffleValues.j1 kj7 t232 t246 t247 t261 true)) else (galloonlaw06_ShuffleValues.j1 kj7 t232 t246 t247 t261 true)) else (galloonlaw06_ShuffleValues.j1 kj7 t232 t246 t247 t261 true)) else (galloonlaw06_ShuffleValues.j1 kj7 t232 t246 t247 t261 true)))) = some r := H
    have A36 := Aside0.mk A360
    clear A360
    replace H := Option.bind_eq_some_iff.mp H
    obtain ⟨t261, A370, H⟩ := H
    replace H : ((galloonlaw06_ints.f kj7 t235 t256).bind fun t264 => (if t264 = true then (if t236 = 0 then (if t239 = t259 then (if t240 = t260 then (if t241 = 0 then ((galloonref06_Shifts.f kj7 t256).bind fun t265 => ((galloonlaw06_ints.f kj7 t242 t265).bind fun t268 => (if t268 = true then (if t243 = 0 then (if t248 = 0 then (if (t246.length : Int) = (t261.length : Int) then (galloonlaw06_ShuffleValues.j1 kj7 t232 t246 t247 t261 ((t247.length : Int) != (t261.length : Int))) else (galloonlaw06_ShuffleValues.j1 kj7 t232 t246 t247 t261 true)) else (galloonlaw06_ShuffleValues.j1 kj7 t232 t246 t247 t261 true)) else (galloonlaw06_ShuffleValues.j1 kj7 t232 t246 t247 t261 true)) else (galloonlaw06_ShuffleValues.j1 kj7 t232 t246 t247 t261 true)))) else (galloonlaw06_ShuffleValues.j1 kj7 t232 t246 t247 t261 true)) else (galloonlaw06_ShuffleValues.j1 kj7 t232 t246 t247 t261 true)) else (galloonlaw06_ShuffleValues.j1 kj7 t232 t246 t247 t261 true)) else (galloonlaw06_ShuffleValues.j1 kj7 t232 t246 t247 t261 true)) else (galloonlaw06_ShuffleValues.j1 kj7 t232 t246 t247 t261 true))) = some r := H
    have A37 := Aside0.mk A370
    clear A370
    have HC38 := Aside0.mk H
    clear H
    go_upto_region 11 with (first | ((with_reducible refine gate_callee (f := 40) rfl ?_); refine goesL_ (some 106) rfl rfl Try.func40 (by kernel_rfl) rfl #[.int .i64 a0, .slice Ao10 t232.length co10] rfl (by (try simp only [List.map_toArray, List.map_cons, List.map_nil]); first | done | rfl | (simp only [List.length_drop, List.length_take]; rfl)) ?_; (with_reducible refine (galloonref06_Values.calls kj7 a0 _ _ t232 t256 _ ?side1 ?side2 A35.out).mono ?_); (case side1 => repeat (first | exact (Kd.R_reads' HO_5.out).2.2 | (with_reducible refine Kd.C_alloc ?_ _) | (with_reducible refine Kd.C_drewN ?_ _) | (with_reducible refine Kd.C_drew ?_))); (case side2 => exact (Kd.R_reads' HO_5.out).2.1); rintro e w39 ⟨v257, rfl, ho0, hb⟩; refine ⟨_, rfl, ?_⟩; have n0_ := Aside0.mk (Kd.R_elder' (by (with_reducible repeat (first | apply Kd.R_alloc | apply Kd.R_drewN | apply Kd.R_drew)); exact HO_5.out) (Kd.R_base ho0) hb); have n1_ := Aside0.mk (Kd.R_elder' (by (with_reducible repeat (first | apply Kd.R_alloc | apply Kd.R_drewN | apply Kd.R_drew)); exact HO_6.out) (Kd.R_base ho0) hb); have n2_ := Aside0.mk (Kd.R_elder' (by (with_reducible repeat (first | apply Kd.R_alloc | apply Kd.R_drewN | apply Kd.R_drew)); exact HO_11.out) (Kd.R_base ho0) hb); have n3_ := Aside0.mk (Kd.R_below (by (with_reducible repeat (first | apply Kd.R_alloc | apply Kd.R_drewN | apply Kd.R_drew)); exact HO_13.out) hb); have n4_ := Aside0.mk (Kd.S_elder' (by (with_reducible repeat (first | apply Kd.S_alloc | apply Kd.S_drewN | apply Kd.S_drew)); exact HO_14.out) (Kd.R_base ho0) hb); have n5_ := Aside0.mk (Kd.R_lower (Kd.R_new' (Kd.R_new' (Kd.R_new' ho0 (Kd.R_lt (by (with_reducible repeat (first | apply Kd.R_alloc | apply Kd.R_drewN | apply Kd.R_drew)); exact HO_5.out))) (Kd.R_lt (by (with_reducible repeat (first | apply Kd.R_alloc | apply Kd.R_drewN | apply Kd.R_drew)); exact HO_6.out))) (Kd.R_lt (by (with_reducible repeat (first | apply Kd.R_alloc | apply Kd.R_drewN | apply Kd.R_drew)); exact HO_11.out))) (below_size (by repeat (first | (with_reducible first | exact HB.out | apply below_alloc | apply pw_below_drewN | apply below_drew1) | exact HB.out)))); have n6_ := Aside0.mk (below_step (by repeat (first | (with_reducible first | exact HB.out | apply below_alloc | apply pw_below_drewN | apply below_drew1) | exact HB.out)) hb); clear HO_5; clear HO_6; clear HO_11; clear HO_13; clear HO_14; clear HB; have HO_5 := n0_; have HO_6 := n1_; have HO_11 := n2_; have HO_13 := n3_; have HO_14 := n4_; have HO258 := n5_; have HB := n6_; clear n0_ n1_ n2_ n3_ n4_ n5_ n6_; (try clear hb); (try clear hb2); (try clear hk); (try clear hi); (try clear ho0); obtain ⟨Ao40, co40, eo40⟩ := Kd.R_slice HO258.out; subst eo40) | ((with_reducible refine gate_callee (f := 48) rfl ?_); refine goesL_ (some 109) rfl rfl Try.func48 (by kernel_rfl) rfl #[.slice Ao40 t256.length co40] rfl (by (try simp only [List.map_toArray, List.map_cons, List.map_nil]); first | done | rfl | (simp only [List.length_drop, List.length_take]; rfl)) ?_; (with_reducible refine (galloonref06_Equal.calls kj7 _ _ t256 t259 t260 _ ?side1 ?side2 A36.out).mono ?_); (case side1 => repeat (first | exact (Kd.R_reads' HO258.out).2.2 | (with_reducible refine Kd.C_alloc ?_ _) | (with_reducible refine Kd.C_drewN ?_ _) | (with_reducible refine Kd.C_drew ?_))); (case side2 => exact (Kd.R_reads' HO258.out).2.1); rintro e w' ⟨rfl, ⟨nd, rfl⟩⟩; refine ⟨_, rfl, ?_⟩) | ((with_reducible refine gate_callee (f := 34) rfl ?_); refine goesL_ (some 113) rfl rfl Try.func34 (by kernel_rfl) rfl #[.int .i64 a0] rfl (by (try simp only [List.map_toArray, List.map_cons, List.map_nil]); first | done | rfl | (simp only [List.length_drop, List.length_take]; rfl)) ?_; (with_reducible refine (galloonref06_Parts.calls kj7 a0 t261 _ A37.out).mono ?_); rintro e w41 ⟨v262, rfl, ho0, hb⟩; refine ⟨_, rfl, ?_⟩; have n0_ := Aside0.mk (Kd.R_below (by (with_reducible repeat (first | apply Kd.R_alloc | apply Kd.R_drewN | apply Kd.R_drew)); exact HO_5.out) hb); have n1_ := Aside0.mk (Kd.R_below (by (with_reducible repeat (first | apply Kd.R_alloc | apply Kd.R_drewN | apply Kd.R_drew)); exact HO_6.out) hb); have n2_ := Aside0.mk (Kd.R_below (by (with_reducible repeat (first | apply Kd.R_alloc | apply Kd.R_drewN | apply Kd.R_drew)); exact HO_11.out) hb); have n3_ := Aside0.mk (Kd.R_elder' (by (with_reducible repeat (first | apply Kd.R_alloc | apply Kd.R_drewN | apply Kd.R_drew)); exact HO_13.out) (Kd.R_base ho0) hb); have n4_ := Aside0.mk (Kd.S_below (by (with_reducible repeat (first | apply Kd.S_alloc | apply Kd.S_drewN | apply Kd.S_drew)); exact HO_14.out) hb); have n5_ := Aside0.mk (Kd.R_below (by (with_reducible repeat (first | apply Kd.R_alloc | apply Kd.R_drewN | apply Kd.R_drew)); exact HO258.out) hb); have n6_ := Aside0.mk (Kd.R_lower (Kd.R_new' ho0 (Kd.R_lt (by (with_reducible repeat (first | apply Kd.R_alloc | apply Kd.R_drewN | apply Kd.R_drew)); exact HO_13.out))) (below_size (by repeat (first | (with_reducible first | exact HB.out | apply below_alloc | apply pw_below_drewN | apply below_drew1) | exact HB.out)))); have n7_ := Aside0.mk (below_step (by repeat (first | (with_reducible first | exact HB.out | apply below_alloc | apply pw_below_drewN | apply below_drew1) | exact HB.out)) hb); clear HO_5; clear HO_6; clear HO_11; clear HO_13; clear HO_14; clear HO258; clear HB; have HO_5 := n0_; have HO_6 := n1_; have HO_11 := n2_; have HO_13 := n3_; have HO_14 := n4_; have HO258 := n5_; have HO263 := n6_; have HB := n7_; clear n0_ n1_ n2_ n3_ n4_ n5_ n6_ n7_; (try clear hb); (try clear hb2); (try clear hk); (try clear hi); (try clear ho0)))
    (try simp only [Act.put, List.setIfInBounds_toArray, List.set_cons_zero, List.set_cons_succ])
    go_cut [164] (fun v164 wc => ∃ (kq : Nat) (x164_37 : Bool), v164 = .bool x164_37 ∧ Aside0 (galloonlaw06_ShuffleValues.j1 kq t232 t246 t247 t261 x164_37 = some r) ∧ Aside0 (kq ≤ kj7) ∧ Aside0 (Kd.R (Kd.int .i64) 3 wc w.heap.size (fun _ => True) (.slice Ao10 t232.length co10) t232) ∧ Aside0 (Kd.R k44 44 wc w.heap.size (fun k_ => some k_ ≠ (v262 : Value).ownBlock) v249 t246) ∧ Aside0 (Kd.S (Kd.slice 3 (Kd.int .i64)) 28 wc w.heap.size (fun k_ => some k_ ≠ ((.slice Ao10 t232.length co10) : Value).ownBlock) v251 t247) ∧ Aside0 (Kd.R k44 44 wc w.heap.size (fun k_ => some k_ ≠ (v249 : Value).ownBlock) v262 t261) ∧ Aside0 (Below w.heap.size w wc))
    case first =>
     as_aux_lemma =>
     have H := HC38.out
     clear HC38
     replace H := Option.bind_eq_some_iff.mp H
     obtain ⟨t264, A420, H⟩ := H
     replace H : (if t264 = true then (if t236 = 0 then (if t239 = t259 then (if t240 = t260 then (if t241 = 0 then ((galloonref06_Shifts.f kj7 t256).bind fun t265 => ((galloonlaw06_ints.f kj7 t242 t265).bind fun t268 => (if t268 = true then (if t243 = 0 then (if t248 = 0 then (if (t246.length : Int) = (t261.length : Int) then (galloonlaw06_ShuffleValues.j1 kj7 t232 t246 t247 t261 ((t247.length : Int) != (t261.length : Int))) else (galloonlaw06_ShuffleValues.j1 kj7 t232 t246 t247 t261 true)) else (galloonlaw06_ShuffleValues.j1 kj7 t232 t246 t247 t261 true)) else (galloonlaw06_ShuffleValues.j1 kj7 t232 t246 t247 t261 true)) else (galloonlaw06_ShuffleValues.j1 kj7 t232 t246 t247 t261 true)))) else (galloonlaw06_ShuffleValues.j1 kj7 t232 t246 t247 t261 true)) else (galloonlaw06_ShuffleValues.j1 kj7 t232 t246 t247 t261 true)) else (galloonlaw06_ShuffleValues.j1 kj7 t232 t246 t247 t261 true)) else (galloonlaw06_ShuffleValues.j1 kj7 t232 t246 t247 t261 true)) else (galloonlaw06_ShuffleValues.j1 kj7 t232 t246 t247 t261 true)) = some r := H
     have A42 := Aside0.mk A420
     clear A420
     by_cases c43 : t264 = true
     ·
      subst c43
      have H1 : (if t236 = 0 then (if t239 = t259 then (if t240 = t260 then (if t241 = 0 then ((galloonref06_Shifts.f kj7 t256).bind fun t265 => ((galloonlaw06_ints.f kj7 t242 t265).bind fun t268 => (if t268 = true then (if t243 = 0 then (if t248 = 0 then (if (t246.length : Int) = (t261.length : Int) then (galloonlaw06_ShuffleValues.j1 kj7 t232 t246 t247 t261 ((t247.length : Int) != (t261.length : Int))) else (galloonlaw06_ShuffleValues.j1 kj7 t232 t246 t247 t261 true)) else (galloonlaw06_ShuffleValues.j1 kj7 t232 t246 t247 t261 true)) else (galloonlaw06_ShuffleValues.j1 kj7 t232 t246 t247 t261 true)) else (galloonlaw06_ShuffleValues.j1 kj7 t232 t246 t247 t261 true)))) else (galloonlaw06_ShuffleValues.j1 kj7 t232 t246 t247 t261 true)) else (galloonlaw06_ShuffleValues.j1 kj7 t232 t246 t247 t261 true)) else (galloonlaw06_ShuffleValues.j1 kj7 t232 t246 t247 t261 true)) else (galloonlaw06_ShuffleValues.j1 kj7 t232 t246 t247 t261 true)) = some r := by rw [if_pos rfl] at H; exact H
      clear H
      have H := H1
      clear H1
      by_cases c44 : t236 = 0
      ·
       rw [if_pos c44] at H
       have c44b0 : (t236 == 0) = true := beq_iff_eq.mpr c44
       have c44b1 : (t236 != 0) = false := bne_eq_false_iff_eq.mpr c44
       clear c44
       (first | rw [c44b0] | (simp only [i64_w, i32_w]; rw [c44b0]) | skip)
       by_cases c45 : t239 = t259
       ·
        rw [if_pos c45] at H
        have c45b0 : (t239 == t259) = true := beq_iff_eq.mpr c45
        have c45b1 : (t239 != t259) = false := bne_eq_false_iff_eq.mpr c45
        clear c45
        by_cases c46 : t240 = t260
        ·
         rw [if_pos c46] at H
         have c46b0 : (t240 == t260) = true := beq_iff_eq.mpr c46
         have c46b1 : (t240 != t260) = false := bne_eq_false_iff_eq.mpr c46
         clear c46
         by_cases c47 : t241 = 0
         ·
          rw [if_pos c47] at H
          have c47b0 : (t241 == 0) = true := beq_iff_eq.mpr c47
          have c47b1 : (t241 != 0) = false := bne_eq_false_iff_eq.mpr c47
          clear c47
          replace H := Option.bind_eq_some_iff.mp H
          obtain ⟨t265, A480, H⟩ := H
          replace H : ((galloonlaw06_ints.f kj7 t242 t265).bind fun t268 => (if t268 = true then (if t243 = 0 then (if t248 = 0 then (if (t246.length : Int) = (t261.length : Int) then (galloonlaw06_ShuffleValues.j1 kj7 t232 t246 t247 t261 ((t247.length : Int) != (t261.length : Int))) else (galloonlaw06_ShuffleValues.j1 kj7 t232 t246 t247 t261 true)) else (galloonlaw06_ShuffleValues.j1 kj7 t232 t246 t247 t261 true)) else (galloonlaw06_ShuffleValues.j1 kj7 t232 t246 t247 t261 true)) else (galloonlaw06_ShuffleValues.j1 kj7 t232 t246 t247 t261 true))) = some r := H
          have A48 := Aside0.mk A480
          clear A480
          replace H := Option.bind_eq_some_iff.mp H
          obtain ⟨t268, A490, H⟩ := H
          replace H : (if t268 = true then (if t243 = 0 then (if t248 = 0 then (if (t246.length : Int) = (t261.length : Int) then (galloonlaw06_ShuffleValues.j1 kj7 t232 t246 t247 t261 ((t247.length : Int) != (t261.length : Int))) else (galloonlaw06_ShuffleValues.j1 kj7 t232 t246 t247 t261 true)) else (galloonlaw06_ShuffleValues.j1 kj7 t232 t246 t247 t261 true)) else (galloonlaw06_ShuffleValues.j1 kj7 t232 t246 t247 t261 true)) else (galloonlaw06_ShuffleValues.j1 kj7 t232 t246 t247 t261 true)) = some r := H
          have A49 := Aside0.mk A490
          clear A490
          by_cases c50 : t268 = true
          ·
           subst c50
           have H1 : (if t243 = 0 then (if t248 = 0 then (if (t246.length : Int) = (t261.length : Int) then (galloonlaw06_ShuffleValues.j1 kj7 t232 t246 t247 t261 ((t247.length : Int) != (t261.length : Int))) else (galloonlaw06_ShuffleValues.j1 kj7 t232 t246 t247 t261 true)) else (galloonlaw06_ShuffleValues.j1 kj7 t232 t246 t247 t261 true)) else (galloonlaw06_ShuffleValues.j1 kj7 t232 t246 t247 t261 true)) = some r := by rw [if_pos rfl] at H; exact H
           clear H
           have H := H1
           clear H1
           by_cases c51 : t243 = 0
           ·
            rw [if_pos c51] at H
            have c51b0 : (t243 == 0) = true := beq_iff_eq.mpr c51
            have c51b1 : (t243 != 0) = false := bne_eq_false_iff_eq.mpr c51
            clear c51
            by_cases c52 : t248 = 0
            ·
             rw [if_pos c52] at H
             have c52b0 : (t248 == 0) = true := beq_iff_eq.mpr c52
             have c52b1 : (t248 != 0) = false := bne_eq_false_iff_eq.mpr c52
             clear c52
             by_cases c53 : (t246.length : Int) = (t261.length : Int)
             ·
              rw [if_pos c53] at H
              have c53b0 : ((t246.length : Int) == (t261.length : Int)) = true := beq_iff_eq.mpr c53
              have c53b1 : ((t246.length : Int) != (t261.length : Int)) = false := bne_eq_false_iff_eq.mpr c53
              have c53b2 : (t246.length == t261.length) = true := by first | simpa using c53 | (simp at c53 ⊢; omega)
              clear c53
              have H' := Aside0.mk H
              clear H
              obtain ⟨Ao54, co54, eo54⟩ := Kd.R_slice HO_6.out
              subst eo54
              go_wp2_with (first | ((with_reducible refine gate_callee (f := 25) rfl ?_); refine goesL_ (some 116) rfl rfl Try.func25 (by kernel_rfl) rfl #[.slice Ao54 t235.length co54, .slice Ao40 t256.length co40] rfl (by (try simp only [List.map_toArray, List.map_cons, List.map_nil]); first | done | rfl | (simp only [List.length_drop, List.length_take]; rfl)) ?_; (with_reducible refine (galloonlaw06_ints.calls kj7 _ _ t235 _ _ t256 true _ ?side1 ?side2 ?side3 ?side4 A42.out).mono ?_); (case side1 => repeat (first | exact (Kd.R_reads' HO_6.out).2.2 | (with_reducible refine Kd.C_alloc ?_ _) | (with_reducible refine Kd.C_drewN ?_ _) | (with_reducible refine Kd.C_drew ?_))); (case side2 => exact (Kd.R_reads' HO_6.out).2.1); (case side3 => repeat (first | exact (Kd.R_reads' HO258.out).2.2 | (with_reducible refine Kd.C_alloc ?_ _) | (with_reducible refine Kd.C_drewN ?_ _) | (with_reducible refine Kd.C_drew ?_))); (case side4 => exact (Kd.R_reads' HO258.out).2.1); rintro e w' ⟨rfl, ⟨nd, rfl⟩⟩; refine ⟨_, rfl, ?_⟩) | (go_at_call 49; (with_reducible refine (galloonref06_Shifts.calls kj7 _ _ t256 t265 _ ?side1 ?side2 A48.out).mono ?_); (case side1 => repeat (first | exact (Kd.R_reads' HO258.out).2.2 | (with_reducible refine Kd.C_alloc ?_ _) | (with_reducible refine Kd.C_drewN ?_ _) | (with_reducible refine Kd.C_drew ?_))); (case side2 => exact (Kd.R_reads' HO258.out).2.1); rintro e w55 ⟨v266, rfl, ho0, hb⟩; have n0_ := Aside0.mk (Kd.R_elder' (by (with_reducible repeat (first | apply Kd.R_alloc | apply Kd.R_drewN | apply Kd.R_drew)); exact HO_5.out) (Kd.R_base ho0) hb); have n1_ := Aside0.mk (Kd.R_elder' (by (with_reducible repeat (first | apply Kd.R_alloc | apply Kd.R_drewN | apply Kd.R_drew)); exact HO_6.out) (Kd.R_base ho0) hb); have n2_ := Aside0.mk (Kd.R_elder' (by (with_reducible repeat (first | apply Kd.R_alloc | apply Kd.R_drewN | apply Kd.R_drew)); exact HO_11.out) (Kd.R_base ho0) hb); have n3_ := Aside0.mk (Kd.R_below (by (with_reducible repeat (first | apply Kd.R_alloc | apply Kd.R_drewN | apply Kd.R_drew)); exact HO_13.out) hb); have n4_ := Aside0.mk (Kd.S_elder' (by (with_reducible repeat (first | apply Kd.S_alloc | apply Kd.S_drewN | apply Kd.S_drew)); exact HO_14.out) (Kd.R_base ho0) hb); have n5_ := Aside0.mk (Kd.R_elder' (by (with_reducible repeat (first | apply Kd.R_alloc | apply Kd.R_drewN | apply Kd.R_drew)); exact HO258.out) (Kd.R_base ho0) hb); have n6_ := Aside0.mk (Kd.R_below (by (with_reducible repeat (first | apply Kd.R_alloc | apply Kd.R_drewN | apply Kd.R_drew)); exact HO263.out) hb); have n7_ := Aside0.mk (Kd.R_lower (Kd.R_new' (Kd.R_new' (Kd.R_new' (Kd.R_new' ho0 (Kd.R_lt (by (with_reducible repeat (first | apply Kd.R_alloc | apply Kd.R_drewN | apply Kd.R_drew)); exact HO_5.out))) (Kd.R_lt (by (with_reducible repeat (first | apply Kd.R_alloc | apply Kd.R_drewN | apply Kd.R_drew)); exact HO_6.out))) (Kd.R_lt (by (with_reducible repeat (first | apply Kd.R_alloc | apply Kd.R_drewN | apply Kd.R_drew)); exact HO_11.out))) (Kd.R_lt (by (with_reducible repeat (first | apply Kd.R_alloc | apply Kd.R_drewN | apply Kd.R_drew)); exact HO258.out))) (below_size (by repeat (first | (with_reducible first | exact HB.out | apply below_alloc | apply pw_below_drewN | apply below_drew1) | exact HB.out)))); have n8_ := Aside0.mk (below_step (by repeat (first | (with_reducible first | exact HB.out | apply below_alloc | apply pw_below_drewN | apply below_drew1) | exact HB.out)) hb); clear HO_5; clear HO_6; clear HO_11; clear HO_13; clear HO_14; clear HO258; clear HO263; clear HB; have HO_5 := n0_; have HO_6 := n1_; have HO_11 := n2_; have HO_13 := n3_; have HO_14 := n4_; have HO258 := n5_; have HO263 := n6_; have HO267 := n7_; have HB := n8_; clear n0_ n1_ n2_ n3_ n4_ n5_ n6_ n7_ n8_; (try clear hb); (try clear hb2); (try clear hk); (try clear hi); (try clear ho0); obtain ⟨Ao56, co56, eo56⟩ := Kd.R_slice HO_11.out; subst eo56; obtain ⟨Ao57, co57, eo57⟩ := Kd.R_slice HO267.out; subst eo57) | (go_at_call 25; (with_reducible refine (galloonlaw06_ints.calls kj7 _ _ t242 _ _ t265 true _ ?side1 ?side2 ?side3 ?side4 A49.out).mono ?_); (case side1 => repeat (first | exact (Kd.R_reads' HO_11.out).2.2 | (with_reducible refine Kd.C_alloc ?_ _) | (with_reducible refine Kd.C_drewN ?_ _) | (with_reducible refine Kd.C_drew ?_))); (case side2 => exact (Kd.R_reads' HO_11.out).2.1); (case side3 => repeat (first | exact (Kd.R_reads' HO267.out).2.2 | (with_reducible refine Kd.C_alloc ?_ _) | (with_reducible refine Kd.C_drewN ?_ _) | (with_reducible refine Kd.C_drew ?_))); (case side4 => exact (Kd.R_reads' HO267.out).2.1); rintro e w' ⟨rfl, ⟨nd, rfl⟩⟩; obtain ⟨Ao58, co58, eo58⟩ := Kd.R_slice HO_13.out; subst eo58; obtain ⟨Ao59, co59, eo59⟩ := Kd.R_slice HO263.out; subst eo59; obtain ⟨Ao60, co60, eo60⟩ := Kd.S_slice HO_14.out; subst eo60))
              go_meet
              case rel => exact ⟨_, (((t247.length : Int) != (t261.length : Int))), (by first | rfl | (simp; done) | (simp [*]; done)), H', ⟨by have := HJ7.out; first | omega | exact Nat.le_refl _⟩, ⟨by (with_reducible repeat (first | apply Kd.R_alloc | apply Kd.R_drewN | apply Kd.R_drew)); exact Kd.R_mono HO_5.out (fun _ hk => trivial)⟩, ⟨by (with_reducible repeat (first | apply Kd.R_alloc | apply Kd.R_drewN | apply Kd.R_drew)); exact Kd.R_mono HO_13.out (fun _ hk => hk.2)⟩, ⟨by (with_reducible repeat (first | apply Kd.S_alloc | apply Kd.S_drewN | apply Kd.S_drew)); exact Kd.S_mono HO_14.out (fun _ hk => hk.1.1.1)⟩, ⟨by (with_reducible repeat (first | apply Kd.R_alloc | apply Kd.R_drewN | apply Kd.R_drew)); exact Kd.R_mono HO263.out (fun _ hk => hk.2)⟩, ⟨by repeat (first | (with_reducible first | exact HB.out | apply below_alloc | apply pw_below_drewN | apply below_drew1) | exact HB.out)⟩⟩
             ·
              rw [if_neg c53] at H
              have c53b0 : ((t246.length : Int) == (t261.length : Int)) = false := beq_eq_false_iff_ne.mpr c53
              have c53b1 : ((t246.length : Int) != (t261.length : Int)) = true := bne_iff_ne.mpr c53
              have c53b2 : (t246.length == t261.length) = false := by first | simpa using c53 | (simp at c53 ⊢; omega)
              have H' := Aside0.mk H
              clear H
              obtain ⟨Ao61, co61, eo61⟩ := Kd.R_slice HO_6.out
              subst eo61
              go_wp2_with (first | ((with_reducible refine gate_callee (f := 25) rfl ?_); refine goesL_ (some 116) rfl rfl Try.func25 (by kernel_rfl) rfl #[.slice Ao61 t235.length co61, .slice Ao40 t256.length co40] rfl (by (try simp only [List.map_toArray, List.map_cons, List.map_nil]); first | done | rfl | (simp only [List.length_drop, List.length_take]; rfl)) ?_; (with_reducible refine (galloonlaw06_ints.calls kj7 _ _ t235 _ _ t256 true _ ?side1 ?side2 ?side3 ?side4 A42.out).mono ?_); (case side1 => repeat (first | exact (Kd.R_reads' HO_6.out).2.2 | (with_reducible refine Kd.C_alloc ?_ _) | (with_reducible refine Kd.C_drewN ?_ _) | (with_reducible refine Kd.C_drew ?_))); (case side2 => exact (Kd.R_reads' HO_6.out).2.1); (case side3 => repeat (first | exact (Kd.R_reads' HO258.out).2.2 | (with_reducible refine Kd.C_alloc ?_ _) | (with_reducible refine Kd.C_drewN ?_ _) | (with_reducible refine Kd.C_drew ?_))); (case side4 => exact (Kd.R_reads' HO258.out).2.1); rintro e w' ⟨rfl, ⟨nd, rfl⟩⟩; refine ⟨_, rfl, ?_⟩) | (go_at_call 49; (with_reducible refine (galloonref06_Shifts.calls kj7 _ _ t256 t265 _ ?side1 ?side2 A48.out).mono ?_); (case side1 => repeat (first | exact (Kd.R_reads' HO258.out).2.2 | (with_reducible refine Kd.C_alloc ?_ _) | (with_reducible refine Kd.C_drewN ?_ _) | (with_reducible refine Kd.C_drew ?_))); (case side2 => exact (Kd.R_reads' HO258.out).2.1); rintro e w62 ⟨v266, rfl, ho0, hb⟩; have n0_ := Aside0.mk (Kd.R_elder' (by (with_reducible repeat (first | apply Kd.R_alloc | apply Kd.R_drewN | apply Kd.R_drew)); exact HO_5.out) (Kd.R_base ho0) hb); have n1_ := Aside0.mk (Kd.R_elder' (by (with_reducible repeat (first | apply Kd.R_alloc | apply Kd.R_drewN | apply Kd.R_drew)); exact HO_6.out) (Kd.R_base ho0) hb); have n2_ := Aside0.mk (Kd.R_elder' (by (with_reducible repeat (first | apply Kd.R_alloc | apply Kd.R_drewN | apply Kd.R_drew)); exact HO_11.out) (Kd.R_base ho0) hb); have n3_ := Aside0.mk (Kd.R_below (by (with_reducible repeat (first | apply Kd.R_alloc | apply Kd.R_drewN | apply Kd.R_drew)); exact HO_13.out) hb); have n4_ := Aside0.mk (Kd.S_elder' (by (with_reducible repeat (first | apply Kd.S_alloc | apply Kd.S_drewN | apply Kd.S_drew)); exact HO_14.out) (Kd.R_base ho0) hb); have n5_ := Aside0.mk (Kd.R_elder' (by (with_reducible repeat (first | apply Kd.R_alloc | apply Kd.R_drewN | apply Kd.R_drew)); exact HO258.out) (Kd.R_base ho0) hb); have n6_ := Aside0.mk (Kd.R_below (by (with_reducible repeat (first | apply Kd.R_alloc | apply Kd.R_drewN | apply Kd.R_drew)); exact HO263.out) hb); have n7_ := Aside0.mk (Kd.R_lower (Kd.R_new' (Kd.R_new' (Kd.R_new' (Kd.R_new' ho0 (Kd.R_lt (by (with_reducible repeat (first | apply Kd.R_alloc | apply Kd.R_drewN | apply Kd.R_drew)); exact HO_5.out))) (Kd.R_lt (by (with_reducible repeat (first | apply Kd.R_alloc | apply Kd.R_drewN | apply Kd.R_drew)); exact HO_6.out))) (Kd.R_lt (by (with_reducible repeat (first | apply Kd.R_alloc | apply Kd.R_drewN | apply Kd.R_drew)); exact HO_11.out))) (Kd.R_lt (by (with_reducible repeat (first | apply Kd.R_alloc | apply Kd.R_drewN | apply Kd.R_drew)); exact HO258.out))) (below_size (by repeat (first | (with_reducible first | exact HB.out | apply below_alloc | apply pw_below_drewN | apply below_drew1) | exact HB.out)))); have n8_ := Aside0.mk (below_step (by repeat (first | (with_reducible first | exact HB.out | apply below_alloc | apply pw_below_drewN | apply below_drew1) | exact HB.out)) hb); clear HO_5; clear HO_6; clear HO_11; clear HO_13; clear HO_14; clear HO258; clear HO263; clear HB; have HO_5 := n0_; have HO_6 := n1_; have HO_11 := n2_; have HO_13 := n3_; have HO_14 := n4_; have HO258 := n5_; have HO263 := n6_; have HO267 := n7_; have HB := n8_; clear n0_ n1_ n2_ n3_ n4_ n5_ n6_ n7_ n8_; (try clear hb); (try clear hb2); (try clear hk); (try clear hi); (try clear ho0); obtain ⟨Ao63, co63, eo63⟩ := Kd.R_slice HO_11.out; subst eo63; obtain ⟨Ao64, co64, eo64⟩ := Kd.R_slice HO267.out; subst eo64) | (go_at_call 25; (with_reducible refine (galloonlaw06_ints.calls kj7 _ _ t242 _ _ t265 true _ ?side1 ?side2 ?side3 ?side4 A49.out).mono ?_); (case side1 => repeat (first | exact (Kd.R_reads' HO_11.out).2.2 | (with_reducible refine Kd.C_alloc ?_ _) | (with_reducible refine Kd.C_drewN ?_ _) | (with_reducible refine Kd.C_drew ?_))); (case side2 => exact (Kd.R_reads' HO_11.out).2.1); (case side3 => repeat (first | exact (Kd.R_reads' HO267.out).2.2 | (with_reducible refine Kd.C_alloc ?_ _) | (with_reducible refine Kd.C_drewN ?_ _) | (with_reducible refine Kd.C_drew ?_))); (case side4 => exact (Kd.R_reads' HO267.out).2.1); rintro e w' ⟨rfl, ⟨nd, rfl⟩⟩; obtain ⟨Ao65, co65, eo65⟩ := Kd.R_slice HO_13.out; subst eo65; obtain ⟨Ao66, co66, eo66⟩ := Kd.R_slice HO263.out; subst eo66))
              go_meet
              case rel => exact ⟨_, (true), (by first | rfl | (simp; done) | (simp [*]; done)), H', ⟨by have := HJ7.out; first | omega | exact Nat.le_refl _⟩, ⟨by (with_reducible repeat (first | apply Kd.R_alloc | apply Kd.R_drewN | apply Kd.R_drew)); exact Kd.R_mono HO_5.out (fun _ hk => trivial)⟩, ⟨by (with_reducible repeat (first | apply Kd.R_alloc | apply Kd.R_drewN | apply Kd.R_drew)); exact Kd.R_mono HO_13.out (fun _ hk => hk.2)⟩, ⟨by (with_reducible repeat (first | apply Kd.S_alloc | apply Kd.S_drewN | apply Kd.S_drew)); exact Kd.S_mono HO_14.out (fun _ hk => hk.1.1.1)⟩, ⟨by (with_reducible repeat (first | apply Kd.R_alloc | apply Kd.R_drewN | apply Kd.R_drew)); exact Kd.R_mono HO263.out (fun _ hk => hk.2)⟩, ⟨by repeat (first | (with_reducible first | exact HB.out | apply below_alloc | apply pw_below_drewN | apply below_drew1) | exact HB.out)⟩⟩
            ·
             rw [if_neg c52] at H
             have c52b0 : (t248 == 0) = false := beq_eq_false_iff_ne.mpr c52
             have c52b1 : (t248 != 0) = true := bne_iff_ne.mpr c52
             have H' := Aside0.mk H
             clear H
             obtain ⟨Ao67, co67, eo67⟩ := Kd.R_slice HO_6.out
             subst eo67
             go_wp2_with (first | ((with_reducible refine gate_callee (f := 25) rfl ?_); refine goesL_ (some 116) rfl rfl Try.func25 (by kernel_rfl) rfl #[.slice Ao67 t235.length co67, .slice Ao40 t256.length co40] rfl (by (try simp only [List.map_toArray, List.map_cons, List.map_nil]); first | done | rfl | (simp only [List.length_drop, List.length_take]; rfl)) ?_; (with_reducible refine (galloonlaw06_ints.calls kj7 _ _ t235 _ _ t256 true _ ?side1 ?side2 ?side3 ?side4 A42.out).mono ?_); (case side1 => repeat (first | exact (Kd.R_reads' HO_6.out).2.2 | (with_reducible refine Kd.C_alloc ?_ _) | (with_reducible refine Kd.C_drewN ?_ _) | (with_reducible refine Kd.C_drew ?_))); (case side2 => exact (Kd.R_reads' HO_6.out).2.1); (case side3 => repeat (first | exact (Kd.R_reads' HO258.out).2.2 | (with_reducible refine Kd.C_alloc ?_ _) | (with_reducible refine Kd.C_drewN ?_ _) | (with_reducible refine Kd.C_drew ?_))); (case side4 => exact (Kd.R_reads' HO258.out).2.1); rintro e w' ⟨rfl, ⟨nd, rfl⟩⟩; refine ⟨_, rfl, ?_⟩) | (go_at_call 49; (with_reducible refine (galloonref06_Shifts.calls kj7 _ _ t256 t265 _ ?side1 ?side2 A48.out).mono ?_); (case side1 => repeat (first | exact (Kd.R_reads' HO258.out).2.2 | (with_reducible refine Kd.C_alloc ?_ _) | (with_reducible refine Kd.C_drewN ?_ _) | (with_reducible refine Kd.C_drew ?_))); (case side2 => exact (Kd.R_reads' HO258.out).2.1); rintro e w68 ⟨v266, rfl, ho0, hb⟩; have n0_ := Aside0.mk (Kd.R_elder' (by (with_reducible repeat (first | apply Kd.R_alloc | apply Kd.R_drewN | apply Kd.R_drew)); exact HO_5.out) (Kd.R_base ho0) hb); have n1_ := Aside0.mk (Kd.R_elder' (by (with_reducible repeat (first | apply Kd.R_alloc | apply Kd.R_drewN | apply Kd.R_drew)); exact HO_6.out) (Kd.R_base ho0) hb); have n2_ := Aside0.mk (Kd.R_elder' (by (with_reducible repeat (first | apply Kd.R_alloc | apply Kd.R_drewN | apply Kd.R_drew)); exact HO_11.out) (Kd.R_base ho0) hb); have n3_ := Aside0.mk (Kd.R_below (by (with_reducible repeat (first | apply Kd.R_alloc | apply Kd.R_drewN | apply Kd.R_drew)); exact HO_13.out) hb); have n4_ := Aside0.mk (Kd.S_elder' (by (with_reducible repeat (first | apply Kd.S_alloc | apply Kd.S_drewN | apply Kd.S_drew)); exact HO_14.out) (Kd.R_base ho0) hb); have n5_ := Aside0.mk (Kd.R_elder' (by (with_reducible repeat (first | apply Kd.R_alloc | apply Kd.R_drewN | apply Kd.R_drew)); exact HO258.out) (Kd.R_base ho0) hb); have n6_ := Aside0.mk (Kd.R_below (by (with_reducible repeat (first | apply Kd.R_alloc | apply Kd.R_drewN | apply Kd.R_drew)); exact HO263.out) hb); have n7_ := Aside0.mk (Kd.R_lower (Kd.R_new' (Kd.R_new' (Kd.R_new' (Kd.R_new' ho0 (Kd.R_lt (by (with_reducible repeat (first | apply Kd.R_alloc | apply Kd.R_drewN | apply Kd.R_drew)); exact HO_5.out))) (Kd.R_lt (by (with_reducible repeat (first | apply Kd.R_alloc | apply Kd.R_drewN | apply Kd.R_drew)); exact HO_6.out))) (Kd.R_lt (by (with_reducible repeat (first | apply Kd.R_alloc | apply Kd.R_drewN | apply Kd.R_drew)); exact HO_11.out))) (Kd.R_lt (by (with_reducible repeat (first | apply Kd.R_alloc | apply Kd.R_drewN | apply Kd.R_drew)); exact HO258.out))) (below_size (by repeat (first | (with_reducible first | exact HB.out | apply below_alloc | apply pw_below_drewN | apply below_drew1) | exact HB.out)))); have n8_ := Aside0.mk (below_step (by repeat (first | (with_reducible first | exact HB.out | apply below_alloc | apply pw_below_drewN | apply below_drew1) | exact HB.out)) hb); clear HO_5; clear HO_6; clear HO_11; clear HO_13; clear HO_14; clear HO258; clear HO263; clear HB; have HO_5 := n0_; have HO_6 := n1_; have HO_11 := n2_; have HO_13 := n3_; have HO_14 := n4_; have HO258 := n5_; have HO263 := n6_; have HO267 := n7_; have HB := n8_; clear n0_ n1_ n2_ n3_ n4_ n5_ n6_ n7_ n8_; (try clear hb); (try clear hb2); (try clear hk); (try clear hi); (try clear ho0); obtain ⟨Ao69, co69, eo69⟩ := Kd.R_slice HO_11.out; subst eo69; obtain ⟨Ao70, co70, eo70⟩ := Kd.R_slice HO267.out; subst eo70) | (go_at_call 25; (with_reducible refine (galloonlaw06_ints.calls kj7 _ _ t242 _ _ t265 true _ ?side1 ?side2 ?side3 ?side4 A49.out).mono ?_); (case side1 => repeat (first | exact (Kd.R_reads' HO_11.out).2.2 | (with_reducible refine Kd.C_alloc ?_ _) | (with_reducible refine Kd.C_drewN ?_ _) | (with_reducible refine Kd.C_drew ?_))); (case side2 => exact (Kd.R_reads' HO_11.out).2.1); (case side3 => repeat (first | exact (Kd.R_reads' HO267.out).2.2 | (with_reducible refine Kd.C_alloc ?_ _) | (with_reducible refine Kd.C_drewN ?_ _) | (with_reducible refine Kd.C_drew ?_))); (case side4 => exact (Kd.R_reads' HO267.out).2.1); rintro e w' ⟨rfl, ⟨nd, rfl⟩⟩))
             go_meet
             case rel => exact ⟨_, (true), (by first | rfl | (simp; done) | (simp [*]; done)), H', ⟨by have := HJ7.out; first | omega | exact Nat.le_refl _⟩, ⟨by (with_reducible repeat (first | apply Kd.R_alloc | apply Kd.R_drewN | apply Kd.R_drew)); exact Kd.R_mono HO_5.out (fun _ hk => trivial)⟩, ⟨by (with_reducible repeat (first | apply Kd.R_alloc | apply Kd.R_drewN | apply Kd.R_drew)); exact Kd.R_mono HO_13.out (fun _ hk => hk.2)⟩, ⟨by (with_reducible repeat (first | apply Kd.S_alloc | apply Kd.S_drewN | apply Kd.S_drew)); exact Kd.S_mono HO_14.out (fun _ hk => hk.1.1.1)⟩, ⟨by (with_reducible repeat (first | apply Kd.R_alloc | apply Kd.R_drewN | apply Kd.R_drew)); exact Kd.R_mono HO263.out (fun _ hk => hk.2)⟩, ⟨by repeat (first | (with_reducible first | exact HB.out | apply below_alloc | apply pw_below_drewN | apply below_drew1) | exact HB.out)⟩⟩
           ·
            rw [if_neg c51] at H
            have c51b0 : (t243 == 0) = false := beq_eq_false_iff_ne.mpr c51
            have c51b1 : (t243 != 0) = true := bne_iff_ne.mpr c51
            have H' := Aside0.mk H
            clear H
            obtain ⟨Ao71, co71, eo71⟩ := Kd.R_slice HO_6.out
            subst eo71
            go_wp2_with (first | ((with_reducible refine gate_callee (f := 25) rfl ?_); refine goesL_ (some 116) rfl rfl Try.func25 (by kernel_rfl) rfl #[.slice Ao71 t235.length co71, .slice Ao40 t256.length co40] rfl (by (try simp only [List.map_toArray, List.map_cons, List.map_nil]); first | done | rfl | (simp only [List.length_drop, List.length_take]; rfl)) ?_; (with_reducible refine (galloonlaw06_ints.calls kj7 _ _ t235 _ _ t256 true _ ?side1 ?side2 ?side3 ?side4 A42.out).mono ?_); (case side1 => repeat (first | exact (Kd.R_reads' HO_6.out).2.2 | (with_reducible refine Kd.C_alloc ?_ _) | (with_reducible refine Kd.C_drewN ?_ _) | (with_reducible refine Kd.C_drew ?_))); (case side2 => exact (Kd.R_reads' HO_6.out).2.1); (case side3 => repeat (first | exact (Kd.R_reads' HO258.out).2.2 | (with_reducible refine Kd.C_alloc ?_ _) | (with_reducible refine Kd.C_drewN ?_ _) | (with_reducible refine Kd.C_drew ?_))); (case side4 => exact (Kd.R_reads' HO258.out).2.1); rintro e w' ⟨rfl, ⟨nd, rfl⟩⟩; refine ⟨_, rfl, ?_⟩) | (go_at_call 49; (with_reducible refine (galloonref06_Shifts.calls kj7 _ _ t256 t265 _ ?side1 ?side2 A48.out).mono ?_); (case side1 => repeat (first | exact (Kd.R_reads' HO258.out).2.2 | (with_reducible refine Kd.C_alloc ?_ _) | (with_reducible refine Kd.C_drewN ?_ _) | (with_reducible refine Kd.C_drew ?_))); (case side2 => exact (Kd.R_reads' HO258.out).2.1); rintro e w72 ⟨v266, rfl, ho0, hb⟩; have n0_ := Aside0.mk (Kd.R_elder' (by (with_reducible repeat (first | apply Kd.R_alloc | apply Kd.R_drewN | apply Kd.R_drew)); exact HO_5.out) (Kd.R_base ho0) hb); have n1_ := Aside0.mk (Kd.R_elder' (by (with_reducible repeat (first | apply Kd.R_alloc | apply Kd.R_drewN | apply Kd.R_drew)); exact HO_6.out) (Kd.R_base ho0) hb); have n2_ := Aside0.mk (Kd.R_elder' (by (with_reducible repeat (first | apply Kd.R_alloc | apply Kd.R_drewN | apply Kd.R_drew)); exact HO_11.out) (Kd.R_base ho0) hb); have n3_ := Aside0.mk (Kd.R_below (by (with_reducible repeat (first | apply Kd.R_alloc | apply Kd.R_drewN | apply Kd.R_drew)); exact HO_13.out) hb); have n4_ := Aside0.mk (Kd.S_elder' (by (with_reducible repeat (first | apply Kd.S_alloc | apply Kd.S_drewN | apply Kd.S_drew)); exact HO_14.out) (Kd.R_base ho0) hb); have n5_ := Aside0.mk (Kd.R_elder' (by (with_reducible repeat (first | apply Kd.R_alloc | apply Kd.R_drewN | apply Kd.R_drew)); exact HO258.out) (Kd.R_base ho0) hb); have n6_ := Aside0.mk (Kd.R_below (by (with_reducible repeat (first | apply Kd.R_alloc | apply Kd.R_drewN | apply Kd.R_drew)); exact HO263.out) hb); have n7_ := Aside0.mk (Kd.R_lower (Kd.R_new' (Kd.R_new' (Kd.R_new' (Kd.R_new' ho0 (Kd.R_lt (by (with_reducible repeat (first | apply Kd.R_alloc | apply Kd.R_drewN | apply Kd.R_drew)); exact HO_5.out))) (Kd.R_lt (by (with_reducible repeat (first | apply Kd.R_alloc | apply Kd.R_drewN | apply Kd.R_drew)); exact HO_6.out))) (Kd.R_lt (by (with_reducible repeat (first | apply Kd.R_alloc | apply Kd.R_drewN | apply Kd.R_drew)); exact HO_11.out))) (Kd.R_lt (by (with_reducible repeat (first | apply Kd.R_alloc | apply Kd.R_drewN | apply Kd.R_drew)); exact HO258.out))) (below_size (by repeat (first | (with_reducible first | exact HB.out | apply below_alloc | apply pw_below_drewN | apply below_drew1) | exact HB.out)))); have n8_ := Aside0.mk (below_step (by repeat (first | (with_reducible first | exact HB.out | apply below_alloc | apply pw_below_drewN | apply below_drew1) | exact HB.out)) hb); clear HO_5; clear HO_6; clear HO_11; clear HO_13; clear HO_14; clear HO258; clear HO263; clear HB; have HO_5 := n0_; have HO_6 := n1_; have HO_11 := n2_; have HO_13 := n3_; have HO_14 := n4_; have HO258 := n5_; have HO263 := n6_; have HO267 := n7_; have HB := n8_; clear n0_ n1_ n2_ n3_ n4_ n5_ n6_ n7_ n8_; (try clear hb); (try clear hb2); (try clear hk); (try clear hi); (try clear ho0); obtain ⟨Ao73, co73, eo73⟩ := Kd.R_slice HO_11.out; subst eo73; obtain ⟨Ao74, co74, eo74⟩ := Kd.R_slice HO267.out; subst eo74) | (go_at_call 25; (with_reducible refine (galloonlaw06_ints.calls kj7 _ _ t242 _ _ t265 true _ ?side1 ?side2 ?side3 ?side4 A49.out).mono ?_); (case side1 => repeat (first | exact (Kd.R_reads' HO_11.out).2.2 | (with_reducible refine Kd.C_alloc ?_ _) | (with_reducible refine Kd.C_drewN ?_ _) | (with_reducible refine Kd.C_drew ?_))); (case side2 => exact (Kd.R_reads' HO_11.out).2.1); (case side3 => repeat (first | exact (Kd.R_reads' HO267.out).2.2 | (with_reducible refine Kd.C_alloc ?_ _) | (with_reducible refine Kd.C_drewN ?_ _) | (with_reducible refine Kd.C_drew ?_))); (case side4 => exact (Kd.R_reads' HO267.out).2.1); rintro e w' ⟨rfl, ⟨nd, rfl⟩⟩))
            go_meet
            case rel => exact ⟨_, (true), (by first | rfl | (simp; done) | (simp [*]; done)), H', ⟨by have := HJ7.out; first | omega | exact Nat.le_refl _⟩, ⟨by (with_reducible repeat (first | apply Kd.R_alloc | apply Kd.R_drewN | apply Kd.R_drew)); exact Kd.R_mono HO_5.out (fun _ hk => trivial)⟩, ⟨by (with_reducible repeat (first | apply Kd.R_alloc | apply Kd.R_drewN | apply Kd.R_drew)); exact Kd.R_mono HO_13.out (fun _ hk => hk.2)⟩, ⟨by (with_reducible repeat (first | apply Kd.S_alloc | apply Kd.S_drewN | apply Kd.S_drew)); exact Kd.S_mono HO_14.out (fun _ hk => hk.1.1.1)⟩, ⟨by (with_reducible repeat (first | apply Kd.R_alloc | apply Kd.R_drewN | apply Kd.R_drew)); exact Kd.R_mono HO263.out (fun _ hk => hk.2)⟩, ⟨by repeat (first | (with_reducible first | exact HB.out | apply below_alloc | apply pw_below_drewN | apply below_drew1) | exact HB.out)⟩⟩
          ·
           replace c50 := Bool.eq_false_iff.mpr c50
           subst c50
           have H1 : (galloonlaw06_ShuffleValues.j1 kj7 t232 t246 t247 t261 true) = some r := by rw [if_neg (show ¬ (false = true) by decide)] at H; exact H
           clear H
           have H := H1
           clear H1
           have H' := Aside0.mk H
           clear H
           obtain ⟨Ao75, co75, eo75⟩ := Kd.R_slice HO_6.out
           subst eo75
           go_wp2_with (first | ((with_reducible refine gate_callee (f := 25) rfl ?_); refine goesL_ (some 116) rfl rfl Try.func25 (by kernel_rfl) rfl #[.slice Ao75 t235.length co75, .slice Ao40 t256.length co40] rfl (by (try simp only [List.map_toArray, List.map_cons, List.map_nil]); first | done | rfl | (simp only [List.length_drop, List.length_take]; rfl)) ?_; (with_reducible refine (galloonlaw06_ints.calls kj7 _ _ t235 _ _ t256 true _ ?side1 ?side2 ?side3 ?side4 A42.out).mono ?_); (case side1 => repeat (first | exact (Kd.R_reads' HO_6.out).2.2 | (with_reducible refine Kd.C_alloc ?_ _) | (with_reducible refine Kd.C_drewN ?_ _) | (with_reducible refine Kd.C_drew ?_))); (case side2 => exact (Kd.R_reads' HO_6.out).2.1); (case side3 => repeat (first | exact (Kd.R_reads' HO258.out).2.2 | (with_reducible refine Kd.C_alloc ?_ _) | (with_reducible refine Kd.C_drewN ?_ _) | (with_reducible refine Kd.C_drew ?_))); (case side4 => exact (Kd.R_reads' HO258.out).2.1); rintro e w' ⟨rfl, ⟨nd, rfl⟩⟩; refine ⟨_, rfl, ?_⟩) | (go_at_call 49; (with_reducible refine (galloonref06_Shifts.calls kj7 _ _ t256 t265 _ ?side1 ?side2 A48.out).mono ?_); (case side1 => repeat (first | exact (Kd.R_reads' HO258.out).2.2 | (with_reducible refine Kd.C_alloc ?_ _) | (with_reducible refine Kd.C_drewN ?_ _) | (with_reducible refine Kd.C_drew ?_))); (case side2 => exact (Kd.R_reads' HO258.out).2.1); rintro e w76 ⟨v266, rfl, ho0, hb⟩; have n0_ := Aside0.mk (Kd.R_elder' (by (with_reducible repeat (first | apply Kd.R_alloc | apply Kd.R_drewN | apply Kd.R_drew)); exact HO_5.out) (Kd.R_base ho0) hb); have n1_ := Aside0.mk (Kd.R_elder' (by (with_reducible repeat (first | apply Kd.R_alloc | apply Kd.R_drewN | apply Kd.R_drew)); exact HO_6.out) (Kd.R_base ho0) hb); have n2_ := Aside0.mk (Kd.R_elder' (by (with_reducible repeat (first | apply Kd.R_alloc | apply Kd.R_drewN | apply Kd.R_drew)); exact HO_11.out) (Kd.R_base ho0) hb); have n3_ := Aside0.mk (Kd.R_below (by (with_reducible repeat (first | apply Kd.R_alloc | apply Kd.R_drewN | apply Kd.R_drew)); exact HO_13.out) hb); have n4_ := Aside0.mk (Kd.S_elder' (by (with_reducible repeat (first | apply Kd.S_alloc | apply Kd.S_drewN | apply Kd.S_drew)); exact HO_14.out) (Kd.R_base ho0) hb); have n5_ := Aside0.mk (Kd.R_elder' (by (with_reducible repeat (first | apply Kd.R_alloc | apply Kd.R_drewN | apply Kd.R_drew)); exact HO258.out) (Kd.R_base ho0) hb); have n6_ := Aside0.mk (Kd.R_below (by (with_reducible repeat (first | apply Kd.R_alloc | apply Kd.R_drewN | apply Kd.R_drew)); exact HO263.out) hb); have n7_ := Aside0.mk (Kd.R_lower (Kd.R_new' (Kd.R_new' (Kd.R_new' (Kd.R_new' ho0 (Kd.R_lt (by (with_reducible repeat (first | apply Kd.R_alloc | apply Kd.R_drewN | apply Kd.R_drew)); exact HO_5.out))) (Kd.R_lt (by (with_reducible repeat (first | apply Kd.R_alloc | apply Kd.R_drewN | apply Kd.R_drew)); exact HO_6.out))) (Kd.R_lt (by (with_reducible repeat (first | apply Kd.R_alloc | apply Kd.R_drewN | apply Kd.R_drew)); exact HO_11.out))) (Kd.R_lt (by (with_reducible repeat (first | apply Kd.R_alloc | apply Kd.R_drewN | apply Kd.R_drew)); exact HO258.out))) (below_size (by repeat (first | (with_reducible first | exact HB.out | apply below_alloc | apply pw_below_drewN | apply below_drew1) | exact HB.out)))); have n8_ := Aside0.mk (below_step (by repeat (first | (with_reducible first | exact HB.out | apply below_alloc | apply pw_below_drewN | apply below_drew1) | exact HB.out)) hb); clear HO_5; clear HO_6; clear HO_11; clear HO_13; clear HO_14; clear HO258; clear HO263; clear HB; have HO_5 := n0_; have HO_6 := n1_; have HO_11 := n2_; have HO_13 := n3_; have HO_14 := n4_; have HO258 := n5_; have HO263 := n6_; have HO267 := n7_; have HB := n8_; clear n0_ n1_ n2_ n3_ n4_ n5_ n6_ n7_ n8_; (try clear hb); (try clear hb2); (try clear hk); (try clear hi); (try clear ho0); obtain ⟨Ao77, co77, eo77⟩ := Kd.R_slice HO_11.out; subst eo77; obtain ⟨Ao78, co78, eo78⟩ := Kd.R_slice HO267.out; subst eo78) | (go_at_call 25; (with_reducible refine (galloonlaw06_ints.calls kj7 _ _ t242 _ _ t265 false _ ?side1 ?side2 ?side3 ?side4 A49.out).mono ?_); (case side1 => repeat (first | exact (Kd.R_reads' HO_11.out).2.2 | (with_reducible refine Kd.C_alloc ?_ _) | (with_reducible refine Kd.C_drewN ?_ _) | (with_reducible refine Kd.C_drew ?_))); (case side2 => exact (Kd.R_reads' HO_11.out).2.1); (case side3 => repeat (first | exact (Kd.R_reads' HO267.out).2.2 | (with_reducible refine Kd.C_alloc ?_ _) | (with_reducible refine Kd.C_drewN ?_ _) | (with_reducible refine Kd.C_drew ?_))); (case side4 => exact (Kd.R_reads' HO267.out).2.1); rintro e w' ⟨rfl, ⟨nd, rfl⟩⟩))
           go_meet
           case rel => exact ⟨_, (true), (by first | rfl | (simp; done) | (simp [*]; done)), H', ⟨by have := HJ7.out; first | omega | exact Nat.le_refl _⟩, ⟨by (with_reducible repeat (first | apply Kd.R_alloc | apply Kd.R_drewN | apply Kd.R_drew)); exact Kd.R_mono HO_5.out (fun _ hk => trivial)⟩, ⟨by (with_reducible repeat (first | apply Kd.R_alloc | apply Kd.R_drewN | apply Kd.R_drew)); exact Kd.R_mono HO_13.out (fun _ hk => hk.2)⟩, ⟨by (with_reducible repeat (first | apply Kd.S_alloc | apply Kd.S_drewN | apply Kd.S_drew)); exact Kd.S_mono HO_14.out (fun _ hk => hk.1.1.1)⟩, ⟨by (with_reducible repeat (first | apply Kd.R_alloc | apply Kd.R_drewN | apply Kd.R_drew)); exact Kd.R_mono HO263.out (fun _ hk => hk.2)⟩, ⟨by repeat (first | (with_reducible first | exact HB.out | apply below_alloc | apply pw_below_drewN | apply below_drew1) | exact HB.out)⟩⟩
         ·
          rw [if_neg c47] at H
          have c47b0 : (t241 == 0) = false := beq_eq_false_iff_ne.mpr c47
          have c47b1 : (t241 != 0) = true := bne_iff_ne.mpr c47
          have H' := Aside0.mk H
          clear H
          obtain ⟨Ao79, co79, eo79⟩ := Kd.R_slice HO_6.out
          subst eo79
          go_wp2_with (first | ((with_reducible refine gate_callee (f := 25) rfl ?_); refine goesL_ (some 116) rfl rfl Try.func25 (by kernel_rfl) rfl #[.slice Ao79 t235.length co79, .slice Ao40 t256.length co40] rfl (by (try simp only [List.map_toArray, List.map_cons, List.map_nil]); first | done | rfl | (simp only [List.length_drop, List.length_take]; rfl)) ?_; (with_reducible refine (galloonlaw06_ints.calls kj7 _ _ t235 _ _ t256 true _ ?side1 ?side2 ?side3 ?side4 A42.out).mono ?_); (case side1 => repeat (first | exact (Kd.R_reads' HO_6.out).2.2 | (with_reducible refine Kd.C_alloc ?_ _) | (with_reducible refine Kd.C_drewN ?_ _) | (with_reducible refine Kd.C_drew ?_))); (case side2 => exact (Kd.R_reads' HO_6.out).2.1); (case side3 => repeat (first | exact (Kd.R_reads' HO258.out).2.2 | (with_reducible refine Kd.C_alloc ?_ _) | (with_reducible refine Kd.C_drewN ?_ _) | (with_reducible refine Kd.C_drew ?_))); (case side4 => exact (Kd.R_reads' HO258.out).2.1); rintro e w' ⟨rfl, ⟨nd, rfl⟩⟩; refine ⟨_, rfl, ?_⟩))
          go_meet
          case rel => exact ⟨_, (true), (by first | rfl | (simp; done) | (simp [*]; done)), H', ⟨by have := HJ7.out; first | omega | exact Nat.le_refl _⟩, ⟨by (with_reducible repeat (first | apply Kd.R_alloc | apply Kd.R_drewN | apply Kd.R_drew)); exact Kd.R_mono HO_5.out (fun _ hk => trivial)⟩, ⟨by (with_reducible repeat (first | apply Kd.R_alloc | apply Kd.R_drewN | apply Kd.R_drew)); exact Kd.R_mono HO_13.out (fun _ hk => hk.2)⟩, ⟨by (with_reducible repeat (first | apply Kd.S_alloc | apply Kd.S_drewN | apply Kd.S_drew)); exact Kd.S_mono HO_14.out (fun _ hk => hk.1.1)⟩, ⟨by (with_reducible repeat (first | apply Kd.R_alloc | apply Kd.R_drewN | apply Kd.R_drew)); exact Kd.R_mono HO263.out (fun _ hk => hk.2)⟩, ⟨by repeat (first | (with_reducible first | exact HB.out | apply below_alloc | apply pw_below_drewN | apply below_drew1) | exact HB.out)⟩⟩
        ·
         rw [if_neg c46] at H
         have c46b0 : (t240 == t260) = false := beq_eq_false_iff_ne.mpr c46
         have c46b1 : (t240 != t260) = true := bne_iff_ne.mpr c46
         have H' := Aside0.mk H
         clear H
         obtain ⟨Ao80, co80, eo80⟩ := Kd.R_slice HO_6.out
         subst eo80
         go_wp2_with (first | ((with_reducible refine gate_callee (f := 25) rfl ?_); refine goesL_ (some 116) rfl rfl Try.func25 (by kernel_rfl) rfl #[.slice Ao80 t235.length co80, .slice Ao40 t256.length co40] rfl (by (try simp only [List.map_toArray, List.map_cons, List.map_nil]); first | done | rfl | (simp only [List.length_drop, List.length_take]; rfl)) ?_; (with_reducible refine (galloonlaw06_ints.calls kj7 _ _ t235 _ _ t256 true _ ?side1 ?side2 ?side3 ?side4 A42.out).mono ?_); (case side1 => repeat (first | exact (Kd.R_reads' HO_6.out).2.2 | (with_reducible refine Kd.C_alloc ?_ _) | (with_reducible refine Kd.C_drewN ?_ _) | (with_reducible refine Kd.C_drew ?_))); (case side2 => exact (Kd.R_reads' HO_6.out).2.1); (case side3 => repeat (first | exact (Kd.R_reads' HO258.out).2.2 | (with_reducible refine Kd.C_alloc ?_ _) | (with_reducible refine Kd.C_drewN ?_ _) | (with_reducible refine Kd.C_drew ?_))); (case side4 => exact (Kd.R_reads' HO258.out).2.1); rintro e w' ⟨rfl, ⟨nd, rfl⟩⟩; refine ⟨_, rfl, ?_⟩))
         go_meet
         case rel => exact ⟨_, (true), (by first | rfl | (simp; done) | (simp [*]; done)), H', ⟨by have := HJ7.out; first | omega | exact Nat.le_refl _⟩, ⟨by (with_reducible repeat (first | apply Kd.R_alloc | apply Kd.R_drewN | apply Kd.R_drew)); exact Kd.R_mono HO_5.out (fun _ hk => trivial)⟩, ⟨by (with_reducible repeat (first | apply Kd.R_alloc | apply Kd.R_drewN | apply Kd.R_drew)); exact Kd.R_mono HO_13.out (fun _ hk => hk.2)⟩, ⟨by (with_reducible repeat (first | apply Kd.S_alloc | apply Kd.S_drewN | apply Kd.S_drew)); exact Kd.S_mono HO_14.out (fun _ hk => hk.1.1)⟩, ⟨by (with_reducible repeat (first | apply Kd.R_alloc | apply Kd.R_drewN | apply Kd.R_drew)); exact Kd.R_mono HO263.out (fun _ hk => hk.2)⟩, ⟨by repeat (first | (with_reducible first | exact HB.out | apply below_alloc | apply pw_below_drewN | apply below_drew1) | exact HB.out)⟩⟩
       ·
        rw [if_neg c45] at H
        have c45b0 : (t239 == t259) = false := beq_eq_false_iff_ne.mpr c45
        have c45b1 : (t239 != t259) = true := bne_iff_ne.mpr c45
        have H' := Aside0.mk H
        clear H
        obtain ⟨Ao81, co81, eo81⟩ := Kd.R_slice HO_6.out
        subst eo81
        go_wp2_with (first | ((with_reducible refine gate_callee (f := 25) rfl ?_); refine goesL_ (some 116) rfl rfl Try.func25 (by kernel_rfl) rfl #[.slice Ao81 t235.length co81, .slice Ao40 t256.length co40] rfl (by (try simp only [List.map_toArray, List.map_cons, List.map_nil]); first | done | rfl | (simp only [List.length_drop, List.length_take]; rfl)) ?_; (with_reducible refine (galloonlaw06_ints.calls kj7 _ _ t235 _ _ t256 true _ ?side1 ?side2 ?side3 ?side4 A42.out).mono ?_); (case side1 => repeat (first | exact (Kd.R_reads' HO_6.out).2.2 | (with_reducible refine Kd.C_alloc ?_ _) | (with_reducible refine Kd.C_drewN ?_ _) | (with_reducible refine Kd.C_drew ?_))); (case side2 => exact (Kd.R_reads' HO_6.out).2.1); (case side3 => repeat (first | exact (Kd.R_reads' HO258.out).2.2 | (with_reducible refine Kd.C_alloc ?_ _) | (with_reducible refine Kd.C_drewN ?_ _) | (with_reducible refine Kd.C_drew ?_))); (case side4 => exact (Kd.R_reads' HO258.out).2.1); rintro e w' ⟨rfl, ⟨nd, rfl⟩⟩; refine ⟨_, rfl, ?_⟩))
        go_meet
        case rel => exact ⟨_, (true), (by first | rfl | (simp; done) | (simp [*]; done)), H', ⟨by have := HJ7.out; first | omega | exact Nat.le_refl _⟩, ⟨by (with_reducible repeat (first | apply Kd.R_alloc | apply Kd.R_drewN | apply Kd.R_drew)); exact Kd.R_mono HO_5.out (fun _ hk => trivial)⟩, ⟨by (with_reducible repeat (first | apply Kd.R_alloc | apply Kd.R_drewN | apply Kd.R_drew)); exact Kd.R_mono HO_13.out (fun _ hk => hk.2)⟩, ⟨by (with_reducible repeat (first | apply Kd.S_alloc | apply Kd.S_drewN | apply Kd.S_drew)); exact Kd.S_mono HO_14.out (fun _ hk => hk.1.1)⟩, ⟨by (with_reducible repeat (first | apply Kd.R_alloc | apply Kd.R_drewN | apply Kd.R_drew)); exact Kd.R_mono HO263.out (fun _ hk => hk.2)⟩, ⟨by repeat (first | (with_reducible first | exact HB.out | apply below_alloc | apply pw_below_drewN | apply below_drew1) | exact HB.out)⟩⟩
      ·
       rw [if_neg c44] at H
       have c44b0 : (t236 == 0) = false := beq_eq_false_iff_ne.mpr c44
       have c44b1 : (t236 != 0) = true := bne_iff_ne.mpr c44
       (first | rw [c44b0] | (simp only [i64_w, i32_w]; rw [c44b0]) | skip)
       have H' := Aside0.mk H
       clear H
       obtain ⟨Ao82, co82, eo82⟩ := Kd.R_slice HO_6.out
       subst eo82
       go_wp2_with (first | ((with_reducible refine gate_callee (f := 25) rfl ?_); refine goesL_ (some 116) rfl rfl Try.func25 (by kernel_rfl) rfl #[.slice Ao82 t235.length co82, .slice Ao40 t256.length co40] rfl (by (try simp only [List.map_toArray, List.map_cons, List.map_nil]); first | done | rfl | (simp only [List.length_drop, List.length_take]; rfl)) ?_; (with_reducible refine (galloonlaw06_ints.calls kj7 _ _ t235 _ _ t256 true _ ?side1 ?side2 ?side3 ?side4 A42.out).mono ?_); (case side1 => repeat (first | exact (Kd.R_reads' HO_6.out).2.2 | (with_reducible refine Kd.C_alloc ?_ _) | (with_reducible refine Kd.C_drewN ?_ _) | (with_reducible refine Kd.C_drew ?_))); (case side2 => exact (Kd.R_reads' HO_6.out).2.1); (case side3 => repeat (first | exact (Kd.R_reads' HO258.out).2.2 | (with_reducible refine Kd.C_alloc ?_ _) | (with_reducible refine Kd.C_drewN ?_ _) | (with_reducible refine Kd.C_drew ?_))); (case side4 => exact (Kd.R_reads' HO258.out).2.1); rintro e w' ⟨rfl, ⟨nd, rfl⟩⟩; refine ⟨_, rfl, ?_⟩))
       go_meet
       case rel => exact ⟨_, (true), (by first | rfl | (simp; done) | (simp [*]; done)), H', ⟨by have := HJ7.out; first | omega | exact Nat.le_refl _⟩, ⟨by (with_reducible repeat (first | apply Kd.R_alloc | apply Kd.R_drewN | apply Kd.R_drew)); exact Kd.R_mono HO_5.out (fun _ hk => trivial)⟩, ⟨by (with_reducible repeat (first | apply Kd.R_alloc | apply Kd.R_drewN | apply Kd.R_drew)); exact Kd.R_mono HO_13.out (fun _ hk => hk.2)⟩, ⟨by (with_reducible repeat (first | apply Kd.S_alloc | apply Kd.S_drewN | apply Kd.S_drew)); exact Kd.S_mono HO_14.out (fun _ hk => hk.1.1)⟩, ⟨by (with_reducible repeat (first | apply Kd.R_alloc | apply Kd.R_drewN | apply Kd.R_drew)); exact Kd.R_mono HO263.out (fun _ hk => hk.2)⟩, ⟨by repeat (first | (with_reducible first | exact HB.out | apply below_alloc | apply pw_below_drewN | apply below_drew1) | exact HB.out)⟩⟩
     ·
      replace c43 := Bool.eq_false_iff.mpr c43
      subst c43
      have H1 : (galloonlaw06_ShuffleValues.j1 kj7 t232 t246 t247 t261 true) = some r := by rw [if_neg (show ¬ (false = true) by decide)] at H; exact H
      clear H
      have H := H1
      clear H1
      have H' := Aside0.mk H
      clear H
      obtain ⟨Ao83, co83, eo83⟩ := Kd.R_slice HO_6.out
      subst eo83
      go_wp2_with (first | ((with_reducible refine gate_callee (f := 25) rfl ?_); refine goesL_ (some 116) rfl rfl Try.func25 (by kernel_rfl) rfl #[.slice Ao83 t235.length co83, .slice Ao40 t256.length co40] rfl (by (try simp only [List.map_toArray, List.map_cons, List.map_nil]); first | done | rfl | (simp only [List.length_drop, List.length_take]; rfl)) ?_; (with_reducible refine (galloonlaw06_ints.calls kj7 _ _ t235 _ _ t256 false _ ?side1 ?side2 ?side3 ?side4 A42.out).mono ?_); (case side1 => repeat (first | exact (Kd.R_reads' HO_6.out).2.2 | (with_reducible refine Kd.C_alloc ?_ _) | (with_reducible refine Kd.C_drewN ?_ _) | (with_reducible refine Kd.C_drew ?_))); (case side2 => exact (Kd.R_reads' HO_6.out).2.1); (case side3 => repeat (first | exact (Kd.R_reads' HO258.out).2.2 | (with_reducible refine Kd.C_alloc ?_ _) | (with_reducible refine Kd.C_drewN ?_ _) | (with_reducible refine Kd.C_drew ?_))); (case side4 => exact (Kd.R_reads' HO258.out).2.1); rintro e w' ⟨rfl, ⟨nd, rfl⟩⟩; refine ⟨_, rfl, ?_⟩))
      go_meet
      case rel => exact ⟨_, (true), (by first | rfl | (simp; done) | (simp [*]; done)), H', ⟨by have := HJ7.out; first | omega | exact Nat.le_refl _⟩, ⟨by (with_reducible repeat (first | apply Kd.R_alloc | apply Kd.R_drewN | apply Kd.R_drew)); exact Kd.R_mono HO_5.out (fun _ hk => trivial)⟩, ⟨by (with_reducible repeat (first | apply Kd.R_alloc | apply Kd.R_drewN | apply Kd.R_drew)); exact Kd.R_mono HO_13.out (fun _ hk => hk.2)⟩, ⟨by (with_reducible repeat (first | apply Kd.S_alloc | apply Kd.S_drewN | apply Kd.S_drew)); exact Kd.S_mono HO_14.out (fun _ hk => hk.1.1)⟩, ⟨by (with_reducible repeat (first | apply Kd.R_alloc | apply Kd.R_drewN | apply Kd.R_drew)); exact Kd.R_mono HO263.out (fun _ hk => hk.2)⟩, ⟨by repeat (first | (with_reducible first | exact HB.out | apply below_alloc | apply pw_below_drewN | apply below_drew1) | exact HB.out)⟩⟩
    case rest =>
     as_aux_lemma =>
     clear HC38
     try clear c1
     try clear c2
     try clear p2
     try clear c3
     try clear c4
     try clear c5
     try clear c13
     try clear c16
     try clear c18
     try clear c19
     try clear c19b0
     try clear c19b1
     try clear c20
     try clear c20b0
     try clear c20b1
     try clear c21
     try clear c21b0
     try clear c21b1
     try clear c22
     try clear c22b0
     try clear c22b1
     try clear c23
     try clear c23b0
     try clear c23b1
     try clear c24
     try clear c24b0
     try clear c24b1
     try clear c25
     try clear c25b0
     try clear c25b1
     try clear c26
     try clear c26b0
     try clear c26b1
     try clear c27
     try clear c27b0
     try clear c27b1
     try clear c28
     try clear c28b0
     try clear c28b1
     try clear c29
     try clear c34
     try clear c35
     try clear c40
     try clear c41
     try clear c42
     try clear c43
     try clear c44
     try clear c44b0
     try clear c44b1
     try clear c45
     try clear c45b0
     try clear c45b1
     try clear c46
     try clear c46b0
     try clear c46b1
     try clear c47
     try clear c47b0
     try clear c47b1
     try clear c48
     try clear c50
     try clear c51
     try clear c51b0
     try clear c51b1
     try clear c52
     try clear c52b0
     try clear c52b1
     try clear c53
     try clear c53b0
     try clear c53b1
     try clear c53b2
     try clear p2
     obtain ⟨kq, x164_37, rfl, HA, HJ37, HO_5, HO_13, HO_14, HO_19, HB⟩ := hcut
     cases kq with
     | zero => exact absurd HA.out (by simp [galloonlaw06_ShuffleValues.j1])
     | succ kj37 =>
      have H := HA.out
      clear HA
      simp only [galloonlaw06_ShuffleValues.j1] at H
      by_cases c84 : x164_37 = true
      ·
       subst c84
       have H1 : (none) = some r := by rw [if_pos rfl] at H; exact H
       clear H
       have H := H1
       clear H1
       exact absurd H (by simp)
      ·
       replace c84 := Bool.eq_false_iff.mpr c84
       subst c84
       have H1 : (galloonlaw06_ShuffleValues.l0 kj37 t232 t246 t247 t261 0) = some r := by rw [if_neg (show ¬ (false = true) by decide)] at H; exact H
       clear H
       have H := H1
       clear H1
       have H' := Aside0.mk H
       clear H
       go_wp2
       go_loopg [20] kj37 (fun kq v20 w' => ∃ (x20_3 : Int), v20 = .int .i64 x20_3 ∧ Aside0 (galloonlaw06_ShuffleValues.l0 kq t232 t246 t247 t261 x20_3 = some r) ∧ Aside0 (kq ≤ kj37) ∧ Aside0 (Kd.R (Kd.int .i64) 3 w' w.heap.size (fun _ => True) (.slice Ao10 t232.length co10) t232) ∧ Aside0 (Kd.R k44 44 w' w.heap.size (fun k_ => some k_ ≠ (v262 : Value).ownBlock) v249 t246) ∧ Aside0 (Kd.S (Kd.slice 3 (Kd.int .i64)) 28 w' w.heap.size (fun k_ => some k_ ≠ ((.slice Ao10 t232.length co10) : Value).ownBlock) v251 t247) ∧ Aside0 (Kd.R k44 44 w' w.heap.size (fun k_ => some k_ ≠ (v249 : Value).ownBlock) v262 t261) ∧ Aside0 (Below w.heap.size w w'))
       case atStart => exact ⟨(0), (by first | rfl | (simp; done) | (simp [*]; done)), H', ⟨Nat.le_refl _⟩, ⟨by (with_reducible repeat (first | apply Kd.R_alloc | apply Kd.R_drewN | apply Kd.R_drew)); exact HO_5.out⟩, ⟨by (with_reducible repeat (first | apply Kd.R_alloc | apply Kd.R_drewN | apply Kd.R_drew)); exact HO_13.out⟩, ⟨by (with_reducible repeat (first | apply Kd.S_alloc | apply Kd.S_drewN | apply Kd.S_drew)); exact HO_14.out⟩, ⟨by (with_reducible repeat (first | apply Kd.R_alloc | apply Kd.R_drewN | apply Kd.R_drew)); exact HO_19.out⟩, ⟨by repeat (first | (with_reducible first | exact HB.out | apply below_alloc | apply pw_below_drewN | apply below_drew1) | exact HB.out)⟩⟩
       case round =>
        as_aux_lemma =>
        clear H'
        try clear c1
        try clear c2
        try clear p2
        try clear c3
        try clear c4
        try clear c5
        try clear c8
        try clear c13
        try clear c16
        try clear c18
        try clear c19
        try clear c19b0
        try clear c19b1
        try clear c20
        try clear c20b0
        try clear c20b1
        try clear c21
        try clear c21b0
        try clear c21b1
        try clear c22
        try clear c22b0
        try clear c22b1
        try clear c23
        try clear c23b0
        try clear c23b1
        try clear c24
        try clear c24b0
        try clear c24b1
        try clear c25
        try clear c25b0
        try clear c25b1
        try clear c26
        try clear c26b0
        try clear c26b1
        try clear c27
        try clear c27b0
        try clear c27b1
        try clear c28
        try clear c28b0
        try clear c28b1
        try clear c29
        try clear c34
        try clear c35
        try clear c40
        try clear c41
        try clear c42
        try clear c43
        try clear c44
        try clear c44b0
        try clear c44b1
        try clear c45
        try clear c45b0
        try clear c45b1
        try clear c46
        try clear c46b0
        try clear c46b1
        try clear c47
        try clear c47b0
        try clear c47b1
        try clear c48
        try clear c50
        try clear c51
        try clear c51b0
        try clear c51b1
        try clear c52
        try clear c52b0
        try clear c52b1
        try clear c53
        try clear c53b0
        try clear c53b1
        try clear c53b2
        try clear c84
        try clear p2
        obtain ⟨x20_3, rfl, HA, HK3, HO_5, HO_13, HO_14, HO_19, HB⟩ := hrel
        cases gk with
        | zero => exact absurd HA.out (by simp [galloonlaw06_ShuffleValues.l0])
        | succ k3 =>
         have H := HA.out
         clear HA
         simp only [galloonlaw06_ShuffleValues.l0] at H
         by_cases c85 : x20_3 < (t246.length : Int)
         ·
          rw [if_pos c85] at H
          have c85b0 : decide (x20_3 < (t246.length : Int)) = true := decide_eq_true c85
          clear c85
          by_cases c86 : 0 ≤ x20_3
          ·
           rw [if_pos c86] at H
           have c86b0 : decide (0 ≤ x20_3) = true := decide_eq_true c86
           clear c86
           by_cases c87 : x20_3 < (t261.length : Int)
           ·
            rw [if_pos c87] at H
            have c87b0 : decide (x20_3 < (t261.length : Int)) = true := decide_eq_true c87
            clear c87
            replace H := Option.bind_eq_some_iff.mp H
            obtain ⟨t272, A880, H⟩ := H
            replace H : (if (!(((rd_T44 t246 x20_3).f0) == ((rd_T44 t261 x20_3).f0)) || (!(((rd_T44 t246 x20_3).f1) == ((rd_T44 t261 x20_3).f1)))) = true then (none) else (if x20_3 < (t247.length : Int) then ((galloonref06_Reduced.f k3 t272 t232).bind fun t276 => ((galloonref06_Values.f k3 t272 t276).bind fun t279 => ((galloonlaw06_ints.f k3 (rd_L2 t247 x20_3) t279).bind fun t282 => (if t282 = true then (galloonlaw06_ShuffleValues.l0 k3 t232 t246 t247 t261 (wrap64 (x20_3 + 1))) else (none))))) else (none))) = some r := H
            have A88 := Aside0.mk A880
            clear A880
            by_cases c89 : (!(((rd_T44 t246 x20_3).f0) == ((rd_T44 t261 x20_3).f0)) || (!(((rd_T44 t246 x20_3).f1) == ((rd_T44 t261 x20_3).f1)))) = true
            ·
             rw [if_pos c89] at H
             exact absurd H (by simp)
            ·
             rw [if_neg c89] at H
             have c89b0 : (!(((rd_T44 t246 x20_3).f0) == ((rd_T44 t261 x20_3).f0)) || (!(((rd_T44 t246 x20_3).f1) == ((rd_T44 t261 x20_3).f1)))) = false := by simpa using c89
             clear c89
             by_cases c90 : x20_3 < (t247.length : Int)
             ·
              rw [if_pos c90] at H
              have c90b0 : decide (x20_3 < (t247.length : Int)) = true := decide_eq_true c90
              clear c90
              replace H := Option.bind_eq_some_iff.mp H
              obtain ⟨t276, A910, H⟩ := H
              replace H : ((galloonref06_Values.f k3 t272 t276).bind fun t279 => ((galloonlaw06_ints.f k3 (rd_L2 t247 x20_3) t279).bind fun t282 => (if t282 = true then (galloonlaw06_ShuffleValues.l0 k3 t232 t246 t247 t261 (wrap64 (x20_3 + 1))) else (none)))) = some r := H
              have A91 := Aside0.mk A910
              clear A910
              replace H := Option.bind_eq_some_iff.mp H
              obtain ⟨t279, A920, H⟩ := H
              replace H : ((galloonlaw06_ints.f k3 (rd_L2 t247 x20_3) t279).bind fun t282 => (if t282 = true then (galloonlaw06_ShuffleValues.l0 k3 t232 t246 t247 t261 (wrap64 (x20_3 + 1))) else (none))) = some r := H
              have A92 := Aside0.mk A920
              clear A920
              replace H := Option.bind_eq_some_iff.mp H
              obtain ⟨t282, A930, H⟩ := H
              replace H : (if t282 = true then (galloonlaw06_ShuffleValues.l0 k3 t232 t246 t247 t261 (wrap64 (x20_3 + 1))) else (none)) = some r := H
              have A93 := Aside0.mk A930
              clear A930
              by_cases c94 : t282 = true
              ·
               subst c94
               have H1 : (galloonlaw06_ShuffleValues.l0 k3 t232 t246 t247 t261 (wrap64 (x20_3 + 1))) = some r := by rw [if_pos rfl] at H; exact H
               clear H
               have H := H1
               clear H1
               have H' := Aside0.mk H
               clear H
               obtain ⟨Ao95, co95, eo95⟩ := Kd.R_slice HO_13.out
               subst eo95
               try go_wp2
               have n0_ := Aside0.mk (Kd.R_drew HO_5.out)
               have n1_ := Aside0.mk (Kd.R_drew HO_13.out)
               have n2_ := Aside0.mk (Kd.S_drew HO_14.out)
               have n3_ := Aside0.mk (Kd.R_drew HO_19.out)
               have n4_ := Aside0.mk (below_drew1 HB.out)
               clear HO_5
               clear HO_13
               clear HO_14
               clear HO_19
               clear HB
               have HO_5 := n0_
               have HO_13 := n1_
               have HO_14 := n2_
               have HO_19 := n3_
               have HB := n4_
               clear n0_ n1_ n2_ n3_ n4_
               obtain ⟨Ao97, co97, eo97⟩ := Kd.R_slice HO_19.out
               (first | subst eo97 | (injection eo97 with f1_ f2_ f3_; have f4_ := f1_.symm; have f5_ := f3_.symm; clear f1_ f2_ f3_; subst f4_; subst f5_))
               have p270 : 0 ≤ (x20_3 : Int) := of_decide_eq_true (by assumption)
               have q270 : x20_3 < (t261.length : Int) := of_decide_eq_true (by assumption)
               obtain ⟨ad270, e270, hx270_0, hx270_1⟩ := at_T44 (Kd.R_reads' HO_19.out).2.2 x20_3 p270 q270
               cases e270
               replace p270 := eq_true p270
               replace q270 := eq_true q270
               have p271 : 0 ≤ (x20_3 : Int) := of_decide_eq_true (by assumption)
               have q271 : x20_3 < (t261.length : Int) := of_decide_eq_true (by assumption)
               obtain ⟨ad271, e271, hx271_0, hx271_1⟩ := at_T44 (Kd.R_reads' HO_19.out).2.2 x20_3 p271 q271
               obtain rfl : ad270 = ad271 := (by injection e271)
               replace p271 := eq_true p271
               replace q271 := eq_true q271
               as_aux_lemma =>
               refine start_ (n := 12) (S := fun w' => w'.cell? (ad270.add ((x20_3).toNat * 2)) = some (.int .i64 ((rd_T44 t261 x20_3).f0)) ∧ w'.cell? ⟨(ad270.add ((x20_3).toNat * 2)).block, (ad270.add ((x20_3).toNat * 2)).off + 1, none⟩ = some (.int .i64 ((rd_T44 t261 x20_3).f1)) ∧ w'.cell? (ad270.add ((x20_3).toNat * 2)) = some (.int .i64 ((rd_T44 t261 x20_3).f0)) ∧ w'.cell? ⟨(ad270.add ((x20_3).toNat * 2)).block, (ad270.add ((x20_3).toNat * 2)).off + 1, none⟩ = some (.int .i64 ((rd_T44 t261 x20_3).f1))) (ds := []) #[false,false,false,false,false,false,false,false,false,false,false,false] (by kernel_rfl) rfl rfl ⟨hx270_0, hx270_1, hx271_0, hx271_1⟩ (fun hHeld => ?_); refine with_tabW galloonlaw06_ShuffleValues.tab16 galloonlaw06_ShuffleValues.bits16 (fun HT_ HW_ => ?_)
               generalize wr.drew = w96 at HO_5 HO_13 HO_14 HO_19 HB hx270_0 hx270_1 hx271_0 hx271_1 hHeld ⊢
               refine pure_ (i := 0) (N := some 171) (v := ?_) (a' := ?_) #[true,false,false,false,false,false,false,false,false,false,false,false] rfl rfl (any_of HT_.out (by kernel_rfl)) (fun _ _ _ h => h) (Or.inl ⟨by rfl, ?_⟩) ?_ ?_
               rotate_left
               ·
                intro w'
                go_simp
                with_reducible rfl
               rotate_left
               ·
                simp only [Act.put, Hand.s0_, List.set_cons_zero, Hand.s1_, i64_w, i32_w]
                rfl
               refine pure_ (i := 1) (N := some 172) (v := ?_) (a' := ?_) #[true,true,false,false,false,false,false,false,false,false,false,false] rfl rfl (any_of HT_.out (by kernel_rfl)) (fun _ _ _ h => h) (Or.inl ⟨by rfl, ?_⟩) ?_ ?_
               rotate_left
               ·
                intro w'
                go_simp
                with_reducible rfl
               rotate_left
               ·
                simp only [Act.put, Hand.s0_, List.set_cons_zero, Hand.s1_, i64_w, i32_w]
                rfl
               refine pure_ (i := 2) (N := some 173) (v := ?_) (a' := ?_) #[true,true,true,false,false,false,false,false,false,false,false,false] rfl rfl (any_of HT_.out (by kernel_rfl)) (fun _ _ _ h => h) (Or.inl ⟨by rfl, ?_⟩) ?_ ?_
               rotate_left
               ·
                intro w'
                go_simp
                with_reducible rfl
               rotate_left
               ·
                simp only [Act.put, Hand.s0_, List.set_cons_zero, Hand.s1_, i64_w, i32_w]
                rfl
               refine pure_ (i := 3) (N := some 174) (v := ?_) (a' := ?_) #[true,true,true,true,false,false,false,false,false,false,false,false] rfl rfl (any_of HT_.out (by kernel_rfl)) (fun _ _ _ h => h) (Or.inl ⟨by rfl, ?_⟩) ?_ ?_
               rotate_left
               ·
                intro w'
                go_simp
                with_reducible rfl
               rotate_left
               ·
                simp only [Act.put, Hand.s0_, List.set_cons_zero, Hand.s1_, i64_w, i32_w]
                rfl
               refine pure_ (i := 5) (N := some 176) (v := ?_) (a' := ?_) #[true,true,true,true,false,true,false,false,false,false,false,false] rfl rfl (any_of HT_.out (by kernel_rfl)) (fun _ _ _ h => h) (Or.inl ⟨by rfl, ?_⟩) ?_ ?_
               rotate_left
               ·
                intro w'
                go_simp
                with_reducible rfl
               rotate_left
               ·
                simp only [Act.put, Hand.s0_, List.set_cons_zero, Hand.s1_, i64_w, i32_w]
                rfl
               refine pure_ (i := 6) (N := some 177) (v := ?_) (a' := ?_) #[true,true,true,true,false,true,true,false,false,false,false,false] rfl rfl (any_of HT_.out (by kernel_rfl)) (fun _ _ _ h => h) (Or.inl ⟨by rfl, ?_⟩) ?_ ?_
               rotate_left
               ·
                intro w'
                go_simp
                with_reducible rfl
               rotate_left
               ·
                simp only [Act.put, Hand.s0_, List.set_cons_zero, Hand.s1_, i64_w, i32_w]
                rfl
               refine pure_ (i := 7) (N := some 178) (v := ?_) (a' := ?_) #[true,true,true,true,false,true,true,true,false,false,false,false] rfl rfl (any_of HT_.out (by kernel_rfl)) (fun _ _ _ h => h) (Or.inl ⟨by rfl, ?_⟩) ?_ ?_
               rotate_left
               ·
                intro w'
                go_simp
                with_reducible rfl
               rotate_left
               ·
                simp only [Act.put, Hand.s0_, List.set_cons_zero, Hand.s1_, i64_w, i32_w]
                rfl
               refine pure_ (i := 8) (N := some 179) (v := ?_) (a' := ?_) #[true,true,true,true,false,true,true,true,true,false,false,false] rfl rfl (any_of HT_.out (by kernel_rfl)) (fun _ _ _ h => h) (Or.inl ⟨by rfl, ?_⟩) ?_ ?_
               rotate_left
               ·
                intro w'
                go_simp
                with_reducible rfl
               rotate_left
               ·
                simp only [Act.put, Hand.s0_, List.set_cons_zero, Hand.s1_, i64_w, i32_w]
                rfl
               refine take_ (i := 4) (N := some 175) (v := ?_) (a' := ?_) #[true,true,true,true,true,true,true,true,true,false,false,false] rfl rfl (take_ofW HT_.out HW_.out (by kernel_rfl)) (fun _ _ _ h => h) (Or.inl ⟨by rfl, ?_⟩) hHeld ?_ ?_
               rotate_left
               ·
                rintro w' ⟨s0, s1, s2, s3⟩
                go_simp
                with_reducible rfl
               rotate_left
               ·
                simp only [Act.put, Hand.s0_, List.set_cons_zero, Hand.s1_, i64_w, i32_w]
                rfl
               refine take_ (i := 9) (N := some 180) (v := ?_) (a' := ?_) #[true,true,true,true,true,true,true,true,true,true,false,false] rfl rfl (take_ofW HT_.out HW_.out (by kernel_rfl)) (fun _ _ _ h => h) (Or.inl ⟨by rfl, ?_⟩) hHeld ?_ ?_
               rotate_left
               ·
                rintro w' ⟨s0, s1, s2, s3⟩
                go_simp
                with_reducible rfl
               rotate_left
               ·
                simp only [Act.put, Hand.s0_, List.set_cons_zero, Hand.s1_, i64_w, i32_w]
                rfl
               refine one_ (i := 10) (N := some 181) #[true,true,true,true,true,true,true,true,true,true,true,false] rfl rfl (one_of HT_.out (by kernel_rfl)) (by decide) (fun K hK => ?_)
               refine goes_ Try.func50 (by kernel_rfl) rfl #[.int .i64 ((rd_T44 t261 x20_3).f0), .int .i64 ((rd_T44 t261 x20_3).f1)] (by rfl) rfl rfl (by (try simp only [List.map_toArray, List.map_cons, List.map_nil]); first | done | rfl | (simp only [List.length_drop, List.length_take]; rfl)) ?_
               with_reducible refine (galloonref06_Power.calls k3 ((rd_T44 t261 x20_3).f0) ((rd_T44 t261 x20_3).f1) t272 _ A88.out).mono ?_
               rintro e w' ⟨rfl, ⟨nd, rfl⟩⟩
               refine ⟨_, rfl, ?_⟩
               refine hK.out _ _ ⟨hHeld.1, hHeld.2.1, hHeld.2.2.1, hHeld.2.2.2⟩ (fun hHeld => ?_)
               clear hK K
               refine norm_ (a' := ?_) ?_ ?_
               rotate_left
               ·
                show Act.put _ (some 181) _ = _
                simp only [Act.put, Hand.s0_, List.set_cons_zero, Hand.s1_, i64_w, i32_w]
                rfl
               refine pure_ (i := 11) (N := some 21) (v := ?_) (a' := ?_) #[true,true,true,true,true,true,true,true,true,true,true,true] rfl rfl (any_of HT_.out (by kernel_rfl)) (fun _ _ _ h => h) (Or.inl ⟨by rfl, ?_⟩) ?_ ?_
               rotate_left
               ·
                intro w'
                go_simp
                with_reducible rfl
               rotate_left
               ·
                simp only [Act.put, Hand.s0_, List.set_cons_zero, Hand.s1_, i64_w, i32_w]
                rfl
               refine done_ (done_of HT_.out (by kernel_rfl)) ?_
               try go_wp2
               (try (rw [drewN_self w96]; generalize hq_ : World.drewN w96 _ = w96; have n0_ : Aside0 (Kd.R k44 44 w96 w.heap.size (fun k_ => some k_ ≠ (.slice (some ad270) t261.length co97 : Value).ownBlock) (.slice Ao95 t246.length co95) t246) := ⟨by rw [← hq_]; exact (by (with_reducible repeat (first | apply Kd.R_alloc | apply Kd.R_drewN | apply Kd.R_drew)); exact HO_13.out)⟩; have n1_ : Aside0 (Kd.S (Kd.slice 3 (Kd.int .i64)) 28 w96 w.heap.size (fun k_ => some k_ ≠ (.slice Ao10 t232.length co10 : Value).ownBlock) v251 t247) := ⟨by rw [← hq_]; exact (by (with_reducible repeat (first | apply Kd.S_alloc | apply Kd.S_drewN | apply Kd.S_drew)); exact HO_14.out)⟩; have n2_ : Aside0 (Kd.R k44 44 w96 w.heap.size (fun k_ => some k_ ≠ (.slice Ao95 t246.length co95 : Value).ownBlock) (.slice (some ad270) t261.length co97) t261) := ⟨by rw [← hq_]; exact (by (with_reducible repeat (first | apply Kd.R_alloc | apply Kd.R_drewN | apply Kd.R_drew)); exact HO_19.out)⟩; have n3_ : Aside0 (Kd.R (Kd.int .i64) 3 w96 w.heap.size (fun _ => True) (.slice Ao10 t232.length co10) t232) := ⟨by rw [← hq_]; exact (by (with_reducible repeat (first | apply Kd.R_alloc | apply Kd.R_drewN | apply Kd.R_drew)); exact HO_5.out)⟩; have n4_ : Aside0 (Below w.heap.size w w96) := ⟨by rw [← hq_]; exact (by repeat (first | (with_reducible first | exact HB.out | apply below_alloc | apply pw_below_drewN | apply below_drew1) | exact HB.out))⟩; clear HO_13 HO_14 HO_19 HO_5 HB hq_; have HO_13 := n0_; have HO_14 := n1_; have HO_19 := n2_; have HO_5 := n3_; have HB := n4_; clear n0_ n1_ n2_ n3_ n4_))
               have n0_ := Aside0.mk (Kd.R_drew HO_5.out)
               have n1_ := Aside0.mk (Kd.R_drew HO_13.out)
               have n2_ := Aside0.mk (Kd.S_drew HO_14.out)
               have n3_ := Aside0.mk (Kd.R_drew HO_19.out)
               have n4_ := Aside0.mk (below_drew1 HB.out)
               clear HO_5
               clear HO_13
               clear HO_14
               clear HO_19
               clear HB
               have HO_5 := n0_
               have HO_13 := n1_
               have HO_14 := n2_
               have HO_19 := n3_
               have HB := n4_
               clear n0_ n1_ n2_ n3_ n4_
               have p273 : 0 ≤ (x20_3 : Int) := of_decide_eq_true (by assumption)
               have q273 : x20_3 < (t246.length : Int) := of_decide_eq_true (by assumption)
               obtain ⟨ad273, e273, hx273_0, hx273_1⟩ := at_T44 (Kd.R_reads' HO_13.out).2.2 x20_3 p273 q273
               cases e273
               replace p273 := eq_true p273
               replace q273 := eq_true q273
               have p274 : 0 ≤ (x20_3 : Int) := of_decide_eq_true (by assumption)
               have q274 : x20_3 < (t261.length : Int) := of_decide_eq_true (by assumption)
               obtain ⟨ad274, e274, hx274_0, hx274_1⟩ := at_T44 (Kd.R_reads' HO_19.out).2.2 x20_3 p274 q274
               obtain rfl : ad270 = ad274 := (by injection e274)
               replace p274 := eq_true p274
               replace q274 := eq_true q274
               obtain ⟨Ao99, co99, eo99⟩ := Kd.S_slice HO_14.out
               (first | subst eo99 | (injection eo99 with f1_ f2_ f3_; have f4_ := f1_.symm; have f5_ := f3_.symm; clear f1_ f2_ f3_; subst f4_; subst f5_))
               have p275 : 0 ≤ (x20_3 : Int) := of_decide_eq_true (by assumption)
               have q275 : x20_3 < (t247.length : Int) := of_decide_eq_true (by assumption)
               obtain ⟨ad275, A275_0, c275_0, e275, hx275_0, hl275_0, hi275_0⟩ := at_L2 (Kd.S_reads' HO_14.out).2.2 x20_3 p275 q275
               cases e275
               obtain ⟨ce275, hce275, hMe275, hcc275⟩ := Kd.S_get HO_14.out [] x20_3 p275 (by first | exact q275 | exact of_decide_eq_true (by assumption) | (have e_ := (Kd.S_reads' HO_14.out).1; omega))
               obtain ⟨ve275_0, rfl, ge275_0⟩ := hMe275
               have hv275_0 := hcc275 0 _ rfl
               rw [Nat.add_zero, show ((Kd.slice 3 (Kd.int .i64))).sz = 1 from rfl, Nat.mul_one] at hv275_0
               replace hv275_0 := Option.some.inj (hv275_0.symm.trans hx275_0)
               rw [hv275_0] at ge275_0
               have HL275_0 := Aside0.mk (show Kd.R (Kd.int .i64) 3 _ _ _ _ (rd_L2 t247 x20_3) from ge275_0)
               clear hv275_0 ge275_0
               clear hcc275 hce275
               have HR275_0 := Aside0.mk hi275_0
               have HC275_0 := Aside0.mk hl275_0
               clear hi275_0 hl275_0
               replace p275 := eq_true p275
               replace q275 := eq_true q275
               as_aux_lemma =>
               refine start_ (n := 22) (S := fun w' => w'.cell? (ad273.add ((x20_3).toNat * 2)) = some (.int .i64 ((rd_T44 t246 x20_3).f0)) ∧ w'.cell? ⟨(ad273.add ((x20_3).toNat * 2)).block, (ad273.add ((x20_3).toNat * 2)).off + 1, none⟩ = some (.int .i64 ((rd_T44 t246 x20_3).f1)) ∧ w'.cell? (ad270.add ((x20_3).toNat * 2)) = some (.int .i64 ((rd_T44 t261 x20_3).f0)) ∧ w'.cell? ⟨(ad270.add ((x20_3).toNat * 2)).block, (ad270.add ((x20_3).toNat * 2)).off + 1, none⟩ = some (.int .i64 ((rd_T44 t261 x20_3).f1)) ∧ w'.cell? (ad275.add (x20_3).toNat) = some (.slice A275_0 (rd_L2 t247 x20_3).length c275_0)) (ds := []) #[false,false,false,false,false,false,false,false,false,false,false,false,false,false,false,false,false,false,false,false,false,false] (by kernel_rfl) rfl rfl ⟨hx273_0, hx273_1, hx274_0, hx274_1, hx275_0⟩ (fun hHeld => ?_); refine with_tabW galloonlaw06_ShuffleValues.tab17 galloonlaw06_ShuffleValues.bits17 (fun HT_ HW_ => ?_)
               generalize w96.drew = w98 at HO_5 HO_13 HO_14 HO_19 HB HL275_0 HR275_0 hx273_0 hx273_1 hx274_0 hx274_1 hx275_0 hHeld ⊢
               refine pure_ (i := 0) (N := some 182) (v := ?_) (a' := ?_) #[true,false,false,false,false,false,false,false,false,false,false,false,false,false,false,false,false,false,false,false,false,false] rfl rfl (any_of HT_.out (by kernel_rfl)) (fun _ _ _ h => h) (Or.inl ⟨by rfl, ?_⟩) ?_ ?_
               rotate_left
               ·
                intro w'
                go_simp
                with_reducible rfl
               rotate_left
               ·
                simp only [Act.put, Hand.s0_, List.set_cons_zero, Hand.s1_, i64_w, i32_w]
                rfl
               refine pure_ (i := 1) (N := some 183) (v := ?_) (a' := ?_) #[true,true,false,false,false,false,false,false,false,false,false,false,false,false,false,false,false,false,false,false,false,false] rfl rfl (any_of HT_.out (by kernel_rfl)) (fun _ _ _ h => h) (Or.inl ⟨by rfl, ?_⟩) ?_ ?_
               rotate_left
               ·
                intro w'
                go_simp
                with_reducible rfl
               rotate_left
               ·
                simp only [Act.put, Hand.s0_, List.set_cons_zero, Hand.s1_, i64_w, i32_w]
                rfl
               refine pure_ (i := 2) (N := some 184) (v := ?_) (a' := ?_) #[true,true,true,false,false,false,false,false,false,false,false,false,false,false,false,false,false,false,false,false,false,false] rfl rfl (any_of HT_.out (by kernel_rfl)) (fun _ _ _ h => h) (Or.inl ⟨by rfl, ?_⟩) ?_ ?_
               rotate_left
               ·
                intro w'
                go_simp
                with_reducible rfl
               rotate_left
               ·
                simp only [Act.put, Hand.s0_, List.set_cons_zero, Hand.s1_, i64_w, i32_w]
                rfl
               refine pure_ (i := 4) (N := some 186) (v := ?_) (a' := ?_) #[true,true,true,false,true,false,false,false,false,false,false,false,false,false,false,false,false,false,false,false,false,false] rfl rfl (any_of HT_.out (by kernel_rfl)) (fun _ _ _ h => h) (Or.inl ⟨by rfl, ?_⟩) ?_ ?_
               rotate_left
               ·
                intro w'
                go_simp
                with_reducible rfl
               rotate_left
               ·
                simp only [Act.put, Hand.s0_, List.set_cons_zero, Hand.s1_, i64_w, i32_w]
                rfl
               refine pure_ (i := 5) (N := some 187) (v := ?_) (a' := ?_) #[true,true,true,false,true,true,false,false,false,false,false,false,false,false,false,false,false,false,false,false,false,false] rfl rfl (any_of HT_.out (by kernel_rfl)) (fun _ _ _ h => h) (Or.inl ⟨by rfl, ?_⟩) ?_ ?_
               rotate_left
               ·
                intro w'
                go_simp
                with_reducible rfl
               rotate_left
               ·
                simp only [Act.put, Hand.s0_, List.set_cons_zero, Hand.s1_, i64_w, i32_w]
                rfl
               refine pure_ (i := 6) (N := some 188) (v := ?_) (a' := ?_) #[true,true,true,false,true,true,true,false,false,false,false,false,false,false,false,false,false,false,false,false,false,false] rfl rfl (any_of HT_.out (by kernel_rfl)) (fun _ _ _ h => h) (Or.inl ⟨by rfl, ?_⟩) ?_ ?_
               rotate_left
               ·
                intro w'
                go_simp
                with_reducible rfl
               rotate_left
               ·
                simp only [Act.put, Hand.s0_, List.set_cons_zero, Hand.s1_, i64_w, i32_w]
                rfl
               refine take_ (i := 3) (N := some 185) (v := ?_) (a' := ?_) #[true,true,true,true,true,true,true,false,false,false,false,false,false,false,false,false,false,false,false,false,false,false] rfl rfl (take_ofW HT_.out HW_.out (by kernel_rfl)) (fun _ _ _ h => h) (Or.inl ⟨by rfl, ?_⟩) hHeld ?_ ?_
               rotate_left
               ·
                rintro w' ⟨s0, s1, s2, s3, s4⟩
                go_simp
                with_reducible rfl
               rotate_left
               ·
                simp only [Act.put, Hand.s0_, List.set_cons_zero, Hand.s1_, i64_w, i32_w]
                rfl
               refine take_ (i := 7) (N := some 189) (v := ?_) (a' := ?_) #[true,true,true,true,true,true,true,true,false,false,false,false,false,false,false,false,false,false,false,false,false,false] rfl rfl (take_ofW HT_.out HW_.out (by kernel_rfl)) (fun _ _ _ h => h) (Or.inl ⟨by rfl, ?_⟩) hHeld ?_ ?_
               rotate_left
               ·
                rintro w' ⟨s0, s1, s2, s3, s4⟩
                go_simp
                with_reducible rfl
               rotate_left
               ·
                simp only [Act.put, Hand.s0_, List.set_cons_zero, Hand.s1_, i64_w, i32_w]
                rfl
               refine pure_ (i := 8) (N := some 190) (v := ?_) (a' := ?_) #[true,true,true,true,true,true,true,true,true,false,false,false,false,false,false,false,false,false,false,false,false,false] rfl rfl (any_of HT_.out (by kernel_rfl)) (fun _ _ _ h => h) (Or.inl ⟨by rfl, ?_⟩) ?_ ?_
               rotate_left
               ·
                intro w'
                go_simp
                with_reducible rfl
               rotate_left
               ·
                simp only [Act.put, Hand.s0_, List.set_cons_zero, Hand.s1_, i64_w, i32_w]
                rfl
               refine pure_ (i := 9) (N := some 191) (v := ?_) (a' := ?_) #[true,true,true,true,true,true,true,true,true,true,false,false,false,false,false,false,false,false,false,false,false,false] rfl rfl (any_of HT_.out (by kernel_rfl)) (fun _ _ _ h => h) (Or.inl ⟨by rfl, ?_⟩) ?_ ?_
               rotate_left
               ·
                intro w'
                go_simp
                with_reducible rfl
               rotate_left
               ·
                simp only [Act.put, Hand.s0_, List.set_cons_zero, Hand.s1_, i64_w, i32_w]
                rfl
               refine pure_ (i := 10) (N := some 192) (v := ?_) (a' := ?_) #[true,true,true,true,true,true,true,true,true,true,true,false,false,false,false,false,false,false,false,false,false,false] rfl rfl (any_of HT_.out (by kernel_rfl)) (fun _ _ _ h => h) (Or.inl ⟨by rfl, ?_⟩) ?_ ?_
               rotate_left
               ·
                intro w'
                go_simp
                with_reducible rfl
               rotate_left
               ·
                simp only [Act.put, Hand.s0_, List.set_cons_zero, Hand.s1_, i64_w, i32_w]
                rfl
               refine pure_ (i := 11) (N := some 193) (v := ?_) (a' := ?_) #[true,true,true,true,true,true,true,true,true,true,true,true,false,false,false,false,false,false,false,false,false,false] rfl rfl (any_of HT_.out (by kernel_rfl)) (fun _ _ _ h => h) (Or.inl ⟨by rfl, ?_⟩) ?_ ?_
               rotate_left
               ·
                intro w'
                go_simp
                with_reducible rfl
               rotate_left
               ·
                simp only [Act.put, Hand.s0_, List.set_cons_zero, Hand.s1_, i64_w, i32_w]
                rfl
               refine pure_ (i := 12) (N := some 194) (v := ?_) (a' := ?_) #[true,true,true,true,true,true,true,true,true,true,true,true,true,false,false,false,false,false,false,false,false,false] rfl rfl (any_of HT_.out (by kernel_rfl)) (fun _ _ _ h => h) (Or.inl ⟨by rfl, ?_⟩) ?_ ?_
               rotate_left
               ·
                intro w'
                go_simp
                with_reducible rfl
               rotate_left
               ·
                simp only [Act.put, Hand.s0_, List.set_cons_zero, Hand.s1_, i64_w, i32_w]
                rfl
               refine pure_ (i := 14) (N := some 196) (v := ?_) (a' := ?_) #[true,true,true,true,true,true,true,true,true,true,true,true,true,false,true,false,false,false,false,false,false,false] rfl rfl (any_of HT_.out (by kernel_rfl)) (fun _ _ _ h => h) (Or.inl ⟨by rfl, ?_⟩) ?_ ?_
               rotate_left
               ·
                intro w'
                go_simp
                with_reducible rfl
               rotate_left
               ·
                simp only [Act.put, Hand.s0_, List.set_cons_zero, Hand.s1_, i64_w, i32_w]
                rfl
               refine pure_ (i := 15) (N := some 197) (v := ?_) (a' := ?_) #[true,true,true,true,true,true,true,true,true,true,true,true,true,false,true,true,false,false,false,false,false,false] rfl rfl (any_of HT_.out (by kernel_rfl)) (fun _ _ _ h => h) (Or.inl ⟨by rfl, ?_⟩) ?_ ?_
               rotate_left
               ·
                intro w'
                go_simp
                with_reducible rfl
               rotate_left
               ·
                simp only [Act.put, Hand.s0_, List.set_cons_zero, Hand.s1_, i64_w, i32_w]
                rfl
               refine pure_ (i := 16) (N := some 198) (v := ?_) (a' := ?_) #[true,true,true,true,true,true,true,true,true,true,true,true,true,false,true,true,true,false,false,false,false,false] rfl rfl (any_of HT_.out (by kernel_rfl)) (fun _ _ _ h => h) (Or.inl ⟨by rfl, ?_⟩) ?_ ?_
               rotate_left
               ·
                intro w'
                go_simp
                with_reducible rfl
               rotate_left
               ·
                simp only [Act.put, Hand.s0_, List.set_cons_zero, Hand.s1_, i64_w, i32_w]
                rfl
               refine take_ (i := 13) (N := some 195) (v := ?_) (a' := ?_) #[true,true,true,true,true,true,true,true,true,true,true,true,true,true,true,true,true,false,false,false,false,false] rfl rfl (take_ofW HT_.out HW_.out (by kernel_rfl)) (fun _ _ _ h => h) (Or.inl ⟨by rfl, ?_⟩) hHeld ?_ ?_
               rotate_left
               ·
                rintro w' ⟨s0, s1, s2, s3, s4⟩
                go_simp
                with_reducible rfl
               rotate_left
               ·
                simp only [Act.put, Hand.s0_, List.set_cons_zero, Hand.s1_, i64_w, i32_w]
                rfl
               refine one_ (i := 17) (N := some 199) #[true,true,true,true,true,true,true,true,true,true,true,true,true,true,true,true,true,true,false,false,false,false] rfl rfl (one_of HT_.out (by kernel_rfl)) (by decide) (fun K hK => ?_)
               refine goes_ Try.func51 (by kernel_rfl) rfl #[.int .i64 t272, .slice Ao10 t232.length co10] (by rfl) rfl rfl (by (try simp only [List.map_toArray, List.map_cons, List.map_nil]); first | done | rfl | (simp only [List.length_drop, List.length_take]; rfl)) ?_
               with_reducible refine (galloonref06_Reduced.calls k3 t272 _ _ t232 t276 _ ?side1 ?side2 A91.out).mono ?_
               (case side1 => repeat (first | exact (Kd.R_reads' HO_5.out).2.2 | (with_reducible refine Kd.C_alloc ?_ _) | (with_reducible refine Kd.C_drewN ?_ _) | (with_reducible refine Kd.C_drew ?_)))
               (case side2 => exact (Kd.R_reads' HO_5.out).2.1)
               rintro e w100 ⟨v277, rfl, ho0, hb⟩
               have HS0_ := (hb.cell (World.block_lt_of_cell? _ _ (hHeld.1))).trans (hHeld.1)
               have HS1_ := (hb.cell (World.block_lt_of_cell? _ _ (hHeld.2.1))).trans (hHeld.2.1)
               have HS2_ := (hb.cell (World.block_lt_of_cell? _ _ (hHeld.2.2.1))).trans (hHeld.2.2.1)
               have HS3_ := (hb.cell (World.block_lt_of_cell? _ _ (hHeld.2.2.2.1))).trans (hHeld.2.2.2.1)
               have HS4_ := (hb.cell (World.block_lt_of_cell? _ _ (hHeld.2.2.2.2))).trans (hHeld.2.2.2.2)
               refine ⟨_, rfl, ?_⟩
               have n0_ := Aside0.mk (Kd.R_elder' (by (with_reducible repeat (first | apply Kd.R_alloc | apply Kd.R_drewN | apply Kd.R_drew)); exact HO_5.out) (Kd.R_base ho0) hb)
               have n1_ := Aside0.mk (Kd.R_below (by (with_reducible repeat (first | apply Kd.R_alloc | apply Kd.R_drewN | apply Kd.R_drew)); exact HO_13.out) hb)
               have n2_ := Aside0.mk (Kd.S_elder' (by (with_reducible repeat (first | apply Kd.S_alloc | apply Kd.S_drewN | apply Kd.S_drew)); exact HO_14.out) (Kd.R_base ho0) hb)
               have n3_ := Aside0.mk (Kd.R_below (by (with_reducible repeat (first | apply Kd.R_alloc | apply Kd.R_drewN | apply Kd.R_drew)); exact HO_19.out) hb)
               have n4_ := Aside0.mk (Kd.R_elder' (by (with_reducible repeat (first | apply Kd.R_alloc | apply Kd.R_drewN | apply Kd.R_drew)); exact HL275_0.out) (Kd.R_base ho0) hb)
               have n5_ := Aside0.mk (Kd.R_lower (Kd.R_new' (Kd.R_new' ho0 (Kd.R_lt (by (with_reducible repeat (first | apply Kd.R_alloc | apply Kd.R_drewN | apply Kd.R_drew)); exact HO_5.out))) (Kd.R_lt (by (with_reducible repeat (first | apply Kd.R_alloc | apply Kd.R_drewN | apply Kd.R_drew)); exact HL275_0.out))) (below_size (by repeat (first | (with_reducible first | exact HB.out | apply below_alloc | apply pw_below_drewN | apply below_drew1) | exact HB.out))))
               have n6_ := Aside0.mk (Kd.C_below (by repeat (first | (with_reducible exact HR275_0.out) | (with_reducible refine Kd.C_alloc ?_ _) | (with_reducible refine Kd.C_drewN ?_ _) | (with_reducible refine Kd.C_drew ?_) | exact HR275_0.out)) hb)
               have n7_ := Aside0.mk (below_step (by repeat (first | (with_reducible first | exact HB.out | apply below_alloc | apply pw_below_drewN | apply below_drew1) | exact HB.out)) hb)
               clear HO_5
               clear HO_13
               clear HO_14
               clear HO_19
               clear HL275_0
               clear HR275_0
               clear HB
               have HO_5 := n0_
               have HO_13 := n1_
               have HO_14 := n2_
               have HO_19 := n3_
               have HL275_0 := n4_
               have HO278 := n5_
               have HR275_0 := n6_
               have HB := n7_
               clear n0_ n1_ n2_ n3_ n4_ n5_ n6_ n7_
               (try clear hb)
               (try clear hb2)
               (try clear hk)
               (try clear hi)
               (try clear ho0)
               obtain ⟨Ao101, co101, eo101⟩ := Kd.R_slice HO278.out
               (first | subst eo101 | (injection eo101 with f1_ f2_ f3_; have f4_ := f1_.symm; have f5_ := f3_.symm; clear f1_ f2_ f3_; subst f4_; subst f5_))
               refine hK.out _ _ ⟨HS0_, HS1_, HS2_, HS3_, HS4_⟩ (fun hHeld => ?_)
               clear hK K
               refine norm_ (a' := ?_) ?_ ?_
               rotate_left
               ·
                show Act.put _ (some 199) _ = _
                simp only [Act.put, Hand.s0_, List.set_cons_zero, Hand.s1_, i64_w, i32_w]
                rfl
               refine one_ (i := 18) (N := some 200) #[true,true,true,true,true,true,true,true,true,true,true,true,true,true,true,true,true,true,true,false,false,false] rfl rfl (one_of HT_.out (by kernel_rfl)) (by decide) (fun K hK => ?_)
               refine goes_ Try.func40 (by kernel_rfl) rfl #[.int .i64 t272, .slice Ao101 t276.length co101] (by rfl) rfl rfl (by (try simp only [List.map_toArray, List.map_cons, List.map_nil]); first | done | rfl | (simp only [List.length_drop, List.length_take]; rfl)) ?_
               with_reducible refine (galloonref06_Values.calls k3 t272 _ _ t276 t279 _ ?side1 ?side2 A92.out).mono ?_
               (case side1 => repeat (first | exact (Kd.R_reads' HO278.out).2.2 | (with_reducible refine Kd.C_alloc ?_ _) | (with_reducible refine Kd.C_drewN ?_ _) | (with_reducible refine Kd.C_drew ?_)))
               (case side2 => exact (Kd.R_reads' HO278.out).2.1)
               rintro e w102 ⟨v280, rfl, ho0, hb⟩
               have HS0_ := (hb.cell (World.block_lt_of_cell? _ _ (hHeld.1))).trans (hHeld.1)
               have HS1_ := (hb.cell (World.block_lt_of_cell? _ _ (hHeld.2.1))).trans (hHeld.2.1)
               have HS2_ := (hb.cell (World.block_lt_of_cell? _ _ (hHeld.2.2.1))).trans (hHeld.2.2.1)
               have HS3_ := (hb.cell (World.block_lt_of_cell? _ _ (hHeld.2.2.2.1))).trans (hHeld.2.2.2.1)
               have HS4_ := (hb.cell (World.block_lt_of_cell? _ _ (hHeld.2.2.2.2))).trans (hHeld.2.2.2.2)
               refine ⟨_, rfl, ?_⟩
               have n0_ := Aside0.mk (Kd.R_elder' (by (with_reducible repeat (first | apply Kd.R_alloc | apply Kd.R_drewN | apply Kd.R_drew)); exact HO_5.out) (Kd.R_base ho0) hb)
               have n1_ := Aside0.mk (Kd.R_below (by (with_reducible repeat (first | apply Kd.R_alloc | apply Kd.R_drewN | apply Kd.R_drew)); exact HO_13.out) hb)
               have n2_ := Aside0.mk (Kd.S_elder' (by (with_reducible repeat (first | apply Kd.S_alloc | apply Kd.S_drewN | apply Kd.S_drew)); exact HO_14.out) (Kd.R_base ho0) hb)
               have n3_ := Aside0.mk (Kd.R_below (by (with_reducible repeat (first | apply Kd.R_alloc | apply Kd.R_drewN | apply Kd.R_drew)); exact HO_19.out) hb)
               have n4_ := Aside0.mk (Kd.R_elder' (by (with_reducible repeat (first | apply Kd.R_alloc | apply Kd.R_drewN | apply Kd.R_drew)); exact HL275_0.out) (Kd.R_base ho0) hb)
               have n5_ := Aside0.mk (Kd.R_elder' (by (with_reducible repeat (first | apply Kd.R_alloc | apply Kd.R_drewN | apply Kd.R_drew)); exact HO278.out) (Kd.R_base ho0) hb)
               have n6_ := Aside0.mk (Kd.R_lower (Kd.R_new' (Kd.R_new' (Kd.R_new' ho0 (Kd.R_lt (by (with_reducible repeat (first | apply Kd.R_alloc | apply Kd.R_drewN | apply Kd.R_drew)); exact HO_5.out))) (Kd.R_lt (by (with_reducible repeat (first | apply Kd.R_alloc | apply Kd.R_drewN | apply Kd.R_drew)); exact HL275_0.out))) (Kd.R_lt (by (with_reducible repeat (first | apply Kd.R_alloc | apply Kd.R_drewN | apply Kd.R_drew)); exact HO278.out))) (below_size (by repeat (first | (with_reducible first | exact HB.out | apply below_alloc | apply pw_below_drewN | apply below_drew1) | exact HB.out))))
               have n7_ := Aside0.mk (Kd.C_below (by repeat (first | (with_reducible exact HR275_0.out) | (with_reducible refine Kd.C_alloc ?_ _) | (with_reducible refine Kd.C_drewN ?_ _) | (with_reducible refine Kd.C_drew ?_) | exact HR275_0.out)) hb)
               have n8_ := Aside0.mk (below_step (by repeat (first | (with_reducible first | exact HB.out | apply below_alloc | apply pw_below_drewN | apply below_drew1) | exact HB.out)) hb)
               clear HO_5
               clear HO_13
               clear HO_14
               clear HO_19
               clear HL275_0
               clear HO278
               clear HR275_0
               clear HB
               have HO_5 := n0_
               have HO_13 := n1_
               have HO_14 := n2_
               have HO_19 := n3_
               have HL275_0 := n4_
               have HO278 := n5_
               have HO281 := n6_
               have HR275_0 := n7_
               have HB := n8_
               clear n0_ n1_ n2_ n3_ n4_ n5_ n6_ n7_ n8_
               (try clear hb)
               (try clear hb2)
               (try clear hk)
               (try clear hi)
               (try clear ho0)
               obtain ⟨Ao103, co103, eo103⟩ := Kd.R_slice HO281.out
               (first | subst eo103 | (injection eo103 with f1_ f2_ f3_; have f4_ := f1_.symm; have f5_ := f3_.symm; clear f1_ f2_ f3_; subst f4_; subst f5_))
               refine hK.out _ _ ⟨HS0_, HS1_, HS2_, HS3_, HS4_⟩ (fun hHeld => ?_)
               clear hK K
               refine norm_ (a' := ?_) ?_ ?_
               rotate_left
               ·
                show Act.put _ (some 200) _ = _
                simp only [Act.put, Hand.s0_, List.set_cons_zero, Hand.s1_, i64_w, i32_w]
                rfl
               refine one_ (i := 19) (N := some 201) #[true,true,true,true,true,true,true,true,true,true,true,true,true,true,true,true,true,true,true,true,false,false] rfl rfl (one_of HT_.out (by kernel_rfl)) (by decide) (fun K hK => ?_)
               refine goes_ Try.func25 (by kernel_rfl) rfl #[.slice A275_0 (rd_L2 t247 x20_3).length c275_0, .slice Ao103 t279.length co103] (by rfl) rfl rfl (by (try simp only [List.map_toArray, List.map_cons, List.map_nil]); first | done | rfl | (simp only [List.length_drop, List.length_take]; rfl)) ?_
               with_reducible refine (galloonlaw06_ints.calls k3 _ _ (rd_L2 t247 x20_3) _ _ t279 true _ ?side1 ?side2 ?side3 ?side4 A93.out).mono ?_
               (case side1 => repeat (first | exact (by repeat (first | (with_reducible exact HR275_0.out) | (with_reducible refine Kd.C_alloc ?_ _) | (with_reducible refine Kd.C_drewN ?_ _) | (with_reducible refine Kd.C_drew ?_) | exact HR275_0.out)) | (with_reducible refine Kd.C_alloc ?_ _) | (with_reducible refine Kd.C_drewN ?_ _) | (with_reducible refine Kd.C_drew ?_)))
               (case side2 => exact HC275_0.out)
               (case side3 => repeat (first | exact (Kd.R_reads' HO281.out).2.2 | (with_reducible refine Kd.C_alloc ?_ _) | (with_reducible refine Kd.C_drewN ?_ _) | (with_reducible refine Kd.C_drew ?_)))
               (case side4 => exact (Kd.R_reads' HO281.out).2.1)
               rintro e w' ⟨rfl, ⟨nd, rfl⟩⟩
               refine ⟨_, rfl, ?_⟩
               refine hK.out _ _ ⟨hHeld.1, hHeld.2.1, hHeld.2.2.1, hHeld.2.2.2.1, hHeld.2.2.2.2⟩ (fun hHeld => ?_)
               clear hK K
               refine norm_ (a' := ?_) ?_ ?_
               rotate_left
               ·
                show Act.put _ (some 201) _ = _
                simp only [Act.put, Hand.s0_, List.set_cons_zero, Hand.s1_, i64_w, i32_w]
                rfl
               refine pure_ (i := 20) (N := some 202) (v := ?_) (a' := ?_) #[true,true,true,true,true,true,true,true,true,true,true,true,true,true,true,true,true,true,true,true,true,false] rfl rfl (any_of HT_.out (by kernel_rfl)) (fun _ _ _ h => h) (Or.inl ⟨by rfl, ?_⟩) ?_ ?_
               rotate_left
               ·
                intro w'
                go_simp
                with_reducible rfl
               rotate_left
               ·
                simp only [Act.put, Hand.s0_, List.set_cons_zero, Hand.s1_, i64_w, i32_w]
                rfl
               refine pure_ (i := 21) (N := some 203) (v := ?_) (a' := ?_) #[true,true,true,true,true,true,true,true,true,true,true,true,true,true,true,true,true,true,true,true,true,true] rfl rfl (any_of HT_.out (by kernel_rfl)) (fun _ _ _ h => h) (Or.inl ⟨by rfl, ?_⟩) ?_ ?_
               rotate_left
               ·
                intro w'
                go_simp
                with_reducible rfl
               rotate_left
               ·
                simp only [Act.put, Hand.s0_, List.set_cons_zero, Hand.s1_, i64_w, i32_w]
                rfl
               refine done_ (done_of HT_.out (by kernel_rfl)) ?_
               try go_wp2
               go_roundg k3
               case measure => have := HJ7.out; have := HJ37.out; have := HK3.out; omega
               case rel => exact ⟨(wrap64 (x20_3 + 1)), (by first | rfl | (simp; done) | (simp [*]; done)), H', ⟨by have := HJ7.out; have := HJ37.out; have := HK3.out; omega⟩, ⟨by (with_reducible repeat (first | apply Kd.R_alloc | apply Kd.R_drewN | apply Kd.R_drew)); exact Kd.R_mono HO_5.out (fun _ hk => trivial)⟩, ⟨by (with_reducible repeat (first | apply Kd.R_alloc | apply Kd.R_drewN | apply Kd.R_drew)); exact HO_13.out⟩, ⟨by (with_reducible repeat (first | apply Kd.S_alloc | apply Kd.S_drewN | apply Kd.S_drew)); exact Kd.S_mono HO_14.out (fun _ hk => hk.1.1)⟩, ⟨by (with_reducible repeat (first | apply Kd.R_alloc | apply Kd.R_drewN | apply Kd.R_drew)); exact HO_19.out⟩, ⟨by repeat (first | (with_reducible first | exact HB.out | apply below_alloc | apply pw_below_drewN | apply below_drew1) | exact HB.out)⟩⟩
              ·
               replace c94 := Bool.eq_false_iff.mpr c94
               subst c94
               have H1 : (none) = some r := by rw [if_neg (show ¬ (false = true) by decide)] at H; exact H
               clear H
               have H := H1
               clear H1
               exact absurd H (by simp)
             ·
              rw [if_neg c90] at H
              exact absurd H (by simp)
           ·
            rw [if_neg c87] at H
            exact absurd H (by simp)
          ·
           rw [if_neg c86] at H
           exact absurd H (by simp)
         ·
          rw [if_neg c85] at H
          have c85b0 : decide (x20_3 < (t246.length : Int)) = false := decide_eq_false c85
          (first | (simp only [hl275_0] at c85b0) | skip)
          clear c85
          replace H := Option.bind_eq_some_iff.mp H
          obtain ⟨t269, A1040, H⟩ := H
          replace H : (some t269) = some r := H
          have A104 := Aside0.mk A1040
          clear A1040
          obtain rfl := Option.some.inj H
          obtain ⟨Ao105, co105, eo105⟩ := Kd.R_slice HO_13.out
          subst eo105
          go_wp2_with (first | ((with_reducible refine gate_callee (f := 19) rfl ?_); refine goesL_ (some 204) rfl rfl Try.func19 (by kernel_rfl) rfl #[] rfl (by (try simp only [List.map_toArray, List.map_cons, List.map_nil]); first | done | rfl | (simp only [List.length_drop, List.length_take]; rfl)) ?_; (with_reducible refine (galloonlaw06_awake.calls k3  t269 _ A104.out).mono ?_); rintro e w106 ⟨rfl, hb⟩; refine ⟨_, rfl, ?_⟩; have n0_ := Aside0.mk (Kd.R_below (by (with_reducible repeat (first | apply Kd.R_alloc | apply Kd.R_drewN | apply Kd.R_drew)); exact HO_5.out) hb); have n1_ := Aside0.mk (Kd.R_below (by (with_reducible repeat (first | apply Kd.R_alloc | apply Kd.R_drewN | apply Kd.R_drew)); exact HO_13.out) hb); have n2_ := Aside0.mk (Kd.S_below (by (with_reducible repeat (first | apply Kd.S_alloc | apply Kd.S_drewN | apply Kd.S_drew)); exact HO_14.out) hb); have n3_ := Aside0.mk (Kd.R_below (by (with_reducible repeat (first | apply Kd.R_alloc | apply Kd.R_drewN | apply Kd.R_drew)); exact HO_19.out) hb); have n4_ := Aside0.mk (below_step (by repeat (first | (with_reducible first | exact HB.out | apply below_alloc | apply pw_below_drewN | apply below_drew1) | exact HB.out)) hb); clear HO_5; clear HO_13; clear HO_14; clear HO_19; clear HB; have HO_5 := n0_; have HO_13 := n1_; have HO_14 := n2_; have HO_19 := n3_; have HB := n4_; clear n0_ n1_ n2_ n3_ n4_; (try clear hb); (try clear hb2); (try clear hk); (try clear hi)))
          go_ret
          exact ⟨by first | rfl | (simp [errW_none, errW_some] <;> rfl) | (simp [*, errW_none, errW_some] <;> rfl), by repeat (first | (with_reducible first | exact HB.out | apply below_alloc | apply pw_below_drewN | apply below_drew1) | exact HB.out)⟩

/-- THE ONE PURE STATEMENT of galloonlaw06_ShuffleValues: yours. -/
def galloonlaw06_ShuffleValues.Pure : Prop := ∀ (a0 : Int) (l1 : List Int), (Lit.int .i64 a0).wf = true → l1.length ≤ maxLen → l1.length * 8 ≤ 140737488351232 → (∀ x ∈ l1, (Lit.int .i64 x).wf = true) → ∃ k, galloonlaw06_ShuffleValues.f k a0 l1 = some true
theorem galloonlaw06_ShuffleValues.walk (P : galloonlaw06_ShuffleValues.Pure) (a0 : Int) (a1 : Option Addr) (len1 cap1 : Nat) (z1 : List Int) (w : World) (w0 : (Lit.int .i64 a0).wf = true) (w1 : (a1 = none ∧ len1 = 0 ∧ cap1 = 0 ∧ z1 = []) ∨ ∃ x, a1 = some x ∧ len1 ≤ cap1 ∧ cap1 ≤ maxLen ∧ z1.length = cap1 ∧ (∀ i, i < z1.length → w.cell? (x.add i) = some (.int .i64 (z1.getD i 0))) ∧ ∀ n ∈ z1, (Lit.int .i64 n).wf = true) (y1 : len1 * 8 ≤ 140737488351232) :
  Calls Try.prog 13 #[.int .i64 a0, .slice a1 len1 cap1] w fun e w' => e = .returned (.bool true) ∧ Below w.heap.size w w' := by
 obtain ⟨l1, rfl, hr1, hm1, hw1, hc1⟩ := ReadsInt.ofRowC w1
 obtain ⟨k, h⟩ := P a0 l1 w0 hm1 y1 hw1
 refine (galloonlaw06_ShuffleValues.calls k a0 _ _ l1 true w (Kd.C_of_reads (d := (0 : Int)) (h1 := fun _ => rfl) hr1) hc1 h).mono ?_
 rintro e w' ⟨rfl, hd⟩
 exact ⟨rfl, hd⟩

/-! ### galloonlaw06_mod: function 15 -/
def galloonlaw06_mod.f (a0 : Int) (a1 : Int) : Option (Int) := if (IntKind.u64.wrap (a1)) = 0 then (none) else (some (wrap64 (Int.tmod (IntKind.u64.wrap (a0)) (IntKind.u64.wrap (a1)))))
set_option maxHeartbeats 8000000 in
set_option maxRecDepth 100000 in
theorem galloonlaw06_mod.calls (a0 : Int) (a1 : Int) (r : Int) (w : World) (h : galloonlaw06_mod.f a0 a1 = some r) :
  Calls Try.prog 15 #[.int .i64 a0, .int .i64 a1] w fun e w' => e = .returned (.int .i64 r) ∧ Drawn0 w w' := by
 have H : (if (IntKind.u64.wrap (a1)) = 0 then (none) else (some (wrap64 (Int.tmod (IntKind.u64.wrap (a0)) (IntKind.u64.wrap (a1)))))) = some r := h
 clear h
 by_cases c3 : (IntKind.u64.wrap (a1)) = 0
 ·
  rw [if_pos c3] at H
  exact absurd H (by simp)
 ·
  rw [if_neg c3] at H
  have c3b0 : ((IntKind.u64.wrap (a1)) == 0) = false := beq_eq_false_iff_ne.mpr c3
  have c3b1 : ((IntKind.u64.wrap (a1)) != 0) = true := bne_iff_ne.mpr c3
  obtain rfl := Option.some.inj H
  go_enter Try.func15, Try.ntmps15
  go_wp2
  go_ret
  exact ⟨by first | rfl | (simp; done) | (simp [*]; done), by repeat (first | exact Drawn0.refl _ | apply Drawn0.step)⟩

/-! ### galloonlaw06_tame: function 21 -/
def galloonlaw06_tame.l0 : Nat → Int → List Int → List Int → Int → Option (List Int)
 | 0, _, _, _, _ => none
 | k + 1, x0, x1, x5, x6 => if x6 < (x1.length : Int) then (if x6 < 12 then (if 0 ≤ x6 then ((galloonlaw06_mod.f (rd x1 x6) x0).bind fun t284 => (if x5.length < 17592186044416 then (galloonlaw06_tame.l0 k x0 x1 (x5 ++ [t284]) (wrap64 (x6 + 1))) else (none))) else (none)) else (some x5)) else (some x5)
def galloonlaw06_tame.f (k : Nat) (a0 : Int) (l1 : List Int) : Option (List Int) := galloonlaw06_tame.l0 k a0 l1 ([] : List Int) 0
theorem galloonlaw06_tame.mono_l : ∀ k, (∀ y0 y1 y2 y3, LeO (galloonlaw06_tame.l0 k y0 y1 y2 y3) (galloonlaw06_tame.l0 (k + 1) y0 y1 y2 y3))
 | 0 => fun _ _ _ _ r h => by simp [galloonlaw06_tame.l0] at h
 | k + 1 => by
  have ih0 := galloonlaw06_tame.mono_l k
  ·
   intro y0 y1 y2 y3
   unfold galloonlaw06_tame.l0
   repeat' first
   | (with_reducible exact ih0 _ _ _ _)
   | (with_reducible exact LeO.refl _)
   | (with_reducible exact LeO.none _)
   | (with_reducible refine LeO.ite ?_ ?_)
   | (with_reducible refine LeO.bind ?_ (fun _ => ?_))
   | exact ih0 _ _ _ _
   | exact LeO.none _
   | refine LeO.ite ?_ ?_
   | refine LeO.bind ?_ (fun _ => ?_)
theorem galloonlaw06_tame.mono : ∀ a0 a1 k, LeO (galloonlaw06_tame.f k a0 a1) (galloonlaw06_tame.f (k + 1) a0 a1) := by
 intro a0 a1 k
 have ih0 := galloonlaw06_tame.mono_l k
 unfold galloonlaw06_tame.f
 repeat' first
   | (with_reducible exact ih0 _ _ _ _)
   | (with_reducible exact LeO.refl _)
   | (with_reducible exact LeO.none _)
   | (with_reducible refine LeO.ite ?_ ?_)
   | (with_reducible refine LeO.bind ?_ (fun _ => ?_))
   | exact ih0 _ _ _ _
   | exact LeO.none _
   | refine LeO.ite ?_ ?_
   | refine LeO.bind ?_ (fun _ => ?_)
set_option maxHeartbeats 8000000 in
set_option maxRecDepth 100000 in
theorem galloonlaw06_tame.calls (k : Nat) (a0 : Int) (A1 : Option Addr) (c1 : Nat) (l1 : List Int) (r : List Int) (w : World) (hr1 : Kd.C (Kd.int .i64) w A1 l1.length l1) (hc1 : l1.length ≤ c1) (h : galloonlaw06_tame.f k a0 l1 = some r) :
  Calls Try.prog 21 #[.int .i64 a0, .slice A1 l1.length c1] w fun e w' => ∃ v0_ : Value, e = .returned (v0_) ∧ Kd.R (Kd.int .i64) 3 w' w.heap.size (fun _ => True) v0_ r ∧ Below w.heap.size w w' := by
 have HR1 := Aside0.mk hr1
 have HC1 := Aside0.mk hc1
 clear hr1 hc1
 have HB := Aside0.mk (Below.refl w.heap.size w)
 have H : (galloonlaw06_tame.l0 k a0 l1 ([] : List Int) 0) = some r := h
 clear h
 have H' := Aside0.mk H
 clear H
 go_enter Try.func21, Try.ntmps21
 go_wp2
 go_loopg [5, 6] k (fun kq v5 v6 w' => ∃ (x5_1 : List Int) (x6_1 : Int), v6 = .int .i64 x6_1 ∧ Aside0 (galloonlaw06_tame.l0 kq a0 l1 x5_1 x6_1 = some r) ∧ Aside0 (kq ≤ k) ∧ Aside0 (Kd.R (Kd.int .i64) 3 w' w.heap.size (fun _ => True) v5 x5_1) ∧ Aside0 (Below w.heap.size w w'))
 case atStart => exact ⟨(([] : List Int)), (0), (by first | rfl | (simp; done) | (simp [*]; done)), H', ⟨Nat.le_refl _⟩, ⟨by first | exact Kd.R_nil _ _ _ _ _ | exact Kd.N_nil _ _ _ _ _ | exact Kd.V_nil _ _ _ _ _ | exact Kd.Q_nil _ _ _ _ _ | exact Kd.S_nil _ _ _ _ _⟩, ⟨by repeat (first | (with_reducible first | exact HB.out | apply below_alloc | apply pw_below_drewN | apply below_drew1) | exact HB.out)⟩⟩
 case round =>
  as_aux_lemma =>
  clear H'
  try clear c1
  try clear c2
  try clear p2
  obtain ⟨x5_1, x6_1, rfl, HA, HK1, HO_5, HB⟩ := hrel
  cases gk with
  | zero => exact absurd HA.out (by simp [galloonlaw06_tame.l0])
  | succ k1 =>
   have H := HA.out
   clear HA
   simp only [galloonlaw06_tame.l0] at H
   by_cases c3 : x6_1 < (l1.length : Int)
   ·
    rw [if_pos c3] at H
    have c3b0 : decide (x6_1 < (l1.length : Int)) = true := decide_eq_true c3
    clear c3
    by_cases c4 : x6_1 < 12
    ·
     rw [if_pos c4] at H
     have c4b0 : decide (x6_1 < 12) = true := decide_eq_true c4
     clear c4
     by_cases c5 : 0 ≤ x6_1
     ·
      rw [if_pos c5] at H
      have c5b0 : decide (0 ≤ x6_1) = true := decide_eq_true c5
      clear c5
      replace H := Option.bind_eq_some_iff.mp H
      obtain ⟨t284, A60, H⟩ := H
      replace H : (if x5_1.length < 17592186044416 then (galloonlaw06_tame.l0 k1 a0 l1 (x5_1 ++ [t284]) (wrap64 (x6_1 + 1))) else (none)) = some r := H
      have A6 := Aside0.mk A60
      clear A60
      by_cases c7 : x5_1.length < 17592186044416
      ·
       rw [if_pos c7] at H
       have LMc7 := Aside0.mk c7
       clear c7
       obtain ⟨y285, hy285⟩ : ∃ y_ : List Int, y_ = (x5_1 ++ [t284]) := ⟨_, rfl⟩
       replace H : (galloonlaw06_tame.l0 k1 a0 l1 y285 (wrap64 (x6_1 + 1))) = some r := by first | (rw [hy285]; with_reducible exact H) | (have H2_ := (Option.bind_some _ _).symm.trans H; rw [hy285]; with_reducible exact H2_) | (have H2_ := (Option.bind_some _ _).symm.trans H; with_reducible exact H2_) | with_reducible exact H | (rw [hy285]; exact H) | exact H
       have Ny285 := Aside0.mk hy285
       clear hy285
       have H' := Aside0.mk H
       clear H
       have p283 : 0 ≤ (x6_1 : Int) := of_decide_eq_true (by assumption)
       have q283 : x6_1 < (l1.length : Int) := of_decide_eq_true (by assumption)
       obtain ⟨ad283, e283, hx283_0⟩ := Kd.at_int HR1.out x6_1 p283 q283
       cases e283
       replace hx283_0 := (HB.out.cell (World.block_lt_of_cell? w _ hx283_0)).trans hx283_0
       replace p283 := eq_true p283
       replace q283 := eq_true q283
       go_wp2_with (first | ((with_reducible refine gate_callee (f := 15) rfl ?_); refine goesL_ (some 23) rfl rfl Try.func15 (by kernel_rfl) rfl #[.int .i64 (rd l1 x6_1), .int .i64 a0] rfl (by (try simp only [List.map_toArray, List.map_cons, List.map_nil]); first | done | rfl | (simp only [List.length_drop, List.length_take]; rfl)) ?_; (with_reducible refine (galloonlaw06_mod.calls (rd l1 x6_1) a0 t284 _ A6.out).mono ?_); rintro e w' ⟨rfl, ⟨nd, rfl⟩⟩; refine ⟨_, rfl, ?_⟩) | ((with_reducible refine gate_builtin (b := .append) (xs := #[.tmp 17, .tmp 24]) rfl ?_); at_builtin; refine Kd.R_append (Kd.int .i64) (w0 := w) w.heap.size rfl (.tmp 17) (.tmp 24) 28 3 (.int .i64 0) 8 rfl Try.underlying28 info3 rfl (by decide) (by omega) u5 x5_1 t284 [.int .i64 t284] (fun _ => True) (fun _ => False) rfl rfl ?aP (fun _ hk => hk.elim) ?aF ?aO ?aB ?aS ?aL ?_; (case aP => exact rfl); (case aB => exact (by repeat (first | (with_reducible first | exact HB.out | apply below_alloc | apply pw_below_drewN | apply below_drew1) | exact HB.out))); (case aF => exact (fun _ _ => trivial)); (case aO => exact (by (with_reducible repeat (first | apply Kd.R_alloc | apply Kd.R_drewN | apply Kd.R_drew)); exact HO_5.out)); (case aS => exact (below_size (by repeat (first | (with_reducible first | exact HB.out | apply below_alloc | apply pw_below_drewN | apply below_drew1) | exact HB.out)))); (case aL => have := LMc7.out; omega); intro v286 w8 ho hb hg hat; rw [← Ny285.out] at ho; have n0_ := Aside0.mk (hb); have n1_ := Aside0.mk (ho); clear HB; clear HO_5; have HB := n0_; have HO287 := n1_; clear n0_ n1_; clear ho hb hg hat))
       go_roundg k1
       case measure => have := HK1.out; omega
       case rel => exact ⟨(y285), (wrap64 (x6_1 + 1)), (by first | rfl | (simp; done) | (simp [*]; done)), H', ⟨by have := HK1.out; omega⟩, ⟨by (with_reducible repeat (first | apply Kd.R_alloc | apply Kd.R_drewN | apply Kd.R_drew)); exact HO287.out⟩, ⟨by repeat (first | (with_reducible first | exact HB.out | apply below_alloc | apply pw_below_drewN | apply below_drew1) | exact HB.out)⟩⟩
      ·
       rw [if_neg c7] at H
       exact absurd H (by simp)
     ·
      rw [if_neg c5] at H
      exact absurd H (by simp)
    ·
     rw [if_neg c4] at H
     have c4b0 : decide (x6_1 < 12) = false := decide_eq_false c4
     clear c4
     obtain rfl := Option.some.inj H
     go_wp2
     go_ret
     exact ⟨_, by first | rfl | (simp [errW_none, errW_some] <;> rfl) | (simp [*, errW_none, errW_some] <;> rfl), by (with_reducible repeat (first | apply Kd.R_alloc | apply Kd.R_drewN | apply Kd.R_drew)); exact HO_5.out, by repeat (first | (with_reducible first | exact HB.out | apply below_alloc | apply pw_below_drewN | apply below_drew1) | exact HB.out)⟩
   ·
    rw [if_neg c3] at H
    have c3b0 : decide (x6_1 < (l1.length : Int)) = false := decide_eq_false c3
    clear c3
    obtain rfl := Option.some.inj H
    go_wp2
    go_ret
    exact ⟨_, by first | rfl | (simp [errW_none, errW_some] <;> rfl) | (simp [*, errW_none, errW_some] <;> rfl), by (with_reducible repeat (first | apply Kd.R_alloc | apply Kd.R_drewN | apply Kd.R_drew)); exact HO_5.out, by repeat (first | (with_reducible first | exact HB.out | apply below_alloc | apply pw_below_drewN | apply below_drew1) | exact HB.out)⟩

/-! ### galloonref06_Function: function 36 -/
def galloonref06_Function.f (k : Nat) (a0 : Int) (l1 : List Int) : Option (Bool) := if (l1.length : Int) = a0 then ((galloonref06_Listed.f k a0 l1).bind fun t288 => (some t288)) else (some false)
theorem galloonref06_Function.mono : ∀ a0 a1 k, LeO (galloonref06_Function.f k a0 a1) (galloonref06_Function.f (k + 1) a0 a1) := by
 intro a0 a1 k
 unfold galloonref06_Function.f
 repeat' first
   | (with_reducible exact galloonref06_Listed.mono _ _ _)
   | (with_reducible exact LeO.refl _)
   | (with_reducible exact LeO.none _)
   | (with_reducible refine LeO.ite ?_ ?_)
   | (with_reducible refine LeO.bind ?_ (fun _ => ?_))
   | exact galloonref06_Listed.mono _ _ _
   | exact LeO.none _
   | refine LeO.ite ?_ ?_
   | refine LeO.bind ?_ (fun _ => ?_)
set_option maxHeartbeats 8000000 in
set_option maxRecDepth 100000 in
theorem galloonref06_Function.calls (k : Nat) (a0 : Int) (A1 : Option Addr) (c1 : Nat) (l1 : List Int) (r : Bool) (w : World) (hr1 : Kd.C (Kd.int .i64) w A1 l1.length l1) (hc1 : l1.length ≤ c1) (h : galloonref06_Function.f k a0 l1 = some r) :
  Calls Try.prog 36 #[.int .i64 a0, .slice A1 l1.length c1] w fun e w' => e = .returned (.bool r) ∧ Drawn0 w w' := by
 have HR1 := Aside0.mk hr1
 have HC1 := Aside0.mk hc1
 clear hr1 hc1
 have H : (if (l1.length : Int) = a0 then ((galloonref06_Listed.f k a0 l1).bind fun t288 => (some t288)) else (some false)) = some r := h
 clear h
 by_cases c3 : (l1.length : Int) = a0
 ·
  rw [if_pos c3] at H
  have c3b0 : ((l1.length : Int) == a0) = true := beq_iff_eq.mpr c3
  have c3b1 : ((l1.length : Int) != a0) = false := bne_eq_false_iff_eq.mpr c3
  clear c3
  replace H := Option.bind_eq_some_iff.mp H
  obtain ⟨t288, A40, H⟩ := H
  replace H : (some t288) = some r := H
  have A4 := Aside0.mk A40
  clear A40
  obtain rfl := Option.some.inj H
  go_enter Try.func36, Try.ntmps36
  go_wp2_with (first | (go_at_call 43; (with_reducible refine (galloonref06_Listed.calls k a0 _ _ l1 t288 _ ?side1 ?side2 A4.out).mono ?_); (case side1 => repeat (first | exact HR1.out | (with_reducible refine Kd.C_alloc ?_ _) | (with_reducible refine Kd.C_drewN ?_ _) | (with_reducible refine Kd.C_drew ?_))); (case side2 => exact HC1.out); rintro e w' ⟨rfl, ⟨nd, rfl⟩⟩))
  go_ret
  exact ⟨by first | rfl | (simp; done) | (simp [*]; done), by repeat (first | exact Drawn0.refl _ | apply Drawn0.step)⟩
 ·
  rw [if_neg c3] at H
  have c3b0 : ((l1.length : Int) == a0) = false := beq_eq_false_iff_ne.mpr c3
  have c3b1 : ((l1.length : Int) != a0) = true := bne_iff_ne.mpr c3
  obtain rfl := Option.some.inj H
  go_enter Try.func36, Try.ntmps36
  go_wp2
  go_ret
  exact ⟨by first | rfl | (simp; done) | (simp [*]; done), by repeat (first | exact Drawn0.refl _ | apply Drawn0.step)⟩

end Go.Proofs.Ytkjjnfbgcdanmaa.P
