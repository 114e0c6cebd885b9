-- Written by a program of this session (wip/xprint.py), over the kit's print; some sections by hand.
import Derived.Test.YtkjjnfbgcdanmaaPx0
import Derived.Test.YtkjjnfbgcdanmaaPx1
import Derived.Test.YtkjjnfbgcdanmaaPx2
import Derived.Test.YtkjjnfbgcdanmaaPx4
import Derived.Test.YtkjjnfbgcdanmaaPx6
import Derived.Test.YtkjjnfbgcdanmaaPx8
import Derived.Test.YtkjjnfbgcdanmaaHandC
namespace Go.Proofs.Ytkjjnfbgcdanmaa.P
open Go.RowKit Go.Proofs.YtkjjnfbgcdanmaaW.PrintWords Go.Proofs.YtkjjnfbgcdanmaaW.PrintLast Go.Proofs.YtkjjnfbgcdanmaaW.PrintMore
attribute [local go_sem] max2_int min2_int max_two min_two max_three min_three max_four min_four   -- for this text's walks alone
set_option linter.unusedVariables false
set_option linter.unusedSimpArgs false

/-! ### galloonlaw06_ShuffleSame: function 5 -/
mutual
def galloonlaw06_ShuffleSame.j0 : Nat → Int → Int → List Int → Bool → Option (Bool)
 | 0, _, _, _, _ => none
 | k + 1, x0, x3, x9, x138 => if x138 = true then (none) else ((galloonlaw06_mod.f x3 12).bind fun t271 => ((galloonref06_Room.f k x0 t271).bind fun t272 => (if x0 = 0 then (none) else (galloonlaw06_ShuffleSame.l0 k x0 t271 x9 (([Int.tmod t272 x0] : List Int)) 0))))
def galloonlaw06_ShuffleSame.l0 : Nat → Int → Int → List Int → List Int → Int → Option (Bool)
 | 0, _, _, _, _, _ => none
 | k + 1, x0, x3, x9, x21, x22 => if x22 < x3 then (if 0 ≤ (wrap64 ((x21.length : Int) + 1)) then (if (wrap64 ((x21.length : Int) + 1) : Int).toNat ≤ 35184372088832 then (galloonlaw06_ShuffleSame.l1 k x0 x3 x9 x21 x22 (List.replicate (wrap64 ((x21.length : Int) + 1) : Int).toNat 0) 0) else (none)) else (none)) else (if 0 ≤ (mx (x9.length : Int) (x21.length : Int)) then (if (mx (x9.length : Int) (x21.length : Int) : Int).toNat ≤ 35184372088832 then (galloonlaw06_ShuffleSame.l2 k x0 x9 x21 (List.replicate (mx (x9.length : Int) (x21.length : Int) : Int).toNat 0) 0) else (none)) else (none))
def galloonlaw06_ShuffleSame.l1 : Nat → Int → Int → List Int → List Int → Int → List Int → Int → Option (Bool)
 | 0, _, _, _, _, _, _, _ => none
 | k + 1, x0, x3, x9, x21, x22, x23, x24 => if x24 < (x21.length : Int) then (if 0 ≤ (wrap64 (x24 + 1)) then (if (wrap64 (x24 + 1)) < (x23.length : Int) then (if 0 ≤ x24 then (if x0 = 0 then (none) else ((some (x23.set ((wrap64 (x24 + 1)) : Int).toNat (Int.tmod (wrap64 ((rd x23 (wrap64 (x24 + 1))) + (rd x21 x24))) x0) : List Int)).bind fun y281 => (if x24 < (x23.length : Int) then (galloonlaw06_ShuffleSame.l1 k x0 x3 x9 x21 x22 (y281.set (x24 : Int).toNat (Int.tmod (wrap64 ((rd y281 x24) + (wrap64 ((wrap64 (x0 - (Int.tmod x22 x0))) * (rd x21 x24))))) x0)) (wrap64 (x24 + 1))) else (none)))) else (none)) else (none)) else (none)) else (galloonlaw06_ShuffleSame.l0 k x0 x3 x9 x23 (wrap64 (x22 + 1)))
def galloonlaw06_ShuffleSame.l2 : Nat → Int → List Int → List Int → List Int → Int → Option (Bool)
 | 0, _, _, _, _, _ => none
 | k + 1, x0, x9, x21, x25, x26 => if x26 < (x25.length : Int) then (if x26 < (x9.length : Int) then (if 0 ≤ x26 then ((some (x25.set (x26 : Int).toNat (rd x9 x26) : List Int)).bind fun y292 => (if x26 < (x21.length : Int) then (if x0 = 0 then (none) else (galloonlaw06_ShuffleSame.l2 k x0 x9 x21 (y292.set (x26 : Int).toNat (Int.tmod (wrap64 ((rd y292 x26) + (rd x21 x26))) x0)) (wrap64 (x26 + 1)))) else (galloonlaw06_ShuffleSame.l2 k x0 x9 x21 y292 (wrap64 (x26 + 1))))) else (none)) else (if x26 < (x21.length : Int) then (if 0 ≤ x26 then (if x0 = 0 then (none) else (galloonlaw06_ShuffleSame.l2 k x0 x9 x21 (x25.set (x26 : Int).toNat (Int.tmod (wrap64 ((rd x25 x26) + (rd x21 x26))) x0)) (wrap64 (x26 + 1)))) else (none)) else (galloonlaw06_ShuffleSame.l2 k x0 x9 x21 x25 (wrap64 (x26 + 1))))) else ((shuffle_Same.f k x0 x9 x25).bind fun bt288 => (if bt288.2 = 0 then (if bt288.1 = (-1) then ((galloonlaw06_awake.f k).bind fun t290 => (some t290)) else (none)) else (none)))
end
def galloonlaw06_ShuffleSame.f (k : Nat) (a0 : Int) (l1 : List Int) (l2 : List Int) (a3 : Int) : Option (Bool) := (galloonlaw06_mod.f a0 63).bind fun t242 => ((galloonlaw06_tame.f k (wrap64 (2 + t242)) l1).bind fun t243 => ((galloonlaw06_tame.f k (wrap64 (2 + t242)) l2).bind fun t246 => ((shuffle_Same.f k (wrap64 (2 + t242)) t243 t246).bind fun bt249 => ((shuffle_Values.f k (wrap64 (2 + t242)) t243).bind fun bt251 => ((shuffle_Values.f k (wrap64 (2 + t242)) t246).bind fun bt255 => ((shuffle_Form.f k (wrap64 (2 + t242)) bt251.1).bind fun bt259 => ((shuffle_Form.f k (wrap64 (2 + t242)) bt255.1).bind fun bt263 => (if bt249.2 = 0 then (if bt251.2 = 0 then (if bt255.2 = 0 then (if bt259.2 = 0 then (if bt263.2 = 0 then (if (bt251.1.length : Int) = (wrap64 (2 + t242)) then (if (bt255.1.length : Int) = (wrap64 (2 + t242)) then (if bt249.1 < (-1) then (none) else (if bt249.1 ≥ (wrap64 (2 + t242)) then (none) else ((galloonlaw06_ints.f k bt251.1 bt255.1).bind fun t267 => (if ((bt249.1 == (-1)) != t267) = true then (none) else ((galloonlaw06_ints.f k bt259.1 bt263.1).bind fun t268 => (if ((bt249.1 == (-1)) != t268) = true then (none) else (if bt249.1 ≥ 0 then (if 0 ≤ bt249.1 then (if bt249.1 < (bt251.1.length : Int) then (if bt249.1 < (bt255.1.length : Int) then (galloonlaw06_ShuffleSame.j0 k (wrap64 (2 + t242)) a3 t243 ((rd bt251.1 bt249.1) == (rd bt255.1 bt249.1))) else (none)) else (none)) else (none)) else (galloonlaw06_ShuffleSame.j0 k (wrap64 (2 + t242)) a3 t243 false)))))))) else (none)) else (none)) else (none)) else (none)) else (none)) else (none)) else (none)))))))))
theorem galloonlaw06_ShuffleSame.mono_l : ∀ k, (∀ y0 y1 y2 y3, LeO (galloonlaw06_ShuffleSame.j0 k y0 y1 y2 y3) (galloonlaw06_ShuffleSame.j0 (k + 1) y0 y1 y2 y3)) ∧ (∀ y0 y1 y2 y3 y4, LeO (galloonlaw06_ShuffleSame.l0 k y0 y1 y2 y3 y4) (galloonlaw06_ShuffleSame.l0 (k + 1) y0 y1 y2 y3 y4)) ∧ (∀ y0 y1 y2 y3 y4 y5 y6, LeO (galloonlaw06_ShuffleSame.l1 k y0 y1 y2 y3 y4 y5 y6) (galloonlaw06_ShuffleSame.l1 (k + 1) y0 y1 y2 y3 y4 y5 y6)) ∧ (∀ y0 y1 y2 y3 y4, LeO (galloonlaw06_ShuffleSame.l2 k y0 y1 y2 y3 y4) (galloonlaw06_ShuffleSame.l2 (k + 1) y0 y1 y2 y3 y4))
 | 0 => ⟨fun _ _ _ _ r h => by simp [galloonlaw06_ShuffleSame.j0] at h, fun _ _ _ _ _ r h => by simp [galloonlaw06_ShuffleSame.l0] at h, fun _ _ _ _ _ _ _ r h => by simp [galloonlaw06_ShuffleSame.l1] at h, fun _ _ _ _ _ r h => by simp [galloonlaw06_ShuffleSame.l2] at h⟩
 | k + 1 => by
  obtain ⟨ih0, ih1, ih2, ih3⟩ := galloonlaw06_ShuffleSame.mono_l k
  refine ⟨?_, ?_, ?_, ?_⟩
  ·
   intro y0 y1 y2 y3
   unfold galloonlaw06_ShuffleSame.j0
   repeat' first
   | (with_reducible exact ih0 _ _ _ _)
   | (with_reducible exact ih1 _ _ _ _ _)
   | (with_reducible exact ih2 _ _ _ _ _ _ _)
   | (with_reducible exact ih3 _ _ _ _ _)
   | (with_reducible exact galloonlaw06_awake.mono _)
   | (with_reducible exact galloonlaw06_ints.mono _ _ _)
   | (with_reducible exact galloonlaw06_tame.mono _ _ _)
   | (with_reducible exact galloonref06_Room.mono _ _ _)
   | (with_reducible exact shuffle_Form.mono _ _ _)
   | (with_reducible exact shuffle_Same.mono _ _ _ _)
   | (with_reducible exact shuffle_Values.mono _ _ _)
   | (with_reducible exact LeO.refl _)
   | (with_reducible exact LeO.none _)
   | (with_reducible refine LeO.ite ?_ ?_)
   | (with_reducible refine LeO.bind ?_ (fun _ => ?_))
   | exact ih0 _ _ _ _
   | exact ih1 _ _ _ _ _
   | exact ih2 _ _ _ _ _ _ _
   | exact ih3 _ _ _ _ _
   | exact galloonlaw06_awake.mono _
   | exact galloonlaw06_ints.mono _ _ _
   | exact galloonlaw06_tame.mono _ _ _
   | exact galloonref06_Room.mono _ _ _
   | exact shuffle_Form.mono _ _ _
   | exact shuffle_Same.mono _ _ _ _
   | exact shuffle_Values.mono _ _ _
   | exact LeO.none _
   | refine LeO.ite ?_ ?_
   | refine LeO.bind ?_ (fun _ => ?_)
  ·
   intro y0 y1 y2 y3 y4
   unfold galloonlaw06_ShuffleSame.l0
   repeat' first
   | (with_reducible exact ih0 _ _ _ _)
   | (with_reducible exact ih1 _ _ _ _ _)
   | (with_reducible exact ih2 _ _ _ _ _ _ _)
   | (with_reducible exact ih3 _ _ _ _ _)
   | (with_reducible exact galloonlaw06_awake.mono _)
   | (with_reducible exact galloonlaw06_ints.mono _ _ _)
   | (with_reducible exact galloonlaw06_tame.mono _ _ _)
   | (with_reducible exact galloonref06_Room.mono _ _ _)
   | (with_reducible exact shuffle_Form.mono _ _ _)
   | (with_reducible exact shuffle_Same.mono _ _ _ _)
   | (with_reducible exact shuffle_Values.mono _ _ _)
   | (with_reducible exact LeO.refl _)
   | (with_reducible exact LeO.none _)
   | (with_reducible refine LeO.ite ?_ ?_)
   | (with_reducible refine LeO.bind ?_ (fun _ => ?_))
   | exact ih0 _ _ _ _
   | exact ih1 _ _ _ _ _
   | exact ih2 _ _ _ _ _ _ _
   | exact ih3 _ _ _ _ _
   | exact galloonlaw06_awake.mono _
   | exact galloonlaw06_ints.mono _ _ _
   | exact galloonlaw06_tame.mono _ _ _
   | exact galloonref06_Room.mono _ _ _
   | exact shuffle_Form.mono _ _ _
   | exact shuffle_Same.mono _ _ _ _
   | exact shuffle_Values.mono _ _ _
   | exact LeO.none _
   | refine LeO.ite ?_ ?_
   | refine LeO.bind ?_ (fun _ => ?_)
  ·
   intro y0 y1 y2 y3 y4 y5 y6
   unfold galloonlaw06_ShuffleSame.l1
   repeat' first
   | (with_reducible exact ih0 _ _ _ _)
   | (with_reducible exact ih1 _ _ _ _ _)
   | (with_reducible exact ih2 _ _ _ _ _ _ _)
   | (with_reducible exact ih3 _ _ _ _ _)
   | (with_reducible exact galloonlaw06_awake.mono _)
   | (with_reducible exact galloonlaw06_ints.mono _ _ _)
   | (with_reducible exact galloonlaw06_tame.mono _ _ _)
   | (with_reducible exact galloonref06_Room.mono _ _ _)
   | (with_reducible exact shuffle_Form.mono _ _ _)
   | (with_reducible exact shuffle_Same.mono _ _ _ _)
   | (with_reducible exact shuffle_Values.mono _ _ _)
   | (with_reducible exact LeO.refl _)
   | (with_reducible exact LeO.none _)
   | (with_reducible refine LeO.ite ?_ ?_)
   | (with_reducible refine LeO.bind ?_ (fun _ => ?_))
   | exact ih0 _ _ _ _
   | exact ih1 _ _ _ _ _
   | exact ih2 _ _ _ _ _ _ _
   | exact ih3 _ _ _ _ _
   | exact galloonlaw06_awake.mono _
   | exact galloonlaw06_ints.mono _ _ _
   | exact galloonlaw06_tame.mono _ _ _
   | exact galloonref06_Room.mono _ _ _
   | exact shuffle_Form.mono _ _ _
   | exact shuffle_Same.mono _ _ _ _
   | exact shuffle_Values.mono _ _ _
   | exact LeO.none _
   | refine LeO.ite ?_ ?_
   | refine LeO.bind ?_ (fun _ => ?_)
  ·
   intro y0 y1 y2 y3 y4
   unfold galloonlaw06_ShuffleSame.l2
   repeat' first
   | (with_reducible exact ih0 _ _ _ _)
   | (with_reducible exact ih1 _ _ _ _ _)
   | (with_reducible exact ih2 _ _ _ _ _ _ _)
   | (with_reducible exact ih3 _ _ _ _ _)
   | (with_reducible exact galloonlaw06_awake.mono _)
   | (with_reducible exact galloonlaw06_ints.mono _ _ _)
   | (with_reducible exact galloonlaw06_tame.mono _ _ _)
   | (with_reducible exact galloonref06_Room.mono _ _ _)
   | (with_reducible exact shuffle_Form.mono _ _ _)
   | (with_reducible exact shuffle_Same.mono _ _ _ _)
   | (with_reducible exact shuffle_Values.mono _ _ _)
   | (with_reducible exact LeO.refl _)
   | (with_reducible exact LeO.none _)
   | (with_reducible refine LeO.ite ?_ ?_)
   | (with_reducible refine LeO.bind ?_ (fun _ => ?_))
   | exact ih0 _ _ _ _
   | exact ih1 _ _ _ _ _
   | exact ih2 _ _ _ _ _ _ _
   | exact ih3 _ _ _ _ _
   | exact galloonlaw06_awake.mono _
   | exact galloonlaw06_ints.mono _ _ _
   | exact galloonlaw06_tame.mono _ _ _
   | exact galloonref06_Room.mono _ _ _
   | exact shuffle_Form.mono _ _ _
   | exact shuffle_Same.mono _ _ _ _
   | exact shuffle_Values.mono _ _ _
   | exact LeO.none _
   | refine LeO.ite ?_ ?_
   | refine LeO.bind ?_ (fun _ => ?_)
theorem galloonlaw06_ShuffleSame.mono : ∀ a0 a1 a2 a3 k, LeO (galloonlaw06_ShuffleSame.f k a0 a1 a2 a3) (galloonlaw06_ShuffleSame.f (k + 1) a0 a1 a2 a3) := by
 intro a0 a1 a2 a3 k
 obtain ⟨ih0, ih1, ih2, ih3⟩ := galloonlaw06_ShuffleSame.mono_l k
 unfold galloonlaw06_ShuffleSame.f
 repeat' first
   | (with_reducible exact ih0 _ _ _ _)
   | (with_reducible exact ih1 _ _ _ _ _)
   | (with_reducible exact ih2 _ _ _ _ _ _ _)
   | (with_reducible exact ih3 _ _ _ _ _)
   | (with_reducible exact galloonlaw06_awake.mono _)
   | (with_reducible exact galloonlaw06_ints.mono _ _ _)
   | (with_reducible exact galloonlaw06_tame.mono _ _ _)
   | (with_reducible exact galloonref06_Room.mono _ _ _)
   | (with_reducible exact shuffle_Form.mono _ _ _)
   | (with_reducible exact shuffle_Same.mono _ _ _ _)
   | (with_reducible exact shuffle_Values.mono _ _ _)
   | (with_reducible exact LeO.refl _)
   | (with_reducible exact LeO.none _)
   | (with_reducible refine LeO.ite ?_ ?_)
   | (with_reducible refine LeO.bind ?_ (fun _ => ?_))
   | exact ih0 _ _ _ _
   | exact ih1 _ _ _ _ _
   | exact ih2 _ _ _ _ _ _ _
   | exact ih3 _ _ _ _ _
   | exact galloonlaw06_awake.mono _
   | exact galloonlaw06_ints.mono _ _ _
   | exact galloonlaw06_tame.mono _ _ _
   | exact galloonref06_Room.mono _ _ _
   | exact shuffle_Form.mono _ _ _
   | exact shuffle_Same.mono _ _ _ _
   | exact shuffle_Values.mono _ _ _
   | exact LeO.none _
   | refine LeO.ite ?_ ?_
   | refine LeO.bind ?_ (fun _ => ?_)
def galloonlaw06_ShuffleSame.T8 : Bool × List (List Nat × List Nat) := (true, [([], []), ([0], [0]), ([1], [1]), ([2], [2]), ([3, 2], [2, 3]), ([2, 4], [2, 4]), ([5, 2], [5]), ([6], [6]), ([7, 6], [6, 7]), ([6, 8], [6, 8]), ([9, 6], [9]), ([10], [10]), ([11, 10], [10, 11]), ([10, 12], [10, 12]), ([13, 10], [13]), ([14], [14]), ([15, 14], [14, 15]), ([14, 16], [14, 16]), ([17, 14], [17]), ([18], [18]), ([19, 18], [18, 19]), ([18], [18]), ([20, 21, 18], [18, 20, 21]), ([18, 22], [18, 22]), ([23, 18], [23]), ([24], [24]), ([25, 24], [24, 25]), ([24], [24]), ([26, 27, 24], [24, 26, 27]), ([24, 28], [24, 28]), ([29, 24], [29]), ([30], [30]), ([31, 30], [30, 31]), ([30, 32], [30, 32]), ([33, 30], [33]), ([34], [34]), ([34], [34]), ([35, 36, 34], [34, 35, 36]), ([34, 37], [34, 37]), ([38, 34], [38]), ([39], [39]), ([40, 39], [39, 40]), ([39], [39]), ([39], [39]), ([42, 43, 39, 39], [39, 42, 43]), ([41, 44, 39], [39, 41, 44]), ([39, 45], [39, 45]), ([46, 44], [46]), ([47], [47]), ([48, 47], [47, 48]), ([47], [47]), ([47], [47]), ([50, 51, 47, 47], [47, 50, 51]), ([49, 52, 47], [47, 49, 52]), ([47, 53], [47, 53]), ([54, 52], [54]), ([55], [55]), ([56, 55], [55, 56]), ([57, 55, 55], [55, 57]), ([58], [58]), ([58], [58]), ([59, 60, 58], [58, 59, 60]), ([61, 58], [58, 61]), ([58], [58]), ([58], [58]), ([63, 64, 58], [58, 63, 64]), ([65, 58], [58, 65]), ([62, 66, 58], [58, 62, 66]), ([58, 67, 55], [55, 58, 67]), ([55, 68], [55, 68])])
def galloonlaw06_ShuffleSame.B8 : List Nat := [0, 1, 3, 7, 15, 31, 63, 127, 255, 511, 1023, 2047, 4095, 8191, 16383, 32767, 65535, 131071, 262143, 524287, 1048575, 524287, 4194303, 8388607, 16777215, 33554431, 67108863, 33554431, 268435455, 536870911, 1073741823, 2147483647, 4294967295, 8589934591, 17179869183, 34359738367, 34359738367, 137438953471, 274877906943, 549755813887, 1099511627775, 2199023255551, 1099511627775, 1099511627775, 14293651161087, 35184372088831, 70368744177663, 140737488355327, 281474976710655, 562949953421311, 281474976710655, 281474976710655, 3659174697238527, 9007199254740991, 18014398509481983, 36028797018963967, 72057594037927935, 144115188075855871, 288230376151711743, 576460752303423487, 576460752303423487, 2305843009213693951, 4611686018427387903, 576460752303423487, 576460752303423487, 28246576862867750911, 65140065010286854143, 147573952589676412927, 295147905179352825855, 590295810358705651711]
theorem galloonlaw06_ShuffleSame.tab8 : rtab .any (opsOf Try.f5 8) = galloonlaw06_ShuffleSame.T8 := by kernel_rfl
theorem galloonlaw06_ShuffleSame.bits8 : waitsOk galloonlaw06_ShuffleSame.T8.2 galloonlaw06_ShuffleSame.B8 = true := by kernel_rfl
def galloonlaw06_ShuffleSame.T19 : Bool × List (List Nat × List Nat) := (true, [([], []), ([], []), ([1], [1]), ([], []), ([], []), ([4], [4]), ([3, 5], [3, 5]), ([6], [6]), ([], []), ([], []), ([8, 9], [8, 9]), ([10], [10]), ([7, 11], [7, 11]), ([], []), ([12, 13], [12, 13]), ([0, 2, 0, 1, 2, 3, 4, 5, 6, 7, 8, 9, 10, 11, 12, 13, 14], [0, 2]), ([15, 14, 0, 1, 2, 3, 4, 5, 6, 7, 8, 9, 10, 11, 12, 13, 14], [14, 15])])
def galloonlaw06_ShuffleSame.B19 : List Nat := [0, 0, 2, 0, 0, 16, 56, 120, 0, 0, 768, 1792, 4088, 0, 16376, 32767, 65535]
theorem galloonlaw06_ShuffleSame.tab19 : rtab .any (opsOf Try.f5 19) = galloonlaw06_ShuffleSame.T19 := by kernel_rfl
theorem galloonlaw06_ShuffleSame.bits19 : waitsOk galloonlaw06_ShuffleSame.T19.2 galloonlaw06_ShuffleSame.B19 = true := by kernel_rfl
def galloonlaw06_ShuffleSame.T20 : Bool × List (List Nat × List Nat) := (true, [([], []), ([], []), ([], []), ([], []), ([2, 3], [2, 3]), ([4], [4]), ([], []), ([], []), ([], []), ([7, 8], [7, 8]), ([6, 9], [6, 9]), ([], []), ([], []), ([11, 12], [11, 12]), ([13], [13]), ([10, 14], [10, 14]), ([5, 15], [5, 15]), ([], []), ([16, 17], [16, 17]), ([0, 1, 0, 1, 2, 3, 4, 5, 6, 7, 8, 9, 10, 11, 12, 13, 14, 15, 16, 17, 18], [0, 1]), ([19, 18, 0, 1, 2, 3, 4, 5, 6, 7, 8, 9, 10, 11, 12, 13, 14, 15, 16, 17, 18], [18, 19])])
def galloonlaw06_ShuffleSame.B20 : List Nat := [0, 0, 0, 0, 12, 28, 0, 0, 0, 384, 960, 0, 0, 6144, 14336, 32704, 65532, 0, 262140, 524287, 1048575]
theorem galloonlaw06_ShuffleSame.tab20 : rtab .any (opsOf Try.f5 20) = galloonlaw06_ShuffleSame.T20 := by kernel_rfl
theorem galloonlaw06_ShuffleSame.bits20 : waitsOk galloonlaw06_ShuffleSame.T20.2 galloonlaw06_ShuffleSame.B20 = true := by kernel_rfl
def galloonlaw06_ShuffleSame.T29 : Bool × List (List Nat × List Nat) := (true, [([], []), ([], []), ([], []), ([], []), ([2, 3], [2, 3]), ([4], [4]), ([], []), ([], []), ([6, 7], [6, 7]), ([8], [8]), ([5, 9], [5, 9]), ([], []), ([10, 11], [10, 11]), ([0, 1, 0, 1, 2, 3, 4, 5, 6, 7, 8, 9, 10, 11, 12], [0, 1]), ([13, 12, 0, 1, 2, 3, 4, 5, 6, 7, 8, 9, 10, 11, 12], [12, 13])])
def galloonlaw06_ShuffleSame.B29 : List Nat := [0, 0, 0, 0, 12, 28, 0, 0, 192, 448, 1020, 0, 4092, 8191, 16383]
theorem galloonlaw06_ShuffleSame.tab29 : rtab .any (opsOf Try.f5 29) = galloonlaw06_ShuffleSame.T29 := by kernel_rfl
theorem galloonlaw06_ShuffleSame.bits29 : waitsOk galloonlaw06_ShuffleSame.T29.2 galloonlaw06_ShuffleSame.B29 = true := by kernel_rfl
set_option maxHeartbeats 8000000 in
set_option maxRecDepth 100000 in
theorem galloonlaw06_ShuffleSame.calls (k : Nat) (a0 : Int) (A1 : Option Addr) (c1 : Nat) (l1 : List Int) (A2 : Option Addr) (c2 : Nat) (l2 : List Int) (a3 : Int) (r : Bool) (w : World) (hr1 : Kd.C (Kd.int .i64) w A1 l1.length l1) (hc1 : l1.length ≤ c1) (hr2 : Kd.C (Kd.int .i64) w A2 l2.length l2) (hc2 : l2.length ≤ c2) (h : galloonlaw06_ShuffleSame.f k a0 l1 l2 a3 = some r) :
  Calls Try.prog 5 #[.int .i64 a0, .slice A1 l1.length c1, .slice A2 l2.length c2, .int .i64 a3] w fun e w' => e = .returned (.bool r) ∧ Below w.heap.size w w' := by
 have HR1 := Aside0.mk hr1
 have HC1 := Aside0.mk hc1
 clear hr1 hc1
 have HR2 := Aside0.mk hr2
 have HC2 := Aside0.mk hc2
 clear hr2 hc2
 have HB := Aside0.mk (Below.refl w.heap.size w)
 have H : ((galloonlaw06_mod.f a0 63).bind fun t242 => ((galloonlaw06_tame.f k (wrap64 (2 + t242)) l1).bind fun t243 => ((galloonlaw06_tame.f k (wrap64 (2 + t242)) l2).bind fun t246 => ((shuffle_Same.f k (wrap64 (2 + t242)) t243 t246).bind fun bt249 => ((shuffle_Values.f k (wrap64 (2 + t242)) t243).bind fun bt251 => ((shuffle_Values.f k (wrap64 (2 + t242)) t246).bind fun bt255 => ((shuffle_Form.f k (wrap64 (2 + t242)) bt251.1).bind fun bt259 => ((shuffle_Form.f k (wrap64 (2 + t242)) bt255.1).bind fun bt263 => (if bt249.2 = 0 then (if bt251.2 = 0 then (if bt255.2 = 0 then (if bt259.2 = 0 then (if bt263.2 = 0 then (if (bt251.1.length : Int) = (wrap64 (2 + t242)) then (if (bt255.1.length : Int) = (wrap64 (2 + t242)) then (if bt249.1 < (-1) then (none) else (if bt249.1 ≥ (wrap64 (2 + t242)) then (none) else ((galloonlaw06_ints.f k bt251.1 bt255.1).bind fun t267 => (if ((bt249.1 == (-1)) != t267) = true then (none) else ((galloonlaw06_ints.f k bt259.1 bt263.1).bind fun t268 => (if ((bt249.1 == (-1)) != t268) = true then (none) else (if bt249.1 ≥ 0 then (if 0 ≤ bt249.1 then (if bt249.1 < (bt251.1.length : Int) then (if bt249.1 < (bt255.1.length : Int) then (galloonlaw06_ShuffleSame.j0 k (wrap64 (2 + t242)) a3 t243 ((rd bt251.1 bt249.1) == (rd bt255.1 bt249.1))) else (none)) else (none)) else (none)) else (galloonlaw06_ShuffleSame.j0 k (wrap64 (2 + t242)) a3 t243 false)))))))) else (none)) else (none)) else (none)) else (none)) else (none)) else (none)) else (none)))))))))) = some r := h
 clear h
 replace H := Option.bind_eq_some_iff.mp H
 obtain ⟨t242, A50, H⟩ := H
 replace H : ((galloonlaw06_tame.f k (wrap64 (2 + t242)) l1).bind fun t243 => ((galloonlaw06_tame.f k (wrap64 (2 + t242)) l2).bind fun t246 => ((shuffle_Same.f k (wrap64 (2 + t242)) t243 t246).bind fun bt249 => ((shuffle_Values.f k (wrap64 (2 + t242)) t243).bind fun bt251 => ((shuffle_Values.f k (wrap64 (2 + t242)) t246).bind fun bt255 => ((shuffle_Form.f k (wrap64 (2 + t242)) bt251.1).bind fun bt259 => ((shuffle_Form.f k (wrap64 (2 + t242)) bt255.1).bind fun bt263 => (if bt249.2 = 0 then (if bt251.2 = 0 then (if bt255.2 = 0 then (if bt259.2 = 0 then (if bt263.2 = 0 then (if (bt251.1.length : Int) = (wrap64 (2 + t242)) then (if (bt255.1.length : Int) = (wrap64 (2 + t242)) then (if bt249.1 < (-1) then (none) else (if bt249.1 ≥ (wrap64 (2 + t242)) then (none) else ((galloonlaw06_ints.f k bt251.1 bt255.1).bind fun t267 => (if ((bt249.1 == (-1)) != t267) = true then (none) else ((galloonlaw06_ints.f k bt259.1 bt263.1).bind fun t268 => (if ((bt249.1 == (-1)) != t268) = true then (none) else (if bt249.1 ≥ 0 then (if 0 ≤ bt249.1 then (if bt249.1 < (bt251.1.length : Int) then (if bt249.1 < (bt255.1.length : Int) then (galloonlaw06_ShuffleSame.j0 k (wrap64 (2 + t242)) a3 t243 ((rd bt251.1 bt249.1) == (rd bt255.1 bt249.1))) else (none)) else (none)) else (none)) else (galloonlaw06_ShuffleSame.j0 k (wrap64 (2 + t242)) a3 t243 false)))))))) else (none)) else (none)) else (none)) else (none)) else (none)) else (none)) else (none))))))))) = some r := H
 have A5 := Aside0.mk A50
 clear A50
 replace H := Option.bind_eq_some_iff.mp H
 obtain ⟨t243, A60, H⟩ := H
 replace H : ((galloonlaw06_tame.f k (wrap64 (2 + t242)) l2).bind fun t246 => ((shuffle_Same.f k (wrap64 (2 + t242)) t243 t246).bind fun bt249 => ((shuffle_Values.f k (wrap64 (2 + t242)) t243).bind fun bt251 => ((shuffle_Values.f k (wrap64 (2 + t242)) t246).bind fun bt255 => ((shuffle_Form.f k (wrap64 (2 + t242)) bt251.1).bind fun bt259 => ((shuffle_Form.f k (wrap64 (2 + t242)) bt255.1).bind fun bt263 => (if bt249.2 = 0 then (if bt251.2 = 0 then (if bt255.2 = 0 then (if bt259.2 = 0 then (if bt263.2 = 0 then (if (bt251.1.length : Int) = (wrap64 (2 + t242)) then (if (bt255.1.length : Int) = (wrap64 (2 + t242)) then (if bt249.1 < (-1) then (none) else (if bt249.1 ≥ (wrap64 (2 + t242)) then (none) else ((galloonlaw06_ints.f k bt251.1 bt255.1).bind fun t267 => (if ((bt249.1 == (-1)) != t267) = true then (none) else ((galloonlaw06_ints.f k bt259.1 bt263.1).bind fun t268 => (if ((bt249.1 == (-1)) != t268) = true then (none) else (if bt249.1 ≥ 0 then (if 0 ≤ bt249.1 then (if bt249.1 < (bt251.1.length : Int) then (if bt249.1 < (bt255.1.length : Int) then (galloonlaw06_ShuffleSame.j0 k (wrap64 (2 + t242)) a3 t243 ((rd bt251.1 bt249.1) == (rd bt255.1 bt249.1))) else (none)) else (none)) else (none)) else (galloonlaw06_ShuffleSame.j0 k (wrap64 (2 + t242)) a3 t243 false)))))))) else (none)) else (none)) else (none)) else (none)) else (none)) else (none)) else (none)))))))) = some r := H
 have A6 := Aside0.mk A60
 clear A60
 replace H := Option.bind_eq_some_iff.mp H
 obtain ⟨t246, A70, H⟩ := H
 replace H : ((shuffle_Same.f k (wrap64 (2 + t242)) t243 t246).bind fun bt249 => ((shuffle_Values.f k (wrap64 (2 + t242)) t243).bind fun bt251 => ((shuffle_Values.f k (wrap64 (2 + t242)) t246).bind fun bt255 => ((shuffle_Form.f k (wrap64 (2 + t242)) bt251.1).bind fun bt259 => ((shuffle_Form.f k (wrap64 (2 + t242)) bt255.1).bind fun bt263 => (if bt249.2 = 0 then (if bt251.2 = 0 then (if bt255.2 = 0 then (if bt259.2 = 0 then (if bt263.2 = 0 then (if (bt251.1.length : Int) = (wrap64 (2 + t242)) then (if (bt255.1.length : Int) = (wrap64 (2 + t242)) then (if bt249.1 < (-1) then (none) else (if bt249.1 ≥ (wrap64 (2 + t242)) then (none) else ((galloonlaw06_ints.f k bt251.1 bt255.1).bind fun t267 => (if ((bt249.1 == (-1)) != t267) = true then (none) else ((galloonlaw06_ints.f k bt259.1 bt263.1).bind fun t268 => (if ((bt249.1 == (-1)) != t268) = true then (none) else (if bt249.1 ≥ 0 then (if 0 ≤ bt249.1 then (if bt249.1 < (bt251.1.length : Int) then (if bt249.1 < (bt255.1.length : Int) then (galloonlaw06_ShuffleSame.j0 k (wrap64 (2 + t242)) a3 t243 ((rd bt251.1 bt249.1) == (rd bt255.1 bt249.1))) else (none)) else (none)) else (none)) else (galloonlaw06_ShuffleSame.j0 k (wrap64 (2 + t242)) a3 t243 false)))))))) else (none)) else (none)) else (none)) else (none)) else (none)) else (none)) else (none))))))) = some r := H
 have A7 := Aside0.mk A70
 clear A70
 replace H := Option.bind_eq_some_iff.mp H
 obtain ⟨⟨t249, t250⟩, A80, H⟩ := H
 replace H : ((shuffle_Values.f k (wrap64 (2 + t242)) t243).bind fun bt251 => ((shuffle_Values.f k (wrap64 (2 + t242)) t246).bind fun bt255 => ((shuffle_Form.f k (wrap64 (2 + t242)) bt251.1).bind fun bt259 => ((shuffle_Form.f k (wrap64 (2 + t242)) bt255.1).bind fun bt263 => (if t250 = 0 then (if bt251.2 = 0 then (if bt255.2 = 0 then (if bt259.2 = 0 then (if bt263.2 = 0 then (if (bt251.1.length : Int) = (wrap64 (2 + t242)) then (if (bt255.1.length : Int) = (wrap64 (2 + t242)) then (if t249 < (-1) then (none) else (if t249 ≥ (wrap64 (2 + t242)) then (none) else ((galloonlaw06_ints.f k bt251.1 bt255.1).bind fun t267 => (if ((t249 == (-1)) != t267) = true then (none) else ((galloonlaw06_ints.f k bt259.1 bt263.1).bind fun t268 => (if ((t249 == (-1)) != t268) = true then (none) else (if t249 ≥ 0 then (if 0 ≤ t249 then (if t249 < (bt251.1.length : Int) then (if t249 < (bt255.1.length : Int) then (galloonlaw06_ShuffleSame.j0 k (wrap64 (2 + t242)) a3 t243 ((rd bt251.1 t249) == (rd bt255.1 t249))) else (none)) else (none)) else (none)) else (galloonlaw06_ShuffleSame.j0 k (wrap64 (2 + t242)) a3 t243 false)))))))) else (none)) else (none)) else (none)) else (none)) else (none)) else (none)) else (none)))))) = some r := H
 have A8 := Aside0.mk A80
 clear A80
 replace H := Option.bind_eq_some_iff.mp H
 obtain ⟨⟨t251, t252⟩, A90, H⟩ := H
 replace H : ((shuffle_Values.f k (wrap64 (2 + t242)) t246).bind fun bt255 => ((shuffle_Form.f k (wrap64 (2 + t242)) t251).bind fun bt259 => ((shuffle_Form.f k (wrap64 (2 + t242)) bt255.1).bind fun bt263 => (if t250 = 0 then (if t252 = 0 then (if bt255.2 = 0 then (if bt259.2 = 0 then (if bt263.2 = 0 then (if (t251.length : Int) = (wrap64 (2 + t242)) then (if (bt255.1.length : Int) = (wrap64 (2 + t242)) then (if t249 < (-1) then (none) else (if t249 ≥ (wrap64 (2 + t242)) then (none) else ((galloonlaw06_ints.f k t251 bt255.1).bind fun t267 => (if ((t249 == (-1)) != t267) = true then (none) else ((galloonlaw06_ints.f k bt259.1 bt263.1).bind fun t268 => (if ((t249 == (-1)) != t268) = true then (none) else (if t249 ≥ 0 then (if 0 ≤ t249 then (if t249 < (t251.length : Int) then (if t249 < (bt255.1.length : Int) then (galloonlaw06_ShuffleSame.j0 k (wrap64 (2 + t242)) a3 t243 ((rd t251 t249) == (rd bt255.1 t249))) else (none)) else (none)) else (none)) else (galloonlaw06_ShuffleSame.j0 k (wrap64 (2 + t242)) a3 t243 false)))))))) else (none)) else (none)) else (none)) else (none)) else (none)) else (none)) else (none))))) = some r := H
 have A9 := Aside0.mk A90
 clear A90
 replace H := Option.bind_eq_some_iff.mp H
 obtain ⟨⟨t255, t256⟩, A100, H⟩ := H
 replace H : ((shuffle_Form.f k (wrap64 (2 + t242)) t251).bind fun bt259 => ((shuffle_Form.f k (wrap64 (2 + t242)) t255).bind fun bt263 => (if t250 = 0 then (if t252 = 0 then (if t256 = 0 then (if bt259.2 = 0 then (if bt263.2 = 0 then (if (t251.length : Int) = (wrap64 (2 + t242)) then (if (t255.length : Int) = (wrap64 (2 + t242)) then (if t249 < (-1) then (none) else (if t249 ≥ (wrap64 (2 + t242)) then (none) else ((galloonlaw06_ints.f k t251 t255).bind fun t267 => (if ((t249 == (-1)) != t267) = true then (none) else ((galloonlaw06_ints.f k bt259.1 bt263.1).bind fun t268 => (if ((t249 == (-1)) != t268) = true then (none) else (if t249 ≥ 0 then (if 0 ≤ t249 then (if t249 < (t251.length : Int) then (if t249 < (t255.length : Int) then (galloonlaw06_ShuffleSame.j0 k (wrap64 (2 + t242)) a3 t243 ((rd t251 t249) == (rd t255 t249))) else (none)) else (none)) else (none)) else (galloonlaw06_ShuffleSame.j0 k (wrap64 (2 + t242)) a3 t243 false)))))))) else (none)) else (none)) else (none)) else (none)) else (none)) else (none)) else (none)))) = some r := H
 have A10 := Aside0.mk A100
 clear A100
 replace H := Option.bind_eq_some_iff.mp H
 obtain ⟨⟨t259, t260⟩, A110, H⟩ := H
 replace H : ((shuffle_Form.f k (wrap64 (2 + t242)) t255).bind fun bt263 => (if t250 = 0 then (if t252 = 0 then (if t256 = 0 then (if t260 = 0 then (if bt263.2 = 0 then (if (t251.length : Int) = (wrap64 (2 + t242)) then (if (t255.length : Int) = (wrap64 (2 + t242)) then (if t249 < (-1) then (none) else (if t249 ≥ (wrap64 (2 + t242)) then (none) else ((galloonlaw06_ints.f k t251 t255).bind fun t267 => (if ((t249 == (-1)) != t267) = true then (none) else ((galloonlaw06_ints.f k t259 bt263.1).bind fun t268 => (if ((t249 == (-1)) != t268) = true then (none) else (if t249 ≥ 0 then (if 0 ≤ t249 then (if t249 < (t251.length : Int) then (if t249 < (t255.length : Int) then (galloonlaw06_ShuffleSame.j0 k (wrap64 (2 + t242)) a3 t243 ((rd t251 t249) == (rd t255 t249))) else (none)) else (none)) else (none)) else (galloonlaw06_ShuffleSame.j0 k (wrap64 (2 + t242)) a3 t243 false)))))))) else (none)) else (none)) else (none)) else (none)) else (none)) else (none)) else (none))) = some r := H
 have A11 := Aside0.mk A110
 clear A110
 replace H := Option.bind_eq_some_iff.mp H
 obtain ⟨⟨t263, t264⟩, A120, H⟩ := H
 replace H : (if t250 = 0 then (if t252 = 0 then (if t256 = 0 then (if t260 = 0 then (if t264 = 0 then (if (t251.length : Int) = (wrap64 (2 + t242)) then (if (t255.length : Int) = (wrap64 (2 + t242)) then (if t249 < (-1) then (none) else (if t249 ≥ (wrap64 (2 + t242)) then (none) else ((galloonlaw06_ints.f k t251 t255).bind fun t267 => (if ((t249 == (-1)) != t267) = true then (none) else ((galloonlaw06_ints.f k t259 t263).bind fun t268 => (if ((t249 == (-1)) != t268) = true then (none) else (if t249 ≥ 0 then (if 0 ≤ t249 then (if t249 < (t251.length : Int) then (if t249 < (t255.length : Int) then (galloonlaw06_ShuffleSame.j0 k (wrap64 (2 + t242)) a3 t243 ((rd t251 t249) == (rd t255 t249))) else (none)) else (none)) else (none)) else (galloonlaw06_ShuffleSame.j0 k (wrap64 (2 + t242)) a3 t243 false)))))))) else (none)) else (none)) else (none)) else (none)) else (none)) else (none)) else (none)) = some r := H
 have A12 := Aside0.mk A120
 clear A120
 have HC13 := Aside0.mk H
 clear H
 go_enter Try.func5, Try.ntmps5
 go_upto_region 8 with (first | ((with_reducible refine gate_callee (f := 15) rfl ?_); refine goesL_ (some 30) rfl rfl Try.func15 (by kernel_rfl) rfl #[.int .i64 a0, .int .i64 63] rfl (by (try simp only [List.map_toArray, List.map_cons, List.map_nil]); first | done | rfl | (simp only [List.length_drop, List.length_take]; rfl)) ?_; (with_reducible refine (galloonlaw06_mod.calls a0 63 t242 _ A5.out).mono ?_); rintro e w' ⟨rfl, ⟨nd, rfl⟩⟩; refine ⟨_, rfl, ?_⟩) | ((with_reducible refine gate_callee (f := 21) rfl ?_); refine goesL_ (some 34) rfl rfl Try.func21 (by kernel_rfl) rfl #[.int .i64 (wrap64 (2 + t242)), .slice A1 l1.length c1] rfl (by (try simp only [List.map_toArray, List.map_cons, List.map_nil]); first | done | rfl | (simp only [List.length_drop, List.length_take]; rfl)) ?_; (with_reducible refine (galloonlaw06_tame.calls k (wrap64 (2 + t242)) _ _ l1 t243 _ ?side1 ?side2 A6.out).mono ?_); (case side1 => repeat (first | exact HR1.out | (with_reducible refine Kd.C_alloc ?_ _) | (with_reducible refine Kd.C_drewN ?_ _) | (with_reducible refine Kd.C_drew ?_))); (case side2 => exact HC1.out); rintro e w14 ⟨v244, rfl, ho0, hb⟩; refine ⟨_, rfl, ?_⟩; have n0_ := Aside0.mk (Kd.R_lower ho0 (below_size (by repeat (first | (with_reducible first | exact HB.out | apply below_alloc | apply pw_below_drewN | apply below_drew1) | exact HB.out)))); have n1_ := Aside0.mk (below_step (by repeat (first | (with_reducible first | exact HB.out | apply below_alloc | apply pw_below_drewN | apply below_drew1) | exact HB.out)) hb); clear HB; have HO245 := n0_; have HB := n1_; clear n0_ n1_; (try clear hb); (try clear hb2); (try clear hk); (try clear hi); (try clear ho0)) | ((with_reducible refine gate_callee (f := 21) rfl ?_); refine goesL_ (some 37) rfl rfl Try.func21 (by kernel_rfl) rfl #[.int .i64 (wrap64 (2 + t242)), .slice A2 l2.length c2] rfl (by (try simp only [List.map_toArray, List.map_cons, List.map_nil]); first | done | rfl | (simp only [List.length_drop, List.length_take]; rfl)) ?_; (with_reducible refine (galloonlaw06_tame.calls k (wrap64 (2 + t242)) _ _ l2 t246 _ ?side1 ?side2 A7.out).mono ?_); (case side1 => repeat (first | exact (Kd.C_below HR2.out HB.out) | (with_reducible refine Kd.C_alloc ?_ _) | (with_reducible refine Kd.C_drewN ?_ _) | (with_reducible refine Kd.C_drew ?_))); (case side2 => exact HC2.out); rintro e w15 ⟨v247, rfl, ho0, hb⟩; refine ⟨_, rfl, ?_⟩; have n0_ := Aside0.mk (Kd.R_elder' (by (with_reducible repeat (first | apply Kd.R_alloc | apply Kd.R_drewN | apply Kd.R_drew)); exact HO245.out) (Kd.R_base ho0) hb); have n1_ := Aside0.mk (Kd.R_lower (Kd.R_new' ho0 (Kd.R_lt (by (with_reducible repeat (first | apply Kd.R_alloc | apply Kd.R_drewN | apply Kd.R_drew)); exact HO245.out))) (below_size (by repeat (first | (with_reducible first | exact HB.out | apply below_alloc | apply pw_below_drewN | apply below_drew1) | exact HB.out)))); have n2_ := Aside0.mk (below_step (by repeat (first | (with_reducible first | exact HB.out | apply below_alloc | apply pw_below_drewN | apply below_drew1) | exact HB.out)) hb); clear HO245; clear HB; have HO245 := n0_; have HO248 := n1_; have HB := n2_; clear n0_ n1_ n2_; (try clear hb); (try clear hb2); (try clear hk); (try clear hi); (try clear ho0); obtain ⟨Ao16, co16, eo16⟩ := Kd.R_slice HO245.out; subst eo16; obtain ⟨Ao17, co17, eo17⟩ := Kd.R_slice HO248.out; subst eo17) | ((with_reducible refine gate_callee (f := 24) rfl ?_); refine goesL_ (some 42) rfl rfl Try.func24 (by kernel_rfl) rfl #[.int .i64 (wrap64 (2 + t242)), .slice Ao16 t243.length co16, .slice Ao17 t246.length co17] rfl (by (try simp only [List.map_toArray, List.map_cons, List.map_nil]); first | done | rfl | (simp only [List.length_drop, List.length_take]; rfl)) ?_; (with_reducible refine (shuffle_Same.calls k (wrap64 (2 + t242)) _ _ t243 _ _ t246 t249 t250 _ ?side1 ?side2 ?side3 ?side4 A8.out).mono ?_); (case side1 => repeat (first | exact (Kd.R_reads' HO245.out).2.2 | (with_reducible refine Kd.C_alloc ?_ _) | (with_reducible refine Kd.C_drewN ?_ _) | (with_reducible refine Kd.C_drew ?_))); (case side2 => exact (Kd.R_reads' HO245.out).2.1); (case side3 => repeat (first | exact (Kd.R_reads' HO248.out).2.2 | (with_reducible refine Kd.C_alloc ?_ _) | (with_reducible refine Kd.C_drewN ?_ _) | (with_reducible refine Kd.C_drew ?_))); (case side4 => exact (Kd.R_reads' HO248.out).2.1); rintro e w18 ⟨rfl, hb⟩; refine ⟨_, rfl, ?_⟩; have n0_ := Aside0.mk (Kd.R_below (by (with_reducible repeat (first | apply Kd.R_alloc | apply Kd.R_drewN | apply Kd.R_drew)); exact HO245.out) hb); have n1_ := Aside0.mk (Kd.R_below (by (with_reducible repeat (first | apply Kd.R_alloc | apply Kd.R_drewN | apply Kd.R_drew)); exact HO248.out) hb); have n2_ := Aside0.mk (below_step (by repeat (first | (with_reducible first | exact HB.out | apply below_alloc | apply pw_below_drewN | apply below_drew1) | exact HB.out)) hb); clear HO245; clear HO248; clear HB; have HO245 := n0_; have HO248 := n1_; have HB := n2_; clear n0_ n1_ n2_; (try clear hb); (try clear hb2); (try clear hk); (try clear hi)) | ((with_reducible refine gate_callee (f := 20) rfl ?_); refine goesL_ (some 48) rfl rfl Try.func20 (by kernel_rfl) rfl #[.int .i64 (wrap64 (2 + t242)), .slice Ao16 t243.length co16] rfl (by (try simp only [List.map_toArray, List.map_cons, List.map_nil]); first | done | rfl | (simp only [List.length_drop, List.length_take]; rfl)) ?_; (with_reducible refine (shuffle_Values.calls k (wrap64 (2 + t242)) _ _ t243 t251 t252 _ ?side1 ?side2 A9.out).mono ?_); (case side1 => repeat (first | exact (Kd.R_reads' HO245.out).2.2 | (with_reducible refine Kd.C_alloc ?_ _) | (with_reducible refine Kd.C_drewN ?_ _) | (with_reducible refine Kd.C_drew ?_))); (case side2 => exact (Kd.R_reads' HO245.out).2.1); rintro e w19 ⟨v253, rfl, ho0, hb⟩; refine ⟨_, rfl, ?_⟩; have n0_ := Aside0.mk (Kd.R_elder' (by (with_reducible repeat (first | apply Kd.R_alloc | apply Kd.R_drewN | apply Kd.R_drew)); exact HO245.out) (Kd.R_base ho0) hb); have n1_ := Aside0.mk (Kd.R_elder' (by (with_reducible repeat (first | apply Kd.R_alloc | apply Kd.R_drewN | apply Kd.R_drew)); exact HO248.out) (Kd.R_base ho0) hb); have n2_ := Aside0.mk (Kd.R_lower (Kd.R_new' (Kd.R_new' ho0 (Kd.R_lt (by (with_reducible repeat (first | apply Kd.R_alloc | apply Kd.R_drewN | apply Kd.R_drew)); exact HO245.out))) (Kd.R_lt (by (with_reducible repeat (first | apply Kd.R_alloc | apply Kd.R_drewN | apply Kd.R_drew)); exact HO248.out))) (below_size (by repeat (first | (with_reducible first | exact HB.out | apply below_alloc | apply pw_below_drewN | apply below_drew1) | exact HB.out)))); have n3_ := Aside0.mk (below_step (by repeat (first | (with_reducible first | exact HB.out | apply below_alloc | apply pw_below_drewN | apply below_drew1) | exact HB.out)) hb); clear HO245; clear HO248; clear HB; have HO245 := n0_; have HO248 := n1_; have HO254 := n2_; have HB := n3_; clear n0_ n1_ n2_ n3_; (try clear hb); (try clear hb2); (try clear hk); (try clear hi); (try clear ho0)) | ((with_reducible refine gate_callee (f := 20) rfl ?_); refine goesL_ (some 54) rfl rfl Try.func20 (by kernel_rfl) rfl #[.int .i64 (wrap64 (2 + t242)), .slice Ao17 t246.length co17] rfl (by (try simp only [List.map_toArray, List.map_cons, List.map_nil]); first | done | rfl | (simp only [List.length_drop, List.length_take]; rfl)) ?_; (with_reducible refine (shuffle_Values.calls k (wrap64 (2 + t242)) _ _ t246 t255 t256 _ ?side1 ?side2 A10.out).mono ?_); (case side1 => repeat (first | exact (Kd.R_reads' HO248.out).2.2 | (with_reducible refine Kd.C_alloc ?_ _) | (with_reducible refine Kd.C_drewN ?_ _) | (with_reducible refine Kd.C_drew ?_))); (case side2 => exact (Kd.R_reads' HO248.out).2.1); rintro e w20 ⟨v257, rfl, ho0, hb⟩; refine ⟨_, rfl, ?_⟩; have n0_ := Aside0.mk (Kd.R_elder' (by (with_reducible repeat (first | apply Kd.R_alloc | apply Kd.R_drewN | apply Kd.R_drew)); exact HO245.out) (Kd.R_base ho0) hb); have n1_ := Aside0.mk (Kd.R_elder' (by (with_reducible repeat (first | apply Kd.R_alloc | apply Kd.R_drewN | apply Kd.R_drew)); exact HO248.out) (Kd.R_base ho0) hb); have n2_ := Aside0.mk (Kd.R_elder' (by (with_reducible repeat (first | apply Kd.R_alloc | apply Kd.R_drewN | apply Kd.R_drew)); exact HO254.out) (Kd.R_base ho0) hb); have n3_ := Aside0.mk (Kd.R_lower (Kd.R_new' (Kd.R_new' (Kd.R_new' ho0 (Kd.R_lt (by (with_reducible repeat (first | apply Kd.R_alloc | apply Kd.R_drewN | apply Kd.R_drew)); exact HO245.out))) (Kd.R_lt (by (with_reducible repeat (first | apply Kd.R_alloc | apply Kd.R_drewN | apply Kd.R_drew)); exact HO248.out))) (Kd.R_lt (by (with_reducible repeat (first | apply Kd.R_alloc | apply Kd.R_drewN | apply Kd.R_drew)); exact HO254.out))) (below_size (by repeat (first | (with_reducible first | exact HB.out | apply below_alloc | apply pw_below_drewN | apply below_drew1) | exact HB.out)))); have n4_ := Aside0.mk (below_step (by repeat (first | (with_reducible first | exact HB.out | apply below_alloc | apply pw_below_drewN | apply below_drew1) | exact HB.out)) hb); clear HO245; clear HO248; clear HO254; clear HB; have HO245 := n0_; have HO248 := n1_; have HO254 := n2_; have HO258 := n3_; have HB := n4_; clear n0_ n1_ n2_ n3_ n4_; (try clear hb); (try clear hb2); (try clear hk); (try clear hi); (try clear ho0); obtain ⟨Ao21, co21, eo21⟩ := Kd.R_slice HO254.out; subst eo21) | ((with_reducible refine gate_callee (f := 23) rfl ?_); refine goesL_ (some 60) rfl rfl Try.func23 (by kernel_rfl) rfl #[.int .i64 (wrap64 (2 + t242)), .slice Ao21 t251.length co21] rfl (by (try simp only [List.map_toArray, List.map_cons, List.map_nil]); first | done | rfl | (simp only [List.length_drop, List.length_take]; rfl)) ?_; (with_reducible refine (shuffle_Form.calls k (wrap64 (2 + t242)) _ _ t251 t259 t260 _ ?side1 ?side2 A11.out).mono ?_); (case side1 => repeat (first | exact (Kd.R_reads' HO254.out).2.2 | (with_reducible refine Kd.C_alloc ?_ _) | (with_reducible refine Kd.C_drewN ?_ _) | (with_reducible refine Kd.C_drew ?_))); (case side2 => exact (Kd.R_reads' HO254.out).2.1); rintro e w22 ⟨v261, rfl, ho0, hb⟩; refine ⟨_, rfl, ?_⟩; have n0_ := Aside0.mk (Kd.R_elder' (by (with_reducible repeat (first | apply Kd.R_alloc | apply Kd.R_drewN | apply Kd.R_drew)); exact HO245.out) (Kd.R_base ho0) hb); have n1_ := Aside0.mk (Kd.R_elder' (by (with_reducible repeat (first | apply Kd.R_alloc | apply Kd.R_drewN | apply Kd.R_drew)); exact HO248.out) (Kd.R_base ho0) hb); have n2_ := Aside0.mk (Kd.R_elder' (by (with_reducible repeat (first | apply Kd.R_alloc | apply Kd.R_drewN | apply Kd.R_drew)); exact HO254.out) (Kd.R_base ho0) hb); have n3_ := Aside0.mk (Kd.R_elder' (by (with_reducible repeat (first | apply Kd.R_alloc | apply Kd.R_drewN | apply Kd.R_drew)); exact HO258.out) (Kd.R_base ho0) hb); have n4_ := Aside0.mk (Kd.R_lower (Kd.R_new' (Kd.R_new' (Kd.R_new' (Kd.R_new' ho0 (Kd.R_lt (by (with_reducible repeat (first | apply Kd.R_alloc | apply Kd.R_drewN | apply Kd.R_drew)); exact HO245.out))) (Kd.R_lt (by (with_reducible repeat (first | apply Kd.R_alloc | apply Kd.R_drewN | apply Kd.R_drew)); exact HO248.out))) (Kd.R_lt (by (with_reducible repeat (first | apply Kd.R_alloc | apply Kd.R_drewN | apply Kd.R_drew)); exact HO254.out))) (Kd.R_lt (by (with_reducible repeat (first | apply Kd.R_alloc | apply Kd.R_drewN | apply Kd.R_drew)); exact HO258.out))) (below_size (by repeat (first | (with_reducible first | exact HB.out | apply below_alloc | apply pw_below_drewN | apply below_drew1) | exact HB.out)))); have n5_ := Aside0.mk (below_step (by repeat (first | (with_reducible first | exact HB.out | apply below_alloc | apply pw_below_drewN | apply below_drew1) | exact HB.out)) hb); clear HO245; clear HO248; clear HO254; clear HO258; clear HB; have HO245 := n0_; have HO248 := n1_; have HO254 := n2_; have HO258 := n3_; have HO262 := n4_; have HB := n5_; clear n0_ n1_ n2_ n3_ n4_ n5_; (try clear hb); (try clear hb2); (try clear hk); (try clear hi); (try clear ho0); obtain ⟨Ao23, co23, eo23⟩ := Kd.R_slice HO258.out; subst eo23) | ((with_reducible refine gate_callee (f := 23) rfl ?_); refine goesL_ (some 66) rfl rfl Try.func23 (by kernel_rfl) rfl #[.int .i64 (wrap64 (2 + t242)), .slice Ao23 t255.length co23] rfl (by (try simp only [List.map_toArray, List.map_cons, List.map_nil]); first | done | rfl | (simp only [List.length_drop, List.length_take]; rfl)) ?_; (with_reducible refine (shuffle_Form.calls k (wrap64 (2 + t242)) _ _ t255 t263 t264 _ ?side1 ?side2 A12.out).mono ?_); (case side1 => repeat (first | exact (Kd.R_reads' HO258.out).2.2 | (with_reducible refine Kd.C_alloc ?_ _) | (with_reducible refine Kd.C_drewN ?_ _) | (with_reducible refine Kd.C_drew ?_))); (case side2 => exact (Kd.R_reads' HO258.out).2.1); rintro e w24 ⟨v265, rfl, ho0, hb⟩; refine ⟨_, rfl, ?_⟩; have n0_ := Aside0.mk (Kd.R_elder' (by (with_reducible repeat (first | apply Kd.R_alloc | apply Kd.R_drewN | apply Kd.R_drew)); exact HO245.out) (Kd.R_base ho0) hb); have n1_ := Aside0.mk (Kd.R_elder' (by (with_reducible repeat (first | apply Kd.R_alloc | apply Kd.R_drewN | apply Kd.R_drew)); exact HO248.out) (Kd.R_base ho0) hb); have n2_ := Aside0.mk (Kd.R_elder' (by (with_reducible repeat (first | apply Kd.R_alloc | apply Kd.R_drewN | apply Kd.R_drew)); exact HO254.out) (Kd.R_base ho0) hb); have n3_ := Aside0.mk (Kd.R_elder' (by (with_reducible repeat (first | apply Kd.R_alloc | apply Kd.R_drewN | apply Kd.R_drew)); exact HO258.out) (Kd.R_base ho0) hb); have n4_ := Aside0.mk (Kd.R_elder' (by (with_reducible repeat (first | apply Kd.R_alloc | apply Kd.R_drewN | apply Kd.R_drew)); exact HO262.out) (Kd.R_base ho0) hb); have n5_ := Aside0.mk (Kd.R_lower (Kd.R_new' (Kd.R_new' (Kd.R_new' (Kd.R_new' (Kd.R_new' ho0 (Kd.R_lt (by (with_reducible repeat (first | apply Kd.R_alloc | apply Kd.R_drewN | apply Kd.R_drew)); exact HO245.out))) (Kd.R_lt (by (with_reducible repeat (first | apply Kd.R_alloc | apply Kd.R_drewN | apply Kd.R_drew)); exact HO248.out))) (Kd.R_lt (by (with_reducible repeat (first | apply Kd.R_alloc | apply Kd.R_drewN | apply Kd.R_drew)); exact HO254.out))) (Kd.R_lt (by (with_reducible repeat (first | apply Kd.R_alloc | apply Kd.R_drewN | apply Kd.R_drew)); exact HO258.out))) (Kd.R_lt (by (with_reducible repeat (first | apply Kd.R_alloc | apply Kd.R_drewN | apply Kd.R_drew)); exact HO262.out))) (below_size (by repeat (first | (with_reducible first | exact HB.out | apply below_alloc | apply pw_below_drewN | apply below_drew1) | exact HB.out)))); have n6_ := Aside0.mk (below_step (by repeat (first | (with_reducible first | exact HB.out | apply below_alloc | apply pw_below_drewN | apply below_drew1) | exact HB.out)) hb); clear HO245; clear HO248; clear HO254; clear HO258; clear HO262; clear HB; have HO245 := n0_; have HO248 := n1_; have HO254 := n2_; have HO258 := n3_; have HO262 := n4_; have HO266 := n5_; have HB := n6_; clear n0_ n1_ n2_ n3_ n4_ n5_ n6_; (try clear hb); (try clear hb2); (try clear hk); (try clear hi); (try clear ho0)))
 (try simp only [Act.put, List.setIfInBounds_toArray, List.set_cons_zero, List.set_cons_succ])
 go_cut [138] (fun v138 wc => ∃ (kq : Nat) (x138_12 : Bool), v138 = .bool x138_12 ∧ Aside0 (galloonlaw06_ShuffleSame.j0 kq (wrap64 (2 + t242)) a3 t243 x138_12 = some r) ∧ Aside0 (kq ≤ k) ∧ Aside0 (Kd.R (Kd.int .i64) 3 wc w.heap.size (fun _ => True) (.slice Ao16 t243.length co16) t243) ∧ Aside0 (Below w.heap.size w wc))
 case first =>
  as_aux_lemma =>
  have H := HC13.out
  clear HC13
  by_cases c25 : t250 = 0
  ·
   rw [if_pos c25] at H
   have c25b0 : (t250 == 0) = true := beq_iff_eq.mpr c25
   have c25b1 : (t250 != 0) = false := bne_eq_false_iff_eq.mpr c25
   clear c25
   (first | rw [c25b0] | (simp only [i64_w, i32_w]; rw [c25b0]) | skip)
   by_cases c26 : t252 = 0
   ·
    rw [if_pos c26] at H
    have c26b0 : (t252 == 0) = true := beq_iff_eq.mpr c26
    have c26b1 : (t252 != 0) = false := bne_eq_false_iff_eq.mpr c26
    clear c26
    by_cases c27 : t256 = 0
    ·
     rw [if_pos c27] at H
     have c27b0 : (t256 == 0) = true := beq_iff_eq.mpr c27
     have c27b1 : (t256 != 0) = false := bne_eq_false_iff_eq.mpr c27
     clear c27
     by_cases c28 : t260 = 0
     ·
      rw [if_pos c28] at H
      have c28b0 : (t260 == 0) = true := beq_iff_eq.mpr c28
      have c28b1 : (t260 != 0) = false := bne_eq_false_iff_eq.mpr c28
      clear c28
      by_cases c29 : t264 = 0
      ·
       rw [if_pos c29] at H
       have c29b0 : (t264 == 0) = true := beq_iff_eq.mpr c29
       have c29b1 : (t264 != 0) = false := bne_eq_false_iff_eq.mpr c29
       clear c29
       by_cases c30 : (t251.length : Int) = (wrap64 (2 + t242))
       ·
        rw [if_pos c30] at H
        have c30b0 : ((t251.length : Int) == (wrap64 (2 + t242))) = true := beq_iff_eq.mpr c30
        have c30b1 : ((t251.length : Int) != (wrap64 (2 + t242))) = false := bne_eq_false_iff_eq.mpr c30
        clear c30
        by_cases c31 : (t255.length : Int) = (wrap64 (2 + t242))
        ·
         rw [if_pos c31] at H
         have c31b0 : ((t255.length : Int) == (wrap64 (2 + t242))) = true := beq_iff_eq.mpr c31
         have c31b1 : ((t255.length : Int) != (wrap64 (2 + t242))) = false := bne_eq_false_iff_eq.mpr c31
         clear c31
         by_cases c32 : t249 < (-1)
         ·
          rw [if_pos c32] at H
          exact absurd H (by simp)
         ·
          rw [if_neg c32] at H
          have c32b0 : decide (t249 < (-1)) = false := decide_eq_false c32
          clear c32
          by_cases c33 : t249 ≥ (wrap64 (2 + t242))
          ·
           rw [if_pos c33] at H
           exact absurd H (by simp)
          ·
           rw [if_neg c33] at H
           have c33b0 : decide ((wrap64 (2 + t242)) ≤ t249) = false := decide_eq_false c33
           clear c33
           replace H := Option.bind_eq_some_iff.mp H
           obtain ⟨t267, A340, H⟩ := H
           replace H : (if ((t249 == (-1)) != t267) = true then (none) else ((galloonlaw06_ints.f k t259 t263).bind fun t268 => (if ((t249 == (-1)) != t268) = true then (none) else (if t249 ≥ 0 then (if 0 ≤ t249 then (if t249 < (t251.length : Int) then (if t249 < (t255.length : Int) then (galloonlaw06_ShuffleSame.j0 k (wrap64 (2 + t242)) a3 t243 ((rd t251 t249) == (rd t255 t249))) else (none)) else (none)) else (none)) else (galloonlaw06_ShuffleSame.j0 k (wrap64 (2 + t242)) a3 t243 false))))) = some r := H
           have A34 := Aside0.mk A340
           clear A340
           by_cases c35 : ((t249 == (-1)) != t267) = true
           ·
            rw [if_pos c35] at H
            exact absurd H (by simp)
           ·
            rw [if_neg c35] at H
            have c35b0 : ((t249 == (-1)) != t267) = false := by simpa using c35
            (try (have c35b1 : decide ((t249 == (-1)) = t267) = true := by simpa using c35))
            (try (have c35b2 : ((t249 == (-1)) == t267) = true := by simpa using c35))
            clear c35
            replace H := Option.bind_eq_some_iff.mp H
            obtain ⟨t268, A360, H⟩ := H
            replace H : (if ((t249 == (-1)) != t268) = true then (none) else (if t249 ≥ 0 then (if 0 ≤ t249 then (if t249 < (t251.length : Int) then (if t249 < (t255.length : Int) then (galloonlaw06_ShuffleSame.j0 k (wrap64 (2 + t242)) a3 t243 ((rd t251 t249) == (rd t255 t249))) else (none)) else (none)) else (none)) else (galloonlaw06_ShuffleSame.j0 k (wrap64 (2 + t242)) a3 t243 false))) = some r := H
            have A36 := Aside0.mk A360
            clear A360
            by_cases c37 : ((t249 == (-1)) != t268) = true
            ·
             rw [if_pos c37] at H
             exact absurd H (by simp)
            ·
             rw [if_neg c37] at H
             have c37b0 : ((t249 == (-1)) != t268) = false := by simpa using c37
             (try (have c37b1 : decide ((t249 == (-1)) = t268) = true := by simpa using c37))
             (try (have c37b2 : ((t249 == (-1)) == t268) = true := by simpa using c37))
             clear c37
             by_cases c38 : t249 ≥ 0
             ·
              rw [if_pos c38] at H
              have c38b0 : decide (0 ≤ t249) = true := decide_eq_true c38
              clear c38
              by_cases c39 : 0 ≤ t249
              ·
               rw [if_pos c39] at H
               have c39b0 : decide (0 ≤ t249) = true := decide_eq_true c39
               clear c39
               by_cases c40 : t249 < (t251.length : Int)
               ·
                rw [if_pos c40] at H
                have c40b0 : decide (t249 < (t251.length : Int)) = true := decide_eq_true c40
                clear c40
                by_cases c41 : t249 < (t255.length : Int)
                ·
                 rw [if_pos c41] at H
                 have c41b0 : decide (t249 < (t255.length : Int)) = true := decide_eq_true c41
                 clear c41
                 have H' := Aside0.mk H
                 clear H
                 try go_wp2
                 have n0_ := Aside0.mk (Kd.R_drew HO245.out)
                 have n1_ := Aside0.mk (Kd.R_drew HO248.out)
                 have n2_ := Aside0.mk (Kd.R_drew HO254.out)
                 have n3_ := Aside0.mk (Kd.R_drew HO258.out)
                 have n4_ := Aside0.mk (Kd.R_drew HO262.out)
                 have n5_ := Aside0.mk (Kd.R_drew HO266.out)
                 have n6_ := Aside0.mk (below_drew1 HB.out)
                 clear HO245
                 clear HO248
                 clear HO254
                 clear HO258
                 clear HO262
                 clear HO266
                 clear HB
                 have HO245 := n0_
                 have HO248 := n1_
                 have HO254 := n2_
                 have HO258 := n3_
                 have HO262 := n4_
                 have HO266 := n5_
                 have HB := n6_
                 clear n0_ n1_ n2_ n3_ n4_ n5_ n6_
                 have p269 : 0 ≤ (t249 : Int) := of_decide_eq_true (by assumption)
                 have q269 : t249 < (t251.length : Int) := of_decide_eq_true (by assumption)
                 obtain ⟨ad269, e269, hx269_0⟩ := Kd.at_int (Kd.R_reads' HO254.out).2.2 t249 p269 q269
                 cases e269
                 replace p269 := eq_true p269
                 replace q269 := eq_true q269
                 have p270 : 0 ≤ (t249 : Int) := of_decide_eq_true (by assumption)
                 have q270 : t249 < (t255.length : Int) := of_decide_eq_true (by assumption)
                 obtain ⟨ad270, e270, hx270_0⟩ := Kd.at_int (Kd.R_reads' HO258.out).2.2 t249 p270 q270
                 cases e270
                 replace p270 := eq_true p270
                 replace q270 := eq_true q270
                 as_aux_lemma =>
                 refine start_ (n := 70) (S := fun w' => w'.cell? (ad269.add (t249).toNat) = some (.int .i64 (rd t251 t249)) ∧ w'.cell? (ad270.add (t249).toNat) = some (.int .i64 (rd t255 t249))) (ds := []) #[false,false,false,false,false,false,false,false,false,false,false,false,false,false,false,false,false,false,false,false,false,false,false,false,false,false,false,false,false,false,false,false,false,false,false,false,false,false,false,false,false,false,false,false,false,false,false,false,false,false,false,false,false,false,false,false,false,false,false,false,false,false,false,false,false,false,false,false,false,false] (by kernel_rfl) rfl rfl ⟨hx269_0, hx270_0⟩ (fun hHeld => ?_); refine with_tabW galloonlaw06_ShuffleSame.tab8 galloonlaw06_ShuffleSame.bits8 (fun HT_ HW_ => ?_)
                 generalize w24.drew = w42 at HO245 HO248 HO254 HO258 HO262 HO266 HB hx269_0 hx270_0 hHeld ⊢
                 refine pure_ (i := 0) (N := some 69) (v := ?_) (a' := ?_) #[true,false,false,false,false,false,false,false,false,false,false,false,false,false,false,false,false,false,false,false,false,false,false,false,false,false,false,false,false,false,false,false,false,false,false,false,false,false,false,false,false,false,false,false,false,false,false,false,false,false,false,false,false,false,false,false,false,false,false,false,false,false,false,false,false,false,false,false,false,false] rfl rfl (any_of HT_.out (by kernel_rfl)) (fun _ _ _ h => h) (Or.inl ⟨by rfl, ?_⟩) ?_ ?_
                 rotate_left
                 ·
                  intro w'
                  go_simp
                  with_reducible rfl
                 rotate_left
                 ·
                  simp only [Act.put, Hand.s0_, List.set_cons_zero, Hand.s1_, i64_w, i32_w]
                  rfl
                 refine pure_ (i := 1) (N := some 70) (v := ?_) (a' := ?_) #[true,true,false,false,false,false,false,false,false,false,false,false,false,false,false,false,false,false,false,false,false,false,false,false,false,false,false,false,false,false,false,false,false,false,false,false,false,false,false,false,false,false,false,false,false,false,false,false,false,false,false,false,false,false,false,false,false,false,false,false,false,false,false,false,false,false,false,false,false,false] rfl rfl (any_of HT_.out (by kernel_rfl)) (fun _ _ _ h => h) (Or.inl ⟨by rfl, ?_⟩) ?_ ?_
                 rotate_left
                 ·
                  intro w'
                  go_simp
                  with_reducible rfl
                 rotate_left
                 ·
                  simp only [Act.put, Hand.s0_, List.set_cons_zero, Hand.s1_, i64_w, i32_w]
                  rfl
                 refine pure_ (i := 2) (N := some 71) (v := ?_) (a' := ?_) #[true,true,true,false,false,false,false,false,false,false,false,false,false,false,false,false,false,false,false,false,false,false,false,false,false,false,false,false,false,false,false,false,false,false,false,false,false,false,false,false,false,false,false,false,false,false,false,false,false,false,false,false,false,false,false,false,false,false,false,false,false,false,false,false,false,false,false,false,false,false] rfl rfl (any_of HT_.out (by kernel_rfl)) (fun _ _ _ h => h) (Or.inl ⟨by rfl, ?_⟩) ?_ ?_
                 rotate_left
                 ·
                  intro w'
                  go_simp
                  with_reducible rfl
                 rotate_left
                 ·
                  simp only [Act.put, Hand.s0_, List.set_cons_zero, Hand.s1_, i64_w, i32_w]
                  rfl
                 refine pure_ (i := 3) (N := some 72) (v := ?_) (a' := ?_) #[true,true,true,true,false,false,false,false,false,false,false,false,false,false,false,false,false,false,false,false,false,false,false,false,false,false,false,false,false,false,false,false,false,false,false,false,false,false,false,false,false,false,false,false,false,false,false,false,false,false,false,false,false,false,false,false,false,false,false,false,false,false,false,false,false,false,false,false,false,false] rfl rfl (any_of HT_.out (by kernel_rfl)) (fun _ _ _ h => h) (Or.inl ⟨by rfl, ?_⟩) ?_ ?_
                 rotate_left
                 ·
                  intro w'
                  go_simp
                  with_reducible rfl
                 rotate_left
                 ·
                  simp only [Act.put, Hand.s0_, List.set_cons_zero, Hand.s1_, i64_w, i32_w]
                  rfl
                 refine pure_ (i := 4) (N := some 73) (v := ?_) (a' := ?_) #[true,true,true,true,true,false,false,false,false,false,false,false,false,false,false,false,false,false,false,false,false,false,false,false,false,false,false,false,false,false,false,false,false,false,false,false,false,false,false,false,false,false,false,false,false,false,false,false,false,false,false,false,false,false,false,false,false,false,false,false,false,false,false,false,false,false,false,false,false,false] rfl rfl (any_of HT_.out (by kernel_rfl)) (fun _ _ _ h => h) (Or.inl ⟨by rfl, ?_⟩) ?_ ?_
                 rotate_left
                 ·
                  intro w'
                  go_simp
                  with_reducible rfl
                 rotate_left
                 ·
                  simp only [Act.put, Hand.s0_, List.set_cons_zero, Hand.s1_, i64_w, i32_w]
                  rfl
                 refine pure_ (i := 5) (N := some 74) (v := ?_) (a' := ?_) #[true,true,true,true,true,true,false,false,false,false,false,false,false,false,false,false,false,false,false,false,false,false,false,false,false,false,false,false,false,false,false,false,false,false,false,false,false,false,false,false,false,false,false,false,false,false,false,false,false,false,false,false,false,false,false,false,false,false,false,false,false,false,false,false,false,false,false,false,false,false] rfl rfl (any_of HT_.out (by kernel_rfl)) (fun _ _ _ h => h) (Or.inl ⟨by rfl, ?_⟩) ?_ ?_
                 rotate_left
                 ·
                  intro w'
                  go_simp
                  with_reducible rfl
                 rotate_left
                 ·
                  simp only [Act.put, Hand.s0_, List.set_cons_zero, Hand.s1_, i64_w, i32_w]
                  rfl
                 refine pure_ (i := 6) (N := some 75) (v := ?_) (a' := ?_) #[true,true,true,true,true,true,true,false,false,false,false,false,false,false,false,false,false,false,false,false,false,false,false,false,false,false,false,false,false,false,false,false,false,false,false,false,false,false,false,false,false,false,false,false,false,false,false,false,false,false,false,false,false,false,false,false,false,false,false,false,false,false,false,false,false,false,false,false,false,false] rfl rfl (any_of HT_.out (by kernel_rfl)) (fun _ _ _ h => h) (Or.inl ⟨by rfl, ?_⟩) ?_ ?_
                 rotate_left
                 ·
                  intro w'
                  go_simp
                  with_reducible rfl
                 rotate_left
                 ·
                  simp only [Act.put, Hand.s0_, List.set_cons_zero, Hand.s1_, i64_w, i32_w]
                  rfl
                 refine pure_ (i := 7) (N := some 76) (v := ?_) (a' := ?_) #[true,true,true,true,true,true,true,true,false,false,false,false,false,false,false,false,false,false,false,false,false,false,false,false,false,false,false,false,false,false,false,false,false,false,false,false,false,false,false,false,false,false,false,false,false,false,false,false,false,false,false,false,false,false,false,false,false,false,false,false,false,false,false,false,false,false,false,false,false,false] rfl rfl (any_of HT_.out (by kernel_rfl)) (fun _ _ _ h => h) (Or.inl ⟨by rfl, ?_⟩) ?_ ?_
                 rotate_left
                 ·
                  intro w'
                  go_simp
                  with_reducible rfl
                 rotate_left
                 ·
                  simp only [Act.put, Hand.s0_, List.set_cons_zero, Hand.s1_, i64_w, i32_w]
                  rfl
                 refine pure_ (i := 8) (N := some 77) (v := ?_) (a' := ?_) #[true,true,true,true,true,true,true,true,true,false,false,false,false,false,false,false,false,false,false,false,false,false,false,false,false,false,false,false,false,false,false,false,false,false,false,false,false,false,false,false,false,false,false,false,false,false,false,false,false,false,false,false,false,false,false,false,false,false,false,false,false,false,false,false,false,false,false,false,false,false] rfl rfl (any_of HT_.out (by kernel_rfl)) (fun _ _ _ h => h) (Or.inl ⟨by rfl, ?_⟩) ?_ ?_
                 rotate_left
                 ·
                  intro w'
                  go_simp
                  with_reducible rfl
                 rotate_left
                 ·
                  simp only [Act.put, Hand.s0_, List.set_cons_zero, Hand.s1_, i64_w, i32_w]
                  rfl
                 refine pure_ (i := 9) (N := some 78) (v := ?_) (a' := ?_) #[true,true,true,true,true,true,true,true,true,true,false,false,false,false,false,false,false,false,false,false,false,false,false,false,false,false,false,false,false,false,false,false,false,false,false,false,false,false,false,false,false,false,false,false,false,false,false,false,false,false,false,false,false,false,false,false,false,false,false,false,false,false,false,false,false,false,false,false,false,false] rfl rfl (any_of HT_.out (by kernel_rfl)) (fun _ _ _ h => h) (Or.inl ⟨by rfl, ?_⟩) ?_ ?_
                 rotate_left
                 ·
                  intro w'
                  go_simp
                  with_reducible rfl
                 rotate_left
                 ·
                  simp only [Act.put, Hand.s0_, List.set_cons_zero, Hand.s1_, i64_w, i32_w]
                  rfl
                 refine pure_ (i := 10) (N := some 79) (v := ?_) (a' := ?_) #[true,true,true,true,true,true,true,true,true,true,true,false,false,false,false,false,false,false,false,false,false,false,false,false,false,false,false,false,false,false,false,false,false,false,false,false,false,false,false,false,false,false,false,false,false,false,false,false,false,false,false,false,false,false,false,false,false,false,false,false,false,false,false,false,false,false,false,false,false,false] rfl rfl (any_of HT_.out (by kernel_rfl)) (fun _ _ _ h => h) (Or.inl ⟨by rfl, ?_⟩) ?_ ?_
                 rotate_left
                 ·
                  intro w'
                  go_simp
                  with_reducible rfl
                 rotate_left
                 ·
                  simp only [Act.put, Hand.s0_, List.set_cons_zero, Hand.s1_, i64_w, i32_w]
                  rfl
                 refine pure_ (i := 11) (N := some 80) (v := ?_) (a' := ?_) #[true,true,true,true,true,true,true,true,true,true,true,true,false,false,false,false,false,false,false,false,false,false,false,false,false,false,false,false,false,false,false,false,false,false,false,false,false,false,false,false,false,false,false,false,false,false,false,false,false,false,false,false,false,false,false,false,false,false,false,false,false,false,false,false,false,false,false,false,false,false] rfl rfl (any_of HT_.out (by kernel_rfl)) (fun _ _ _ h => h) (Or.inl ⟨by rfl, ?_⟩) ?_ ?_
                 rotate_left
                 ·
                  intro w'
                  go_simp
                  with_reducible rfl
                 rotate_left
                 ·
                  simp only [Act.put, Hand.s0_, List.set_cons_zero, Hand.s1_, i64_w, i32_w]
                  rfl
                 refine pure_ (i := 12) (N := some 81) (v := ?_) (a' := ?_) #[true,true,true,true,true,true,true,true,true,true,true,true,true,false,false,false,false,false,false,false,false,false,false,false,false,false,false,false,false,false,false,false,false,false,false,false,false,false,false,false,false,false,false,false,false,false,false,false,false,false,false,false,false,false,false,false,false,false,false,false,false,false,false,false,false,false,false,false,false,false] rfl rfl (any_of HT_.out (by kernel_rfl)) (fun _ _ _ h => h) (Or.inl ⟨by rfl, ?_⟩) ?_ ?_
                 rotate_left
                 ·
                  intro w'
                  go_simp
                  with_reducible rfl
                 rotate_left
                 ·
                  simp only [Act.put, Hand.s0_, List.set_cons_zero, Hand.s1_, i64_w, i32_w]
                  rfl
                 refine pure_ (i := 13) (N := some 82) (v := ?_) (a' := ?_) #[true,true,true,true,true,true,true,true,true,true,true,true,true,true,false,false,false,false,false,false,false,false,false,false,false,false,false,false,false,false,false,false,false,false,false,false,false,false,false,false,false,false,false,false,false,false,false,false,false,false,false,false,false,false,false,false,false,false,false,false,false,false,false,false,false,false,false,false,false,false] rfl rfl (any_of HT_.out (by kernel_rfl)) (fun _ _ _ h => h) (Or.inl ⟨by rfl, ?_⟩) ?_ ?_
                 rotate_left
                 ·
                  intro w'
                  go_simp
                  with_reducible rfl
                 rotate_left
                 ·
                  simp only [Act.put, Hand.s0_, List.set_cons_zero, Hand.s1_, i64_w, i32_w]
                  rfl
                 refine pure_ (i := 14) (N := some 83) (v := ?_) (a' := ?_) #[true,true,true,true,true,true,true,true,true,true,true,true,true,true,true,false,false,false,false,false,false,false,false,false,false,false,false,false,false,false,false,false,false,false,false,false,false,false,false,false,false,false,false,false,false,false,false,false,false,false,false,false,false,false,false,false,false,false,false,false,false,false,false,false,false,false,false,false,false,false] rfl rfl (any_of HT_.out (by kernel_rfl)) (fun _ _ _ h => h) (Or.inl ⟨by rfl, ?_⟩) ?_ ?_
                 rotate_left
                 ·
                  intro w'
                  go_simp
                  with_reducible rfl
                 rotate_left
                 ·
                  simp only [Act.put, Hand.s0_, List.set_cons_zero, Hand.s1_, i64_w, i32_w]
                  rfl
                 refine pure_ (i := 15) (N := some 84) (v := ?_) (a' := ?_) #[true,true,true,true,true,true,true,true,true,true,true,true,true,true,true,true,false,false,false,false,false,false,false,false,false,false,false,false,false,false,false,false,false,false,false,false,false,false,false,false,false,false,false,false,false,false,false,false,false,false,false,false,false,false,false,false,false,false,false,false,false,false,false,false,false,false,false,false,false,false] rfl rfl (any_of HT_.out (by kernel_rfl)) (fun _ _ _ h => h) (Or.inl ⟨by rfl, ?_⟩) ?_ ?_
                 rotate_left
                 ·
                  intro w'
                  go_simp
                  with_reducible rfl
                 rotate_left
                 ·
                  simp only [Act.put, Hand.s0_, List.set_cons_zero, Hand.s1_, i64_w, i32_w]
                  rfl
                 refine pure_ (i := 16) (N := some 85) (v := ?_) (a' := ?_) #[true,true,true,true,true,true,true,true,true,true,true,true,true,true,true,true,true,false,false,false,false,false,false,false,false,false,false,false,false,false,false,false,false,false,false,false,false,false,false,false,false,false,false,false,false,false,false,false,false,false,false,false,false,false,false,false,false,false,false,false,false,false,false,false,false,false,false,false,false,false] rfl rfl (any_of HT_.out (by kernel_rfl)) (fun _ _ _ h => h) (Or.inl ⟨by rfl, ?_⟩) ?_ ?_
                 rotate_left
                 ·
                  intro w'
                  go_simp
                  with_reducible rfl
                 rotate_left
                 ·
                  simp only [Act.put, Hand.s0_, List.set_cons_zero, Hand.s1_, i64_w, i32_w]
                  rfl
                 refine pure_ (i := 17) (N := some 86) (v := ?_) (a' := ?_) #[true,true,true,true,true,true,true,true,true,true,true,true,true,true,true,true,true,true,false,false,false,false,false,false,false,false,false,false,false,false,false,false,false,false,false,false,false,false,false,false,false,false,false,false,false,false,false,false,false,false,false,false,false,false,false,false,false,false,false,false,false,false,false,false,false,false,false,false,false,false] rfl rfl (any_of HT_.out (by kernel_rfl)) (fun _ _ _ h => h) (Or.inl ⟨by rfl, ?_⟩) ?_ ?_
                 rotate_left
                 ·
                  intro w'
                  go_simp
                  with_reducible rfl
                 rotate_left
                 ·
                  simp only [Act.put, Hand.s0_, List.set_cons_zero, Hand.s1_, i64_w, i32_w]
                  rfl
                 refine pure_ (i := 18) (N := some 87) (v := ?_) (a' := ?_) #[true,true,true,true,true,true,true,true,true,true,true,true,true,true,true,true,true,true,true,false,false,false,false,false,false,false,false,false,false,false,false,false,false,false,false,false,false,false,false,false,false,false,false,false,false,false,false,false,false,false,false,false,false,false,false,false,false,false,false,false,false,false,false,false,false,false,false,false,false,false] rfl rfl (any_of HT_.out (by kernel_rfl)) (fun _ _ _ h => h) (Or.inl ⟨by rfl, ?_⟩) ?_ ?_
                 rotate_left
                 ·
                  intro w'
                  go_simp
                  with_reducible rfl
                 rotate_left
                 ·
                  simp only [Act.put, Hand.s0_, List.set_cons_zero, Hand.s1_, i64_w, i32_w]
                  rfl
                 refine pure_ (i := 19) (N := some 88) (v := ?_) (a' := ?_) #[true,true,true,true,true,true,true,true,true,true,true,true,true,true,true,true,true,true,true,true,false,false,false,false,false,false,false,false,false,false,false,false,false,false,false,false,false,false,false,false,false,false,false,false,false,false,false,false,false,false,false,false,false,false,false,false,false,false,false,false,false,false,false,false,false,false,false,false,false,false] rfl rfl (any_of HT_.out (by kernel_rfl)) (fun _ _ _ h => h) (Or.inl ⟨by rfl, ?_⟩) ?_ ?_
                 rotate_left
                 ·
                  intro w'
                  go_simp
                  with_reducible rfl
                 rotate_left
                 ·
                  simp only [Act.put, Hand.s0_, List.set_cons_zero, Hand.s1_, i64_w, i32_w]
                  rfl
                 refine pure_ (i := 20) (N := some 89) (v := ?_) (a' := ?_) #[true,true,true,true,true,true,true,true,true,true,true,true,true,true,true,true,true,true,true,true,true,false,false,false,false,false,false,false,false,false,false,false,false,false,false,false,false,false,false,false,false,false,false,false,false,false,false,false,false,false,false,false,false,false,false,false,false,false,false,false,false,false,false,false,false,false,false,false,false,false] rfl rfl (any_of HT_.out (by kernel_rfl)) (fun _ _ _ h => h) (Or.inl ⟨by rfl, ?_⟩) ?_ ?_
                 rotate_left
                 ·
                  intro w'
                  go_simp
                  with_reducible rfl
                 rotate_left
                 ·
                  simp only [Act.put, Hand.s0_, List.set_cons_zero, Hand.s1_, i64_w, i32_w]
                  rfl
                 refine pure_ (i := 21) (N := some 90) (v := ?_) (a' := ?_) #[true,true,true,true,true,true,true,true,true,true,true,true,true,true,true,true,true,true,true,true,true,true,false,false,false,false,false,false,false,false,false,false,false,false,false,false,false,false,false,false,false,false,false,false,false,false,false,false,false,false,false,false,false,false,false,false,false,false,false,false,false,false,false,false,false,false,false,false,false,false] rfl rfl (any_of HT_.out (by kernel_rfl)) (fun _ _ _ h => h) (Or.inl ⟨by rfl, ?_⟩) ?_ ?_
                 rotate_left
                 ·
                  intro w'
                  go_simp
                  with_reducible rfl
                 rotate_left
                 ·
                  simp only [Act.put, Hand.s0_, List.set_cons_zero, Hand.s1_, i64_w, i32_w]
                  rfl
                 refine pure_ (i := 22) (N := some 91) (v := ?_) (a' := ?_) #[true,true,true,true,true,true,true,true,true,true,true,true,true,true,true,true,true,true,true,true,true,true,true,false,false,false,false,false,false,false,false,false,false,false,false,false,false,false,false,false,false,false,false,false,false,false,false,false,false,false,false,false,false,false,false,false,false,false,false,false,false,false,false,false,false,false,false,false,false,false] rfl rfl (any_of HT_.out (by kernel_rfl)) (fun _ _ _ h => h) (Or.inl ⟨by rfl, ?_⟩) ?_ ?_
                 rotate_left
                 ·
                  intro w'
                  go_simp
                  with_reducible rfl
                 rotate_left
                 ·
                  simp only [Act.put, Hand.s0_, List.set_cons_zero, Hand.s1_, i64_w, i32_w]
                  rfl
                 refine pure_ (i := 23) (N := some 92) (v := ?_) (a' := ?_) #[true,true,true,true,true,true,true,true,true,true,true,true,true,true,true,true,true,true,true,true,true,true,true,true,false,false,false,false,false,false,false,false,false,false,false,false,false,false,false,false,false,false,false,false,false,false,false,false,false,false,false,false,false,false,false,false,false,false,false,false,false,false,false,false,false,false,false,false,false,false] rfl rfl (any_of HT_.out (by kernel_rfl)) (fun _ _ _ h => h) (Or.inl ⟨by rfl, ?_⟩) ?_ ?_
                 rotate_left
                 ·
                  intro w'
                  go_simp
                  with_reducible rfl
                 rotate_left
                 ·
                  simp only [Act.put, Hand.s0_, List.set_cons_zero, Hand.s1_, i64_w, i32_w]
                  rfl
                 refine pure_ (i := 24) (N := some 93) (v := ?_) (a' := ?_) #[true,true,true,true,true,true,true,true,true,true,true,true,true,true,true,true,true,true,true,true,true,true,true,true,true,false,false,false,false,false,false,false,false,false,false,false,false,false,false,false,false,false,false,false,false,false,false,false,false,false,false,false,false,false,false,false,false,false,false,false,false,false,false,false,false,false,false,false,false,false] rfl rfl (any_of HT_.out (by kernel_rfl)) (fun _ _ _ h => h) (Or.inl ⟨by rfl, ?_⟩) ?_ ?_
                 rotate_left
                 ·
                  intro w'
                  go_simp
                  with_reducible rfl
                 rotate_left
                 ·
                  simp only [Act.put, Hand.s0_, List.set_cons_zero, Hand.s1_, i64_w, i32_w]
                  rfl
                 refine pure_ (i := 25) (N := some 94) (v := ?_) (a' := ?_) #[true,true,true,true,true,true,true,true,true,true,true,true,true,true,true,true,true,true,true,true,true,true,true,true,true,true,false,false,false,false,false,false,false,false,false,false,false,false,false,false,false,false,false,false,false,false,false,false,false,false,false,false,false,false,false,false,false,false,false,false,false,false,false,false,false,false,false,false,false,false] rfl rfl (any_of HT_.out (by kernel_rfl)) (fun _ _ _ h => h) (Or.inl ⟨by rfl, ?_⟩) ?_ ?_
                 rotate_left
                 ·
                  intro w'
                  go_simp
                  with_reducible rfl
                 rotate_left
                 ·
                  simp only [Act.put, Hand.s0_, List.set_cons_zero, Hand.s1_, i64_w, i32_w]
                  rfl
                 refine pure_ (i := 26) (N := some 95) (v := ?_) (a' := ?_) #[true,true,true,true,true,true,true,true,true,true,true,true,true,true,true,true,true,true,true,true,true,true,true,true,true,true,true,false,false,false,false,false,false,false,false,false,false,false,false,false,false,false,false,false,false,false,false,false,false,false,false,false,false,false,false,false,false,false,false,false,false,false,false,false,false,false,false,false,false,false] rfl rfl (any_of HT_.out (by kernel_rfl)) (fun _ _ _ h => h) (Or.inl ⟨by rfl, ?_⟩) ?_ ?_
                 rotate_left
                 ·
                  intro w'
                  go_simp
                  with_reducible rfl
                 rotate_left
                 ·
                  simp only [Act.put, Hand.s0_, List.set_cons_zero, Hand.s1_, i64_w, i32_w]
                  rfl
                 refine pure_ (i := 27) (N := some 96) (v := ?_) (a' := ?_) #[true,true,true,true,true,true,true,true,true,true,true,true,true,true,true,true,true,true,true,true,true,true,true,true,true,true,true,true,false,false,false,false,false,false,false,false,false,false,false,false,false,false,false,false,false,false,false,false,false,false,false,false,false,false,false,false,false,false,false,false,false,false,false,false,false,false,false,false,false,false] rfl rfl (any_of HT_.out (by kernel_rfl)) (fun _ _ _ h => h) (Or.inl ⟨by rfl, ?_⟩) ?_ ?_
                 rotate_left
                 ·
                  intro w'
                  go_simp
                  with_reducible rfl
                 rotate_left
                 ·
                  simp only [Act.put, Hand.s0_, List.set_cons_zero, Hand.s1_, i64_w, i32_w]
                  rfl
                 refine pure_ (i := 28) (N := some 97) (v := ?_) (a' := ?_) #[true,true,true,true,true,true,true,true,true,true,true,true,true,true,true,true,true,true,true,true,true,true,true,true,true,true,true,true,true,false,false,false,false,false,false,false,false,false,false,false,false,false,false,false,false,false,false,false,false,false,false,false,false,false,false,false,false,false,false,false,false,false,false,false,false,false,false,false,false,false] rfl rfl (any_of HT_.out (by kernel_rfl)) (fun _ _ _ h => h) (Or.inl ⟨by rfl, ?_⟩) ?_ ?_
                 rotate_left
                 ·
                  intro w'
                  go_simp
                  with_reducible rfl
                 rotate_left
                 ·
                  simp only [Act.put, Hand.s0_, List.set_cons_zero, Hand.s1_, i64_w, i32_w]
                  rfl
                 refine pure_ (i := 29) (N := some 98) (v := ?_) (a' := ?_) #[true,true,true,true,true,true,true,true,true,true,true,true,true,true,true,true,true,true,true,true,true,true,true,true,true,true,true,true,true,true,false,false,false,false,false,false,false,false,false,false,false,false,false,false,false,false,false,false,false,false,false,false,false,false,false,false,false,false,false,false,false,false,false,false,false,false,false,false,false,false] rfl rfl (any_of HT_.out (by kernel_rfl)) (fun _ _ _ h => h) (Or.inl ⟨by rfl, ?_⟩) ?_ ?_
                 rotate_left
                 ·
                  intro w'
                  go_simp
                  with_reducible rfl
                 rotate_left
                 ·
                  simp only [Act.put, Hand.s0_, List.set_cons_zero, Hand.s1_, i64_w, i32_w]
                  rfl
                 refine pure_ (i := 30) (N := some 99) (v := ?_) (a' := ?_) #[true,true,true,true,true,true,true,true,true,true,true,true,true,true,true,true,true,true,true,true,true,true,true,true,true,true,true,true,true,true,true,false,false,false,false,false,false,false,false,false,false,false,false,false,false,false,false,false,false,false,false,false,false,false,false,false,false,false,false,false,false,false,false,false,false,false,false,false,false,false] rfl rfl (any_of HT_.out (by kernel_rfl)) (fun _ _ _ h => h) (Or.inl ⟨by rfl, ?_⟩) ?_ ?_
                 rotate_left
                 ·
                  intro w'
                  go_simp
                  with_reducible rfl
                 rotate_left
                 ·
                  simp only [Act.put, Hand.s0_, List.set_cons_zero, Hand.s1_, i64_w, i32_w]
                  rfl
                 refine pure_ (i := 31) (N := some 100) (v := ?_) (a' := ?_) #[true,true,true,true,true,true,true,true,true,true,true,true,true,true,true,true,true,true,true,true,true,true,true,true,true,true,true,true,true,true,true,true,false,false,false,false,false,false,false,false,false,false,false,false,false,false,false,false,false,false,false,false,false,false,false,false,false,false,false,false,false,false,false,false,false,false,false,false,false,false] rfl rfl (any_of HT_.out (by kernel_rfl)) (fun _ _ _ h => h) (Or.inl ⟨by rfl, ?_⟩) ?_ ?_
                 rotate_left
                 ·
                  intro w'
                  go_simp
                  with_reducible rfl
                 rotate_left
                 ·
                  simp only [Act.put, Hand.s0_, List.set_cons_zero, Hand.s1_, i64_w, i32_w]
                  rfl
                 refine pure_ (i := 32) (N := some 101) (v := ?_) (a' := ?_) #[true,true,true,true,true,true,true,true,true,true,true,true,true,true,true,true,true,true,true,true,true,true,true,true,true,true,true,true,true,true,true,true,true,false,false,false,false,false,false,false,false,false,false,false,false,false,false,false,false,false,false,false,false,false,false,false,false,false,false,false,false,false,false,false,false,false,false,false,false,false] rfl rfl (any_of HT_.out (by kernel_rfl)) (fun _ _ _ h => h) (Or.inl ⟨by rfl, ?_⟩) ?_ ?_
                 rotate_left
                 ·
                  intro w'
                  go_simp
                  with_reducible rfl
                 rotate_left
                 ·
                  simp only [Act.put, Hand.s0_, List.set_cons_zero, Hand.s1_, i64_w, i32_w]
                  rfl
                 refine pure_ (i := 33) (N := some 102) (v := ?_) (a' := ?_) #[true,true,true,true,true,true,true,true,true,true,true,true,true,true,true,true,true,true,true,true,true,true,true,true,true,true,true,true,true,true,true,true,true,true,false,false,false,false,false,false,false,false,false,false,false,false,false,false,false,false,false,false,false,false,false,false,false,false,false,false,false,false,false,false,false,false,false,false,false,false] rfl rfl (any_of HT_.out (by kernel_rfl)) (fun _ _ _ h => h) (Or.inl ⟨by rfl, ?_⟩) ?_ ?_
                 rotate_left
                 ·
                  intro w'
                  go_simp
                  with_reducible rfl
                 rotate_left
                 ·
                  simp only [Act.put, Hand.s0_, List.set_cons_zero, Hand.s1_, i64_w, i32_w]
                  rfl
                 refine pure_ (i := 34) (N := some 103) (v := ?_) (a' := ?_) #[true,true,true,true,true,true,true,true,true,true,true,true,true,true,true,true,true,true,true,true,true,true,true,true,true,true,true,true,true,true,true,true,true,true,true,false,false,false,false,false,false,false,false,false,false,false,false,false,false,false,false,false,false,false,false,false,false,false,false,false,false,false,false,false,false,false,false,false,false,false] rfl rfl (any_of HT_.out (by kernel_rfl)) (fun _ _ _ h => h) (Or.inl ⟨by rfl, ?_⟩) ?_ ?_
                 rotate_left
                 ·
                  intro w'
                  go_simp
                  with_reducible rfl
                 rotate_left
                 ·
                  simp only [Act.put, Hand.s0_, List.set_cons_zero, Hand.s1_, i64_w, i32_w]
                  rfl
                 refine pure_ (i := 35) (N := some 104) (v := ?_) (a' := ?_) #[true,true,true,true,true,true,true,true,true,true,true,true,true,true,true,true,true,true,true,true,true,true,true,true,true,true,true,true,true,true,true,true,true,true,true,true,false,false,false,false,false,false,false,false,false,false,false,false,false,false,false,false,false,false,false,false,false,false,false,false,false,false,false,false,false,false,false,false,false,false] rfl rfl (any_of HT_.out (by kernel_rfl)) (fun _ _ _ h => h) (Or.inl ⟨by rfl, ?_⟩) ?_ ?_
                 rotate_left
                 ·
                  intro w'
                  go_simp
                  with_reducible rfl
                 rotate_left
                 ·
                  simp only [Act.put, Hand.s0_, List.set_cons_zero, Hand.s1_, i64_w, i32_w]
                  rfl
                 refine pure_ (i := 36) (N := some 105) (v := ?_) (a' := ?_) #[true,true,true,true,true,true,true,true,true,true,true,true,true,true,true,true,true,true,true,true,true,true,true,true,true,true,true,true,true,true,true,true,true,true,true,true,true,false,false,false,false,false,false,false,false,false,false,false,false,false,false,false,false,false,false,false,false,false,false,false,false,false,false,false,false,false,false,false,false,false] rfl rfl (any_of HT_.out (by kernel_rfl)) (fun _ _ _ h => h) (Or.inl ⟨by rfl, ?_⟩) ?_ ?_
                 rotate_left
                 ·
                  intro w'
                  go_simp
                  with_reducible rfl
                 rotate_left
                 ·
                  simp only [Act.put, Hand.s0_, List.set_cons_zero, Hand.s1_, i64_w, i32_w]
                  rfl
                 refine pure_ (i := 37) (N := some 106) (v := ?_) (a' := ?_) #[true,true,true,true,true,true,true,true,true,true,true,true,true,true,true,true,true,true,true,true,true,true,true,true,true,true,true,true,true,true,true,true,true,true,true,true,true,true,false,false,false,false,false,false,false,false,false,false,false,false,false,false,false,false,false,false,false,false,false,false,false,false,false,false,false,false,false,false,false,false] rfl rfl (any_of HT_.out (by kernel_rfl)) (fun _ _ _ h => h) (Or.inl ⟨by rfl, ?_⟩) ?_ ?_
                 rotate_left
                 ·
                  intro w'
                  go_simp
                  with_reducible rfl
                 rotate_left
                 ·
                  simp only [Act.put, Hand.s0_, List.set_cons_zero, Hand.s1_, i64_w, i32_w]
                  rfl
                 refine pure_ (i := 38) (N := some 107) (v := ?_) (a' := ?_) #[true,true,true,true,true,true,true,true,true,true,true,true,true,true,true,true,true,true,true,true,true,true,true,true,true,true,true,true,true,true,true,true,true,true,true,true,true,true,true,false,false,false,false,false,false,false,false,false,false,false,false,false,false,false,false,false,false,false,false,false,false,false,false,false,false,false,false,false,false,false] rfl rfl (any_of HT_.out (by kernel_rfl)) (fun _ _ _ h => h) (Or.inl ⟨by rfl, ?_⟩) ?_ ?_
                 rotate_left
                 ·
                  intro w'
                  go_simp
                  with_reducible rfl
                 rotate_left
                 ·
                  simp only [Act.put, Hand.s0_, List.set_cons_zero, Hand.s1_, i64_w, i32_w]
                  rfl
                 refine pure_ (i := 39) (N := some 108) (v := ?_) (a' := ?_) #[true,true,true,true,true,true,true,true,true,true,true,true,true,true,true,true,true,true,true,true,true,true,true,true,true,true,true,true,true,true,true,true,true,true,true,true,true,true,true,true,false,false,false,false,false,false,false,false,false,false,false,false,false,false,false,false,false,false,false,false,false,false,false,false,false,false,false,false,false,false] rfl rfl (any_of HT_.out (by kernel_rfl)) (fun _ _ _ h => h) (Or.inl ⟨by rfl, ?_⟩) ?_ ?_
                 rotate_left
                 ·
                  intro w'
                  go_simp
                  with_reducible rfl
                 rotate_left
                 ·
                  simp only [Act.put, Hand.s0_, List.set_cons_zero, Hand.s1_, i64_w, i32_w]
                  rfl
                 refine pure_ (i := 40) (N := some 109) (v := ?_) (a' := ?_) #[true,true,true,true,true,true,true,true,true,true,true,true,true,true,true,true,true,true,true,true,true,true,true,true,true,true,true,true,true,true,true,true,true,true,true,true,true,true,true,true,true,false,false,false,false,false,false,false,false,false,false,false,false,false,false,false,false,false,false,false,false,false,false,false,false,false,false,false,false,false] rfl rfl (any_of HT_.out (by kernel_rfl)) (fun _ _ _ h => h) (Or.inl ⟨by rfl, ?_⟩) ?_ ?_
                 rotate_left
                 ·
                  intro w'
                  go_simp
                  with_reducible rfl
                 rotate_left
                 ·
                  simp only [Act.put, Hand.s0_, List.set_cons_zero, Hand.s1_, i64_w, i32_w]
                  rfl
                 refine pure_ (i := 41) (N := some 110) (v := ?_) (a' := ?_) #[true,true,true,true,true,true,true,true,true,true,true,true,true,true,true,true,true,true,true,true,true,true,true,true,true,true,true,true,true,true,true,true,true,true,true,true,true,true,true,true,true,true,false,false,false,false,false,false,false,false,false,false,false,false,false,false,false,false,false,false,false,false,false,false,false,false,false,false,false,false] rfl rfl (any_of HT_.out (by kernel_rfl)) (fun _ _ _ h => h) (Or.inl ⟨by rfl, ?_⟩) ?_ ?_
                 rotate_left
                 ·
                  intro w'
                  go_simp
                  with_reducible rfl
                 rotate_left
                 ·
                  simp only [Act.put, Hand.s0_, List.set_cons_zero, Hand.s1_, i64_w, i32_w]
                  rfl
                 refine pure_ (i := 42) (N := some 111) (v := ?_) (a' := ?_) #[true,true,true,true,true,true,true,true,true,true,true,true,true,true,true,true,true,true,true,true,true,true,true,true,true,true,true,true,true,true,true,true,true,true,true,true,true,true,true,true,true,true,true,false,false,false,false,false,false,false,false,false,false,false,false,false,false,false,false,false,false,false,false,false,false,false,false,false,false,false] rfl rfl (any_of HT_.out (by kernel_rfl)) (fun _ _ _ h => h) (Or.inl ⟨by rfl, ?_⟩) ?_ ?_
                 rotate_left
                 ·
                  intro w'
                  go_simp
                  with_reducible rfl
                 rotate_left
                 ·
                  simp only [Act.put, Hand.s0_, List.set_cons_zero, Hand.s1_, i64_w, i32_w]
                  rfl
                 refine pure_ (i := 43) (N := some 112) (v := ?_) (a' := ?_) #[true,true,true,true,true,true,true,true,true,true,true,true,true,true,true,true,true,true,true,true,true,true,true,true,true,true,true,true,true,true,true,true,true,true,true,true,true,true,true,true,true,true,true,true,false,false,false,false,false,false,false,false,false,false,false,false,false,false,false,false,false,false,false,false,false,false,false,false,false,false] rfl rfl (any_of HT_.out (by kernel_rfl)) (fun _ _ _ h => h) (Or.inl ⟨by rfl, ?_⟩) ?_ ?_
                 rotate_left
                 ·
                  intro w'
                  go_simp
                  with_reducible rfl
                 rotate_left
                 ·
                  simp only [Act.put, Hand.s0_, List.set_cons_zero, Hand.s1_, i64_w, i32_w]
                  rfl
                 refine one_ (i := 44) (N := some 113) #[true,true,true,true,true,true,true,true,true,true,true,true,true,true,true,true,true,true,true,true,true,true,true,true,true,true,true,true,true,true,true,true,true,true,true,true,true,true,true,true,true,true,true,true,true,false,false,false,false,false,false,false,false,false,false,false,false,false,false,false,false,false,false,false,false,false,false,false,false,false] rfl rfl (one_of HT_.out (by kernel_rfl)) (by decide) (fun K hK => ?_)
                 refine goes_ Try.func25 (by kernel_rfl) rfl #[.slice (some ad269) t251.length co21, .slice (some ad270) t255.length co23] (by rfl) rfl rfl (by (try simp only [List.map_toArray, List.map_cons, List.map_nil]); first | done | rfl | (simp only [List.length_drop, List.length_take]; rfl)) ?_
                 with_reducible refine (galloonlaw06_ints.calls k _ _ t251 _ _ t255 t267 _ ?side1 ?side2 ?side3 ?side4 A34.out).mono ?_
                 (case side1 => repeat (first | exact (Kd.R_reads' HO254.out).2.2 | (with_reducible refine Kd.C_alloc ?_ _) | (with_reducible refine Kd.C_drewN ?_ _) | (with_reducible refine Kd.C_drew ?_)))
                 (case side2 => exact (Kd.R_reads' HO254.out).2.1)
                 (case side3 => repeat (first | exact (Kd.R_reads' HO258.out).2.2 | (with_reducible refine Kd.C_alloc ?_ _) | (with_reducible refine Kd.C_drewN ?_ _) | (with_reducible refine Kd.C_drew ?_)))
                 (case side4 => exact (Kd.R_reads' HO258.out).2.1)
                 rintro e w' ⟨rfl, ⟨nd, rfl⟩⟩
                 refine ⟨_, rfl, ?_⟩
                 obtain ⟨Ao43, co43, eo43⟩ := Kd.R_slice HO262.out
                 (first | subst eo43 | (injection eo43 with f1_ f2_ f3_; have f4_ := f1_.symm; have f5_ := f3_.symm; clear f1_ f2_ f3_; subst f4_; subst f5_))
                 obtain ⟨Ao44, co44, eo44⟩ := Kd.R_slice HO266.out
                 (first | subst eo44 | (injection eo44 with f1_ f2_ f3_; have f4_ := f1_.symm; have f5_ := f3_.symm; clear f1_ f2_ f3_; subst f4_; subst f5_))
                 refine hK.out _ _ ⟨hHeld.1, hHeld.2⟩ (fun hHeld => ?_)
                 clear hK K
                 refine norm_ (a' := ?_) ?_ ?_
                 rotate_left
                 ·
                  show Act.put _ (some 113) _ = _
                  simp only [Act.put, Hand.s0_, List.set_cons_zero, Hand.s1_, i64_w, i32_w]
                  rfl
                 refine pure_ (i := 45) (N := some 114) (v := ?_) (a' := ?_) #[true,true,true,true,true,true,true,true,true,true,true,true,true,true,true,true,true,true,true,true,true,true,true,true,true,true,true,true,true,true,true,true,true,true,true,true,true,true,true,true,true,true,true,true,true,true,false,false,false,false,false,false,false,false,false,false,false,false,false,false,false,false,false,false,false,false,false,false,false,false] rfl rfl (any_of HT_.out (by kernel_rfl)) (fun _ _ _ h => h) (Or.inl ⟨by rfl, ?_⟩) ?_ ?_
                 rotate_left
                 ·
                  intro w'
                  go_simp
                  with_reducible rfl
                 rotate_left
                 ·
                  simp only [Act.put, Hand.s0_, List.set_cons_zero, Hand.s1_, i64_w, i32_w]
                  rfl
                 refine pure_ (i := 46) (N := some 115) (v := ?_) (a' := ?_) #[true,true,true,true,true,true,true,true,true,true,true,true,true,true,true,true,true,true,true,true,true,true,true,true,true,true,true,true,true,true,true,true,true,true,true,true,true,true,true,true,true,true,true,true,true,true,true,false,false,false,false,false,false,false,false,false,false,false,false,false,false,false,false,false,false,false,false,false,false,false] rfl rfl (any_of HT_.out (by kernel_rfl)) (fun _ _ _ h => h) (Or.inl ⟨by rfl, ?_⟩) ?_ ?_
                 rotate_left
                 ·
                  intro w'
                  go_simp
                  with_reducible rfl
                 rotate_left
                 ·
                  simp only [Act.put, Hand.s0_, List.set_cons_zero, Hand.s1_, i64_w, i32_w]
                  rfl
                 refine pure_ (i := 47) (N := some 116) (v := ?_) (a' := ?_) #[true,true,true,true,true,true,true,true,true,true,true,true,true,true,true,true,true,true,true,true,true,true,true,true,true,true,true,true,true,true,true,true,true,true,true,true,true,true,true,true,true,true,true,true,true,true,true,true,false,false,false,false,false,false,false,false,false,false,false,false,false,false,false,false,false,false,false,false,false,false] rfl rfl (any_of HT_.out (by kernel_rfl)) (fun _ _ _ h => h) (Or.inl ⟨by rfl, ?_⟩) ?_ ?_
                 rotate_left
                 ·
                  intro w'
                  go_simp
                  with_reducible rfl
                 rotate_left
                 ·
                  simp only [Act.put, Hand.s0_, List.set_cons_zero, Hand.s1_, i64_w, i32_w]
                  rfl
                 refine pure_ (i := 48) (N := some 117) (v := ?_) (a' := ?_) #[true,true,true,true,true,true,true,true,true,true,true,true,true,true,true,true,true,true,true,true,true,true,true,true,true,true,true,true,true,true,true,true,true,true,true,true,true,true,true,true,true,true,true,true,true,true,true,true,true,false,false,false,false,false,false,false,false,false,false,false,false,false,false,false,false,false,false,false,false,false] rfl rfl (any_of HT_.out (by kernel_rfl)) (fun _ _ _ h => h) (Or.inl ⟨by rfl, ?_⟩) ?_ ?_
                 rotate_left
                 ·
                  intro w'
                  go_simp
                  with_reducible rfl
                 rotate_left
                 ·
                  simp only [Act.put, Hand.s0_, List.set_cons_zero, Hand.s1_, i64_w, i32_w]
                  rfl
                 refine pure_ (i := 49) (N := some 118) (v := ?_) (a' := ?_) #[true,true,true,true,true,true,true,true,true,true,true,true,true,true,true,true,true,true,true,true,true,true,true,true,true,true,true,true,true,true,true,true,true,true,true,true,true,true,true,true,true,true,true,true,true,true,true,true,true,true,false,false,false,false,false,false,false,false,false,false,false,false,false,false,false,false,false,false,false,false] rfl rfl (any_of HT_.out (by kernel_rfl)) (fun _ _ _ h => h) (Or.inl ⟨by rfl, ?_⟩) ?_ ?_
                 rotate_left
                 ·
                  intro w'
                  go_simp
                  with_reducible rfl
                 rotate_left
                 ·
                  simp only [Act.put, Hand.s0_, List.set_cons_zero, Hand.s1_, i64_w, i32_w]
                  rfl
                 refine pure_ (i := 50) (N := some 119) (v := ?_) (a' := ?_) #[true,true,true,true,true,true,true,true,true,true,true,true,true,true,true,true,true,true,true,true,true,true,true,true,true,true,true,true,true,true,true,true,true,true,true,true,true,true,true,true,true,true,true,true,true,true,true,true,true,true,true,false,false,false,false,false,false,false,false,false,false,false,false,false,false,false,false,false,false,false] rfl rfl (any_of HT_.out (by kernel_rfl)) (fun _ _ _ h => h) (Or.inl ⟨by rfl, ?_⟩) ?_ ?_
                 rotate_left
                 ·
                  intro w'
                  go_simp
                  with_reducible rfl
                 rotate_left
                 ·
                  simp only [Act.put, Hand.s0_, List.set_cons_zero, Hand.s1_, i64_w, i32_w]
                  rfl
                 refine pure_ (i := 51) (N := some 120) (v := ?_) (a' := ?_) #[true,true,true,true,true,true,true,true,true,true,true,true,true,true,true,true,true,true,true,true,true,true,true,true,true,true,true,true,true,true,true,true,true,true,true,true,true,true,true,true,true,true,true,true,true,true,true,true,true,true,true,true,false,false,false,false,false,false,false,false,false,false,false,false,false,false,false,false,false,false] rfl rfl (any_of HT_.out (by kernel_rfl)) (fun _ _ _ h => h) (Or.inl ⟨by rfl, ?_⟩) ?_ ?_
                 rotate_left
                 ·
                  intro w'
                  go_simp
                  with_reducible rfl
                 rotate_left
                 ·
                  simp only [Act.put, Hand.s0_, List.set_cons_zero, Hand.s1_, i64_w, i32_w]
                  rfl
                 refine one_ (i := 52) (N := some 121) #[true,true,true,true,true,true,true,true,true,true,true,true,true,true,true,true,true,true,true,true,true,true,true,true,true,true,true,true,true,true,true,true,true,true,true,true,true,true,true,true,true,true,true,true,true,true,true,true,true,true,true,true,true,false,false,false,false,false,false,false,false,false,false,false,false,false,false,false,false,false] rfl rfl (one_of HT_.out (by kernel_rfl)) (by decide) (fun K hK => ?_)
                 refine goes_ Try.func25 (by kernel_rfl) rfl #[.slice Ao43 t259.length co43, .slice Ao44 t263.length co44] (by rfl) rfl rfl (by (try simp only [List.map_toArray, List.map_cons, List.map_nil]); first | done | rfl | (simp only [List.length_drop, List.length_take]; rfl)) ?_
                 with_reducible refine (galloonlaw06_ints.calls k _ _ t259 _ _ t263 t268 _ ?side1 ?side2 ?side3 ?side4 A36.out).mono ?_
                 (case side1 => repeat (first | exact (Kd.R_reads' HO262.out).2.2 | (with_reducible refine Kd.C_alloc ?_ _) | (with_reducible refine Kd.C_drewN ?_ _) | (with_reducible refine Kd.C_drew ?_)))
                 (case side2 => exact (Kd.R_reads' HO262.out).2.1)
                 (case side3 => repeat (first | exact (Kd.R_reads' HO266.out).2.2 | (with_reducible refine Kd.C_alloc ?_ _) | (with_reducible refine Kd.C_drewN ?_ _) | (with_reducible refine Kd.C_drew ?_)))
                 (case side4 => exact (Kd.R_reads' HO266.out).2.1)
                 rintro e w' ⟨rfl, ⟨nd, rfl⟩⟩
                 refine ⟨_, rfl, ?_⟩
                 refine hK.out _ _ ⟨hHeld.1, hHeld.2⟩ (fun hHeld => ?_)
                 clear hK K
                 refine norm_ (a' := ?_) ?_ ?_
                 rotate_left
                 ·
                  show Act.put _ (some 121) _ = _
                  simp only [Act.put, Hand.s0_, List.set_cons_zero, Hand.s1_, i64_w, i32_w]
                  rfl
                 refine pure_ (i := 53) (N := some 122) (v := ?_) (a' := ?_) #[true,true,true,true,true,true,true,true,true,true,true,true,true,true,true,true,true,true,true,true,true,true,true,true,true,true,true,true,true,true,true,true,true,true,true,true,true,true,true,true,true,true,true,true,true,true,true,true,true,true,true,true,true,true,false,false,false,false,false,false,false,false,false,false,false,false,false,false,false,false] rfl rfl (any_of HT_.out (by kernel_rfl)) (fun _ _ _ h => h) (Or.inl ⟨by rfl, ?_⟩) ?_ ?_
                 rotate_left
                 ·
                  intro w'
                  go_simp
                  with_reducible rfl
                 rotate_left
                 ·
                  simp only [Act.put, Hand.s0_, List.set_cons_zero, Hand.s1_, i64_w, i32_w]
                  rfl
                 refine pure_ (i := 54) (N := some 123) (v := ?_) (a' := ?_) #[true,true,true,true,true,true,true,true,true,true,true,true,true,true,true,true,true,true,true,true,true,true,true,true,true,true,true,true,true,true,true,true,true,true,true,true,true,true,true,true,true,true,true,true,true,true,true,true,true,true,true,true,true,true,true,false,false,false,false,false,false,false,false,false,false,false,false,false,false,false] rfl rfl (any_of HT_.out (by kernel_rfl)) (fun _ _ _ h => h) (Or.inl ⟨by rfl, ?_⟩) ?_ ?_
                 rotate_left
                 ·
                  intro w'
                  go_simp
                  with_reducible rfl
                 rotate_left
                 ·
                  simp only [Act.put, Hand.s0_, List.set_cons_zero, Hand.s1_, i64_w, i32_w]
                  rfl
                 refine pure_ (i := 55) (N := some 124) (v := ?_) (a' := ?_) #[true,true,true,true,true,true,true,true,true,true,true,true,true,true,true,true,true,true,true,true,true,true,true,true,true,true,true,true,true,true,true,true,true,true,true,true,true,true,true,true,true,true,true,true,true,true,true,true,true,true,true,true,true,true,true,true,false,false,false,false,false,false,false,false,false,false,false,false,false,false] rfl rfl (any_of HT_.out (by kernel_rfl)) (fun _ _ _ h => h) (Or.inl ⟨by rfl, ?_⟩) ?_ ?_
                 rotate_left
                 ·
                  intro w'
                  go_simp
                  with_reducible rfl
                 rotate_left
                 ·
                  simp only [Act.put, Hand.s0_, List.set_cons_zero, Hand.s1_, i64_w, i32_w]
                  rfl
                 refine pure_ (i := 56) (N := some 125) (v := ?_) (a' := ?_) #[true,true,true,true,true,true,true,true,true,true,true,true,true,true,true,true,true,true,true,true,true,true,true,true,true,true,true,true,true,true,true,true,true,true,true,true,true,true,true,true,true,true,true,true,true,true,true,true,true,true,true,true,true,true,true,true,true,false,false,false,false,false,false,false,false,false,false,false,false,false] rfl rfl (any_of HT_.out (by kernel_rfl)) (fun _ _ _ h => h) (Or.inl ⟨by rfl, ?_⟩) ?_ ?_
                 rotate_left
                 ·
                  intro w'
                  go_simp
                  with_reducible rfl
                 rotate_left
                 ·
                  simp only [Act.put, Hand.s0_, List.set_cons_zero, Hand.s1_, i64_w, i32_w]
                  rfl
                 refine pure_ (i := 57) (N := some 126) (v := ?_) (a' := ?_) #[true,true,true,true,true,true,true,true,true,true,true,true,true,true,true,true,true,true,true,true,true,true,true,true,true,true,true,true,true,true,true,true,true,true,true,true,true,true,true,true,true,true,true,true,true,true,true,true,true,true,true,true,true,true,true,true,true,true,false,false,false,false,false,false,false,false,false,false,false,false] rfl rfl (any_of HT_.out (by kernel_rfl)) (fun _ _ _ h => h) (Or.inl ⟨by rfl, ?_⟩) ?_ ?_
                 rotate_left
                 ·
                  intro w'
                  go_simp
                  with_reducible rfl
                 rotate_left
                 ·
                  simp only [Act.put, Hand.s0_, List.set_cons_zero, Hand.s1_, i64_w, i32_w]
                  rfl
                 refine pure_ (i := 58) (N := some 127) (v := ?_) (a' := ?_) #[true,true,true,true,true,true,true,true,true,true,true,true,true,true,true,true,true,true,true,true,true,true,true,true,true,true,true,true,true,true,true,true,true,true,true,true,true,true,true,true,true,true,true,true,true,true,true,true,true,true,true,true,true,true,true,true,true,true,true,false,false,false,false,false,false,false,false,false,false,false] rfl rfl (any_of HT_.out (by kernel_rfl)) (fun _ _ _ h => h) (Or.inl ⟨by rfl, ?_⟩) ?_ ?_
                 rotate_left
                 ·
                  intro w'
                  go_simp
                  with_reducible rfl
                 rotate_left
                 ·
                  simp only [Act.put, Hand.s0_, List.set_cons_zero, Hand.s1_, i64_w, i32_w]
                  rfl
                 refine pure_ (i := 59) (N := some 128) (v := ?_) (a' := ?_) #[true,true,true,true,true,true,true,true,true,true,true,true,true,true,true,true,true,true,true,true,true,true,true,true,true,true,true,true,true,true,true,true,true,true,true,true,true,true,true,true,true,true,true,true,true,true,true,true,true,true,true,true,true,true,true,true,true,true,true,true,false,false,false,false,false,false,false,false,false,false] rfl rfl (any_of HT_.out (by kernel_rfl)) (fun _ _ _ h => h) (Or.inl ⟨by rfl, ?_⟩) ?_ ?_
                 rotate_left
                 ·
                  intro w'
                  go_simp
                  with_reducible rfl
                 rotate_left
                 ·
                  simp only [Act.put, Hand.s0_, List.set_cons_zero, Hand.s1_, i64_w, i32_w]
                  rfl
                 refine pure_ (i := 60) (N := some 129) (v := ?_) (a' := ?_) #[true,true,true,true,true,true,true,true,true,true,true,true,true,true,true,true,true,true,true,true,true,true,true,true,true,true,true,true,true,true,true,true,true,true,true,true,true,true,true,true,true,true,true,true,true,true,true,true,true,true,true,true,true,true,true,true,true,true,true,true,true,false,false,false,false,false,false,false,false,false] rfl rfl (any_of HT_.out (by kernel_rfl)) (fun _ _ _ h => h) (Or.inl ⟨by rfl, ?_⟩) ?_ ?_
                 rotate_left
                 ·
                  intro w'
                  go_simp
                  with_reducible rfl
                 rotate_left
                 ·
                  simp only [Act.put, Hand.s0_, List.set_cons_zero, Hand.s1_, i64_w, i32_w]
                  rfl
                 refine pure_ (i := 61) (N := some 130) (v := ?_) (a' := ?_) #[true,true,true,true,true,true,true,true,true,true,true,true,true,true,true,true,true,true,true,true,true,true,true,true,true,true,true,true,true,true,true,true,true,true,true,true,true,true,true,true,true,true,true,true,true,true,true,true,true,true,true,true,true,true,true,true,true,true,true,true,true,true,false,false,false,false,false,false,false,false] rfl rfl (any_of HT_.out (by kernel_rfl)) (fun _ _ _ h => h) (Or.inl ⟨by rfl, ?_⟩) ?_ ?_
                 rotate_left
                 ·
                  intro w'
                  go_simp
                  with_reducible rfl
                 rotate_left
                 ·
                  simp only [Act.put, Hand.s0_, List.set_cons_zero, Hand.s1_, i64_w, i32_w]
                  rfl
                 refine pure_ (i := 63) (N := some 132) (v := ?_) (a' := ?_) #[true,true,true,true,true,true,true,true,true,true,true,true,true,true,true,true,true,true,true,true,true,true,true,true,true,true,true,true,true,true,true,true,true,true,true,true,true,true,true,true,true,true,true,true,true,true,true,true,true,true,true,true,true,true,true,true,true,true,true,true,true,true,false,true,false,false,false,false,false,false] rfl rfl (any_of HT_.out (by kernel_rfl)) (fun _ _ _ h => h) (Or.inl ⟨by rfl, ?_⟩) ?_ ?_
                 rotate_left
                 ·
                  intro w'
                  go_simp
                  with_reducible rfl
                 rotate_left
                 ·
                  simp only [Act.put, Hand.s0_, List.set_cons_zero, Hand.s1_, i64_w, i32_w]
                  rfl
                 refine pure_ (i := 64) (N := some 133) (v := ?_) (a' := ?_) #[true,true,true,true,true,true,true,true,true,true,true,true,true,true,true,true,true,true,true,true,true,true,true,true,true,true,true,true,true,true,true,true,true,true,true,true,true,true,true,true,true,true,true,true,true,true,true,true,true,true,true,true,true,true,true,true,true,true,true,true,true,true,false,true,true,false,false,false,false,false] rfl rfl (any_of HT_.out (by kernel_rfl)) (fun _ _ _ h => h) (Or.inl ⟨by rfl, ?_⟩) ?_ ?_
                 rotate_left
                 ·
                  intro w'
                  go_simp
                  with_reducible rfl
                 rotate_left
                 ·
                  simp only [Act.put, Hand.s0_, List.set_cons_zero, Hand.s1_, i64_w, i32_w]
                  rfl
                 refine pure_ (i := 65) (N := some 134) (v := ?_) (a' := ?_) #[true,true,true,true,true,true,true,true,true,true,true,true,true,true,true,true,true,true,true,true,true,true,true,true,true,true,true,true,true,true,true,true,true,true,true,true,true,true,true,true,true,true,true,true,true,true,true,true,true,true,true,true,true,true,true,true,true,true,true,true,true,true,false,true,true,true,false,false,false,false] rfl rfl (any_of HT_.out (by kernel_rfl)) (fun _ _ _ h => h) (Or.inl ⟨by rfl, ?_⟩) ?_ ?_
                 rotate_left
                 ·
                  intro w'
                  go_simp
                  with_reducible rfl
                 rotate_left
                 ·
                  simp only [Act.put, Hand.s0_, List.set_cons_zero, Hand.s1_, i64_w, i32_w]
                  rfl
                 refine take_ (i := 62) (N := some 131) (v := ?_) (a' := ?_) #[true,true,true,true,true,true,true,true,true,true,true,true,true,true,true,true,true,true,true,true,true,true,true,true,true,true,true,true,true,true,true,true,true,true,true,true,true,true,true,true,true,true,true,true,true,true,true,true,true,true,true,true,true,true,true,true,true,true,true,true,true,true,true,true,true,true,false,false,false,false] rfl rfl (take_ofW HT_.out HW_.out (by kernel_rfl)) (fun _ _ _ h => h) (Or.inl ⟨by rfl, ?_⟩) hHeld ?_ ?_
                 rotate_left
                 ·
                  rintro w' ⟨s0, s1⟩
                  go_simp
                  with_reducible rfl
                 rotate_left
                 ·
                  simp only [Act.put, Hand.s0_, List.set_cons_zero, Hand.s1_, i64_w, i32_w]
                  rfl
                 refine take_ (i := 66) (N := some 135) (v := ?_) (a' := ?_) #[true,true,true,true,true,true,true,true,true,true,true,true,true,true,true,true,true,true,true,true,true,true,true,true,true,true,true,true,true,true,true,true,true,true,true,true,true,true,true,true,true,true,true,true,true,true,true,true,true,true,true,true,true,true,true,true,true,true,true,true,true,true,true,true,true,true,true,false,false,false] rfl rfl (take_ofW HT_.out HW_.out (by kernel_rfl)) (fun _ _ _ h => h) (Or.inl ⟨by rfl, ?_⟩) hHeld ?_ ?_
                 rotate_left
                 ·
                  rintro w' ⟨s0, s1⟩
                  go_simp
                  with_reducible rfl
                 rotate_left
                 ·
                  simp only [Act.put, Hand.s0_, List.set_cons_zero, Hand.s1_, i64_w, i32_w]
                  rfl
                 refine pure_ (i := 67) (N := some 136) (v := ?_) (a' := ?_) #[true,true,true,true,true,true,true,true,true,true,true,true,true,true,true,true,true,true,true,true,true,true,true,true,true,true,true,true,true,true,true,true,true,true,true,true,true,true,true,true,true,true,true,true,true,true,true,true,true,true,true,true,true,true,true,true,true,true,true,true,true,true,true,true,true,true,true,true,false,false] rfl rfl (any_of HT_.out (by kernel_rfl)) (fun _ _ _ h => h) (Or.inl ⟨by rfl, ?_⟩) ?_ ?_
                 rotate_left
                 ·
                  intro w'
                  go_simp
                  with_reducible rfl
                 rotate_left
                 ·
                  simp only [Act.put, Hand.s0_, List.set_cons_zero, Hand.s1_, i64_w, i32_w]
                  rfl
                 refine pure_ (i := 68) (N := some 137) (v := ?_) (a' := ?_) #[true,true,true,true,true,true,true,true,true,true,true,true,true,true,true,true,true,true,true,true,true,true,true,true,true,true,true,true,true,true,true,true,true,true,true,true,true,true,true,true,true,true,true,true,true,true,true,true,true,true,true,true,true,true,true,true,true,true,true,true,true,true,true,true,true,true,true,true,true,false] rfl rfl (any_of HT_.out (by kernel_rfl)) (fun _ _ _ h => h) (Or.inl ⟨by rfl, ?_⟩) ?_ ?_
                 rotate_left
                 ·
                  intro w'
                  go_simp
                  with_reducible rfl
                 rotate_left
                 ·
                  simp only [Act.put, Hand.s0_, List.set_cons_zero, Hand.s1_, i64_w, i32_w]
                  rfl
                 refine pure_ (i := 69) (N := some 138) (v := ?_) (a' := ?_) #[true,true,true,true,true,true,true,true,true,true,true,true,true,true,true,true,true,true,true,true,true,true,true,true,true,true,true,true,true,true,true,true,true,true,true,true,true,true,true,true,true,true,true,true,true,true,true,true,true,true,true,true,true,true,true,true,true,true,true,true,true,true,true,true,true,true,true,true,true,true] rfl rfl (any_of HT_.out (by kernel_rfl)) (fun _ _ _ h => h) (Or.inl ⟨by rfl, ?_⟩) ?_ ?_
                 rotate_left
                 ·
                  intro w'
                  go_simp
                  with_reducible rfl
                 rotate_left
                 ·
                  simp only [Act.put, Hand.s0_, List.set_cons_zero, Hand.s1_, i64_w, i32_w]
                  rfl
                 refine done_ (done_of HT_.out (by kernel_rfl)) ?_
                 try go_wp2
                 go_meet
                 case rel => exact ⟨_, (((rd t251 t249) == (rd t255 t249))), (by first | rfl | (simp; done) | (simp [*]; done)), H', ⟨by first | omega | exact Nat.le_refl _⟩, ⟨by (with_reducible repeat (first | apply Kd.R_alloc | apply Kd.R_drewN | apply Kd.R_drew)); exact Kd.R_mono HO245.out (fun _ hk => trivial)⟩, ⟨by repeat (first | (with_reducible first | exact HB.out | apply below_alloc | apply pw_below_drewN | apply below_drew1) | exact HB.out)⟩⟩
                ·
                 rw [if_neg c41] at H
                 exact absurd H (by simp)
               ·
                rw [if_neg c40] at H
                exact absurd H (by simp)
              ·
               rw [if_neg c39] at H
               exact absurd H (by simp)
             ·
              rw [if_neg c38] at H
              have c38b0 : decide (0 ≤ t249) = false := decide_eq_false c38
              clear c38
              have H' := Aside0.mk H
              clear H
              try go_wp2
              have n0_ := Aside0.mk (Kd.R_drew HO245.out)
              have n1_ := Aside0.mk (Kd.R_drew HO248.out)
              have n2_ := Aside0.mk (Kd.R_drew HO254.out)
              have n3_ := Aside0.mk (Kd.R_drew HO258.out)
              have n4_ := Aside0.mk (Kd.R_drew HO262.out)
              have n5_ := Aside0.mk (Kd.R_drew HO266.out)
              have n6_ := Aside0.mk (below_drew1 HB.out)
              clear HO245
              clear HO248
              clear HO254
              clear HO258
              clear HO262
              clear HO266
              clear HB
              have HO245 := n0_
              have HO248 := n1_
              have HO254 := n2_
              have HO258 := n3_
              have HO262 := n4_
              have HO266 := n5_
              have HB := n6_
              clear n0_ n1_ n2_ n3_ n4_ n5_ n6_
              as_aux_lemma =>
              refine start_ (n := 70) (S := fun w' => True) (ds := []) #[false,false,false,false,false,false,false,false,false,false,false,false,false,false,false,false,false,false,false,false,false,false,false,false,false,false,false,false,false,false,false,false,false,false,false,false,false,false,false,false,false,false,false,false,false,false,false,false,false,false,false,false,false,false,false,false,false,false,false,false,false,false,false,false,false,false,false,false,false,false] (by kernel_rfl) rfl rfl trivial (fun hHeld => ?_); refine with_tabW galloonlaw06_ShuffleSame.tab8 galloonlaw06_ShuffleSame.bits8 (fun HT_ HW_ => ?_)
              generalize w24.drew = w45 at HO245 HO248 HO254 HO258 HO262 HO266 HB hHeld ⊢
              refine pure_ (i := 0) (N := some 69) (v := ?_) (a' := ?_) #[true,false,false,false,false,false,false,false,false,false,false,false,false,false,false,false,false,false,false,false,false,false,false,false,false,false,false,false,false,false,false,false,false,false,false,false,false,false,false,false,false,false,false,false,false,false,false,false,false,false,false,false,false,false,false,false,false,false,false,false,false,false,false,false,false,false,false,false,false,false] rfl rfl (any_of HT_.out (by kernel_rfl)) (fun _ _ _ h => h) (Or.inl ⟨by rfl, ?_⟩) ?_ ?_
              rotate_left
              ·
               intro w'
               go_simp
               with_reducible rfl
              rotate_left
              ·
               simp only [Act.put, Hand.s0_, List.set_cons_zero, Hand.s1_, i64_w, i32_w]
               rfl
              refine pure_ (i := 1) (N := some 70) (v := ?_) (a' := ?_) #[true,true,false,false,false,false,false,false,false,false,false,false,false,false,false,false,false,false,false,false,false,false,false,false,false,false,false,false,false,false,false,false,false,false,false,false,false,false,false,false,false,false,false,false,false,false,false,false,false,false,false,false,false,false,false,false,false,false,false,false,false,false,false,false,false,false,false,false,false,false] rfl rfl (any_of HT_.out (by kernel_rfl)) (fun _ _ _ h => h) (Or.inl ⟨by rfl, ?_⟩) ?_ ?_
              rotate_left
              ·
               intro w'
               go_simp
               with_reducible rfl
              rotate_left
              ·
               simp only [Act.put, Hand.s0_, List.set_cons_zero, Hand.s1_, i64_w, i32_w]
               rfl
              refine pure_ (i := 2) (N := some 71) (v := ?_) (a' := ?_) #[true,true,true,false,false,false,false,false,false,false,false,false,false,false,false,false,false,false,false,false,false,false,false,false,false,false,false,false,false,false,false,false,false,false,false,false,false,false,false,false,false,false,false,false,false,false,false,false,false,false,false,false,false,false,false,false,false,false,false,false,false,false,false,false,false,false,false,false,false,false] rfl rfl (any_of HT_.out (by kernel_rfl)) (fun _ _ _ h => h) (Or.inl ⟨by rfl, ?_⟩) ?_ ?_
              rotate_left
              ·
               intro w'
               go_simp
               with_reducible rfl
              rotate_left
              ·
               simp only [Act.put, Hand.s0_, List.set_cons_zero, Hand.s1_, i64_w, i32_w]
               rfl
              refine pure_ (i := 3) (N := some 72) (v := ?_) (a' := ?_) #[true,true,true,true,false,false,false,false,false,false,false,false,false,false,false,false,false,false,false,false,false,false,false,false,false,false,false,false,false,false,false,false,false,false,false,false,false,false,false,false,false,false,false,false,false,false,false,false,false,false,false,false,false,false,false,false,false,false,false,false,false,false,false,false,false,false,false,false,false,false] rfl rfl (any_of HT_.out (by kernel_rfl)) (fun _ _ _ h => h) (Or.inl ⟨by rfl, ?_⟩) ?_ ?_
              rotate_left
              ·
               intro w'
               go_simp
               with_reducible rfl
              rotate_left
              ·
               simp only [Act.put, Hand.s0_, List.set_cons_zero, Hand.s1_, i64_w, i32_w]
               rfl
              refine pure_ (i := 4) (N := some 73) (v := ?_) (a' := ?_) #[true,true,true,true,true,false,false,false,false,false,false,false,false,false,false,false,false,false,false,false,false,false,false,false,false,false,false,false,false,false,false,false,false,false,false,false,false,false,false,false,false,false,false,false,false,false,false,false,false,false,false,false,false,false,false,false,false,false,false,false,false,false,false,false,false,false,false,false,false,false] rfl rfl (any_of HT_.out (by kernel_rfl)) (fun _ _ _ h => h) (Or.inl ⟨by rfl, ?_⟩) ?_ ?_
              rotate_left
              ·
               intro w'
               go_simp
               with_reducible rfl
              rotate_left
              ·
               simp only [Act.put, Hand.s0_, List.set_cons_zero, Hand.s1_, i64_w, i32_w]
               rfl
              refine pure_ (i := 5) (N := some 74) (v := ?_) (a' := ?_) #[true,true,true,true,true,true,false,false,false,false,false,false,false,false,false,false,false,false,false,false,false,false,false,false,false,false,false,false,false,false,false,false,false,false,false,false,false,false,false,false,false,false,false,false,false,false,false,false,false,false,false,false,false,false,false,false,false,false,false,false,false,false,false,false,false,false,false,false,false,false] rfl rfl (any_of HT_.out (by kernel_rfl)) (fun _ _ _ h => h) (Or.inl ⟨by rfl, ?_⟩) ?_ ?_
              rotate_left
              ·
               intro w'
               go_simp
               with_reducible rfl
              rotate_left
              ·
               simp only [Act.put, Hand.s0_, List.set_cons_zero, Hand.s1_, i64_w, i32_w]
               rfl
              refine pure_ (i := 6) (N := some 75) (v := ?_) (a' := ?_) #[true,true,true,true,true,true,true,false,false,false,false,false,false,false,false,false,false,false,false,false,false,false,false,false,false,false,false,false,false,false,false,false,false,false,false,false,false,false,false,false,false,false,false,false,false,false,false,false,false,false,false,false,false,false,false,false,false,false,false,false,false,false,false,false,false,false,false,false,false,false] rfl rfl (any_of HT_.out (by kernel_rfl)) (fun _ _ _ h => h) (Or.inl ⟨by rfl, ?_⟩) ?_ ?_
              rotate_left
              ·
               intro w'
               go_simp
               with_reducible rfl
              rotate_left
              ·
               simp only [Act.put, Hand.s0_, List.set_cons_zero, Hand.s1_, i64_w, i32_w]
               rfl
              refine pure_ (i := 7) (N := some 76) (v := ?_) (a' := ?_) #[true,true,true,true,true,true,true,true,false,false,false,false,false,false,false,false,false,false,false,false,false,false,false,false,false,false,false,false,false,false,false,false,false,false,false,false,false,false,false,false,false,false,false,false,false,false,false,false,false,false,false,false,false,false,false,false,false,false,false,false,false,false,false,false,false,false,false,false,false,false] rfl rfl (any_of HT_.out (by kernel_rfl)) (fun _ _ _ h => h) (Or.inl ⟨by rfl, ?_⟩) ?_ ?_
              rotate_left
              ·
               intro w'
               go_simp
               with_reducible rfl
              rotate_left
              ·
               simp only [Act.put, Hand.s0_, List.set_cons_zero, Hand.s1_, i64_w, i32_w]
               rfl
              refine pure_ (i := 8) (N := some 77) (v := ?_) (a' := ?_) #[true,true,true,true,true,true,true,true,true,false,false,false,false,false,false,false,false,false,false,false,false,false,false,false,false,false,false,false,false,false,false,false,false,false,false,false,false,false,false,false,false,false,false,false,false,false,false,false,false,false,false,false,false,false,false,false,false,false,false,false,false,false,false,false,false,false,false,false,false,false] rfl rfl (any_of HT_.out (by kernel_rfl)) (fun _ _ _ h => h) (Or.inl ⟨by rfl, ?_⟩) ?_ ?_
              rotate_left
              ·
               intro w'
               go_simp
               with_reducible rfl
              rotate_left
              ·
               simp only [Act.put, Hand.s0_, List.set_cons_zero, Hand.s1_, i64_w, i32_w]
               rfl
              refine pure_ (i := 9) (N := some 78) (v := ?_) (a' := ?_) #[true,true,true,true,true,true,true,true,true,true,false,false,false,false,false,false,false,false,false,false,false,false,false,false,false,false,false,false,false,false,false,false,false,false,false,false,false,false,false,false,false,false,false,false,false,false,false,false,false,false,false,false,false,false,false,false,false,false,false,false,false,false,false,false,false,false,false,false,false,false] rfl rfl (any_of HT_.out (by kernel_rfl)) (fun _ _ _ h => h) (Or.inl ⟨by rfl, ?_⟩) ?_ ?_
              rotate_left
              ·
               intro w'
               go_simp
               with_reducible rfl
              rotate_left
              ·
               simp only [Act.put, Hand.s0_, List.set_cons_zero, Hand.s1_, i64_w, i32_w]
               rfl
              refine pure_ (i := 10) (N := some 79) (v := ?_) (a' := ?_) #[true,true,true,true,true,true,true,true,true,true,true,false,false,false,false,false,false,false,false,false,false,false,false,false,false,false,false,false,false,false,false,false,false,false,false,false,false,false,false,false,false,false,false,false,false,false,false,false,false,false,false,false,false,false,false,false,false,false,false,false,false,false,false,false,false,false,false,false,false,false] rfl rfl (any_of HT_.out (by kernel_rfl)) (fun _ _ _ h => h) (Or.inl ⟨by rfl, ?_⟩) ?_ ?_
              rotate_left
              ·
               intro w'
               go_simp
               with_reducible rfl
              rotate_left
              ·
               simp only [Act.put, Hand.s0_, List.set_cons_zero, Hand.s1_, i64_w, i32_w]
               rfl
              refine pure_ (i := 11) (N := some 80) (v := ?_) (a' := ?_) #[true,true,true,true,true,true,true,true,true,true,true,true,false,false,false,false,false,false,false,false,false,false,false,false,false,false,false,false,false,false,false,false,false,false,false,false,false,false,false,false,false,false,false,false,false,false,false,false,false,false,false,false,false,false,false,false,false,false,false,false,false,false,false,false,false,false,false,false,false,false] rfl rfl (any_of HT_.out (by kernel_rfl)) (fun _ _ _ h => h) (Or.inl ⟨by rfl, ?_⟩) ?_ ?_
              rotate_left
              ·
               intro w'
               go_simp
               with_reducible rfl
              rotate_left
              ·
               simp only [Act.put, Hand.s0_, List.set_cons_zero, Hand.s1_, i64_w, i32_w]
               rfl
              refine pure_ (i := 12) (N := some 81) (v := ?_) (a' := ?_) #[true,true,true,true,true,true,true,true,true,true,true,true,true,false,false,false,false,false,false,false,false,false,false,false,false,false,false,false,false,false,false,false,false,false,false,false,false,false,false,false,false,false,false,false,false,false,false,false,false,false,false,false,false,false,false,false,false,false,false,false,false,false,false,false,false,false,false,false,false,false] rfl rfl (any_of HT_.out (by kernel_rfl)) (fun _ _ _ h => h) (Or.inl ⟨by rfl, ?_⟩) ?_ ?_
              rotate_left
              ·
               intro w'
               go_simp
               with_reducible rfl
              rotate_left
              ·
               simp only [Act.put, Hand.s0_, List.set_cons_zero, Hand.s1_, i64_w, i32_w]
               rfl
              refine pure_ (i := 13) (N := some 82) (v := ?_) (a' := ?_) #[true,true,true,true,true,true,true,true,true,true,true,true,true,true,false,false,false,false,false,false,false,false,false,false,false,false,false,false,false,false,false,false,false,false,false,false,false,false,false,false,false,false,false,false,false,false,false,false,false,false,false,false,false,false,false,false,false,false,false,false,false,false,false,false,false,false,false,false,false,false] rfl rfl (any_of HT_.out (by kernel_rfl)) (fun _ _ _ h => h) (Or.inl ⟨by rfl, ?_⟩) ?_ ?_
              rotate_left
              ·
               intro w'
               go_simp
               with_reducible rfl
              rotate_left
              ·
               simp only [Act.put, Hand.s0_, List.set_cons_zero, Hand.s1_, i64_w, i32_w]
               rfl
              refine pure_ (i := 14) (N := some 83) (v := ?_) (a' := ?_) #[true,true,true,true,true,true,true,true,true,true,true,true,true,true,true,false,false,false,false,false,false,false,false,false,false,false,false,false,false,false,false,false,false,false,false,false,false,false,false,false,false,false,false,false,false,false,false,false,false,false,false,false,false,false,false,false,false,false,false,false,false,false,false,false,false,false,false,false,false,false] rfl rfl (any_of HT_.out (by kernel_rfl)) (fun _ _ _ h => h) (Or.inl ⟨by rfl, ?_⟩) ?_ ?_
              rotate_left
              ·
               intro w'
               go_simp
               with_reducible rfl
              rotate_left
              ·
               simp only [Act.put, Hand.s0_, List.set_cons_zero, Hand.s1_, i64_w, i32_w]
               rfl
              refine pure_ (i := 15) (N := some 84) (v := ?_) (a' := ?_) #[true,true,true,true,true,true,true,true,true,true,true,true,true,true,true,true,false,false,false,false,false,false,false,false,false,false,false,false,false,false,false,false,false,false,false,false,false,false,false,false,false,false,false,false,false,false,false,false,false,false,false,false,false,false,false,false,false,false,false,false,false,false,false,false,false,false,false,false,false,false] rfl rfl (any_of HT_.out (by kernel_rfl)) (fun _ _ _ h => h) (Or.inl ⟨by rfl, ?_⟩) ?_ ?_
              rotate_left
              ·
               intro w'
               go_simp
               with_reducible rfl
              rotate_left
              ·
               simp only [Act.put, Hand.s0_, List.set_cons_zero, Hand.s1_, i64_w, i32_w]
               rfl
              refine pure_ (i := 16) (N := some 85) (v := ?_) (a' := ?_) #[true,true,true,true,true,true,true,true,true,true,true,true,true,true,true,true,true,false,false,false,false,false,false,false,false,false,false,false,false,false,false,false,false,false,false,false,false,false,false,false,false,false,false,false,false,false,false,false,false,false,false,false,false,false,false,false,false,false,false,false,false,false,false,false,false,false,false,false,false,false] rfl rfl (any_of HT_.out (by kernel_rfl)) (fun _ _ _ h => h) (Or.inl ⟨by rfl, ?_⟩) ?_ ?_
              rotate_left
              ·
               intro w'
               go_simp
               with_reducible rfl
              rotate_left
              ·
               simp only [Act.put, Hand.s0_, List.set_cons_zero, Hand.s1_, i64_w, i32_w]
               rfl
              refine pure_ (i := 17) (N := some 86) (v := ?_) (a' := ?_) #[true,true,true,true,true,true,true,true,true,true,true,true,true,true,true,true,true,true,false,false,false,false,false,false,false,false,false,false,false,false,false,false,false,false,false,false,false,false,false,false,false,false,false,false,false,false,false,false,false,false,false,false,false,false,false,false,false,false,false,false,false,false,false,false,false,false,false,false,false,false] rfl rfl (any_of HT_.out (by kernel_rfl)) (fun _ _ _ h => h) (Or.inl ⟨by rfl, ?_⟩) ?_ ?_
              rotate_left
              ·
               intro w'
               go_simp
               with_reducible rfl
              rotate_left
              ·
               simp only [Act.put, Hand.s0_, List.set_cons_zero, Hand.s1_, i64_w, i32_w]
               rfl
              refine pure_ (i := 18) (N := some 87) (v := ?_) (a' := ?_) #[true,true,true,true,true,true,true,true,true,true,true,true,true,true,true,true,true,true,true,false,false,false,false,false,false,false,false,false,false,false,false,false,false,false,false,false,false,false,false,false,false,false,false,false,false,false,false,false,false,false,false,false,false,false,false,false,false,false,false,false,false,false,false,false,false,false,false,false,false,false] rfl rfl (any_of HT_.out (by kernel_rfl)) (fun _ _ _ h => h) (Or.inl ⟨by rfl, ?_⟩) ?_ ?_
              rotate_left
              ·
               intro w'
               go_simp
               with_reducible rfl
              rotate_left
              ·
               simp only [Act.put, Hand.s0_, List.set_cons_zero, Hand.s1_, i64_w, i32_w]
               rfl
              refine pure_ (i := 19) (N := some 88) (v := ?_) (a' := ?_) #[true,true,true,true,true,true,true,true,true,true,true,true,true,true,true,true,true,true,true,true,false,false,false,false,false,false,false,false,false,false,false,false,false,false,false,false,false,false,false,false,false,false,false,false,false,false,false,false,false,false,false,false,false,false,false,false,false,false,false,false,false,false,false,false,false,false,false,false,false,false] rfl rfl (any_of HT_.out (by kernel_rfl)) (fun _ _ _ h => h) (Or.inl ⟨by rfl, ?_⟩) ?_ ?_
              rotate_left
              ·
               intro w'
               go_simp
               with_reducible rfl
              rotate_left
              ·
               simp only [Act.put, Hand.s0_, List.set_cons_zero, Hand.s1_, i64_w, i32_w]
               rfl
              refine pure_ (i := 20) (N := some 89) (v := ?_) (a' := ?_) #[true,true,true,true,true,true,true,true,true,true,true,true,true,true,true,true,true,true,true,true,true,false,false,false,false,false,false,false,false,false,false,false,false,false,false,false,false,false,false,false,false,false,false,false,false,false,false,false,false,false,false,false,false,false,false,false,false,false,false,false,false,false,false,false,false,false,false,false,false,false] rfl rfl (any_of HT_.out (by kernel_rfl)) (fun _ _ _ h => h) (Or.inl ⟨by rfl, ?_⟩) ?_ ?_
              rotate_left
              ·
               intro w'
               go_simp
               with_reducible rfl
              rotate_left
              ·
               simp only [Act.put, Hand.s0_, List.set_cons_zero, Hand.s1_, i64_w, i32_w]
               rfl
              refine pure_ (i := 21) (N := some 90) (v := ?_) (a' := ?_) #[true,true,true,true,true,true,true,true,true,true,true,true,true,true,true,true,true,true,true,true,true,true,false,false,false,false,false,false,false,false,false,false,false,false,false,false,false,false,false,false,false,false,false,false,false,false,false,false,false,false,false,false,false,false,false,false,false,false,false,false,false,false,false,false,false,false,false,false,false,false] rfl rfl (any_of HT_.out (by kernel_rfl)) (fun _ _ _ h => h) (Or.inl ⟨by rfl, ?_⟩) ?_ ?_
              rotate_left
              ·
               intro w'
               go_simp
               with_reducible rfl
              rotate_left
              ·
               simp only [Act.put, Hand.s0_, List.set_cons_zero, Hand.s1_, i64_w, i32_w]
               rfl
              refine pure_ (i := 22) (N := some 91) (v := ?_) (a' := ?_) #[true,true,true,true,true,true,true,true,true,true,true,true,true,true,true,true,true,true,true,true,true,true,true,false,false,false,false,false,false,false,false,false,false,false,false,false,false,false,false,false,false,false,false,false,false,false,false,false,false,false,false,false,false,false,false,false,false,false,false,false,false,false,false,false,false,false,false,false,false,false] rfl rfl (any_of HT_.out (by kernel_rfl)) (fun _ _ _ h => h) (Or.inl ⟨by rfl, ?_⟩) ?_ ?_
              rotate_left
              ·
               intro w'
               go_simp
               with_reducible rfl
              rotate_left
              ·
               simp only [Act.put, Hand.s0_, List.set_cons_zero, Hand.s1_, i64_w, i32_w]
               rfl
              refine pure_ (i := 23) (N := some 92) (v := ?_) (a' := ?_) #[true,true,true,true,true,true,true,true,true,true,true,true,true,true,true,true,true,true,true,true,true,true,true,true,false,false,false,false,false,false,false,false,false,false,false,false,false,false,false,false,false,false,false,false,false,false,false,false,false,false,false,false,false,false,false,false,false,false,false,false,false,false,false,false,false,false,false,false,false,false] rfl rfl (any_of HT_.out (by kernel_rfl)) (fun _ _ _ h => h) (Or.inl ⟨by rfl, ?_⟩) ?_ ?_
              rotate_left
              ·
               intro w'
               go_simp
               with_reducible rfl
              rotate_left
              ·
               simp only [Act.put, Hand.s0_, List.set_cons_zero, Hand.s1_, i64_w, i32_w]
               rfl
              refine pure_ (i := 24) (N := some 93) (v := ?_) (a' := ?_) #[true,true,true,true,true,true,true,true,true,true,true,true,true,true,true,true,true,true,true,true,true,true,true,true,true,false,false,false,false,false,false,false,false,false,false,false,false,false,false,false,false,false,false,false,false,false,false,false,false,false,false,false,false,false,false,false,false,false,false,false,false,false,false,false,false,false,false,false,false,false] rfl rfl (any_of HT_.out (by kernel_rfl)) (fun _ _ _ h => h) (Or.inl ⟨by rfl, ?_⟩) ?_ ?_
              rotate_left
              ·
               intro w'
               go_simp
               with_reducible rfl
              rotate_left
              ·
               simp only [Act.put, Hand.s0_, List.set_cons_zero, Hand.s1_, i64_w, i32_w]
               rfl
              refine pure_ (i := 25) (N := some 94) (v := ?_) (a' := ?_) #[true,true,true,true,true,true,true,true,true,true,true,true,true,true,true,true,true,true,true,true,true,true,true,true,true,true,false,false,false,false,false,false,false,false,false,false,false,false,false,false,false,false,false,false,false,false,false,false,false,false,false,false,false,false,false,false,false,false,false,false,false,false,false,false,false,false,false,false,false,false] rfl rfl (any_of HT_.out (by kernel_rfl)) (fun _ _ _ h => h) (Or.inl ⟨by rfl, ?_⟩) ?_ ?_
              rotate_left
              ·
               intro w'
               go_simp
               with_reducible rfl
              rotate_left
              ·
               simp only [Act.put, Hand.s0_, List.set_cons_zero, Hand.s1_, i64_w, i32_w]
               rfl
              refine pure_ (i := 26) (N := some 95) (v := ?_) (a' := ?_) #[true,true,true,true,true,true,true,true,true,true,true,true,true,true,true,true,true,true,true,true,true,true,true,true,true,true,true,false,false,false,false,false,false,false,false,false,false,false,false,false,false,false,false,false,false,false,false,false,false,false,false,false,false,false,false,false,false,false,false,false,false,false,false,false,false,false,false,false,false,false] rfl rfl (any_of HT_.out (by kernel_rfl)) (fun _ _ _ h => h) (Or.inl ⟨by rfl, ?_⟩) ?_ ?_
              rotate_left
              ·
               intro w'
               go_simp
               with_reducible rfl
              rotate_left
              ·
               simp only [Act.put, Hand.s0_, List.set_cons_zero, Hand.s1_, i64_w, i32_w]
               rfl
              refine pure_ (i := 27) (N := some 96) (v := ?_) (a' := ?_) #[true,true,true,true,true,true,true,true,true,true,true,true,true,true,true,true,true,true,true,true,true,true,true,true,true,true,true,true,false,false,false,false,false,false,false,false,false,false,false,false,false,false,false,false,false,false,false,false,false,false,false,false,false,false,false,false,false,false,false,false,false,false,false,false,false,false,false,false,false,false] rfl rfl (any_of HT_.out (by kernel_rfl)) (fun _ _ _ h => h) (Or.inl ⟨by rfl, ?_⟩) ?_ ?_
              rotate_left
              ·
               intro w'
               go_simp
               with_reducible rfl
              rotate_left
              ·
               simp only [Act.put, Hand.s0_, List.set_cons_zero, Hand.s1_, i64_w, i32_w]
               rfl
              refine pure_ (i := 28) (N := some 97) (v := ?_) (a' := ?_) #[true,true,true,true,true,true,true,true,true,true,true,true,true,true,true,true,true,true,true,true,true,true,true,true,true,true,true,true,true,false,false,false,false,false,false,false,false,false,false,false,false,false,false,false,false,false,false,false,false,false,false,false,false,false,false,false,false,false,false,false,false,false,false,false,false,false,false,false,false,false] rfl rfl (any_of HT_.out (by kernel_rfl)) (fun _ _ _ h => h) (Or.inl ⟨by rfl, ?_⟩) ?_ ?_
              rotate_left
              ·
               intro w'
               go_simp
               with_reducible rfl
              rotate_left
              ·
               simp only [Act.put, Hand.s0_, List.set_cons_zero, Hand.s1_, i64_w, i32_w]
               rfl
              refine pure_ (i := 29) (N := some 98) (v := ?_) (a' := ?_) #[true,true,true,true,true,true,true,true,true,true,true,true,true,true,true,true,true,true,true,true,true,true,true,true,true,true,true,true,true,true,false,false,false,false,false,false,false,false,false,false,false,false,false,false,false,false,false,false,false,false,false,false,false,false,false,false,false,false,false,false,false,false,false,false,false,false,false,false,false,false] rfl rfl (any_of HT_.out (by kernel_rfl)) (fun _ _ _ h => h) (Or.inl ⟨by rfl, ?_⟩) ?_ ?_
              rotate_left
              ·
               intro w'
               go_simp
               with_reducible rfl
              rotate_left
              ·
               simp only [Act.put, Hand.s0_, List.set_cons_zero, Hand.s1_, i64_w, i32_w]
               rfl
              refine pure_ (i := 30) (N := some 99) (v := ?_) (a' := ?_) #[true,true,true,true,true,true,true,true,true,true,true,true,true,true,true,true,true,true,true,true,true,true,true,true,true,true,true,true,true,true,true,false,false,false,false,false,false,false,false,false,false,false,false,false,false,false,false,false,false,false,false,false,false,false,false,false,false,false,false,false,false,false,false,false,false,false,false,false,false,false] rfl rfl (any_of HT_.out (by kernel_rfl)) (fun _ _ _ h => h) (Or.inl ⟨by rfl, ?_⟩) ?_ ?_
              rotate_left
              ·
               intro w'
               go_simp
               with_reducible rfl
              rotate_left
              ·
               simp only [Act.put, Hand.s0_, List.set_cons_zero, Hand.s1_, i64_w, i32_w]
               rfl
              refine pure_ (i := 31) (N := some 100) (v := ?_) (a' := ?_) #[true,true,true,true,true,true,true,true,true,true,true,true,true,true,true,true,true,true,true,true,true,true,true,true,true,true,true,true,true,true,true,true,false,false,false,false,false,false,false,false,false,false,false,false,false,false,false,false,false,false,false,false,false,false,false,false,false,false,false,false,false,false,false,false,false,false,false,false,false,false] rfl rfl (any_of HT_.out (by kernel_rfl)) (fun _ _ _ h => h) (Or.inl ⟨by rfl, ?_⟩) ?_ ?_
              rotate_left
              ·
               intro w'
               go_simp
               with_reducible rfl
              rotate_left
              ·
               simp only [Act.put, Hand.s0_, List.set_cons_zero, Hand.s1_, i64_w, i32_w]
               rfl
              refine pure_ (i := 32) (N := some 101) (v := ?_) (a' := ?_) #[true,true,true,true,true,true,true,true,true,true,true,true,true,true,true,true,true,true,true,true,true,true,true,true,true,true,true,true,true,true,true,true,true,false,false,false,false,false,false,false,false,false,false,false,false,false,false,false,false,false,false,false,false,false,false,false,false,false,false,false,false,false,false,false,false,false,false,false,false,false] rfl rfl (any_of HT_.out (by kernel_rfl)) (fun _ _ _ h => h) (Or.inl ⟨by rfl, ?_⟩) ?_ ?_
              rotate_left
              ·
               intro w'
               go_simp
               with_reducible rfl
              rotate_left
              ·
               simp only [Act.put, Hand.s0_, List.set_cons_zero, Hand.s1_, i64_w, i32_w]
               rfl
              refine pure_ (i := 33) (N := some 102) (v := ?_) (a' := ?_) #[true,true,true,true,true,true,true,true,true,true,true,true,true,true,true,true,true,true,true,true,true,true,true,true,true,true,true,true,true,true,true,true,true,true,false,false,false,false,false,false,false,false,false,false,false,false,false,false,false,false,false,false,false,false,false,false,false,false,false,false,false,false,false,false,false,false,false,false,false,false] rfl rfl (any_of HT_.out (by kernel_rfl)) (fun _ _ _ h => h) (Or.inl ⟨by rfl, ?_⟩) ?_ ?_
              rotate_left
              ·
               intro w'
               go_simp
               with_reducible rfl
              rotate_left
              ·
               simp only [Act.put, Hand.s0_, List.set_cons_zero, Hand.s1_, i64_w, i32_w]
               rfl
              refine pure_ (i := 34) (N := some 103) (v := ?_) (a' := ?_) #[true,true,true,true,true,true,true,true,true,true,true,true,true,true,true,true,true,true,true,true,true,true,true,true,true,true,true,true,true,true,true,true,true,true,true,false,false,false,false,false,false,false,false,false,false,false,false,false,false,false,false,false,false,false,false,false,false,false,false,false,false,false,false,false,false,false,false,false,false,false] rfl rfl (any_of HT_.out (by kernel_rfl)) (fun _ _ _ h => h) (Or.inl ⟨by rfl, ?_⟩) ?_ ?_
              rotate_left
              ·
               intro w'
               go_simp
               with_reducible rfl
              rotate_left
              ·
               simp only [Act.put, Hand.s0_, List.set_cons_zero, Hand.s1_, i64_w, i32_w]
               rfl
              refine pure_ (i := 35) (N := some 104) (v := ?_) (a' := ?_) #[true,true,true,true,true,true,true,true,true,true,true,true,true,true,true,true,true,true,true,true,true,true,true,true,true,true,true,true,true,true,true,true,true,true,true,true,false,false,false,false,false,false,false,false,false,false,false,false,false,false,false,false,false,false,false,false,false,false,false,false,false,false,false,false,false,false,false,false,false,false] rfl rfl (any_of HT_.out (by kernel_rfl)) (fun _ _ _ h => h) (Or.inl ⟨by rfl, ?_⟩) ?_ ?_
              rotate_left
              ·
               intro w'
               go_simp
               with_reducible rfl
              rotate_left
              ·
               simp only [Act.put, Hand.s0_, List.set_cons_zero, Hand.s1_, i64_w, i32_w]
               rfl
              refine pure_ (i := 36) (N := some 105) (v := ?_) (a' := ?_) #[true,true,true,true,true,true,true,true,true,true,true,true,true,true,true,true,true,true,true,true,true,true,true,true,true,true,true,true,true,true,true,true,true,true,true,true,true,false,false,false,false,false,false,false,false,false,false,false,false,false,false,false,false,false,false,false,false,false,false,false,false,false,false,false,false,false,false,false,false,false] rfl rfl (any_of HT_.out (by kernel_rfl)) (fun _ _ _ h => h) (Or.inl ⟨by rfl, ?_⟩) ?_ ?_
              rotate_left
              ·
               intro w'
               go_simp
               with_reducible rfl
              rotate_left
              ·
               simp only [Act.put, Hand.s0_, List.set_cons_zero, Hand.s1_, i64_w, i32_w]
               rfl
              refine pure_ (i := 37) (N := some 106) (v := ?_) (a' := ?_) #[true,true,true,true,true,true,true,true,true,true,true,true,true,true,true,true,true,true,true,true,true,true,true,true,true,true,true,true,true,true,true,true,true,true,true,true,true,true,false,false,false,false,false,false,false,false,false,false,false,false,false,false,false,false,false,false,false,false,false,false,false,false,false,false,false,false,false,false,false,false] rfl rfl (any_of HT_.out (by kernel_rfl)) (fun _ _ _ h => h) (Or.inl ⟨by rfl, ?_⟩) ?_ ?_
              rotate_left
              ·
               intro w'
               go_simp
               with_reducible rfl
              rotate_left
              ·
               simp only [Act.put, Hand.s0_, List.set_cons_zero, Hand.s1_, i64_w, i32_w]
               rfl
              refine pure_ (i := 38) (N := some 107) (v := ?_) (a' := ?_) #[true,true,true,true,true,true,true,true,true,true,true,true,true,true,true,true,true,true,true,true,true,true,true,true,true,true,true,true,true,true,true,true,true,true,true,true,true,true,true,false,false,false,false,false,false,false,false,false,false,false,false,false,false,false,false,false,false,false,false,false,false,false,false,false,false,false,false,false,false,false] rfl rfl (any_of HT_.out (by kernel_rfl)) (fun _ _ _ h => h) (Or.inl ⟨by rfl, ?_⟩) ?_ ?_
              rotate_left
              ·
               intro w'
               go_simp
               with_reducible rfl
              rotate_left
              ·
               simp only [Act.put, Hand.s0_, List.set_cons_zero, Hand.s1_, i64_w, i32_w]
               rfl
              refine pure_ (i := 39) (N := some 108) (v := ?_) (a' := ?_) #[true,true,true,true,true,true,true,true,true,true,true,true,true,true,true,true,true,true,true,true,true,true,true,true,true,true,true,true,true,true,true,true,true,true,true,true,true,true,true,true,false,false,false,false,false,false,false,false,false,false,false,false,false,false,false,false,false,false,false,false,false,false,false,false,false,false,false,false,false,false] rfl rfl (any_of HT_.out (by kernel_rfl)) (fun _ _ _ h => h) (Or.inl ⟨by rfl, ?_⟩) ?_ ?_
              rotate_left
              ·
               intro w'
               go_simp
               with_reducible rfl
              rotate_left
              ·
               simp only [Act.put, Hand.s0_, List.set_cons_zero, Hand.s1_, i64_w, i32_w]
               rfl
              refine pure_ (i := 40) (N := some 109) (v := ?_) (a' := ?_) #[true,true,true,true,true,true,true,true,true,true,true,true,true,true,true,true,true,true,true,true,true,true,true,true,true,true,true,true,true,true,true,true,true,true,true,true,true,true,true,true,true,false,false,false,false,false,false,false,false,false,false,false,false,false,false,false,false,false,false,false,false,false,false,false,false,false,false,false,false,false] rfl rfl (any_of HT_.out (by kernel_rfl)) (fun _ _ _ h => h) (Or.inl ⟨by rfl, ?_⟩) ?_ ?_
              rotate_left
              ·
               intro w'
               go_simp
               with_reducible rfl
              rotate_left
              ·
               simp only [Act.put, Hand.s0_, List.set_cons_zero, Hand.s1_, i64_w, i32_w]
               rfl
              refine pure_ (i := 41) (N := some 110) (v := ?_) (a' := ?_) #[true,true,true,true,true,true,true,true,true,true,true,true,true,true,true,true,true,true,true,true,true,true,true,true,true,true,true,true,true,true,true,true,true,true,true,true,true,true,true,true,true,true,false,false,false,false,false,false,false,false,false,false,false,false,false,false,false,false,false,false,false,false,false,false,false,false,false,false,false,false] rfl rfl (any_of HT_.out (by kernel_rfl)) (fun _ _ _ h => h) (Or.inl ⟨by rfl, ?_⟩) ?_ ?_
              rotate_left
              ·
               intro w'
               go_simp
               with_reducible rfl
              rotate_left
              ·
               simp only [Act.put, Hand.s0_, List.set_cons_zero, Hand.s1_, i64_w, i32_w]
               rfl
              refine pure_ (i := 42) (N := some 111) (v := ?_) (a' := ?_) #[true,true,true,true,true,true,true,true,true,true,true,true,true,true,true,true,true,true,true,true,true,true,true,true,true,true,true,true,true,true,true,true,true,true,true,true,true,true,true,true,true,true,true,false,false,false,false,false,false,false,false,false,false,false,false,false,false,false,false,false,false,false,false,false,false,false,false,false,false,false] rfl rfl (any_of HT_.out (by kernel_rfl)) (fun _ _ _ h => h) (Or.inl ⟨by rfl, ?_⟩) ?_ ?_
              rotate_left
              ·
               intro w'
               go_simp
               with_reducible rfl
              rotate_left
              ·
               simp only [Act.put, Hand.s0_, List.set_cons_zero, Hand.s1_, i64_w, i32_w]
               rfl
              refine pure_ (i := 43) (N := some 112) (v := ?_) (a' := ?_) #[true,true,true,true,true,true,true,true,true,true,true,true,true,true,true,true,true,true,true,true,true,true,true,true,true,true,true,true,true,true,true,true,true,true,true,true,true,true,true,true,true,true,true,true,false,false,false,false,false,false,false,false,false,false,false,false,false,false,false,false,false,false,false,false,false,false,false,false,false,false] rfl rfl (any_of HT_.out (by kernel_rfl)) (fun _ _ _ h => h) (Or.inl ⟨by rfl, ?_⟩) ?_ ?_
              rotate_left
              ·
               intro w'
               go_simp
               with_reducible rfl
              rotate_left
              ·
               simp only [Act.put, Hand.s0_, List.set_cons_zero, Hand.s1_, i64_w, i32_w]
               rfl
              refine one_ (i := 44) (N := some 113) #[true,true,true,true,true,true,true,true,true,true,true,true,true,true,true,true,true,true,true,true,true,true,true,true,true,true,true,true,true,true,true,true,true,true,true,true,true,true,true,true,true,true,true,true,true,false,false,false,false,false,false,false,false,false,false,false,false,false,false,false,false,false,false,false,false,false,false,false,false,false] rfl rfl (one_of HT_.out (by kernel_rfl)) (by decide) (fun K hK => ?_)
              refine goes_ Try.func25 (by kernel_rfl) rfl #[.slice Ao21 t251.length co21, .slice Ao23 t255.length co23] (by rfl) rfl rfl (by (try simp only [List.map_toArray, List.map_cons, List.map_nil]); first | done | rfl | (simp only [List.length_drop, List.length_take]; rfl)) ?_
              with_reducible refine (galloonlaw06_ints.calls k _ _ t251 _ _ t255 t267 _ ?side1 ?side2 ?side3 ?side4 A34.out).mono ?_
              (case side1 => repeat (first | exact (Kd.R_reads' HO254.out).2.2 | (with_reducible refine Kd.C_alloc ?_ _) | (with_reducible refine Kd.C_drewN ?_ _) | (with_reducible refine Kd.C_drew ?_)))
              (case side2 => exact (Kd.R_reads' HO254.out).2.1)
              (case side3 => repeat (first | exact (Kd.R_reads' HO258.out).2.2 | (with_reducible refine Kd.C_alloc ?_ _) | (with_reducible refine Kd.C_drewN ?_ _) | (with_reducible refine Kd.C_drew ?_)))
              (case side4 => exact (Kd.R_reads' HO258.out).2.1)
              rintro e w' ⟨rfl, ⟨nd, rfl⟩⟩
              refine ⟨_, rfl, ?_⟩
              obtain ⟨Ao46, co46, eo46⟩ := Kd.R_slice HO262.out
              (first | subst eo46 | (injection eo46 with f1_ f2_ f3_; have f4_ := f1_.symm; have f5_ := f3_.symm; clear f1_ f2_ f3_; subst f4_; subst f5_))
              obtain ⟨Ao47, co47, eo47⟩ := Kd.R_slice HO266.out
              (first | subst eo47 | (injection eo47 with f1_ f2_ f3_; have f4_ := f1_.symm; have f5_ := f3_.symm; clear f1_ f2_ f3_; subst f4_; subst f5_))
              refine hK.out _ _ trivial (fun hHeld => ?_)
              clear hK K
              refine norm_ (a' := ?_) ?_ ?_
              rotate_left
              ·
               show Act.put _ (some 113) _ = _
               simp only [Act.put, Hand.s0_, List.set_cons_zero, Hand.s1_, i64_w, i32_w]
               rfl
              refine pure_ (i := 45) (N := some 114) (v := ?_) (a' := ?_) #[true,true,true,true,true,true,true,true,true,true,true,true,true,true,true,true,true,true,true,true,true,true,true,true,true,true,true,true,true,true,true,true,true,true,true,true,true,true,true,true,true,true,true,true,true,true,false,false,false,false,false,false,false,false,false,false,false,false,false,false,false,false,false,false,false,false,false,false,false,false] rfl rfl (any_of HT_.out (by kernel_rfl)) (fun _ _ _ h => h) (Or.inl ⟨by rfl, ?_⟩) ?_ ?_
              rotate_left
              ·
               intro w'
               go_simp
               with_reducible rfl
              rotate_left
              ·
               simp only [Act.put, Hand.s0_, List.set_cons_zero, Hand.s1_, i64_w, i32_w]
               rfl
              refine pure_ (i := 46) (N := some 115) (v := ?_) (a' := ?_) #[true,true,true,true,true,true,true,true,true,true,true,true,true,true,true,true,true,true,true,true,true,true,true,true,true,true,true,true,true,true,true,true,true,true,true,true,true,true,true,true,true,true,true,true,true,true,true,false,false,false,false,false,false,false,false,false,false,false,false,false,false,false,false,false,false,false,false,false,false,false] rfl rfl (any_of HT_.out (by kernel_rfl)) (fun _ _ _ h => h) (Or.inl ⟨by rfl, ?_⟩) ?_ ?_
              rotate_left
              ·
               intro w'
               go_simp
               with_reducible rfl
              rotate_left
              ·
               simp only [Act.put, Hand.s0_, List.set_cons_zero, Hand.s1_, i64_w, i32_w]
               rfl
              refine pure_ (i := 47) (N := some 116) (v := ?_) (a' := ?_) #[true,true,true,true,true,true,true,true,true,true,true,true,true,true,true,true,true,true,true,true,true,true,true,true,true,true,true,true,true,true,true,true,true,true,true,true,true,true,true,true,true,true,true,true,true,true,true,true,false,false,false,false,false,false,false,false,false,false,false,false,false,false,false,false,false,false,false,false,false,false] rfl rfl (any_of HT_.out (by kernel_rfl)) (fun _ _ _ h => h) (Or.inl ⟨by rfl, ?_⟩) ?_ ?_
              rotate_left
              ·
               intro w'
               go_simp
               with_reducible rfl
              rotate_left
              ·
               simp only [Act.put, Hand.s0_, List.set_cons_zero, Hand.s1_, i64_w, i32_w]
               rfl
              refine pure_ (i := 48) (N := some 117) (v := ?_) (a' := ?_) #[true,true,true,true,true,true,true,true,true,true,true,true,true,true,true,true,true,true,true,true,true,true,true,true,true,true,true,true,true,true,true,true,true,true,true,true,true,true,true,true,true,true,true,true,true,true,true,true,true,false,false,false,false,false,false,false,false,false,false,false,false,false,false,false,false,false,false,false,false,false] rfl rfl (any_of HT_.out (by kernel_rfl)) (fun _ _ _ h => h) (Or.inl ⟨by rfl, ?_⟩) ?_ ?_
              rotate_left
              ·
               intro w'
               go_simp
               with_reducible rfl
              rotate_left
              ·
               simp only [Act.put, Hand.s0_, List.set_cons_zero, Hand.s1_, i64_w, i32_w]
               rfl
              refine pure_ (i := 49) (N := some 118) (v := ?_) (a' := ?_) #[true,true,true,true,true,true,true,true,true,true,true,true,true,true,true,true,true,true,true,true,true,true,true,true,true,true,true,true,true,true,true,true,true,true,true,true,true,true,true,true,true,true,true,true,true,true,true,true,true,true,false,false,false,false,false,false,false,false,false,false,false,false,false,false,false,false,false,false,false,false] rfl rfl (any_of HT_.out (by kernel_rfl)) (fun _ _ _ h => h) (Or.inl ⟨by rfl, ?_⟩) ?_ ?_
              rotate_left
              ·
               intro w'
               go_simp
               with_reducible rfl
              rotate_left
              ·
               simp only [Act.put, Hand.s0_, List.set_cons_zero, Hand.s1_, i64_w, i32_w]
               rfl
              refine pure_ (i := 50) (N := some 119) (v := ?_) (a' := ?_) #[true,true,true,true,true,true,true,true,true,true,true,true,true,true,true,true,true,true,true,true,true,true,true,true,true,true,true,true,true,true,true,true,true,true,true,true,true,true,true,true,true,true,true,true,true,true,true,true,true,true,true,false,false,false,false,false,false,false,false,false,false,false,false,false,false,false,false,false,false,false] rfl rfl (any_of HT_.out (by kernel_rfl)) (fun _ _ _ h => h) (Or.inl ⟨by rfl, ?_⟩) ?_ ?_
              rotate_left
              ·
               intro w'
               go_simp
               with_reducible rfl
              rotate_left
              ·
               simp only [Act.put, Hand.s0_, List.set_cons_zero, Hand.s1_, i64_w, i32_w]
               rfl
              refine pure_ (i := 51) (N := some 120) (v := ?_) (a' := ?_) #[true,true,true,true,true,true,true,true,true,true,true,true,true,true,true,true,true,true,true,true,true,true,true,true,true,true,true,true,true,true,true,true,true,true,true,true,true,true,true,true,true,true,true,true,true,true,true,true,true,true,true,true,false,false,false,false,false,false,false,false,false,false,false,false,false,false,false,false,false,false] rfl rfl (any_of HT_.out (by kernel_rfl)) (fun _ _ _ h => h) (Or.inl ⟨by rfl, ?_⟩) ?_ ?_
              rotate_left
              ·
               intro w'
               go_simp
               with_reducible rfl
              rotate_left
              ·
               simp only [Act.put, Hand.s0_, List.set_cons_zero, Hand.s1_, i64_w, i32_w]
               rfl
              refine one_ (i := 52) (N := some 121) #[true,true,true,true,true,true,true,true,true,true,true,true,true,true,true,true,true,true,true,true,true,true,true,true,true,true,true,true,true,true,true,true,true,true,true,true,true,true,true,true,true,true,true,true,true,true,true,true,true,true,true,true,true,false,false,false,false,false,false,false,false,false,false,false,false,false,false,false,false,false] rfl rfl (one_of HT_.out (by kernel_rfl)) (by decide) (fun K hK => ?_)
              refine goes_ Try.func25 (by kernel_rfl) rfl #[.slice Ao46 t259.length co46, .slice Ao47 t263.length co47] (by rfl) rfl rfl (by (try simp only [List.map_toArray, List.map_cons, List.map_nil]); first | done | rfl | (simp only [List.length_drop, List.length_take]; rfl)) ?_
              with_reducible refine (galloonlaw06_ints.calls k _ _ t259 _ _ t263 t268 _ ?side1 ?side2 ?side3 ?side4 A36.out).mono ?_
              (case side1 => repeat (first | exact (Kd.R_reads' HO262.out).2.2 | (with_reducible refine Kd.C_alloc ?_ _) | (with_reducible refine Kd.C_drewN ?_ _) | (with_reducible refine Kd.C_drew ?_)))
              (case side2 => exact (Kd.R_reads' HO262.out).2.1)
              (case side3 => repeat (first | exact (Kd.R_reads' HO266.out).2.2 | (with_reducible refine Kd.C_alloc ?_ _) | (with_reducible refine Kd.C_drewN ?_ _) | (with_reducible refine Kd.C_drew ?_)))
              (case side4 => exact (Kd.R_reads' HO266.out).2.1)
              rintro e w' ⟨rfl, ⟨nd, rfl⟩⟩
              refine ⟨_, rfl, ?_⟩
              refine hK.out _ _ trivial (fun hHeld => ?_)
              clear hK K
              refine norm_ (a' := ?_) ?_ ?_
              rotate_left
              ·
               show Act.put _ (some 121) _ = _
               simp only [Act.put, Hand.s0_, List.set_cons_zero, Hand.s1_, i64_w, i32_w]
               rfl
              refine pure_ (i := 53) (N := some 122) (v := ?_) (a' := ?_) #[true,true,true,true,true,true,true,true,true,true,true,true,true,true,true,true,true,true,true,true,true,true,true,true,true,true,true,true,true,true,true,true,true,true,true,true,true,true,true,true,true,true,true,true,true,true,true,true,true,true,true,true,true,true,false,false,false,false,false,false,false,false,false,false,false,false,false,false,false,false] rfl rfl (any_of HT_.out (by kernel_rfl)) (fun _ _ _ h => h) (Or.inl ⟨by rfl, ?_⟩) ?_ ?_
              rotate_left
              ·
               intro w'
               go_simp
               with_reducible rfl
              rotate_left
              ·
               simp only [Act.put, Hand.s0_, List.set_cons_zero, Hand.s1_, i64_w, i32_w]
               rfl
              refine pure_ (i := 54) (N := some 123) (v := ?_) (a' := ?_) #[true,true,true,true,true,true,true,true,true,true,true,true,true,true,true,true,true,true,true,true,true,true,true,true,true,true,true,true,true,true,true,true,true,true,true,true,true,true,true,true,true,true,true,true,true,true,true,true,true,true,true,true,true,true,true,false,false,false,false,false,false,false,false,false,false,false,false,false,false,false] rfl rfl (any_of HT_.out (by kernel_rfl)) (fun _ _ _ h => h) (Or.inl ⟨by rfl, ?_⟩) ?_ ?_
              rotate_left
              ·
               intro w'
               go_simp
               with_reducible rfl
              rotate_left
              ·
               simp only [Act.put, Hand.s0_, List.set_cons_zero, Hand.s1_, i64_w, i32_w]
               rfl
              refine pure_ (i := 55) (N := some 124) (v := ?_) (a' := ?_) #[true,true,true,true,true,true,true,true,true,true,true,true,true,true,true,true,true,true,true,true,true,true,true,true,true,true,true,true,true,true,true,true,true,true,true,true,true,true,true,true,true,true,true,true,true,true,true,true,true,true,true,true,true,true,true,true,false,false,false,false,false,false,false,false,false,false,false,false,false,false] rfl rfl (any_of HT_.out (by kernel_rfl)) (fun _ _ _ h => h) (Or.inl ⟨by rfl, ?_⟩) ?_ ?_
              rotate_left
              ·
               intro w'
               go_simp
               with_reducible rfl
              rotate_left
              ·
               simp only [Act.put, Hand.s0_, List.set_cons_zero, Hand.s1_, i64_w, i32_w]
               rfl
              refine pure_ (i := 56) (N := some 125) (v := ?_) (a' := ?_) #[true,true,true,true,true,true,true,true,true,true,true,true,true,true,true,true,true,true,true,true,true,true,true,true,true,true,true,true,true,true,true,true,true,true,true,true,true,true,true,true,true,true,true,true,true,true,true,true,true,true,true,true,true,true,true,true,true,false,false,false,false,false,false,false,false,false,false,false,false,false] rfl rfl (any_of HT_.out (by kernel_rfl)) (fun _ _ _ h => h) (Or.inl ⟨by rfl, ?_⟩) ?_ ?_
              rotate_left
              ·
               intro w'
               go_simp
               with_reducible rfl
              rotate_left
              ·
               simp only [Act.put, Hand.s0_, List.set_cons_zero, Hand.s1_, i64_w, i32_w]
               rfl
              refine pure_ (i := 57) (N := some 126) (v := ?_) (a' := ?_) #[true,true,true,true,true,true,true,true,true,true,true,true,true,true,true,true,true,true,true,true,true,true,true,true,true,true,true,true,true,true,true,true,true,true,true,true,true,true,true,true,true,true,true,true,true,true,true,true,true,true,true,true,true,true,true,true,true,true,false,false,false,false,false,false,false,false,false,false,false,false] rfl rfl (any_of HT_.out (by kernel_rfl)) (fun _ _ _ h => h) (Or.inl ⟨by rfl, ?_⟩) ?_ ?_
              rotate_left
              ·
               intro w'
               go_simp
               with_reducible rfl
              rotate_left
              ·
               simp only [Act.put, Hand.s0_, List.set_cons_zero, Hand.s1_, i64_w, i32_w]
               rfl
              refine pure_ (i := 58) (N := some 127) (v := ?_) (a' := ?_) #[true,true,true,true,true,true,true,true,true,true,true,true,true,true,true,true,true,true,true,true,true,true,true,true,true,true,true,true,true,true,true,true,true,true,true,true,true,true,true,true,true,true,true,true,true,true,true,true,true,true,true,true,true,true,true,true,true,true,true,false,false,false,false,false,false,false,false,false,false,false] rfl rfl (any_of HT_.out (by kernel_rfl)) (fun _ _ _ h => h) (Or.inl ⟨by rfl, ?_⟩) ?_ ?_
              rotate_left
              ·
               intro w'
               go_simp
               with_reducible rfl
              rotate_left
              ·
               simp only [Act.put, Hand.s0_, List.set_cons_zero, Hand.s1_, i64_w, i32_w]
               rfl
              refine pure_ (i := 59) (N := some 128) (v := undef) (a' := ?_) #[true,true,true,true,true,true,true,true,true,true,true,true,true,true,true,true,true,true,true,true,true,true,true,true,true,true,true,true,true,true,true,true,true,true,true,true,true,true,true,true,true,true,true,true,true,true,true,true,true,true,true,true,true,true,true,true,true,true,true,true,false,false,false,false,false,false,false,false,false,false] rfl rfl (any_of HT_.out (by kernel_rfl)) (fun _ _ _ h => h) (Or.inr ⟨by rfl, rfl⟩) ?_ ?_
              rotate_left
              ·
               simp only [Act.put, Hand.s0_, List.set_cons_zero, Hand.s1_, i64_w, i32_w]
               rfl
              refine pure_ (i := 60) (N := some 129) (v := undef) (a' := ?_) #[true,true,true,true,true,true,true,true,true,true,true,true,true,true,true,true,true,true,true,true,true,true,true,true,true,true,true,true,true,true,true,true,true,true,true,true,true,true,true,true,true,true,true,true,true,true,true,true,true,true,true,true,true,true,true,true,true,true,true,true,true,false,false,false,false,false,false,false,false,false] rfl rfl (any_of HT_.out (by kernel_rfl)) (fun _ _ _ h => h) (Or.inr ⟨by rfl, rfl⟩) ?_ ?_
              rotate_left
              ·
               simp only [Act.put, Hand.s0_, List.set_cons_zero, Hand.s1_, i64_w, i32_w]
               rfl
              refine pure_ (i := 61) (N := some 130) (v := undef) (a' := ?_) #[true,true,true,true,true,true,true,true,true,true,true,true,true,true,true,true,true,true,true,true,true,true,true,true,true,true,true,true,true,true,true,true,true,true,true,true,true,true,true,true,true,true,true,true,true,true,true,true,true,true,true,true,true,true,true,true,true,true,true,true,true,true,false,false,false,false,false,false,false,false] rfl rfl (any_of HT_.out (by kernel_rfl)) (fun _ _ _ h => h) (Or.inr ⟨by rfl, rfl⟩) ?_ ?_
              rotate_left
              ·
               simp only [Act.put, Hand.s0_, List.set_cons_zero, Hand.s1_, i64_w, i32_w]
               rfl
              refine pure_ (i := 62) (N := some 131) (v := undef) (a' := ?_) #[true,true,true,true,true,true,true,true,true,true,true,true,true,true,true,true,true,true,true,true,true,true,true,true,true,true,true,true,true,true,true,true,true,true,true,true,true,true,true,true,true,true,true,true,true,true,true,true,true,true,true,true,true,true,true,true,true,true,true,true,true,true,true,false,false,false,false,false,false,false] rfl rfl (any_of HT_.out (by kernel_rfl)) (fun _ _ _ h => h) (Or.inr ⟨by rfl, rfl⟩) ?_ ?_
              rotate_left
              ·
               simp only [Act.put, Hand.s0_, List.set_cons_zero, Hand.s1_, i64_w, i32_w]
               rfl
              refine pure_ (i := 63) (N := some 132) (v := undef) (a' := ?_) #[true,true,true,true,true,true,true,true,true,true,true,true,true,true,true,true,true,true,true,true,true,true,true,true,true,true,true,true,true,true,true,true,true,true,true,true,true,true,true,true,true,true,true,true,true,true,true,true,true,true,true,true,true,true,true,true,true,true,true,true,true,true,true,true,false,false,false,false,false,false] rfl rfl (any_of HT_.out (by kernel_rfl)) (fun _ _ _ h => h) (Or.inr ⟨by rfl, rfl⟩) ?_ ?_
              rotate_left
              ·
               simp only [Act.put, Hand.s0_, List.set_cons_zero, Hand.s1_, i64_w, i32_w]
               rfl
              refine pure_ (i := 64) (N := some 133) (v := undef) (a' := ?_) #[true,true,true,true,true,true,true,true,true,true,true,true,true,true,true,true,true,true,true,true,true,true,true,true,true,true,true,true,true,true,true,true,true,true,true,true,true,true,true,true,true,true,true,true,true,true,true,true,true,true,true,true,true,true,true,true,true,true,true,true,true,true,true,true,true,false,false,false,false,false] rfl rfl (any_of HT_.out (by kernel_rfl)) (fun _ _ _ h => h) (Or.inr ⟨by rfl, rfl⟩) ?_ ?_
              rotate_left
              ·
               simp only [Act.put, Hand.s0_, List.set_cons_zero, Hand.s1_, i64_w, i32_w]
               rfl
              refine pure_ (i := 65) (N := some 134) (v := undef) (a' := ?_) #[true,true,true,true,true,true,true,true,true,true,true,true,true,true,true,true,true,true,true,true,true,true,true,true,true,true,true,true,true,true,true,true,true,true,true,true,true,true,true,true,true,true,true,true,true,true,true,true,true,true,true,true,true,true,true,true,true,true,true,true,true,true,true,true,true,true,false,false,false,false] rfl rfl (any_of HT_.out (by kernel_rfl)) (fun _ _ _ h => h) (Or.inr ⟨by rfl, rfl⟩) ?_ ?_
              rotate_left
              ·
               simp only [Act.put, Hand.s0_, List.set_cons_zero, Hand.s1_, i64_w, i32_w]
               rfl
              refine pure_ (i := 66) (N := some 135) (v := undef) (a' := ?_) #[true,true,true,true,true,true,true,true,true,true,true,true,true,true,true,true,true,true,true,true,true,true,true,true,true,true,true,true,true,true,true,true,true,true,true,true,true,true,true,true,true,true,true,true,true,true,true,true,true,true,true,true,true,true,true,true,true,true,true,true,true,true,true,true,true,true,true,false,false,false] rfl rfl (any_of HT_.out (by kernel_rfl)) (fun _ _ _ h => h) (Or.inr ⟨by rfl, rfl⟩) ?_ ?_
              rotate_left
              ·
               simp only [Act.put, Hand.s0_, List.set_cons_zero, Hand.s1_, i64_w, i32_w]
               rfl
              refine pure_ (i := 67) (N := some 136) (v := undef) (a' := ?_) #[true,true,true,true,true,true,true,true,true,true,true,true,true,true,true,true,true,true,true,true,true,true,true,true,true,true,true,true,true,true,true,true,true,true,true,true,true,true,true,true,true,true,true,true,true,true,true,true,true,true,true,true,true,true,true,true,true,true,true,true,true,true,true,true,true,true,true,true,false,false] rfl rfl (any_of HT_.out (by kernel_rfl)) (fun _ _ _ h => h) (Or.inr ⟨by rfl, rfl⟩) ?_ ?_
              rotate_left
              ·
               simp only [Act.put, Hand.s0_, List.set_cons_zero, Hand.s1_, i64_w, i32_w]
               rfl
              refine pure_ (i := 68) (N := some 137) (v := ?_) (a' := ?_) #[true,true,true,true,true,true,true,true,true,true,true,true,true,true,true,true,true,true,true,true,true,true,true,true,true,true,true,true,true,true,true,true,true,true,true,true,true,true,true,true,true,true,true,true,true,true,true,true,true,true,true,true,true,true,true,true,true,true,true,true,true,true,true,true,true,true,true,true,true,false] rfl rfl (any_of HT_.out (by kernel_rfl)) (fun _ _ _ h => h) (Or.inl ⟨by rfl, ?_⟩) ?_ ?_
              rotate_left
              ·
               intro w'
               go_simp
               with_reducible rfl
              rotate_left
              ·
               simp only [Act.put, Hand.s0_, List.set_cons_zero, Hand.s1_, i64_w, i32_w]
               rfl
              refine pure_ (i := 69) (N := some 138) (v := ?_) (a' := ?_) #[true,true,true,true,true,true,true,true,true,true,true,true,true,true,true,true,true,true,true,true,true,true,true,true,true,true,true,true,true,true,true,true,true,true,true,true,true,true,true,true,true,true,true,true,true,true,true,true,true,true,true,true,true,true,true,true,true,true,true,true,true,true,true,true,true,true,true,true,true,true] rfl rfl (any_of HT_.out (by kernel_rfl)) (fun _ _ _ h => h) (Or.inl ⟨by rfl, ?_⟩) ?_ ?_
              rotate_left
              ·
               intro w'
               go_simp
               with_reducible rfl
              rotate_left
              ·
               simp only [Act.put, Hand.s0_, List.set_cons_zero, Hand.s1_, i64_w, i32_w]
               rfl
              refine done_ (done_of HT_.out (by kernel_rfl)) ?_
              try go_wp2
              go_meet
              case rel => exact ⟨_, (false), (by first | rfl | (simp; done) | (simp [*]; done)), H', ⟨by first | omega | exact Nat.le_refl _⟩, ⟨by (with_reducible repeat (first | apply Kd.R_alloc | apply Kd.R_drewN | apply Kd.R_drew)); exact Kd.R_mono HO245.out (fun _ hk => trivial)⟩, ⟨by repeat (first | (with_reducible first | exact HB.out | apply below_alloc | apply pw_below_drewN | apply below_drew1) | exact HB.out)⟩⟩
        ·
         rw [if_neg c31] at H
         exact absurd H (by simp)
       ·
        rw [if_neg c30] at H
        exact absurd H (by simp)
      ·
       rw [if_neg c29] at H
       exact absurd H (by simp)
     ·
      rw [if_neg c28] at H
      exact absurd H (by simp)
    ·
     rw [if_neg c27] at H
     exact absurd H (by simp)
   ·
    rw [if_neg c26] at H
    exact absurd H (by simp)
  ·
   rw [if_neg c25] at H
   exact absurd H (by simp)
 case rest =>
  as_aux_lemma =>
  clear HC13
  try clear c2
  try clear p2
  try clear c3
  try clear c4
  try clear c25
  try clear c26
  try clear c27
  try clear c28
  try clear c29
  try clear c30
  try clear c31
  try clear c38
  try clear c38b0
  try clear c39
  try clear c40
  try clear c41
  obtain ⟨kq, x138_12, rfl, HA, HJ12, HO_9, HB⟩ := hcut
  cases kq with
  | zero => exact absurd HA.out (by simp [galloonlaw06_ShuffleSame.j0])
  | succ kj12 =>
   have H := HA.out
   clear HA
   simp only [galloonlaw06_ShuffleSame.j0] at H
   by_cases c48 : x138_12 = true
   ·
    subst c48
    have H1 : (none) = some r := by rw [if_pos rfl] at H; exact H
    clear H
    have H := H1
    clear H1
    exact absurd H (by simp)
   ·
    replace c48 := Bool.eq_false_iff.mpr c48
    subst c48
    have H1 : ((galloonlaw06_mod.f a3 12).bind fun t271 => ((galloonref06_Room.f kj12 (wrap64 (2 + t242)) t271).bind fun t272 => (if (wrap64 (2 + t242)) = 0 then (none) else (galloonlaw06_ShuffleSame.l0 kj12 (wrap64 (2 + t242)) t271 t243 (([Int.tmod t272 (wrap64 (2 + t242))] : List Int)) 0)))) = some r := by rw [if_neg (show ¬ (false = true) by decide)] at H; exact H
    clear H
    have H := H1
    clear H1
    replace H := Option.bind_eq_some_iff.mp H
    obtain ⟨t271, A490, H⟩ := H
    replace H : ((galloonref06_Room.f kj12 (wrap64 (2 + t242)) t271).bind fun t272 => (if (wrap64 (2 + t242)) = 0 then (none) else (galloonlaw06_ShuffleSame.l0 kj12 (wrap64 (2 + t242)) t271 t243 (([Int.tmod t272 (wrap64 (2 + t242))] : List Int)) 0))) = some r := H
    have A49 := Aside0.mk A490
    clear A490
    replace H := Option.bind_eq_some_iff.mp H
    obtain ⟨t272, A500, H⟩ := H
    replace H : (if (wrap64 (2 + t242)) = 0 then (none) else (galloonlaw06_ShuffleSame.l0 kj12 (wrap64 (2 + t242)) t271 t243 (([Int.tmod t272 (wrap64 (2 + t242))] : List Int)) 0)) = some r := H
    have A50 := Aside0.mk A500
    clear A500
    by_cases c51 : (wrap64 (2 + t242)) = 0
    ·
     rw [if_pos c51] at H
     exact absurd H (by simp)
    ·
     rw [if_neg c51] at H
     have c51b0 : ((wrap64 (2 + t242)) == 0) = false := beq_eq_false_iff_ne.mpr c51
     have c51b1 : ((wrap64 (2 + t242)) != 0) = true := bne_iff_ne.mpr c51
     obtain ⟨y273, hy273⟩ : ∃ y_ : List Int, y_ = (([Int.tmod t272 (wrap64 (2 + t242))] : List Int)) := ⟨_, rfl⟩
     replace H : (galloonlaw06_ShuffleSame.l0 kj12 (wrap64 (2 + t242)) t271 t243 y273 0) = some r := by first | (rw [hy273]; with_reducible exact H) | (have H2_ := (Option.bind_some _ _).symm.trans H; rw [hy273]; with_reducible exact H2_) | (have H2_ := (Option.bind_some _ _).symm.trans H; with_reducible exact H2_) | with_reducible exact H | (rw [hy273]; exact H) | exact H
     have Ny273 := Aside0.mk hy273
     clear hy273
     have H' := Aside0.mk H
     clear H
     go_wp2_with (first | ((with_reducible refine gate_callee (f := 15) rfl ?_); refine goesL_ (some 140) rfl rfl Try.func15 (by kernel_rfl) rfl #[.int .i64 a3, .int .i64 12] rfl (by (try simp only [List.map_toArray, List.map_cons, List.map_nil]); first | done | rfl | (simp only [List.length_drop, List.length_take]; rfl)) ?_; (with_reducible refine (galloonlaw06_mod.calls a3 12 t271 _ A49.out).mono ?_); rintro e w' ⟨rfl, ⟨nd, rfl⟩⟩; refine ⟨_, rfl, ?_⟩) | ((with_reducible refine gate_callee (f := 26) rfl ?_); refine goesL_ (some 143) rfl rfl Try.func26 (by kernel_rfl) rfl #[.int .i64 (wrap64 (2 + t242)), .int .i64 t271] rfl (by (try simp only [List.map_toArray, List.map_cons, List.map_nil]); first | done | rfl | (simp only [List.length_drop, List.length_take]; rfl)) ?_; (with_reducible refine (galloonref06_Room.calls kj12 (wrap64 (2 + t242)) t271 t272 _ A50.out).mono ?_); rintro e w52 ⟨rfl, hb⟩; refine ⟨_, rfl, ?_⟩; have n0_ := Aside0.mk (Kd.R_below (by (with_reducible repeat (first | apply Kd.R_alloc | apply Kd.R_drewN | apply Kd.R_drew)); exact HO_9.out) hb); have n1_ := Aside0.mk (below_step (by repeat (first | (with_reducible first | exact HB.out | apply below_alloc | apply pw_below_drewN | apply below_drew1) | exact HB.out)) hb); clear HO_9; clear HB; have HO_9 := n0_; have HB := n1_; clear n0_ n1_; (try clear hb); (try clear hb2); (try clear hk); (try clear hi)) | ((with_reducible refine gate_dst (N := 146) rfl ?_); (try (refine gate_guard (by rfl) ?_; dsimp only)); refine Kd.R_lit (Kd.int .i64) _ 3 ?hg (N := 146) ?hd (xs := ([Int.tmod t272 (wrap64 (2 + t242))] : List Int)) (inner := [.int .i64 (Int.tmod t272 (wrap64 (2 + t242)))]) (ok := fun _ => True) (okp := fun _ => True) ?hr ?hp (fun _ hk => hk) trivial (Below.refl _ _) (Nat.le_refl _) (by simp) ?_; (case hd => rfl); (case hg => rfl); (case hr => first | (go_simp; done) | (go_simp; rfl)); (case hp => exact (Reps.one (show Kd.M (Kd.int .i64) _ _ _ (Int.tmod t272 (wrap64 (2 + t242))) [.int .i64 (Int.tmod t272 (wrap64 (2 + t242)))] from rfl) (Reps.none _ _))); intro v274 w53 ho54 hb hg_ hnew_; clear hg_ hnew_; (first | rw [← Ny273.out] at ho54 | (simp only [Int.reduceToNat] at ho54; rw [← Ny273.out] at ho54)); have n0_ := Aside0.mk (Kd.R_elder' (by (with_reducible repeat (first | apply Kd.R_alloc | apply Kd.R_drewN | apply Kd.R_drew)); exact HO_9.out) (Kd.R_base ho54) hb); have n1_ := Aside0.mk (Kd.R_lower (Kd.R_new' ho54 (Kd.R_lt (by (with_reducible repeat (first | apply Kd.R_alloc | apply Kd.R_drewN | apply Kd.R_drew)); exact HO_9.out))) (below_size (by repeat (first | (with_reducible first | exact HB.out | apply below_alloc | apply pw_below_drewN | apply below_drew1) | exact HB.out)))); have n2_ := Aside0.mk (below_step (by repeat (first | (with_reducible first | exact HB.out | apply below_alloc | apply pw_below_drewN | apply below_drew1) | exact HB.out)) hb); clear HO_9; clear HB; have HO_9 := n0_; have HO275 := n1_; have HB := n2_; clear n0_ n1_ n2_; clear hb ho54))
     go_loopg [21, 22] kj12 (fun kq v21 v22 w' => ∃ (x9_2 : List Int) (x21_2 : List Int) (x22_2 : Int), v22 = .int .i64 x22_2 ∧ Aside0 (galloonlaw06_ShuffleSame.l0 kq (wrap64 (2 + t242)) t271 x9_2 x21_2 x22_2 = some r) ∧ Aside0 (kq ≤ kj12) ∧ Aside0 (Kd.R (Kd.int .i64) 3 w' w.heap.size (fun k_ => some k_ ≠ (v21 : Value).ownBlock) (.slice Ao16 t243.length co16) x9_2) ∧ Aside0 (Kd.R (Kd.int .i64) 3 w' w.heap.size (fun k_ => some k_ ≠ ((.slice Ao16 t243.length co16) : Value).ownBlock) v21 x21_2) ∧ Aside0 (Below w.heap.size w w'))
     case atStart => exact ⟨(t243), (y273), (0), (by first | rfl | (simp; done) | (simp [*]; done)), H', ⟨Nat.le_refl _⟩, ⟨by (with_reducible repeat (first | apply Kd.R_alloc | apply Kd.R_drewN | apply Kd.R_drew)); exact Kd.R_mono HO_9.out (fun _ hk => hk.2)⟩, ⟨by (with_reducible repeat (first | apply Kd.R_alloc | apply Kd.R_drewN | apply Kd.R_drew)); exact Kd.R_mono HO275.out (fun _ hk => hk.2)⟩, ⟨by repeat (first | (with_reducible first | exact HB.out | apply below_alloc | apply pw_below_drewN | apply below_drew1) | exact HB.out)⟩⟩
     case round =>
      as_aux_lemma =>
      clear H'
      try clear c1
      try clear c2
      try clear p2
      try clear c3
      try clear c4
      try clear c5
      try clear p6
      try clear c15
      try clear c25
      try clear c26
      try clear c27
      try clear c28
      try clear c29
      try clear c30
      try clear c31
      try clear c38
      try clear c38b0
      try clear c39
      try clear c40
      try clear c41
      try clear c48
      try clear c51
      try clear c51b0
      try clear c51b1
      try clear p2
      obtain ⟨x9_2, x21_2, x22_2, rfl, HA, HK2, HO_9, HO_21, HB⟩ := hrel
      have hl9_2 := (Kd.R_reads' HO_9.out).1
      rw [hl9_2] at HO_9
      (try simp only [hl9_2])
      (try simp only [hl9_2] at HO_21)
      cases gk with
      | zero => exact absurd HA.out (by simp [galloonlaw06_ShuffleSame.l0])
      | succ k2 =>
       have H := HA.out
       clear HA
       simp only [galloonlaw06_ShuffleSame.l0] at H
       by_cases c55 : x22_2 < t271
       ·
        rw [if_pos c55] at H
        have c55b0 : decide (x22_2 < t271) = true := decide_eq_true c55
        clear c55
        obtain ⟨ji56, hji56⟩ : ∃ j_ : Int, (wrap64 ((x21_2.length : Int) + 1)) = j_ := ⟨_, rfl⟩
        replace H : (if 0 ≤ (ji56) then (if (ji56 : Int).toNat ≤ 35184372088832 then (galloonlaw06_ShuffleSame.l1 k2 (wrap64 (2 + t242)) t271 x9_2 x21_2 x22_2 (List.replicate (ji56 : Int).toNat 0) 0) else (none)) else (none)) = some r := by first | (rw [hji56] at H; exact H) | (simp only [hji56] at H ⊢; exact H)
        have hji56w : (IntKind.i64.wrap ((x21_2.length : Int) + 1)) = ji56 := (i64_w _).trans hji56
        by_cases c57 : 0 ≤ (ji56)
        ·
         rw [if_pos c57] at H
         have c57b0 := eq_true c57
         have c57b1 : decide (0 ≤ (ji56)) = true := decide_eq_true c57
         clear c57
         by_cases c58 : (ji56 : Int).toNat ≤ 35184372088832
         ·
          rw [if_pos c58] at H
          have c58b0 := eq_true c58
          have c58b1 : decide ((ji56 : Int).toNat ≤ 35184372088832) = true := decide_eq_true c58
          clear c58
          obtain ⟨y276, hy276⟩ : ∃ y_ : List Int, y_ = (List.replicate (ji56 : Int).toNat 0) := ⟨_, rfl⟩
          replace H : (galloonlaw06_ShuffleSame.l1 k2 (wrap64 (2 + t242)) t271 x9_2 x21_2 x22_2 y276 0) = some r := by first | (rw [hy276]; with_reducible exact H) | (have H2_ := (Option.bind_some _ _).symm.trans H; rw [hy276]; with_reducible exact H2_) | (have H2_ := (Option.bind_some _ _).symm.trans H; with_reducible exact H2_) | with_reducible exact H | (rw [hy276]; exact H) | exact H
          have Ny276 := Aside0.mk hy276
          clear hy276
          have H' := Aside0.mk H
          clear H
          obtain ⟨Ao59, co59, eo59⟩ := Kd.R_slice HO_21.out
          subst eo59
          go_wp2_with (first | ((with_reducible refine gate_dst (N := 155) rfl ?_); (try (refine gate_guard (by rfl) ?_; dsimp only)); refine Kd.R_make (Kd.int .i64) _ 3 rfl (N := 155) rfl 28 _ _ rfl ji56 rfl rfl Try.underlying28 (.int .i64 0) 8 info3 rfl (by decide) (by omega) 0 (ok := fun _ => True) (okp := fun _ => True) rfl (fun _ hk => hk) trivial (of_decide_eq_true (by assumption)) (Nat.le_trans (Nat.mul_le_mul_right _ (of_decide_eq_true (by assumption) : ji56.toNat ≤ 35184372088832)) (by omega)) (Below.refl _ _) (Nat.le_refl _) ?_; intro v277 w60 ho61 hb hg_ hnew_; clear hg_ hnew_; (first | rw [← Ny276.out] at ho61 | (simp only [Int.reduceToNat] at ho61; rw [← Ny276.out] at ho61)); have n0_ := Aside0.mk (Kd.R_elder' (by (with_reducible repeat (first | apply Kd.R_alloc | apply Kd.R_drewN | apply Kd.R_drew)); exact HO_9.out) (Kd.R_base ho61) hb); have n1_ := Aside0.mk (Kd.R_elder' (by (with_reducible repeat (first | apply Kd.R_alloc | apply Kd.R_drewN | apply Kd.R_drew)); exact HO_21.out) (Kd.R_base ho61) hb); have n2_ := Aside0.mk (Kd.R_lower (Kd.R_new' (Kd.R_new' ho61 (Kd.R_lt (by (with_reducible repeat (first | apply Kd.R_alloc | apply Kd.R_drewN | apply Kd.R_drew)); exact HO_9.out))) (Kd.R_lt (by (with_reducible repeat (first | apply Kd.R_alloc | apply Kd.R_drewN | apply Kd.R_drew)); exact HO_21.out))) (below_size (by repeat (first | (with_reducible first | exact HB.out | apply below_alloc | apply pw_below_drewN | apply below_drew1) | exact HB.out)))); have n3_ := Aside0.mk (below_step (by repeat (first | (with_reducible first | exact HB.out | apply below_alloc | apply pw_below_drewN | apply below_drew1) | exact HB.out)) hb); clear HO_9; clear HO_21; clear HB; have HO_9 := n0_; have HO_21 := n1_; have HO278 := n2_; have HB := n3_; clear n0_ n1_ n2_ n3_; clear hb ho61))
          go_loopg [24] k2 (fun kq v24 w' => ∃ (x23_3 : List Int) (x24_3 : Int), v24 = .int .i64 x24_3 ∧ Aside0 (galloonlaw06_ShuffleSame.l1 kq (wrap64 (2 + t242)) t271 x9_2 x21_2 x22_2 x23_3 x24_3 = some r) ∧ Aside0 (kq ≤ k2) ∧ Aside0 (Kd.R (Kd.int .i64) 3 w' w.heap.size (fun k_ => some k_ ≠ ((.slice Ao59 x21_2.length co59) : Value).ownBlock ∧ some k_ ≠ (v277 : Value).ownBlock) (.slice Ao16 x9_2.length co16) x9_2) ∧ Aside0 (Kd.R (Kd.int .i64) 3 w' w.heap.size (fun k_ => some k_ ≠ ((.slice Ao16 x9_2.length co16) : Value).ownBlock ∧ some k_ ≠ (v277 : Value).ownBlock) (.slice Ao59 x21_2.length co59) x21_2) ∧ Aside0 (Kd.R (Kd.int .i64) 3 w' w.heap.size (fun k_ => some k_ ≠ ((.slice Ao16 x9_2.length co16) : Value).ownBlock ∧ some k_ ≠ ((.slice Ao59 x21_2.length co59) : Value).ownBlock) v277 x23_3) ∧ Aside0 (Below w.heap.size w w'))
          case atStart => exact ⟨(y276), (0), (by first | rfl | (simp; done) | (simp [*]; done)), H', ⟨Nat.le_refl _⟩, ⟨by (try simp only [hl9_2]); (with_reducible repeat (first | apply Kd.R_alloc | apply Kd.R_drewN | apply Kd.R_drew)); exact HO_9.out⟩, ⟨by (try simp only [hl9_2]); (with_reducible repeat (first | apply Kd.R_alloc | apply Kd.R_drewN | apply Kd.R_drew)); exact HO_21.out⟩, ⟨by (try simp only [hl9_2]); (with_reducible repeat (first | apply Kd.R_alloc | apply Kd.R_drewN | apply Kd.R_drew)); exact Kd.R_mono HO278.out (fun _ hk => ⟨hk.1.2, hk.2⟩)⟩, ⟨by repeat (first | (with_reducible first | exact HB.out | apply below_alloc | apply pw_below_drewN | apply below_drew1) | exact HB.out)⟩⟩
          case round =>
           as_aux_lemma =>
           clear H'
           try clear c1
           try clear c2
           try clear p2
           try clear c3
           try clear c4
           try clear c5
           try clear p6
           try clear c15
           try clear c25
           try clear c26
           try clear c27
           try clear c28
           try clear c29
           try clear c30
           try clear c31
           try clear c38
           try clear c38b0
           try clear c39
           try clear c40
           try clear c41
           try clear c48
           try clear c51
           try clear c51b0
           try clear c51b1
           try clear c55
           try clear c55b0
           try clear c57
           try clear c57b0
           try clear c57b1
           try clear c58
           try clear c58b0
           try clear c58b1
           try clear p2
           try clear p6
           obtain ⟨x23_3, x24_3, rfl, HA, HK3, HO_9, HO_21, HO_23, HB⟩ := hrel
           cases gk with
           | zero => exact absurd HA.out (by simp [galloonlaw06_ShuffleSame.l1])
           | succ k3 =>
            have H := HA.out
            clear HA
            simp only [galloonlaw06_ShuffleSame.l1] at H
            by_cases c62 : x24_3 < (x21_2.length : Int)
            ·
             rw [if_pos c62] at H
             have c62b0 : decide (x24_3 < (x21_2.length : Int)) = true := decide_eq_true c62
             clear c62
             obtain ⟨ji63, hji63⟩ : ∃ j_ : Int, (wrap64 (x24_3 + 1)) = j_ := ⟨_, rfl⟩
             replace H : (if 0 ≤ (ji63) then (if (ji63) < (x23_3.length : Int) then (if 0 ≤ x24_3 then (if (wrap64 (2 + t242)) = 0 then (none) else ((some (x23_3.set ((ji63) : Int).toNat (Int.tmod (wrap64 ((rd x23_3 (ji63)) + (rd x21_2 x24_3))) (wrap64 (2 + t242))) : List Int)).bind fun y281 => (if x24_3 < (x23_3.length : Int) then (galloonlaw06_ShuffleSame.l1 k3 (wrap64 (2 + t242)) t271 x9_2 x21_2 x22_2 (y281.set (x24_3 : Int).toNat (Int.tmod (wrap64 ((rd y281 x24_3) + (wrap64 ((wrap64 ((wrap64 (2 + t242)) - (Int.tmod x22_2 (wrap64 (2 + t242))))) * (rd x21_2 x24_3))))) (wrap64 (2 + t242)))) ji63) else (none)))) else (none)) else (none)) else (none)) = some r := by first | (rw [hji63] at H; exact H) | (simp only [hji63] at H ⊢; exact H)
             have hji63w : (IntKind.i64.wrap (x24_3 + 1)) = ji63 := (i64_w _).trans hji63
             by_cases c64 : 0 ≤ (ji63)
             ·
              rw [if_pos c64] at H
              have c64b0 : decide (0 ≤ (ji63)) = true := decide_eq_true c64
              clear c64
              by_cases c65 : (ji63) < (x23_3.length : Int)
              ·
               rw [if_pos c65] at H
               have c65b0 : decide ((ji63) < (x23_3.length : Int)) = true := decide_eq_true c65
               clear c65
               by_cases c66 : 0 ≤ x24_3
               ·
                rw [if_pos c66] at H
                have c66b0 : decide (0 ≤ x24_3) = true := decide_eq_true c66
                clear c66
                by_cases c67 : (wrap64 (2 + t242)) = 0
                ·
                 rw [if_pos c67] at H
                 exact absurd H (by simp)
                ·
                 rw [if_neg c67] at H
                 have c67b0 : ((wrap64 (2 + t242)) == 0) = false := beq_eq_false_iff_ne.mpr c67
                 have c67b1 : ((wrap64 (2 + t242)) != 0) = true := bne_iff_ne.mpr c67
                 obtain ⟨y281, hy281⟩ : ∃ y_ : List Int, y_ = (x23_3.set ((ji63) : Int).toNat (Int.tmod (wrap64 ((rd x23_3 (ji63)) + (rd x21_2 x24_3))) (wrap64 (2 + t242)))) := ⟨_, rfl⟩
                 replace H : (if x24_3 < (x23_3.length : Int) then (galloonlaw06_ShuffleSame.l1 k3 (wrap64 (2 + t242)) t271 x9_2 x21_2 x22_2 (y281.set (x24_3 : Int).toNat (Int.tmod (wrap64 ((rd y281 x24_3) + (wrap64 ((wrap64 ((wrap64 (2 + t242)) - (Int.tmod x22_2 (wrap64 (2 + t242))))) * (rd x21_2 x24_3))))) (wrap64 (2 + t242)))) ji63) else (none)) = some r := by first | (rw [hy281]; with_reducible exact H) | (have H2_ := (Option.bind_some _ _).symm.trans H; rw [hy281]; with_reducible exact H2_) | (have H2_ := (Option.bind_some _ _).symm.trans H; with_reducible exact H2_) | with_reducible exact H | (rw [hy281]; exact H) | exact H
                 have Ny281 := Aside0.mk hy281
                 clear hy281
                 by_cases c69 : x24_3 < (x23_3.length : Int)
                 ·
                  rw [if_pos c69] at H
                  have c69b0 : decide (x24_3 < (x23_3.length : Int)) = true := decide_eq_true c69
                  clear c69
                  obtain ⟨y284, hy284⟩ : ∃ y_ : List Int, y_ = (y281.set (x24_3 : Int).toNat (Int.tmod (wrap64 ((rd y281 x24_3) + (wrap64 ((wrap64 ((wrap64 (2 + t242)) - (Int.tmod x22_2 (wrap64 (2 + t242))))) * (rd x21_2 x24_3))))) (wrap64 (2 + t242)))) := ⟨_, rfl⟩
                  replace H : (galloonlaw06_ShuffleSame.l1 k3 (wrap64 (2 + t242)) t271 x9_2 x21_2 x22_2 y284 ji63) = some r := by first | (rw [hy284]; with_reducible exact H) | (have H2_ := (Option.bind_some _ _).symm.trans H; rw [hy284]; with_reducible exact H2_) | (have H2_ := (Option.bind_some _ _).symm.trans H; with_reducible exact H2_) | with_reducible exact H | (rw [hy284]; exact H) | exact H
                  have Ny284 := Aside0.mk hy284
                  clear hy284
                  have H' := Aside0.mk H
                  clear H
                  try go_wp2
                  have n0_ := Aside0.mk (Kd.R_drew HO_9.out)
                  have n1_ := Aside0.mk (Kd.R_drew HO_21.out)
                  have n2_ := Aside0.mk (Kd.R_drew HO_23.out)
                  have n3_ := Aside0.mk (below_drew1 HB.out)
                  clear HO_9
                  clear HO_21
                  clear HO_23
                  clear HB
                  have HO_9 := n0_
                  have HO_21 := n1_
                  have HO_23 := n2_
                  have HB := n3_
                  clear n0_ n1_ n2_ n3_
                  obtain ⟨Ao72, co72, eo72⟩ := Kd.R_slice HO_23.out
                  (first | subst eo72 | (injection eo72 with f1_ f2_ f3_; have f4_ := f1_.symm; have f5_ := f3_.symm; clear f1_ f2_ f3_; subst f4_; subst f5_))
                  have p279 : 0 ≤ ((ji63) : Int) := of_decide_eq_true (by assumption)
                  have q279 : (ji63) < (x23_3.length : Int) := of_decide_eq_true (by assumption)
                  (first | (obtain ⟨Aq_, cq_, eq_⟩ := Kd.R_slice HO_23.out; subst eq_) | skip)
                  obtain ⟨ad279, e279, hx279_0⟩ := Kd.at_int (Kd.R_reads' HO_23.out).2.2 (ji63) p279 q279
                  cases e279
                  replace p279 := eq_true p279
                  replace q279 := eq_true q279
                  have p280 : 0 ≤ (x24_3 : Int) := of_decide_eq_true (by assumption)
                  have q280 : x24_3 < (x21_2.length : Int) := of_decide_eq_true (by assumption)
                  (first | (obtain ⟨Aq_, cq_, eq_⟩ := Kd.R_slice HO_21.out; subst eq_) | skip)
                  obtain ⟨ad280, e280, hx280_0⟩ := Kd.at_int (Kd.R_reads' HO_21.out).2.2 x24_3 p280 q280
                  cases e280
                  replace p280 := eq_true p280
                  replace q280 := eq_true q280
                  have p68 : 0 ≤ ((ji63) : Int) := of_decide_eq_true (by assumption)
                  have q68 : ((ji63) : Int) < ((x23_3.length : Int) : Int) := of_decide_eq_true (by assumption)
                  obtain ⟨go68, co68, eo68, gb68, gl68, cl68, HG68⟩ := Kd.R_form HO_23.out (by omega)
                  (first | cases eo68 | (injection eo68 with ea_ en_ ec_; (first | subst ea_ | (injection ea_ with ea_; subst ea_)); subst ec_; clear en_))
                  have GB68 := Aside0.mk gb68
                  have GG68 := Aside0.mk HG68
                  clear gb68 gl68 HG68
                  (first | simp only [add_plain] at hx279_0 | skip)
                  obtain ⟨hx68_0, hf68_0⟩ := Kd.R_celln 0 HO_23.out ((ji63) : Int) p68 q68
                  replace p68 := eq_true p68
                  replace q68 := eq_true q68
                  have HP73 := Kd.R_putn HO_23.out ((ji63) : Int) (Int.tmod (wrap64 ((rd x23_3 (ji63)) + (rd x21_2 x24_3))) (wrap64 (2 + t242)))
                  rw [← Ny281.out] at HP73
                  have HQ73 := Aside0.mk HP73
                  clear HP73
                  as_aux_lemma =>
                  refine start_ (n := 17) (S := fun w' => w'.cell? ⟨go68, ((ji63)).toNat, none⟩ = some (.int .i64 (rd x23_3 (ji63))) ∧ w'.cell? (ad280.add (x24_3).toNat) = some (.int .i64 (rd x21_2 x24_3))) (ds := [16]) #[false,false,false,false,false,false,false,false,false,false,false,false,false,false,false,false,false] (by kernel_rfl) rfl rfl ⟨hx279_0, hx280_0⟩ (fun hHeld => ?_); refine with_tabW galloonlaw06_ShuffleSame.tab19 galloonlaw06_ShuffleSame.bits19 (fun HT_ HW_ => ?_)
                  generalize wr.drew = w71 at HO_9 HO_21 HO_23 HB GG68 HQ73 hf68_0 hx279_0 hx280_0 hx68_0 hHeld ⊢
                  refine pure_ (i := 0) (N := some 162) (v := ?_) (a' := ?_) #[true,false,false,false,false,false,false,false,false,false,false,false,false,false,false,false,false] rfl rfl (any_of HT_.out (by kernel_rfl)) (fun _ _ _ h => h) (Or.inl ⟨by rfl, ?_⟩) ?_ ?_
                  rotate_left
                  ·
                   intro w'
                   go_simp
                   with_reducible rfl
                  rotate_left
                  ·
                   simp only [Act.put, Hand.s0_, List.set_cons_zero, Hand.s1_, i64_w, i32_w]
                   rfl
                  refine pure_ (i := 1) (N := some 163) (v := ?_) (a' := ?_) #[true,true,false,false,false,false,false,false,false,false,false,false,false,false,false,false,false] rfl rfl (any_of HT_.out (by kernel_rfl)) (fun _ _ _ h => h) (Or.inl ⟨by rfl, ?_⟩) ?_ ?_
                  rotate_left
                  ·
                   intro w'
                   go_simp
                   with_reducible rfl
                  rotate_left
                  ·
                   simp only [Act.put, Hand.s0_, List.set_cons_zero, Hand.s1_, i64_w, i32_w]
                   rfl
                  refine pure_ (i := 2) (N := some 164) (v := ?_) (a' := ?_) #[true,true,true,false,false,false,false,false,false,false,false,false,false,false,false,false,false] rfl rfl (any_of HT_.out (by kernel_rfl)) (fun _ _ _ h => h) (Or.inl ⟨by rfl, ?_⟩) ?_ ?_
                  rotate_left
                  ·
                   intro w'
                   go_simp
                   with_reducible rfl
                  rotate_left
                  ·
                   simp only [Act.put, Hand.s0_, List.set_cons_zero, Hand.s1_, i64_w, i32_w]
                   rfl
                  refine pure_ (i := 3) (N := some 165) (v := ?_) (a' := ?_) #[true,true,true,true,false,false,false,false,false,false,false,false,false,false,false,false,false] rfl rfl (any_of HT_.out (by kernel_rfl)) (fun _ _ _ h => h) (Or.inl ⟨by rfl, ?_⟩) ?_ ?_
                  rotate_left
                  ·
                   intro w'
                   go_simp
                   with_reducible rfl
                  rotate_left
                  ·
                   simp only [Act.put, Hand.s0_, List.set_cons_zero, Hand.s1_, i64_w, i32_w]
                   rfl
                  refine pure_ (i := 4) (N := some 166) (v := ?_) (a' := ?_) #[true,true,true,true,true,false,false,false,false,false,false,false,false,false,false,false,false] rfl rfl (any_of HT_.out (by kernel_rfl)) (fun _ _ _ h => h) (Or.inl ⟨by rfl, ?_⟩) ?_ ?_
                  rotate_left
                  ·
                   intro w'
                   go_simp
                   with_reducible rfl
                  rotate_left
                  ·
                   simp only [Act.put, Hand.s0_, List.set_cons_zero, Hand.s1_, i64_w, i32_w]
                   rfl
                  refine pure_ (i := 5) (N := some 167) (v := ?_) (a' := ?_) #[true,true,true,true,true,true,false,false,false,false,false,false,false,false,false,false,false] rfl rfl (any_of HT_.out (by kernel_rfl)) (fun _ _ _ h => h) (Or.inl ⟨by rfl, ?_⟩) ?_ ?_
                  rotate_left
                  ·
                   intro w'
                   go_simp
                   with_reducible rfl
                  rotate_left
                  ·
                   simp only [Act.put, Hand.s0_, List.set_cons_zero, Hand.s1_, i64_w, i32_w]
                   rfl
                  refine pure_ (i := 6) (N := some 168) (v := ?_) (a' := ?_) #[true,true,true,true,true,true,true,false,false,false,false,false,false,false,false,false,false] rfl rfl (any_of HT_.out (by kernel_rfl)) (fun _ _ _ h => h) (Or.inl ⟨by rfl, ?_⟩) ?_ ?_
                  rotate_left
                  ·
                   intro w'
                   go_simp
                   with_reducible rfl
                  rotate_left
                  ·
                   simp only [Act.put, Hand.s0_, List.set_cons_zero, Hand.s1_, i64_w, i32_w]
                   rfl
                  refine pure_ (i := 8) (N := some 170) (v := ?_) (a' := ?_) #[true,true,true,true,true,true,true,false,true,false,false,false,false,false,false,false,false] rfl rfl (any_of HT_.out (by kernel_rfl)) (fun _ _ _ h => h) (Or.inl ⟨by rfl, ?_⟩) ?_ ?_
                  rotate_left
                  ·
                   intro w'
                   go_simp
                   with_reducible rfl
                  rotate_left
                  ·
                   simp only [Act.put, Hand.s0_, List.set_cons_zero, Hand.s1_, i64_w, i32_w]
                   rfl
                  refine pure_ (i := 9) (N := some 171) (v := ?_) (a' := ?_) #[true,true,true,true,true,true,true,false,true,true,false,false,false,false,false,false,false] rfl rfl (any_of HT_.out (by kernel_rfl)) (fun _ _ _ h => h) (Or.inl ⟨by rfl, ?_⟩) ?_ ?_
                  rotate_left
                  ·
                   intro w'
                   go_simp
                   with_reducible rfl
                  rotate_left
                  ·
                   simp only [Act.put, Hand.s0_, List.set_cons_zero, Hand.s1_, i64_w, i32_w]
                   rfl
                  refine pure_ (i := 10) (N := some 172) (v := ?_) (a' := ?_) #[true,true,true,true,true,true,true,false,true,true,true,false,false,false,false,false,false] rfl rfl (any_of HT_.out (by kernel_rfl)) (fun _ _ _ h => h) (Or.inl ⟨by rfl, ?_⟩) ?_ ?_
                  rotate_left
                  ·
                   intro w'
                   go_simp
                   with_reducible rfl
                  rotate_left
                  ·
                   simp only [Act.put, Hand.s0_, List.set_cons_zero, Hand.s1_, i64_w, i32_w]
                   rfl
                  refine pure_ (i := 13) (N := some 175) (v := ?_) (a' := ?_) #[true,true,true,true,true,true,true,false,true,true,true,false,false,true,false,false,false] rfl rfl (any_of HT_.out (by kernel_rfl)) (fun _ _ _ h => h) (Or.inl ⟨by rfl, ?_⟩) ?_ ?_
                  rotate_left
                  ·
                   intro w'
                   go_simp
                   with_reducible rfl
                  rotate_left
                  ·
                   simp only [Act.put, Hand.s0_, List.set_cons_zero, Hand.s1_, i64_w, i32_w]
                   rfl
                  refine take_ (i := 7) (N := some 169) (v := ?_) (a' := ?_) #[true,true,true,true,true,true,true,true,true,true,true,false,false,true,false,false,false] rfl rfl (take_ofW HT_.out HW_.out (by kernel_rfl)) (fun _ _ _ h => h) (Or.inl ⟨by rfl, ?_⟩) hHeld ?_ ?_
                  rotate_left
                  ·
                   rintro w' ⟨s0, s1⟩
                   go_simp
                   with_reducible rfl
                  rotate_left
                  ·
                   simp only [Act.put, Hand.s0_, List.set_cons_zero, Hand.s1_, i64_w, i32_w]
                   rfl
                  refine take_ (i := 11) (N := some 173) (v := ?_) (a' := ?_) #[true,true,true,true,true,true,true,true,true,true,true,true,false,true,false,false,false] rfl rfl (take_ofW HT_.out HW_.out (by kernel_rfl)) (fun _ _ _ h => h) (Or.inl ⟨by rfl, ?_⟩) hHeld ?_ ?_
                  rotate_left
                  ·
                   rintro w' ⟨s0, s1⟩
                   go_simp
                   with_reducible rfl
                  rotate_left
                  ·
                   simp only [Act.put, Hand.s0_, List.set_cons_zero, Hand.s1_, i64_w, i32_w]
                   rfl
                  refine pure_ (i := 12) (N := some 174) (v := ?_) (a' := ?_) #[true,true,true,true,true,true,true,true,true,true,true,true,true,true,false,false,false] rfl rfl (any_of HT_.out (by kernel_rfl)) (fun _ _ _ h => h) (Or.inl ⟨by rfl, ?_⟩) ?_ ?_
                  rotate_left
                  ·
                   intro w'
                   go_simp
                   with_reducible rfl
                  rotate_left
                  ·
                   simp only [Act.put, Hand.s0_, List.set_cons_zero, Hand.s1_, i64_w, i32_w]
                   rfl
                  refine pure_ (i := 14) (N := some 176) (v := ?_) (a' := ?_) #[true,true,true,true,true,true,true,true,true,true,true,true,true,true,true,false,false] rfl rfl (any_of HT_.out (by kernel_rfl)) (fun _ _ _ h => h) (Or.inl ⟨by rfl, ?_⟩) ?_ ?_
                  rotate_left
                  ·
                   intro w'
                   go_simp
                   with_reducible rfl
                  rotate_left
                  ·
                   simp only [Act.put, Hand.s0_, List.set_cons_zero, Hand.s1_, i64_w, i32_w]
                   rfl
                  refine pure_ (i := 15) (N := some 177) (v := ?_) (a' := ?_) #[true,true,true,true,true,true,true,true,true,true,true,true,true,true,true,true,false] rfl rfl (any_of HT_.out (by kernel_rfl)) (fun _ _ _ h => h) (Or.inl ⟨by rfl, ?_⟩) ?_ ?_
                  rotate_left
                  ·
                   intro w'
                   go_simp
                   with_reducible rfl
                  rotate_left
                  ·
                   simp only [Act.put, Hand.s0_, List.set_cons_zero, Hand.s1_, i64_w, i32_w]
                   rfl
                  refine last_ (i := 16) (N := none) #[true,true,true,true,true,true,true,true,true,true,true,true,true,true,true,true,true] rfl rfl (one_of HT_.out (by kernel_rfl)) (by decide) (fun K hK => ?_)
                  refine skip_ (w1 := ?_) (by rfl) rfl ?_ ?_
                  rotate_left
                  ·
                   go_simp
                   rfl
                  refine hK.out _ _ ?_
                  clear hK K
                  refine done_ (done_of HT_.out (by kernel_rfl)) ?_
                  try go_wp2
                  have n0_ : Aside0 (Kd.R (Kd.int .i64) 3 (w71.setCell ⟨go68, ((ji63) : Int).toNat, none⟩ (.int .i64 (Int.tmod (wrap64 ((rd x23_3 (ji63)) + (rd x21_2 x24_3))) (wrap64 (2 + t242))))) w.heap.size (fun k_ => some k_ ≠ (.slice (some ad280) x21_2.length co59 : Value).ownBlock ∧ some k_ ≠ (.slice (some ⟨go68, 0, none⟩) x23_3.length co72 : Value).ownBlock) (.slice Ao16 x9_2.length co16) x9_2) := ⟨by (with_reducible repeat (first | apply Kd.R_alloc | apply Kd.R_drewN | apply Kd.R_drew)); exact Kd.R_mono (Kd.R_far (p := ⟨go68, ((ji63) : Int).toNat, none⟩) (Kd.R_mono HO_9.out (fun k_ hk => (⟨hk, fun e_ => hk.2 (by rw [e_]; rfl)⟩ : _ ∧ k_ ≠ go68))) (fun _ hk => hk.2) (.int .i64 (Int.tmod (wrap64 ((rd x23_3 (ji63)) + (rd x21_2 x24_3))) (wrap64 (2 + t242))))) (fun _ hk => ⟨hk.1.1, hk.1.2⟩)⟩
                  have n1_ : Aside0 (Kd.R (Kd.int .i64) 3 (w71.setCell ⟨go68, ((ji63) : Int).toNat, none⟩ (.int .i64 (Int.tmod (wrap64 ((rd x23_3 (ji63)) + (rd x21_2 x24_3))) (wrap64 (2 + t242))))) w.heap.size (fun k_ => some k_ ≠ (.slice Ao16 x9_2.length co16 : Value).ownBlock ∧ some k_ ≠ (.slice (some ⟨go68, 0, none⟩) x23_3.length co72 : Value).ownBlock) (.slice (some ad280) x21_2.length co59) x21_2) := ⟨by (with_reducible repeat (first | apply Kd.R_alloc | apply Kd.R_drewN | apply Kd.R_drew)); exact Kd.R_mono (Kd.R_far (p := ⟨go68, ((ji63) : Int).toNat, none⟩) (Kd.R_mono HO_21.out (fun k_ hk => (⟨hk, fun e_ => hk.2 (by rw [e_]; rfl)⟩ : _ ∧ k_ ≠ go68))) (fun _ hk => hk.2) (.int .i64 (Int.tmod (wrap64 ((rd x23_3 (ji63)) + (rd x21_2 x24_3))) (wrap64 (2 + t242))))) (fun _ hk => ⟨hk.1.1, hk.1.2⟩)⟩
                  have n2_ : Aside0 (Kd.R (Kd.int .i64) 3 (w71.setCell ⟨go68, ((ji63) : Int).toNat, none⟩ (.int .i64 (Int.tmod (wrap64 ((rd x23_3 (ji63)) + (rd x21_2 x24_3))) (wrap64 (2 + t242))))) w.heap.size (fun k_ => some k_ ≠ (.slice Ao16 x9_2.length co16 : Value).ownBlock ∧ some k_ ≠ (.slice (some ad280) x21_2.length co59 : Value).ownBlock) (.slice (some ⟨go68, 0, none⟩) x23_3.length co72) y281) := ⟨by (with_reducible repeat (first | apply Kd.R_alloc | apply Kd.R_drewN | apply Kd.R_drew)); exact HQ73.out⟩
                  have n3_ : Aside0 (Below w.heap.size w (w71.setCell ⟨go68, ((ji63) : Int).toNat, none⟩ (.int .i64 (Int.tmod (wrap64 ((rd x23_3 (ji63)) + (rd x21_2 x24_3))) (wrap64 (2 + t242)))))) := ⟨by repeat (first | (with_reducible first | exact HB.out | apply below_alloc | apply pw_below_drewN | apply below_drew1 | refine below_set ?_ GB68.out) | exact HB.out)⟩
                  (try clear HO_9)
                  (try clear HO_21)
                  (try clear HO_23)
                  (try clear HB)
                  generalize (w71.setCell ⟨go68, ((ji63) : Int).toNat, none⟩ (.int .i64 (Int.tmod (wrap64 ((rd x23_3 (ji63)) + (rd x21_2 x24_3))) (wrap64 (2 + t242))))) = w74 at n0_ n1_ n2_ n3_ ⊢
                  have HO_9 := n0_
                  have HO_21 := n1_
                  have HO_23 := n2_
                  have HB := n3_
                  clear n0_ n1_ n2_ n3_
                  have n0_ := Aside0.mk (Kd.R_drew HO_9.out)
                  have n1_ := Aside0.mk (Kd.R_drew HO_21.out)
                  have n2_ := Aside0.mk (Kd.R_drew HO_23.out)
                  have n3_ := Aside0.mk (below_drew1 HB.out)
                  clear HO_9
                  clear HO_21
                  clear HO_23
                  clear HB
                  have HO_9 := n0_
                  have HO_21 := n1_
                  have HO_23 := n2_
                  have HB := n3_
                  clear n0_ n1_ n2_ n3_
                  have p282 : 0 ≤ (x24_3 : Int) := of_decide_eq_true (by assumption)
                  have q282 : x24_3 < (y281.length : Int) := (by have h_ : (x24_3 : Int) < ((x23_3.length : Int) : Int) := of_decide_eq_true (by assumption); first | (have e_ := (Kd.R_reads' HO_23.out).1; omega) | simpa only [Ny281.out, List.length_set] using h_)
                  have ql282 : ((x24_3 : Int) < ((x23_3.length : Int) : Int)) = True := eq_true (of_decide_eq_true (by assumption))
                  (first | (obtain ⟨Aq_, cq_, eq_⟩ := Kd.R_slice HO_23.out; subst eq_) | skip)
                  obtain ⟨ad282, e282, hx282_0⟩ := Kd.at_int (Kd.R_reads' HO_23.out).2.2 x24_3 p282 q282
                  obtain rfl : (⟨go68, 0, none⟩ : Addr) = ad282 := (by injection e282)
                  (first | simp only [add_plain] at hx282_0 | simp only [add_at] at hx282_0 | simp only [Addr.add, Nat.zero_add] at hx282_0 | skip)
                  replace p282 := eq_true p282
                  replace q282 := eq_true q282
                  have p283 : 0 ≤ (x24_3 : Int) := of_decide_eq_true (by assumption)
                  have q283 : x24_3 < (x21_2.length : Int) := of_decide_eq_true (by assumption)
                  (first | (obtain ⟨Aq_, cq_, eq_⟩ := Kd.R_slice HO_21.out; subst eq_) | skip)
                  obtain ⟨ad283, e283, hx283_0⟩ := Kd.at_int (Kd.R_reads' HO_21.out).2.2 x24_3 p283 q283
                  obtain rfl : ad280 = ad283 := (by injection e283)
                  replace p283 := eq_true p283
                  replace q283 := eq_true q283
                  have p70 : 0 ≤ (x24_3 : Int) := of_decide_eq_true (by assumption)
                  have q70 : (x24_3 : Int) < ((x23_3.length : Int) : Int) := of_decide_eq_true (by assumption)
                  obtain ⟨hx70_0, hf70_0⟩ := Kd.R_celln 0 HO_23.out (x24_3 : Int) p70 q70
                  replace p70 := eq_true p70
                  replace q70 := eq_true q70
                  have HP76 := Kd.R_putn HO_23.out (x24_3 : Int) (Int.tmod (wrap64 ((rd y281 x24_3) + (wrap64 ((wrap64 ((wrap64 (2 + t242)) - (Int.tmod x22_2 (wrap64 (2 + t242))))) * (rd x21_2 x24_3))))) (wrap64 (2 + t242)))
                  rw [← Ny284.out] at HP76
                  have HQ76 := Aside0.mk HP76
                  clear HP76
                  as_aux_lemma =>
                  refine start_ (n := 21) (S := fun w' => w'.cell? ⟨go68, (x24_3).toNat, none⟩ = some (.int .i64 (rd y281 x24_3)) ∧ w'.cell? (ad280.add (x24_3).toNat) = some (.int .i64 (rd x21_2 x24_3))) (ds := [20]) #[false,false,false,false,false,false,false,false,false,false,false,false,false,false,false,false,false,false,false,false,false] (by kernel_rfl) rfl rfl ⟨hx282_0, hx283_0⟩ (fun hHeld => ?_); refine with_tabW galloonlaw06_ShuffleSame.tab20 galloonlaw06_ShuffleSame.bits20 (fun HT_ HW_ => ?_)
                  generalize w74.drew = w75 at HO_9 HO_21 HO_23 HB HQ73 HQ76 hf70_0 hx282_0 hx283_0 hx70_0 hHeld ⊢
                  refine pure_ (i := 0) (N := some 178) (v := ?_) (a' := ?_) #[true,false,false,false,false,false,false,false,false,false,false,false,false,false,false,false,false,false,false,false,false] rfl rfl (any_of HT_.out (by kernel_rfl)) (fun _ _ _ h => h) (Or.inl ⟨by rfl, ?_⟩) ?_ ?_
                  rotate_left
                  ·
                   intro w'
                   go_simp
                   with_reducible rfl
                  rotate_left
                  ·
                   simp only [Act.put, Hand.s0_, List.set_cons_zero, Hand.s1_, i64_w, i32_w]
                   rfl
                  refine pure_ (i := 1) (N := some 179) (v := ?_) (a' := ?_) #[true,true,false,false,false,false,false,false,false,false,false,false,false,false,false,false,false,false,false,false,false] rfl rfl (any_of HT_.out (by kernel_rfl)) (fun _ _ _ h => h) (Or.inl ⟨by rfl, ?_⟩) ?_ ?_
                  rotate_left
                  ·
                   intro w'
                   go_simp
                   with_reducible rfl
                  rotate_left
                  ·
                   simp only [Act.put, Hand.s0_, List.set_cons_zero, Hand.s1_, i64_w, i32_w]
                   rfl
                  refine pure_ (i := 2) (N := some 180) (v := ?_) (a' := ?_) #[true,true,true,false,false,false,false,false,false,false,false,false,false,false,false,false,false,false,false,false,false] rfl rfl (any_of HT_.out (by kernel_rfl)) (fun _ _ _ h => h) (Or.inl ⟨by rfl, ?_⟩) ?_ ?_
                  rotate_left
                  ·
                   intro w'
                   go_simp
                   with_reducible rfl
                  rotate_left
                  ·
                   simp only [Act.put, Hand.s0_, List.set_cons_zero, Hand.s1_, i64_w, i32_w]
                   rfl
                  refine pure_ (i := 3) (N := some 181) (v := ?_) (a' := ?_) #[true,true,true,true,false,false,false,false,false,false,false,false,false,false,false,false,false,false,false,false,false] rfl rfl (any_of HT_.out (by kernel_rfl)) (fun _ _ _ h => h) (Or.inl ⟨by rfl, ?_⟩) ?_ ?_
                  rotate_left
                  ·
                   intro w'
                   go_simp
                   with_reducible rfl
                  rotate_left
                  ·
                   simp only [Act.put, Hand.s0_, List.set_cons_zero, Hand.s1_, i64_w, i32_w]
                   rfl
                  refine pure_ (i := 4) (N := some 182) (v := ?_) (a' := ?_) #[true,true,true,true,true,false,false,false,false,false,false,false,false,false,false,false,false,false,false,false,false] rfl rfl (any_of HT_.out (by kernel_rfl)) (fun _ _ _ h => h) (Or.inl ⟨by rfl, ?_⟩) ?_ ?_
                  rotate_left
                  ·
                   intro w'
                   go_simp
                   with_reducible rfl
                  rotate_left
                  ·
                   simp only [Act.put, Hand.s0_, List.set_cons_zero, Hand.s1_, i64_w, i32_w]
                   rfl
                  refine pure_ (i := 6) (N := some 184) (v := ?_) (a' := ?_) #[true,true,true,true,true,false,true,false,false,false,false,false,false,false,false,false,false,false,false,false,false] rfl rfl (any_of HT_.out (by kernel_rfl)) (fun _ _ _ h => h) (Or.inl ⟨by rfl, ?_⟩) ?_ ?_
                  rotate_left
                  ·
                   intro w'
                   go_simp
                   with_reducible rfl
                  rotate_left
                  ·
                   simp only [Act.put, Hand.s0_, List.set_cons_zero, Hand.s1_, i64_w, i32_w]
                   rfl
                  refine pure_ (i := 7) (N := some 185) (v := ?_) (a' := ?_) #[true,true,true,true,true,false,true,true,false,false,false,false,false,false,false,false,false,false,false,false,false] rfl rfl (any_of HT_.out (by kernel_rfl)) (fun _ _ _ h => h) (Or.inl ⟨by rfl, ?_⟩) ?_ ?_
                  rotate_left
                  ·
                   intro w'
                   go_simp
                   with_reducible rfl
                  rotate_left
                  ·
                   simp only [Act.put, Hand.s0_, List.set_cons_zero, Hand.s1_, i64_w, i32_w]
                   rfl
                  refine pure_ (i := 8) (N := some 186) (v := ?_) (a' := ?_) #[true,true,true,true,true,false,true,true,true,false,false,false,false,false,false,false,false,false,false,false,false] rfl rfl (any_of HT_.out (by kernel_rfl)) (fun _ _ _ h => h) (Or.inl ⟨by rfl, ?_⟩) ?_ ?_
                  rotate_left
                  ·
                   intro w'
                   go_simp
                   with_reducible rfl
                  rotate_left
                  ·
                   simp only [Act.put, Hand.s0_, List.set_cons_zero, Hand.s1_, i64_w, i32_w]
                   rfl
                  refine pure_ (i := 9) (N := some 187) (v := ?_) (a' := ?_) #[true,true,true,true,true,false,true,true,true,true,false,false,false,false,false,false,false,false,false,false,false] rfl rfl (any_of HT_.out (by kernel_rfl)) (fun _ _ _ h => h) (Or.inl ⟨by rfl, ?_⟩) ?_ ?_
                  rotate_left
                  ·
                   intro w'
                   go_simp
                   with_reducible rfl
                  rotate_left
                  ·
                   simp only [Act.put, Hand.s0_, List.set_cons_zero, Hand.s1_, i64_w, i32_w]
                   rfl
                  refine pure_ (i := 10) (N := some 188) (v := ?_) (a' := ?_) #[true,true,true,true,true,false,true,true,true,true,true,false,false,false,false,false,false,false,false,false,false] rfl rfl (any_of HT_.out (by kernel_rfl)) (fun _ _ _ h => h) (Or.inl ⟨by rfl, ?_⟩) ?_ ?_
                  rotate_left
                  ·
                   intro w'
                   go_simp
                   with_reducible rfl
                  rotate_left
                  ·
                   simp only [Act.put, Hand.s0_, List.set_cons_zero, Hand.s1_, i64_w, i32_w]
                   rfl
                  refine pure_ (i := 11) (N := some 189) (v := ?_) (a' := ?_) #[true,true,true,true,true,false,true,true,true,true,true,true,false,false,false,false,false,false,false,false,false] rfl rfl (any_of HT_.out (by kernel_rfl)) (fun _ _ _ h => h) (Or.inl ⟨by rfl, ?_⟩) ?_ ?_
                  rotate_left
                  ·
                   intro w'
                   go_simp
                   with_reducible rfl
                  rotate_left
                  ·
                   simp only [Act.put, Hand.s0_, List.set_cons_zero, Hand.s1_, i64_w, i32_w]
                   rfl
                  refine pure_ (i := 12) (N := some 190) (v := ?_) (a' := ?_) #[true,true,true,true,true,false,true,true,true,true,true,true,true,false,false,false,false,false,false,false,false] rfl rfl (any_of HT_.out (by kernel_rfl)) (fun _ _ _ h => h) (Or.inl ⟨by rfl, ?_⟩) ?_ ?_
                  rotate_left
                  ·
                   intro w'
                   go_simp
                   with_reducible rfl
                  rotate_left
                  ·
                   simp only [Act.put, Hand.s0_, List.set_cons_zero, Hand.s1_, i64_w, i32_w]
                   rfl
                  refine pure_ (i := 13) (N := some 191) (v := ?_) (a' := ?_) #[true,true,true,true,true,false,true,true,true,true,true,true,true,true,false,false,false,false,false,false,false] rfl rfl (any_of HT_.out (by kernel_rfl)) (fun _ _ _ h => h) (Or.inl ⟨by rfl, ?_⟩) ?_ ?_
                  rotate_left
                  ·
                   intro w'
                   go_simp
                   with_reducible rfl
                  rotate_left
                  ·
                   simp only [Act.put, Hand.s0_, List.set_cons_zero, Hand.s1_, i64_w, i32_w]
                   rfl
                  refine pure_ (i := 17) (N := some 195) (v := ?_) (a' := ?_) #[true,true,true,true,true,false,true,true,true,true,true,true,true,true,false,false,false,true,false,false,false] rfl rfl (any_of HT_.out (by kernel_rfl)) (fun _ _ _ h => h) (Or.inl ⟨by rfl, ?_⟩) ?_ ?_
                  rotate_left
                  ·
                   intro w'
                   go_simp
                   with_reducible rfl
                  rotate_left
                  ·
                   simp only [Act.put, Hand.s0_, List.set_cons_zero, Hand.s1_, i64_w, i32_w]
                   rfl
                  refine take_ (i := 5) (N := some 183) (v := ?_) (a' := ?_) #[true,true,true,true,true,true,true,true,true,true,true,true,true,true,false,false,false,true,false,false,false] rfl rfl (take_ofW HT_.out HW_.out (by kernel_rfl)) (fun _ _ _ h => h) (Or.inl ⟨by rfl, ?_⟩) hHeld ?_ ?_
                  rotate_left
                  ·
                   rintro w' ⟨s0, s1⟩
                   go_simp
                   with_reducible rfl
                  rotate_left
                  ·
                   simp only [Act.put, Hand.s0_, List.set_cons_zero, Hand.s1_, i64_w, i32_w]
                   rfl
                  refine take_ (i := 14) (N := some 192) (v := ?_) (a' := ?_) #[true,true,true,true,true,true,true,true,true,true,true,true,true,true,true,false,false,true,false,false,false] rfl rfl (take_ofW HT_.out HW_.out (by kernel_rfl)) (fun _ _ _ h => h) (Or.inl ⟨by rfl, ?_⟩) hHeld ?_ ?_
                  rotate_left
                  ·
                   rintro w' ⟨s0, s1⟩
                   go_simp
                   with_reducible rfl
                  rotate_left
                  ·
                   simp only [Act.put, Hand.s0_, List.set_cons_zero, Hand.s1_, i64_w, i32_w]
                   rfl
                  refine pure_ (i := 15) (N := some 193) (v := ?_) (a' := ?_) #[true,true,true,true,true,true,true,true,true,true,true,true,true,true,true,true,false,true,false,false,false] rfl rfl (any_of HT_.out (by kernel_rfl)) (fun _ _ _ h => h) (Or.inl ⟨by rfl, ?_⟩) ?_ ?_
                  rotate_left
                  ·
                   intro w'
                   go_simp
                   with_reducible rfl
                  rotate_left
                  ·
                   simp only [Act.put, Hand.s0_, List.set_cons_zero, Hand.s1_, i64_w, i32_w]
                   rfl
                  refine pure_ (i := 16) (N := some 194) (v := ?_) (a' := ?_) #[true,true,true,true,true,true,true,true,true,true,true,true,true,true,true,true,true,true,false,false,false] rfl rfl (any_of HT_.out (by kernel_rfl)) (fun _ _ _ h => h) (Or.inl ⟨by rfl, ?_⟩) ?_ ?_
                  rotate_left
                  ·
                   intro w'
                   go_simp
                   with_reducible rfl
                  rotate_left
                  ·
                   simp only [Act.put, Hand.s0_, List.set_cons_zero, Hand.s1_, i64_w, i32_w]
                   rfl
                  refine pure_ (i := 18) (N := some 196) (v := ?_) (a' := ?_) #[true,true,true,true,true,true,true,true,true,true,true,true,true,true,true,true,true,true,true,false,false] rfl rfl (any_of HT_.out (by kernel_rfl)) (fun _ _ _ h => h) (Or.inl ⟨by rfl, ?_⟩) ?_ ?_
                  rotate_left
                  ·
                   intro w'
                   go_simp
                   with_reducible rfl
                  rotate_left
                  ·
                   simp only [Act.put, Hand.s0_, List.set_cons_zero, Hand.s1_, i64_w, i32_w]
                   rfl
                  refine pure_ (i := 19) (N := some 197) (v := ?_) (a' := ?_) #[true,true,true,true,true,true,true,true,true,true,true,true,true,true,true,true,true,true,true,true,false] rfl rfl (any_of HT_.out (by kernel_rfl)) (fun _ _ _ h => h) (Or.inl ⟨by rfl, ?_⟩) ?_ ?_
                  rotate_left
                  ·
                   intro w'
                   go_simp
                   with_reducible rfl
                  rotate_left
                  ·
                   simp only [Act.put, Hand.s0_, List.set_cons_zero, Hand.s1_, i64_w, i32_w]
                   rfl
                  refine last_ (i := 20) (N := none) #[true,true,true,true,true,true,true,true,true,true,true,true,true,true,true,true,true,true,true,true,true] rfl rfl (one_of HT_.out (by kernel_rfl)) (by decide) (fun K hK => ?_)
                  refine skip_ (w1 := ?_) (by rfl) rfl ?_ ?_
                  rotate_left
                  ·
                   go_simp
                   rfl
                  refine hK.out _ _ ?_
                  clear hK K
                  refine done_ (done_of HT_.out (by kernel_rfl)) ?_
                  try go_wp2
                  go_roundg k3
                  case measure => have := HJ12.out; have := HK2.out; have := HK3.out; omega
                  case rel => exact ⟨(y284), (ji63), (by first | rfl | (simp; done) | (simp only [← hji63] <;> (first | rfl | simp)) | (simp [*]; done)), H', ⟨by have := HJ12.out; have := HK2.out; have := HK3.out; omega⟩, ⟨by (try simp only [hl9_2]); (with_reducible repeat (first | apply Kd.R_alloc | apply Kd.R_drewN | apply Kd.R_drew)); exact Kd.R_mono (Kd.R_far (p := ⟨go68, (x24_3 : Int).toNat, none⟩) (Kd.R_mono HO_9.out (fun k_ hk => (⟨hk, fun e_ => hk.2 (by rw [e_]; rfl)⟩ : _ ∧ k_ ≠ go68))) (fun _ hk => hk.2) (.int .i64 (Int.tmod (wrap64 ((rd y281 x24_3) + (wrap64 ((wrap64 ((wrap64 (2 + t242)) - (Int.tmod x22_2 (wrap64 (2 + t242))))) * (rd x21_2 x24_3))))) (wrap64 (2 + t242))))) (fun _ hk => ⟨hk.1.1, hk.1.2⟩)⟩, ⟨by (try simp only [hl9_2]); (with_reducible repeat (first | apply Kd.R_alloc | apply Kd.R_drewN | apply Kd.R_drew)); exact Kd.R_mono (Kd.R_far (p := ⟨go68, (x24_3 : Int).toNat, none⟩) (Kd.R_mono HO_21.out (fun k_ hk => (⟨hk, fun e_ => hk.2 (by rw [e_]; rfl)⟩ : _ ∧ k_ ≠ go68))) (fun _ hk => hk.2) (.int .i64 (Int.tmod (wrap64 ((rd y281 x24_3) + (wrap64 ((wrap64 ((wrap64 (2 + t242)) - (Int.tmod x22_2 (wrap64 (2 + t242))))) * (rd x21_2 x24_3))))) (wrap64 (2 + t242))))) (fun _ hk => ⟨hk.1.1, hk.1.2⟩)⟩, ⟨by (try simp only [hl9_2]); (with_reducible repeat (first | apply Kd.R_alloc | apply Kd.R_drewN | apply Kd.R_drew)); exact HQ76.out⟩, ⟨by repeat (first | (with_reducible first | exact HB.out | apply below_alloc | apply pw_below_drewN | apply below_drew1 | refine below_set ?_ GB68.out) | exact HB.out)⟩⟩
                 ·
                  rw [if_neg c69] at H
                  exact absurd H (by simp)
               ·
                rw [if_neg c66] at H
                exact absurd H (by simp)
              ·
               rw [if_neg c65] at H
               exact absurd H (by simp)
             ·
              rw [if_neg c64] at H
              exact absurd H (by simp)
            ·
             rw [if_neg c62] at H
             have c62b0 : decide (x24_3 < (x21_2.length : Int)) = false := decide_eq_false c62
             (first | (simp only [hl9_2] at c62b0) | skip)
             clear c62
             have H' := Aside0.mk H
             clear H
             go_wp2
             (try simp only [← hl9_2])
             go_roundg k3
             case measure => have := HJ12.out; have := HK2.out; have := HK3.out; omega
             case rel => exact ⟨(x9_2), (x23_3), (wrap64 (x22_2 + 1)), (by first | rfl | (simp; done) | (simp [*]; done)), H', ⟨by have := HJ12.out; have := HK2.out; have := HK3.out; omega⟩, ⟨by (try simp only [hl9_2]); (with_reducible repeat (first | apply Kd.R_alloc | apply Kd.R_drewN | apply Kd.R_drew)); exact Kd.R_mono HO_9.out (fun _ hk => hk.2)⟩, ⟨by (try simp only [hl9_2]); (with_reducible repeat (first | apply Kd.R_alloc | apply Kd.R_drewN | apply Kd.R_drew)); exact Kd.R_mono HO_23.out (fun _ hk => hk.1)⟩, ⟨by repeat (first | (with_reducible first | exact HB.out | apply below_alloc | apply pw_below_drewN | apply below_drew1) | exact HB.out)⟩⟩
         ·
          rw [if_neg c58] at H
          exact absurd H (by simp)
        ·
         rw [if_neg c57] at H
         exact absurd H (by simp)
       ·
        rw [if_neg c55] at H
        have c55b0 : decide (x22_2 < t271) = false := decide_eq_false c55
        (first | (simp only [hl9_2] at c55b0) | skip)
        clear c55
        obtain ⟨ji77, hji77⟩ : ∃ j_ : Int, (mx (x9_2.length : Int) (x21_2.length : Int)) = j_ := ⟨_, rfl⟩
        replace H : (if 0 ≤ (ji77) then (if (ji77 : Int).toNat ≤ 35184372088832 then (galloonlaw06_ShuffleSame.l2 k2 (wrap64 (2 + t242)) x9_2 x21_2 (List.replicate (ji77 : Int).toNat 0) 0) else (none)) else (none)) = some r := by first | (rw [hji77] at H; exact H) | (simp only [hji77] at H ⊢; exact H)
        have hji77_ : (if (x9_2.length : Int) < (x21_2.length : Int) then (x21_2.length : Int) else (x9_2.length : Int)) = ji77 := hji77
        have hji77_n : (if x9_2.length < x21_2.length then (x21_2.length : Int) else (x9_2.length : Int)) = ji77 := by rw [← hji77]; unfold mx; split <;> split <;> omega
        by_cases c78 : 0 ≤ (ji77)
        ·
         rw [if_pos c78] at H
         have c78b0 := eq_true c78
         have c78b1 : decide (0 ≤ (ji77)) = true := decide_eq_true c78
         clear c78
         by_cases c79 : (ji77 : Int).toNat ≤ 35184372088832
         ·
          rw [if_pos c79] at H
          have c79b0 := eq_true c79
          have c79b1 : decide ((ji77 : Int).toNat ≤ 35184372088832) = true := decide_eq_true c79
          clear c79
          obtain ⟨y285, hy285⟩ : ∃ y_ : List Int, y_ = (List.replicate (ji77 : Int).toNat 0) := ⟨_, rfl⟩
          replace H : (galloonlaw06_ShuffleSame.l2 k2 (wrap64 (2 + t242)) x9_2 x21_2 y285 0) = some r := by first | (rw [hy285]; with_reducible exact H) | (have H2_ := (Option.bind_some _ _).symm.trans H; rw [hy285]; with_reducible exact H2_) | (have H2_ := (Option.bind_some _ _).symm.trans H; with_reducible exact H2_) | with_reducible exact H | (rw [hy285]; exact H) | exact H
          have Ny285 := Aside0.mk hy285
          clear hy285
          have H' := Aside0.mk H
          clear H
          obtain ⟨Ao80, co80, eo80⟩ := Kd.R_slice HO_21.out
          subst eo80
          go_wp2_with (first | ((with_reducible refine gate_dst (N := 204) rfl ?_); (try (refine gate_guard (by rfl) ?_; dsimp only)); refine Kd.R_make (Kd.int .i64) _ 3 rfl (N := 204) rfl 28 _ _ rfl ji77 rfl rfl Try.underlying28 (.int .i64 0) 8 info3 rfl (by decide) (by omega) 0 (ok := fun _ => True) (okp := fun _ => True) rfl (fun _ hk => hk) trivial (of_decide_eq_true (by assumption)) (Nat.le_trans (Nat.mul_le_mul_right _ (of_decide_eq_true (by assumption) : ji77.toNat ≤ 35184372088832)) (by omega)) (Below.refl _ _) (Nat.le_refl _) ?_; intro v286 w81 ho82 hb hg_ hnew_; clear hg_ hnew_; (first | rw [← Ny285.out] at ho82 | (simp only [Int.reduceToNat] at ho82; rw [← Ny285.out] at ho82)); have n0_ := Aside0.mk (Kd.R_elder' (by (with_reducible repeat (first | apply Kd.R_alloc | apply Kd.R_drewN | apply Kd.R_drew)); exact HO_9.out) (Kd.R_base ho82) hb); have n1_ := Aside0.mk (Kd.R_elder' (by (with_reducible repeat (first | apply Kd.R_alloc | apply Kd.R_drewN | apply Kd.R_drew)); exact HO_21.out) (Kd.R_base ho82) hb); have n2_ := Aside0.mk (Kd.R_lower (Kd.R_new' (Kd.R_new' ho82 (Kd.R_lt (by (with_reducible repeat (first | apply Kd.R_alloc | apply Kd.R_drewN | apply Kd.R_drew)); exact HO_9.out))) (Kd.R_lt (by (with_reducible repeat (first | apply Kd.R_alloc | apply Kd.R_drewN | apply Kd.R_drew)); exact HO_21.out))) (below_size (by repeat (first | (with_reducible first | exact HB.out | apply below_alloc | apply pw_below_drewN | apply below_drew1) | exact HB.out)))); have n3_ := Aside0.mk (below_step (by repeat (first | (with_reducible first | exact HB.out | apply below_alloc | apply pw_below_drewN | apply below_drew1) | exact HB.out)) hb); clear HO_9; clear HO_21; clear HB; have HO_9 := n0_; have HO_21 := n1_; have HO287 := n2_; have HB := n3_; clear n0_ n1_ n2_ n3_; clear hb ho82))
          go_loopg [26] k2 (fun kq v26 w' => ∃ (x25_3 : List Int) (x26_3 : Int), v26 = .int .i64 x26_3 ∧ Aside0 (galloonlaw06_ShuffleSame.l2 kq (wrap64 (2 + t242)) x9_2 x21_2 x25_3 x26_3 = some r) ∧ Aside0 (kq ≤ k2) ∧ Aside0 (Kd.R (Kd.int .i64) 3 w' w.heap.size (fun k_ => some k_ ≠ ((.slice Ao80 x21_2.length co80) : Value).ownBlock ∧ some k_ ≠ (v286 : Value).ownBlock) (.slice Ao16 x9_2.length co16) x9_2) ∧ Aside0 (Kd.R (Kd.int .i64) 3 w' w.heap.size (fun k_ => some k_ ≠ ((.slice Ao16 x9_2.length co16) : Value).ownBlock ∧ some k_ ≠ (v286 : Value).ownBlock) (.slice Ao80 x21_2.length co80) x21_2) ∧ Aside0 (Kd.R (Kd.int .i64) 3 w' w.heap.size (fun k_ => some k_ ≠ ((.slice Ao16 x9_2.length co16) : Value).ownBlock ∧ some k_ ≠ ((.slice Ao80 x21_2.length co80) : Value).ownBlock) v286 x25_3) ∧ Aside0 (Below w.heap.size w w'))
          case atStart => exact ⟨(y285), (0), (by first | rfl | (simp; done) | (simp [*]; done)), H', ⟨Nat.le_refl _⟩, ⟨by (try simp only [hl9_2]); (with_reducible repeat (first | apply Kd.R_alloc | apply Kd.R_drewN | apply Kd.R_drew)); exact HO_9.out⟩, ⟨by (try simp only [hl9_2]); (with_reducible repeat (first | apply Kd.R_alloc | apply Kd.R_drewN | apply Kd.R_drew)); exact HO_21.out⟩, ⟨by (try simp only [hl9_2]); (with_reducible repeat (first | apply Kd.R_alloc | apply Kd.R_drewN | apply Kd.R_drew)); exact Kd.R_mono HO287.out (fun _ hk => ⟨hk.1.2, hk.2⟩)⟩, ⟨by repeat (first | (with_reducible first | exact HB.out | apply below_alloc | apply pw_below_drewN | apply below_drew1) | exact HB.out)⟩⟩
          case round =>
           as_aux_lemma =>
           clear H'
           try clear c1
           try clear c2
           try clear p2
           try clear q2
           try clear hx2
           try clear c3
           try clear c4
           try clear c5
           try clear c6
           try clear p6
           try clear q6
           try clear hx6
           try clear hf6
           try clear c7
           try clear p7
           try clear q7
           try clear hx7
           try clear hf7
           try clear c15
           try clear c25
           try clear c26
           try clear c27
           try clear p27
           try clear q27
           try clear hx27
           try clear c28
           try clear p28
           try clear q28
           try clear hx28
           try clear c29
           try clear c30
           try clear c31
           try clear c38
           try clear c38b0
           try clear c39
           try clear c40
           try clear c41
           try clear c48
           try clear c51
           try clear c51b0
           try clear c51b1
           try clear c55
           try clear c55b0
           try clear c57
           try clear c57b0
           try clear c57b1
           try clear c58
           try clear c58b0
           try clear c58b1
           try clear c62
           try clear c62b0
           try clear c64
           try clear c64b0
           try clear p64
           try clear c65
           try clear c65b0
           try clear c66
           try clear c66b0
           try clear c67
           try clear c67b0
           try clear c67b1
           try clear p68
           try clear q68
           try clear hx68
           try clear hf68
           try clear c69
           try clear c69b0
           try clear p70
           try clear q70
           try clear hx70
           try clear hf70
           try clear c78
           try clear c78b0
           try clear c78b1
           try clear c79
           try clear c79b0
           try clear c79b1
           try clear hx279_0
           try clear hx280_0
           try clear hx282_0
           try clear hx283_0
           try clear hx68_0
           try clear hx70_0
           try clear p2
           try clear p279
           try clear p280
           try clear p282
           try clear p283
           try clear p6
           try clear p68
           try clear p70
           try clear q279
           try clear q280
           try clear q282
           try clear q283
           try clear q68
           try clear q70
           obtain ⟨x25_3, x26_3, rfl, HA, HK3, HO_9, HO_21, HO_25, HB⟩ := hrel
           cases gk with
           | zero => exact absurd HA.out (by simp [galloonlaw06_ShuffleSame.l2])
           | succ k3 =>
            have H := HA.out
            clear HA
            simp only [galloonlaw06_ShuffleSame.l2] at H
            by_cases c83 : x26_3 < (x25_3.length : Int)
            ·
             rw [if_pos c83] at H
             have c83b0 : decide (x26_3 < (x25_3.length : Int)) = true := decide_eq_true c83
             clear c83
             by_cases c84 : x26_3 < (x9_2.length : Int)
             ·
              rw [if_pos c84] at H
              have c84b0 : decide (x26_3 < (x9_2.length : Int)) = true := decide_eq_true c84
              clear c84
              by_cases c85 : 0 ≤ x26_3
              ·
               rw [if_pos c85] at H
               have c85b0 : decide (0 ≤ x26_3) = true := decide_eq_true c85
               clear c85
               obtain ⟨y292, hy292⟩ : ∃ y_ : List Int, y_ = (x25_3.set (x26_3 : Int).toNat (rd x9_2 x26_3)) := ⟨_, rfl⟩
               replace H : (if x26_3 < (x21_2.length : Int) then (if (wrap64 (2 + t242)) = 0 then (none) else (galloonlaw06_ShuffleSame.l2 k3 (wrap64 (2 + t242)) x9_2 x21_2 (y292.set (x26_3 : Int).toNat (Int.tmod (wrap64 ((rd y292 x26_3) + (rd x21_2 x26_3))) (wrap64 (2 + t242)))) (wrap64 (x26_3 + 1)))) else (galloonlaw06_ShuffleSame.l2 k3 (wrap64 (2 + t242)) x9_2 x21_2 y292 (wrap64 (x26_3 + 1)))) = some r := by first | (rw [hy292]; with_reducible exact H) | (have H2_ := (Option.bind_some _ _).symm.trans H; rw [hy292]; with_reducible exact H2_) | (have H2_ := (Option.bind_some _ _).symm.trans H; with_reducible exact H2_) | with_reducible exact H | (rw [hy292]; exact H) | exact H
               have Ny292 := Aside0.mk hy292
               clear hy292
               by_cases c87 : x26_3 < (x21_2.length : Int)
               ·
                rw [if_pos c87] at H
                have c87b0 : decide (x26_3 < (x21_2.length : Int)) = true := decide_eq_true c87
                clear c87
                by_cases c88 : (wrap64 (2 + t242)) = 0
                ·
                 rw [if_pos c88] at H
                 exact absurd H (by simp)
                ·
                 rw [if_neg c88] at H
                 have c88b0 : ((wrap64 (2 + t242)) == 0) = false := beq_eq_false_iff_ne.mpr c88
                 have c88b1 : ((wrap64 (2 + t242)) != 0) = true := bne_iff_ne.mpr c88
                 obtain ⟨y295, hy295⟩ : ∃ y_ : List Int, y_ = (y292.set (x26_3 : Int).toNat (Int.tmod (wrap64 ((rd y292 x26_3) + (rd x21_2 x26_3))) (wrap64 (2 + t242)))) := ⟨_, rfl⟩
                 replace H : (galloonlaw06_ShuffleSame.l2 k3 (wrap64 (2 + t242)) x9_2 x21_2 y295 (wrap64 (x26_3 + 1))) = some r := by first | (rw [hy295]; with_reducible exact H) | (have H2_ := (Option.bind_some _ _).symm.trans H; rw [hy295]; with_reducible exact H2_) | (have H2_ := (Option.bind_some _ _).symm.trans H; with_reducible exact H2_) | with_reducible exact H | (rw [hy295]; exact H) | exact H
                 have Ny295 := Aside0.mk hy295
                 clear hy295
                 have H' := Aside0.mk H
                 clear H
                 obtain ⟨Ao90, co90, eo90⟩ := Kd.R_slice HO_25.out
                 subst eo90
                 have p291 : 0 ≤ (x26_3 : Int) := of_decide_eq_true (by assumption)
                 have q291 : x26_3 < (x9_2.length : Int) := of_decide_eq_true (by assumption)
                 (first | (obtain ⟨Aq_, cq_, eq_⟩ := Kd.R_slice HO_9.out; subst eq_) | skip)
                 obtain ⟨ad291, e291, hx291_0⟩ := Kd.at_int (Kd.R_reads' HO_9.out).2.2 x26_3 p291 q291
                 cases e291
                 replace p291 := eq_true p291
                 replace q291 := eq_true q291
                 have p86 : 0 ≤ (x26_3 : Int) := of_decide_eq_true (by assumption)
                 have q86 : (x26_3 : Int) < ((x25_3.length : Int) : Int) := of_decide_eq_true (by assumption)
                 obtain ⟨go86, co86, eo86, gb86, gl86, cl86, HG86⟩ := Kd.R_form HO_25.out (by omega)
                 (first | cases eo86 | (injection eo86 with ea_ en_ ec_; (first | subst ea_ | (injection ea_ with ea_; subst ea_)); subst ec_; clear en_))
                 have GB86 := Aside0.mk gb86
                 have GG86 := Aside0.mk HG86
                 clear gb86 gl86 HG86
                 obtain ⟨hx86_0, hf86_0⟩ := Kd.R_celln 0 HO_25.out (x26_3 : Int) p86 q86
                 replace p86 := eq_true p86
                 replace q86 := eq_true q86
                 have HP91 := Kd.R_putg HO_25.out (x26_3 : Int) (rd x9_2 x26_3)
                 try go_wp2_with (first | ((with_reducible refine gate_store (t := 3) (p := 221) rfl ?_); refine store_event (t := 3) (p := 221) (v := ?vo_w92) (w1 := (wr.setCell ⟨go86, (x26_3 : Int).toNat, none⟩ (.int .i64 (rd x9_2 x26_3)))) ?hg ?ho ?hn ?hr ?_; (case ho => rfl); (case hg => rfl); (case hn => rfl); (case hr => first | (go_simp; done) | (go_simp; rfl)); intro w92 hw; have hg : wr.grownBy w92 (some go86) := (by rw [hw]; exact HP91.2); have hp_ : Kd.R (Kd.int .i64) 3 w92 w.heap.size (fun k_ => some k_ ≠ (.slice (some ad291) x9_2.length co16 : Value).ownBlock ∧ some k_ ≠ (.slice Ao80 x21_2.length co80 : Value).ownBlock) (.slice (some ⟨go86, 0, none⟩) x25_3.length co90) y292 := (by rw [hw, Ny292.out]; exact HP91.1); clear HP91; have n0_ := Aside0.mk (Kd.R_after (v := (.slice (some ⟨go86, 0, none⟩) x25_3.length co90)) (v1 := (.slice (some ⟨go86, 0, none⟩) x25_3.length co90)) (ok := (fun k_ => some k_ ≠ (.slice Ao80 x21_2.length co80 : Value).ownBlock)) (by (with_reducible repeat (first | apply Kd.R_alloc | apply Kd.R_drewN | apply Kd.R_drew)); exact HO_9.out) hg (.inl rfl)); have n1_ := Aside0.mk (Kd.R_after (v := (.slice (some ⟨go86, 0, none⟩) x25_3.length co90)) (v1 := (.slice (some ⟨go86, 0, none⟩) x25_3.length co90)) (ok := (fun k_ => some k_ ≠ (.slice (some ad291) x9_2.length co16 : Value).ownBlock)) (by (with_reducible repeat (first | apply Kd.R_alloc | apply Kd.R_drewN | apply Kd.R_drew)); exact HO_21.out) hg (.inl rfl)); have n2_ := Aside0.mk (hp_); have n3_ := Aside0.mk ((by rw [hw]; exact below_set (HB.out) GB86.out : Below w.heap.size w w92)); clear HO_9; clear HO_21; clear HO_25; clear HB; have HO_9 := n0_; have HO_21 := n1_; have HO_25 := n2_; have HB := n3_; clear n0_ n1_ n2_ n3_; clear hg hw hp_))
                 have n0_ := Aside0.mk (Kd.R_drew HO_9.out)
                 have n1_ := Aside0.mk (Kd.R_drew HO_21.out)
                 have n2_ := Aside0.mk (Kd.R_drew HO_25.out)
                 have n3_ := Aside0.mk (below_drew1 HB.out)
                 clear HO_9
                 clear HO_21
                 clear HO_25
                 clear HB
                 have HO_9 := n0_
                 have HO_21 := n1_
                 have HO_25 := n2_
                 have HB := n3_
                 clear n0_ n1_ n2_ n3_
                 have p293 : 0 ≤ (x26_3 : Int) := of_decide_eq_true (by assumption)
                 have q293 : x26_3 < (y292.length : Int) := (by have h_ : (x26_3 : Int) < ((x25_3.length : Int) : Int) := of_decide_eq_true (by assumption); first | (have e_ := (Kd.R_reads' HO_25.out).1; omega) | simpa only [Ny292.out, List.length_set] using h_)
                 have ql293 : ((x26_3 : Int) < ((x25_3.length : Int) : Int)) = True := eq_true (of_decide_eq_true (by assumption))
                 (first | (obtain ⟨Aq_, cq_, eq_⟩ := Kd.R_slice HO_25.out; subst eq_) | skip)
                 obtain ⟨ad293, e293, hx293_0⟩ := Kd.at_int (Kd.R_reads' HO_25.out).2.2 x26_3 p293 q293
                 obtain rfl : (⟨go86, 0, none⟩ : Addr) = ad293 := (by injection e293)
                 (first | simp only [add_plain] at hx293_0 | simp only [add_at] at hx293_0 | simp only [Addr.add, Nat.zero_add] at hx293_0 | skip)
                 replace p293 := eq_true p293
                 replace q293 := eq_true q293
                 have p294 : 0 ≤ (x26_3 : Int) := of_decide_eq_true (by assumption)
                 have q294 : x26_3 < (x21_2.length : Int) := of_decide_eq_true (by assumption)
                 (first | (obtain ⟨Aq_, cq_, eq_⟩ := Kd.R_slice HO_21.out; subst eq_) | skip)
                 obtain ⟨ad294, e294, hx294_0⟩ := Kd.at_int (Kd.R_reads' HO_21.out).2.2 x26_3 p294 q294
                 cases e294
                 replace p294 := eq_true p294
                 replace q294 := eq_true q294
                 have p89 : 0 ≤ (x26_3 : Int) := of_decide_eq_true (by assumption)
                 have q89 : (x26_3 : Int) < ((x25_3.length : Int) : Int) := of_decide_eq_true (by assumption)
                 obtain ⟨hx89_0, hf89_0⟩ := Kd.R_celln 0 HO_25.out (x26_3 : Int) p89 q89
                 replace p89 := eq_true p89
                 replace q89 := eq_true q89
                 have HP94 := Kd.R_putn HO_25.out (x26_3 : Int) (Int.tmod (wrap64 ((rd y292 x26_3) + (rd x21_2 x26_3))) (wrap64 (2 + t242)))
                 rw [← Ny295.out] at HP94
                 have HQ94 := Aside0.mk HP94
                 clear HP94
                 as_aux_lemma =>
                 refine start_ (n := 15) (S := fun w' => w'.cell? ⟨go86, (x26_3).toNat, none⟩ = some (.int .i64 (rd y292 x26_3)) ∧ w'.cell? (ad294.add (x26_3).toNat) = some (.int .i64 (rd x21_2 x26_3))) (ds := [14]) #[false,false,false,false,false,false,false,false,false,false,false,false,false,false,false] (by kernel_rfl) rfl rfl ⟨hx293_0, hx294_0⟩ (fun hHeld => ?_); refine with_tabW galloonlaw06_ShuffleSame.tab29 galloonlaw06_ShuffleSame.bits29 (fun HT_ HW_ => ?_)
                 generalize w92.drew = w93 at HO_9 HO_21 HO_25 HB HQ94 hf89_0 hx293_0 hx294_0 hx89_0 hHeld ⊢
                 refine pure_ (i := 0) (N := some 226) (v := ?_) (a' := ?_) #[true,false,false,false,false,false,false,false,false,false,false,false,false,false,false] rfl rfl (any_of HT_.out (by kernel_rfl)) (fun _ _ _ h => h) (Or.inl ⟨by rfl, ?_⟩) ?_ ?_
                 rotate_left
                 ·
                  intro w'
                  go_simp
                  with_reducible rfl
                 rotate_left
                 ·
                  simp only [Act.put, Hand.s0_, List.set_cons_zero, Hand.s1_, i64_w, i32_w]
                  rfl
                 refine pure_ (i := 1) (N := some 227) (v := ?_) (a' := ?_) #[true,true,false,false,false,false,false,false,false,false,false,false,false,false,false] rfl rfl (any_of HT_.out (by kernel_rfl)) (fun _ _ _ h => h) (Or.inl ⟨by rfl, ?_⟩) ?_ ?_
                 rotate_left
                 ·
                  intro w'
                  go_simp
                  with_reducible rfl
                 rotate_left
                 ·
                  simp only [Act.put, Hand.s0_, List.set_cons_zero, Hand.s1_, i64_w, i32_w]
                  rfl
                 refine pure_ (i := 2) (N := some 228) (v := ?_) (a' := ?_) #[true,true,true,false,false,false,false,false,false,false,false,false,false,false,false] rfl rfl (any_of HT_.out (by kernel_rfl)) (fun _ _ _ h => h) (Or.inl ⟨by rfl, ?_⟩) ?_ ?_
                 rotate_left
                 ·
                  intro w'
                  go_simp
                  with_reducible rfl
                 rotate_left
                 ·
                  simp only [Act.put, Hand.s0_, List.set_cons_zero, Hand.s1_, i64_w, i32_w]
                  rfl
                 refine pure_ (i := 3) (N := some 229) (v := ?_) (a' := ?_) #[true,true,true,true,false,false,false,false,false,false,false,false,false,false,false] rfl rfl (any_of HT_.out (by kernel_rfl)) (fun _ _ _ h => h) (Or.inl ⟨by rfl, ?_⟩) ?_ ?_
                 rotate_left
                 ·
                  intro w'
                  go_simp
                  with_reducible rfl
                 rotate_left
                 ·
                  simp only [Act.put, Hand.s0_, List.set_cons_zero, Hand.s1_, i64_w, i32_w]
                  rfl
                 refine pure_ (i := 4) (N := some 230) (v := ?_) (a' := ?_) #[true,true,true,true,true,false,false,false,false,false,false,false,false,false,false] rfl rfl (any_of HT_.out (by kernel_rfl)) (fun _ _ _ h => h) (Or.inl ⟨by rfl, ?_⟩) ?_ ?_
                 rotate_left
                 ·
                  intro w'
                  go_simp
                  with_reducible rfl
                 rotate_left
                 ·
                  simp only [Act.put, Hand.s0_, List.set_cons_zero, Hand.s1_, i64_w, i32_w]
                  rfl
                 refine pure_ (i := 6) (N := some 232) (v := ?_) (a' := ?_) #[true,true,true,true,true,false,true,false,false,false,false,false,false,false,false] rfl rfl (any_of HT_.out (by kernel_rfl)) (fun _ _ _ h => h) (Or.inl ⟨by rfl, ?_⟩) ?_ ?_
                 rotate_left
                 ·
                  intro w'
                  go_simp
                  with_reducible rfl
                 rotate_left
                 ·
                  simp only [Act.put, Hand.s0_, List.set_cons_zero, Hand.s1_, i64_w, i32_w]
                  rfl
                 refine pure_ (i := 7) (N := some 233) (v := ?_) (a' := ?_) #[true,true,true,true,true,false,true,true,false,false,false,false,false,false,false] rfl rfl (any_of HT_.out (by kernel_rfl)) (fun _ _ _ h => h) (Or.inl ⟨by rfl, ?_⟩) ?_ ?_
                 rotate_left
                 ·
                  intro w'
                  go_simp
                  with_reducible rfl
                 rotate_left
                 ·
                  simp only [Act.put, Hand.s0_, List.set_cons_zero, Hand.s1_, i64_w, i32_w]
                  rfl
                 refine pure_ (i := 8) (N := some 234) (v := ?_) (a' := ?_) #[true,true,true,true,true,false,true,true,true,false,false,false,false,false,false] rfl rfl (any_of HT_.out (by kernel_rfl)) (fun _ _ _ h => h) (Or.inl ⟨by rfl, ?_⟩) ?_ ?_
                 rotate_left
                 ·
                  intro w'
                  go_simp
                  with_reducible rfl
                 rotate_left
                 ·
                  simp only [Act.put, Hand.s0_, List.set_cons_zero, Hand.s1_, i64_w, i32_w]
                  rfl
                 refine pure_ (i := 11) (N := some 237) (v := ?_) (a' := ?_) #[true,true,true,true,true,false,true,true,true,false,false,true,false,false,false] rfl rfl (any_of HT_.out (by kernel_rfl)) (fun _ _ _ h => h) (Or.inl ⟨by rfl, ?_⟩) ?_ ?_
                 rotate_left
                 ·
                  intro w'
                  go_simp
                  with_reducible rfl
                 rotate_left
                 ·
                  simp only [Act.put, Hand.s0_, List.set_cons_zero, Hand.s1_, i64_w, i32_w]
                  rfl
                 refine take_ (i := 5) (N := some 231) (v := ?_) (a' := ?_) #[true,true,true,true,true,true,true,true,true,false,false,true,false,false,false] rfl rfl (take_ofW HT_.out HW_.out (by kernel_rfl)) (fun _ _ _ h => h) (Or.inl ⟨by rfl, ?_⟩) hHeld ?_ ?_
                 rotate_left
                 ·
                  rintro w' ⟨s0, s1⟩
                  go_simp
                  with_reducible rfl
                 rotate_left
                 ·
                  simp only [Act.put, Hand.s0_, List.set_cons_zero, Hand.s1_, i64_w, i32_w]
                  rfl
                 refine take_ (i := 9) (N := some 235) (v := ?_) (a' := ?_) #[true,true,true,true,true,true,true,true,true,true,false,true,false,false,false] rfl rfl (take_ofW HT_.out HW_.out (by kernel_rfl)) (fun _ _ _ h => h) (Or.inl ⟨by rfl, ?_⟩) hHeld ?_ ?_
                 rotate_left
                 ·
                  rintro w' ⟨s0, s1⟩
                  go_simp
                  with_reducible rfl
                 rotate_left
                 ·
                  simp only [Act.put, Hand.s0_, List.set_cons_zero, Hand.s1_, i64_w, i32_w]
                  rfl
                 refine pure_ (i := 10) (N := some 236) (v := ?_) (a' := ?_) #[true,true,true,true,true,true,true,true,true,true,true,true,false,false,false] rfl rfl (any_of HT_.out (by kernel_rfl)) (fun _ _ _ h => h) (Or.inl ⟨by rfl, ?_⟩) ?_ ?_
                 rotate_left
                 ·
                  intro w'
                  go_simp
                  with_reducible rfl
                 rotate_left
                 ·
                  simp only [Act.put, Hand.s0_, List.set_cons_zero, Hand.s1_, i64_w, i32_w]
                  rfl
                 refine pure_ (i := 12) (N := some 238) (v := ?_) (a' := ?_) #[true,true,true,true,true,true,true,true,true,true,true,true,true,false,false] rfl rfl (any_of HT_.out (by kernel_rfl)) (fun _ _ _ h => h) (Or.inl ⟨by rfl, ?_⟩) ?_ ?_
                 rotate_left
                 ·
                  intro w'
                  go_simp
                  with_reducible rfl
                 rotate_left
                 ·
                  simp only [Act.put, Hand.s0_, List.set_cons_zero, Hand.s1_, i64_w, i32_w]
                  rfl
                 refine pure_ (i := 13) (N := some 239) (v := ?_) (a' := ?_) #[true,true,true,true,true,true,true,true,true,true,true,true,true,true,false] rfl rfl (any_of HT_.out (by kernel_rfl)) (fun _ _ _ h => h) (Or.inl ⟨by rfl, ?_⟩) ?_ ?_
                 rotate_left
                 ·
                  intro w'
                  go_simp
                  with_reducible rfl
                 rotate_left
                 ·
                  simp only [Act.put, Hand.s0_, List.set_cons_zero, Hand.s1_, i64_w, i32_w]
                  rfl
                 refine last_ (i := 14) (N := none) #[true,true,true,true,true,true,true,true,true,true,true,true,true,true,true] rfl rfl (one_of HT_.out (by kernel_rfl)) (by decide) (fun K hK => ?_)
                 refine skip_ (w1 := ?_) (by rfl) rfl ?_ ?_
                 rotate_left
                 ·
                  go_simp
                  rfl
                 refine hK.out _ _ ?_
                 clear hK K
                 refine done_ (done_of HT_.out (by kernel_rfl)) ?_
                 try go_wp2
                 go_roundg k3
                 case measure => have := HJ12.out; have := HK2.out; have := HK3.out; omega
                 case rel => exact ⟨(y295), (wrap64 (x26_3 + 1)), (by first | rfl | (simp; done) | (simp [*]; done)), H', ⟨by have := HJ12.out; have := HK2.out; have := HK3.out; omega⟩, ⟨by (try simp only [hl9_2]); (with_reducible repeat (first | apply Kd.R_alloc | apply Kd.R_drewN | apply Kd.R_drew)); exact Kd.R_mono (Kd.R_far (p := ⟨go86, (x26_3 : Int).toNat, none⟩) (Kd.R_mono HO_9.out (fun k_ hk => (⟨hk, fun e_ => hk.2 (by rw [e_]; rfl)⟩ : _ ∧ k_ ≠ go86))) (fun _ hk => hk.2) (.int .i64 (Int.tmod (wrap64 ((rd y292 x26_3) + (rd x21_2 x26_3))) (wrap64 (2 + t242))))) (fun _ hk => ⟨hk.1.1, hk.1.2⟩)⟩, ⟨by (try simp only [hl9_2]); (with_reducible repeat (first | apply Kd.R_alloc | apply Kd.R_drewN | apply Kd.R_drew)); exact Kd.R_mono (Kd.R_far (p := ⟨go86, (x26_3 : Int).toNat, none⟩) (Kd.R_mono HO_21.out (fun k_ hk => (⟨hk, fun e_ => hk.2 (by rw [e_]; rfl)⟩ : _ ∧ k_ ≠ go86))) (fun _ hk => hk.2) (.int .i64 (Int.tmod (wrap64 ((rd y292 x26_3) + (rd x21_2 x26_3))) (wrap64 (2 + t242))))) (fun _ hk => ⟨hk.1.1, hk.1.2⟩)⟩, ⟨by (try simp only [hl9_2]); (with_reducible repeat (first | apply Kd.R_alloc | apply Kd.R_drewN | apply Kd.R_drew)); exact HQ94.out⟩, ⟨by repeat (first | (with_reducible first | exact HB.out | apply below_alloc | apply pw_below_drewN | apply below_drew1 | refine below_set ?_ GB86.out) | exact HB.out)⟩⟩
               ·
                rw [if_neg c87] at H
                have c87b0 : decide (x26_3 < (x21_2.length : Int)) = false := decide_eq_false c87
                (first | (simp only [hl9_2] at c87b0) | skip)
                clear c87
                have H' := Aside0.mk H
                clear H
                obtain ⟨Ao95, co95, eo95⟩ := Kd.R_slice HO_25.out
                subst eo95
                have p291 : 0 ≤ (x26_3 : Int) := of_decide_eq_true (by assumption)
                have q291 : x26_3 < (x9_2.length : Int) := of_decide_eq_true (by assumption)
                (first | (obtain ⟨Aq_, cq_, eq_⟩ := Kd.R_slice HO_9.out; subst eq_) | skip)
                obtain ⟨ad291, e291, hx291_0⟩ := Kd.at_int (Kd.R_reads' HO_9.out).2.2 x26_3 p291 q291
                cases e291
                replace p291 := eq_true p291
                replace q291 := eq_true q291
                have p86 : 0 ≤ (x26_3 : Int) := of_decide_eq_true (by assumption)
                have q86 : (x26_3 : Int) < ((x25_3.length : Int) : Int) := of_decide_eq_true (by assumption)
                obtain ⟨go86, co86, eo86, gb86, gl86, cl86, HG86⟩ := Kd.R_form HO_25.out (by omega)
                (first | cases eo86 | (injection eo86 with ea_ en_ ec_; (first | subst ea_ | (injection ea_ with ea_; subst ea_)); subst ec_; clear en_))
                have GB86 := Aside0.mk gb86
                have GG86 := Aside0.mk HG86
                clear gb86 gl86 HG86
                obtain ⟨hx86_0, hf86_0⟩ := Kd.R_celln 0 HO_25.out (x26_3 : Int) p86 q86
                replace p86 := eq_true p86
                replace q86 := eq_true q86
                have HP96 := Kd.R_putg HO_25.out (x26_3 : Int) (rd x9_2 x26_3)
                go_wp2_with (first | ((with_reducible refine gate_store (t := 3) (p := 221) rfl ?_); refine store_event (t := 3) (p := 221) (v := ?vo_w97) (w1 := (wr.setCell ⟨go86, (x26_3 : Int).toNat, none⟩ (.int .i64 (rd x9_2 x26_3)))) ?hg ?ho ?hn ?hr ?_; (case ho => rfl); (case hg => rfl); (case hn => rfl); (case hr => first | (go_simp; done) | (go_simp; rfl)); intro w97 hw; have hg : wr.grownBy w97 (some go86) := (by rw [hw]; exact HP96.2); have hp_ : Kd.R (Kd.int .i64) 3 w97 w.heap.size (fun k_ => some k_ ≠ (.slice (some ad291) x9_2.length co16 : Value).ownBlock ∧ some k_ ≠ (.slice Ao80 x21_2.length co80 : Value).ownBlock) (.slice (some ⟨go86, 0, none⟩) x25_3.length co95) y292 := (by rw [hw, Ny292.out]; exact HP96.1); clear HP96; have n0_ := Aside0.mk (Kd.R_after (v := (.slice (some ⟨go86, 0, none⟩) x25_3.length co95)) (v1 := (.slice (some ⟨go86, 0, none⟩) x25_3.length co95)) (ok := (fun k_ => some k_ ≠ (.slice Ao80 x21_2.length co80 : Value).ownBlock)) (by (with_reducible repeat (first | apply Kd.R_alloc | apply Kd.R_drewN | apply Kd.R_drew)); exact HO_9.out) hg (.inl rfl)); have n1_ := Aside0.mk (Kd.R_after (v := (.slice (some ⟨go86, 0, none⟩) x25_3.length co95)) (v1 := (.slice (some ⟨go86, 0, none⟩) x25_3.length co95)) (ok := (fun k_ => some k_ ≠ (.slice (some ad291) x9_2.length co16 : Value).ownBlock)) (by (with_reducible repeat (first | apply Kd.R_alloc | apply Kd.R_drewN | apply Kd.R_drew)); exact HO_21.out) hg (.inl rfl)); have n2_ := Aside0.mk (hp_); have n3_ := Aside0.mk ((by rw [hw]; exact below_set (HB.out) GB86.out : Below w.heap.size w w97)); clear HO_9; clear HO_21; clear HO_25; clear HB; have HO_9 := n0_; have HO_21 := n1_; have HO_25 := n2_; have HB := n3_; clear n0_ n1_ n2_ n3_; clear hg hw hp_))
                go_roundg k3
                case measure => have := HJ12.out; have := HK2.out; have := HK3.out; omega
                case rel => exact ⟨(y292), (wrap64 (x26_3 + 1)), (by first | rfl | (simp; done) | (simp [*]; done)), H', ⟨by have := HJ12.out; have := HK2.out; have := HK3.out; omega⟩, ⟨by (try simp only [hl9_2]); (with_reducible repeat (first | apply Kd.R_alloc | apply Kd.R_drewN | apply Kd.R_drew)); exact HO_9.out⟩, ⟨by (try simp only [hl9_2]); (with_reducible repeat (first | apply Kd.R_alloc | apply Kd.R_drewN | apply Kd.R_drew)); exact HO_21.out⟩, ⟨by (try simp only [hl9_2]); (with_reducible repeat (first | apply Kd.R_alloc | apply Kd.R_drewN | apply Kd.R_drew)); exact HO_25.out⟩, ⟨by repeat (first | (with_reducible first | exact HB.out | apply below_alloc | apply pw_below_drewN | apply below_drew1) | exact HB.out)⟩⟩
              ·
               rw [if_neg c85] at H
               exact absurd H (by simp)
             ·
              rw [if_neg c84] at H
              have c84b0 : decide (x26_3 < (x9_2.length : Int)) = false := decide_eq_false c84
              (first | (simp only [hl9_2] at c84b0) | skip)
              clear c84
              by_cases c98 : x26_3 < (x21_2.length : Int)
              ·
               rw [if_pos c98] at H
               have c98b0 : decide (x26_3 < (x21_2.length : Int)) = true := decide_eq_true c98
               clear c98
               by_cases c99 : 0 ≤ x26_3
               ·
                rw [if_pos c99] at H
                have c99b0 : decide (0 ≤ x26_3) = true := decide_eq_true c99
                clear c99
                by_cases c100 : (wrap64 (2 + t242)) = 0
                ·
                 rw [if_pos c100] at H
                 exact absurd H (by simp)
                ·
                 rw [if_neg c100] at H
                 have c100b0 : ((wrap64 (2 + t242)) == 0) = false := beq_eq_false_iff_ne.mpr c100
                 have c100b1 : ((wrap64 (2 + t242)) != 0) = true := bne_iff_ne.mpr c100
                 obtain ⟨y298, hy298⟩ : ∃ y_ : List Int, y_ = (x25_3.set (x26_3 : Int).toNat (Int.tmod (wrap64 ((rd x25_3 x26_3) + (rd x21_2 x26_3))) (wrap64 (2 + t242)))) := ⟨_, rfl⟩
                 replace H : (galloonlaw06_ShuffleSame.l2 k3 (wrap64 (2 + t242)) x9_2 x21_2 y298 (wrap64 (x26_3 + 1))) = some r := by first | (rw [hy298]; with_reducible exact H) | (have H2_ := (Option.bind_some _ _).symm.trans H; rw [hy298]; with_reducible exact H2_) | (have H2_ := (Option.bind_some _ _).symm.trans H; with_reducible exact H2_) | with_reducible exact H | (rw [hy298]; exact H) | exact H
                 have Ny298 := Aside0.mk hy298
                 clear hy298
                 have H' := Aside0.mk H
                 clear H
                 obtain ⟨Ao102, co102, eo102⟩ := Kd.R_slice HO_25.out
                 subst eo102
                 try go_wp2
                 have n0_ := Aside0.mk (Kd.R_drew HO_9.out)
                 have n1_ := Aside0.mk (Kd.R_drew HO_21.out)
                 have n2_ := Aside0.mk (Kd.R_drew HO_25.out)
                 have n3_ := Aside0.mk (below_drew1 HB.out)
                 clear HO_9
                 clear HO_21
                 clear HO_25
                 clear HB
                 have HO_9 := n0_
                 have HO_21 := n1_
                 have HO_25 := n2_
                 have HB := n3_
                 clear n0_ n1_ n2_ n3_
                 have p296 : 0 ≤ (x26_3 : Int) := of_decide_eq_true (by assumption)
                 have q296 : x26_3 < (x25_3.length : Int) := of_decide_eq_true (by assumption)
                 (first | (obtain ⟨Aq_, cq_, eq_⟩ := Kd.R_slice HO_25.out; subst eq_) | skip)
                 obtain ⟨ad296, e296, hx296_0⟩ := Kd.at_int (Kd.R_reads' HO_25.out).2.2 x26_3 p296 q296
                 cases e296
                 replace p296 := eq_true p296
                 replace q296 := eq_true q296
                 have p297 : 0 ≤ (x26_3 : Int) := of_decide_eq_true (by assumption)
                 have q297 : x26_3 < (x21_2.length : Int) := of_decide_eq_true (by assumption)
                 (first | (obtain ⟨Aq_, cq_, eq_⟩ := Kd.R_slice HO_21.out; subst eq_) | skip)
                 obtain ⟨ad297, e297, hx297_0⟩ := Kd.at_int (Kd.R_reads' HO_21.out).2.2 x26_3 p297 q297
                 cases e297
                 replace p297 := eq_true p297
                 replace q297 := eq_true q297
                 have p101 : 0 ≤ (x26_3 : Int) := of_decide_eq_true (by assumption)
                 have q101 : (x26_3 : Int) < ((x25_3.length : Int) : Int) := of_decide_eq_true (by assumption)
                 obtain ⟨go101, co101, eo101, gb101, gl101, cl101, HG101⟩ := Kd.R_form HO_25.out (by omega)
                 (first | cases eo101 | (injection eo101 with ea_ en_ ec_; (first | subst ea_ | (injection ea_ with ea_; subst ea_)); subst ec_; clear en_))
                 have GB101 := Aside0.mk gb101
                 have GG101 := Aside0.mk HG101
                 clear gb101 gl101 HG101
                 (first | simp only [add_plain] at hx296_0 | skip)
                 obtain ⟨hx101_0, hf101_0⟩ := Kd.R_celln 0 HO_25.out (x26_3 : Int) p101 q101
                 replace p101 := eq_true p101
                 replace q101 := eq_true q101
                 have HP104 := Kd.R_putn HO_25.out (x26_3 : Int) (Int.tmod (wrap64 ((rd x25_3 x26_3) + (rd x21_2 x26_3))) (wrap64 (2 + t242)))
                 rw [← Ny298.out] at HP104
                 have HQ104 := Aside0.mk HP104
                 clear HP104
                 as_aux_lemma =>
                 refine start_ (n := 15) (S := fun w' => w'.cell? ⟨go101, (x26_3).toNat, none⟩ = some (.int .i64 (rd x25_3 x26_3)) ∧ w'.cell? (ad297.add (x26_3).toNat) = some (.int .i64 (rd x21_2 x26_3))) (ds := [14]) #[false,false,false,false,false,false,false,false,false,false,false,false,false,false,false] (by kernel_rfl) rfl rfl ⟨hx296_0, hx297_0⟩ (fun hHeld => ?_); refine with_tabW galloonlaw06_ShuffleSame.tab29 galloonlaw06_ShuffleSame.bits29 (fun HT_ HW_ => ?_)
                 generalize wr.drew = w103 at HO_9 HO_21 HO_25 HB GG101 HQ104 hf101_0 hx101_0 hx296_0 hx297_0 hHeld ⊢
                 refine pure_ (i := 0) (N := some 226) (v := ?_) (a' := ?_) #[true,false,false,false,false,false,false,false,false,false,false,false,false,false,false] rfl rfl (any_of HT_.out (by kernel_rfl)) (fun _ _ _ h => h) (Or.inl ⟨by rfl, ?_⟩) ?_ ?_
                 rotate_left
                 ·
                  intro w'
                  go_simp
                  with_reducible rfl
                 rotate_left
                 ·
                  simp only [Act.put, Hand.s0_, List.set_cons_zero, Hand.s1_, i64_w, i32_w]
                  rfl
                 refine pure_ (i := 1) (N := some 227) (v := ?_) (a' := ?_) #[true,true,false,false,false,false,false,false,false,false,false,false,false,false,false] rfl rfl (any_of HT_.out (by kernel_rfl)) (fun _ _ _ h => h) (Or.inl ⟨by rfl, ?_⟩) ?_ ?_
                 rotate_left
                 ·
                  intro w'
                  go_simp
                  with_reducible rfl
                 rotate_left
                 ·
                  simp only [Act.put, Hand.s0_, List.set_cons_zero, Hand.s1_, i64_w, i32_w]
                  rfl
                 refine pure_ (i := 2) (N := some 228) (v := ?_) (a' := ?_) #[true,true,true,false,false,false,false,false,false,false,false,false,false,false,false] rfl rfl (any_of HT_.out (by kernel_rfl)) (fun _ _ _ h => h) (Or.inl ⟨by rfl, ?_⟩) ?_ ?_
                 rotate_left
                 ·
                  intro w'
                  go_simp
                  with_reducible rfl
                 rotate_left
                 ·
                  simp only [Act.put, Hand.s0_, List.set_cons_zero, Hand.s1_, i64_w, i32_w]
                  rfl
                 refine pure_ (i := 3) (N := some 229) (v := ?_) (a' := ?_) #[true,true,true,true,false,false,false,false,false,false,false,false,false,false,false] rfl rfl (any_of HT_.out (by kernel_rfl)) (fun _ _ _ h => h) (Or.inl ⟨by rfl, ?_⟩) ?_ ?_
                 rotate_left
                 ·
                  intro w'
                  go_simp
                  with_reducible rfl
                 rotate_left
                 ·
                  simp only [Act.put, Hand.s0_, List.set_cons_zero, Hand.s1_, i64_w, i32_w]
                  rfl
                 refine pure_ (i := 4) (N := some 230) (v := ?_) (a' := ?_) #[true,true,true,true,true,false,false,false,false,false,false,false,false,false,false] rfl rfl (any_of HT_.out (by kernel_rfl)) (fun _ _ _ h => h) (Or.inl ⟨by rfl, ?_⟩) ?_ ?_
                 rotate_left
                 ·
                  intro w'
                  go_simp
                  with_reducible rfl
                 rotate_left
                 ·
                  simp only [Act.put, Hand.s0_, List.set_cons_zero, Hand.s1_, i64_w, i32_w]
                  rfl
                 refine pure_ (i := 6) (N := some 232) (v := ?_) (a' := ?_) #[true,true,true,true,true,false,true,false,false,false,false,false,false,false,false] rfl rfl (any_of HT_.out (by kernel_rfl)) (fun _ _ _ h => h) (Or.inl ⟨by rfl, ?_⟩) ?_ ?_
                 rotate_left
                 ·
                  intro w'
                  go_simp
                  with_reducible rfl
                 rotate_left
                 ·
                  simp only [Act.put, Hand.s0_, List.set_cons_zero, Hand.s1_, i64_w, i32_w]
                  rfl
                 refine pure_ (i := 7) (N := some 233) (v := ?_) (a' := ?_) #[true,true,true,true,true,false,true,true,false,false,false,false,false,false,false] rfl rfl (any_of HT_.out (by kernel_rfl)) (fun _ _ _ h => h) (Or.inl ⟨by rfl, ?_⟩) ?_ ?_
                 rotate_left
                 ·
                  intro w'
                  go_simp
                  with_reducible rfl
                 rotate_left
                 ·
                  simp only [Act.put, Hand.s0_, List.set_cons_zero, Hand.s1_, i64_w, i32_w]
                  rfl
                 refine pure_ (i := 8) (N := some 234) (v := ?_) (a' := ?_) #[true,true,true,true,true,false,true,true,true,false,false,false,false,false,false] rfl rfl (any_of HT_.out (by kernel_rfl)) (fun _ _ _ h => h) (Or.inl ⟨by rfl, ?_⟩) ?_ ?_
                 rotate_left
                 ·
                  intro w'
                  go_simp
                  with_reducible rfl
                 rotate_left
                 ·
                  simp only [Act.put, Hand.s0_, List.set_cons_zero, Hand.s1_, i64_w, i32_w]
                  rfl
                 refine pure_ (i := 11) (N := some 237) (v := ?_) (a' := ?_) #[true,true,true,true,true,false,true,true,true,false,false,true,false,false,false] rfl rfl (any_of HT_.out (by kernel_rfl)) (fun _ _ _ h => h) (Or.inl ⟨by rfl, ?_⟩) ?_ ?_
                 rotate_left
                 ·
                  intro w'
                  go_simp
                  with_reducible rfl
                 rotate_left
                 ·
                  simp only [Act.put, Hand.s0_, List.set_cons_zero, Hand.s1_, i64_w, i32_w]
                  rfl
                 refine take_ (i := 5) (N := some 231) (v := ?_) (a' := ?_) #[true,true,true,true,true,true,true,true,true,false,false,true,false,false,false] rfl rfl (take_ofW HT_.out HW_.out (by kernel_rfl)) (fun _ _ _ h => h) (Or.inl ⟨by rfl, ?_⟩) hHeld ?_ ?_
                 rotate_left
                 ·
                  rintro w' ⟨s0, s1⟩
                  go_simp
                  with_reducible rfl
                 rotate_left
                 ·
                  simp only [Act.put, Hand.s0_, List.set_cons_zero, Hand.s1_, i64_w, i32_w]
                  rfl
                 refine take_ (i := 9) (N := some 235) (v := ?_) (a' := ?_) #[true,true,true,true,true,true,true,true,true,true,false,true,false,false,false] rfl rfl (take_ofW HT_.out HW_.out (by kernel_rfl)) (fun _ _ _ h => h) (Or.inl ⟨by rfl, ?_⟩) hHeld ?_ ?_
                 rotate_left
                 ·
                  rintro w' ⟨s0, s1⟩
                  go_simp
                  with_reducible rfl
                 rotate_left
                 ·
                  simp only [Act.put, Hand.s0_, List.set_cons_zero, Hand.s1_, i64_w, i32_w]
                  rfl
                 refine pure_ (i := 10) (N := some 236) (v := ?_) (a' := ?_) #[true,true,true,true,true,true,true,true,true,true,true,true,false,false,false] rfl rfl (any_of HT_.out (by kernel_rfl)) (fun _ _ _ h => h) (Or.inl ⟨by rfl, ?_⟩) ?_ ?_
                 rotate_left
                 ·
                  intro w'
                  go_simp
                  with_reducible rfl
                 rotate_left
                 ·
                  simp only [Act.put, Hand.s0_, List.set_cons_zero, Hand.s1_, i64_w, i32_w]
                  rfl
                 refine pure_ (i := 12) (N := some 238) (v := ?_) (a' := ?_) #[true,true,true,true,true,true,true,true,true,true,true,true,true,false,false] rfl rfl (any_of HT_.out (by kernel_rfl)) (fun _ _ _ h => h) (Or.inl ⟨by rfl, ?_⟩) ?_ ?_
                 rotate_left
                 ·
                  intro w'
                  go_simp
                  with_reducible rfl
                 rotate_left
                 ·
                  simp only [Act.put, Hand.s0_, List.set_cons_zero, Hand.s1_, i64_w, i32_w]
                  rfl
                 refine pure_ (i := 13) (N := some 239) (v := ?_) (a' := ?_) #[true,true,true,true,true,true,true,true,true,true,true,true,true,true,false] rfl rfl (any_of HT_.out (by kernel_rfl)) (fun _ _ _ h => h) (Or.inl ⟨by rfl, ?_⟩) ?_ ?_
                 rotate_left
                 ·
                  intro w'
                  go_simp
                  with_reducible rfl
                 rotate_left
                 ·
                  simp only [Act.put, Hand.s0_, List.set_cons_zero, Hand.s1_, i64_w, i32_w]
                  rfl
                 refine last_ (i := 14) (N := none) #[true,true,true,true,true,true,true,true,true,true,true,true,true,true,true] rfl rfl (one_of HT_.out (by kernel_rfl)) (by decide) (fun K hK => ?_)
                 refine skip_ (w1 := ?_) (by rfl) rfl ?_ ?_
                 rotate_left
                 ·
                  go_simp
                  rfl
                 refine hK.out _ _ ?_
                 clear hK K
                 refine done_ (done_of HT_.out (by kernel_rfl)) ?_
                 try go_wp2
                 go_roundg k3
                 case measure => have := HJ12.out; have := HK2.out; have := HK3.out; omega
                 case rel => exact ⟨(y298), (wrap64 (x26_3 + 1)), (by first | rfl | (simp; done) | (simp [*]; done)), H', ⟨by have := HJ12.out; have := HK2.out; have := HK3.out; omega⟩, ⟨by (try simp only [hl9_2]); (with_reducible repeat (first | apply Kd.R_alloc | apply Kd.R_drewN | apply Kd.R_drew)); exact Kd.R_mono (Kd.R_far (p := ⟨go101, (x26_3 : Int).toNat, none⟩) (Kd.R_mono HO_9.out (fun k_ hk => (⟨hk, fun e_ => hk.2 (by rw [e_]; rfl)⟩ : _ ∧ k_ ≠ go101))) (fun _ hk => hk.2) (.int .i64 (Int.tmod (wrap64 ((rd x25_3 x26_3) + (rd x21_2 x26_3))) (wrap64 (2 + t242))))) (fun _ hk => ⟨hk.1.1, hk.1.2⟩)⟩, ⟨by (try simp only [hl9_2]); (with_reducible repeat (first | apply Kd.R_alloc | apply Kd.R_drewN | apply Kd.R_drew)); exact Kd.R_mono (Kd.R_far (p := ⟨go101, (x26_3 : Int).toNat, none⟩) (Kd.R_mono HO_21.out (fun k_ hk => (⟨hk, fun e_ => hk.2 (by rw [e_]; rfl)⟩ : _ ∧ k_ ≠ go101))) (fun _ hk => hk.2) (.int .i64 (Int.tmod (wrap64 ((rd x25_3 x26_3) + (rd x21_2 x26_3))) (wrap64 (2 + t242))))) (fun _ hk => ⟨hk.1.1, hk.1.2⟩)⟩, ⟨by (try simp only [hl9_2]); (with_reducible repeat (first | apply Kd.R_alloc | apply Kd.R_drewN | apply Kd.R_drew)); exact HQ104.out⟩, ⟨by repeat (first | (with_reducible first | exact HB.out | apply below_alloc | apply pw_below_drewN | apply below_drew1 | refine below_set ?_ GB101.out) | exact HB.out)⟩⟩
               ·
                rw [if_neg c99] at H
                exact absurd H (by simp)
              ·
               rw [if_neg c98] at H
               have c98b0 : decide (x26_3 < (x21_2.length : Int)) = false := decide_eq_false c98
               (first | (simp only [hl9_2] at c98b0) | skip)
               clear c98
               have H' := Aside0.mk H
               clear H
               obtain ⟨Ao105, co105, eo105⟩ := Kd.R_slice HO_25.out
               subst eo105
               go_wp2
               go_roundg k3
               case measure => have := HJ12.out; have := HK2.out; have := HK3.out; omega
               case rel => exact ⟨(x25_3), (wrap64 (x26_3 + 1)), (by first | rfl | (simp; done) | (simp [*]; done)), H', ⟨by have := HJ12.out; have := HK2.out; have := HK3.out; omega⟩, ⟨by (try simp only [hl9_2]); (with_reducible repeat (first | apply Kd.R_alloc | apply Kd.R_drewN | apply Kd.R_drew)); exact HO_9.out⟩, ⟨by (try simp only [hl9_2]); (with_reducible repeat (first | apply Kd.R_alloc | apply Kd.R_drewN | apply Kd.R_drew)); exact HO_21.out⟩, ⟨by (try simp only [hl9_2]); (with_reducible repeat (first | apply Kd.R_alloc | apply Kd.R_drewN | apply Kd.R_drew)); exact HO_25.out⟩, ⟨by repeat (first | (with_reducible first | exact HB.out | apply below_alloc | apply pw_below_drewN | apply below_drew1) | exact HB.out)⟩⟩
            ·
             rw [if_neg c83] at H
             have c83b0 : decide (x26_3 < (x25_3.length : Int)) = false := decide_eq_false c83
             (first | (simp only [hl9_2] at c83b0) | skip)
             clear c83
             replace H := Option.bind_eq_some_iff.mp H
             obtain ⟨⟨t288, t289⟩, A1060, H⟩ := H
             replace H : (if t289 = 0 then (if t288 = (-1) then ((galloonlaw06_awake.f k3).bind fun t290 => (some t290)) else (none)) else (none)) = some r := H
             have A106 := Aside0.mk A1060
             clear A1060
             by_cases c107 : t289 = 0
             ·
              rw [if_pos c107] at H
              have c107b0 : (t289 == 0) = true := beq_iff_eq.mpr c107
              have c107b1 : (t289 != 0) = false := bne_eq_false_iff_eq.mpr c107
              clear c107
              by_cases c108 : t288 = (-1)
              ·
               rw [if_pos c108] at H
               have c108b0 : (t288 == (-1)) = true := beq_iff_eq.mpr c108
               have c108b1 : (t288 != (-1)) = false := bne_eq_false_iff_eq.mpr c108
               clear c108
               replace H := Option.bind_eq_some_iff.mp H
               obtain ⟨t290, A1090, H⟩ := H
               replace H : (some t290) = some r := H
               have A109 := Aside0.mk A1090
               clear A1090
               obtain rfl := Option.some.inj H
               obtain ⟨Ao110, co110, eo110⟩ := Kd.R_slice HO_25.out
               subst eo110
               go_wp2_with (first | ((with_reducible refine gate_callee (f := 24) rfl ?_); refine goesL_ (some 244) rfl rfl Try.func24 (by kernel_rfl) rfl #[.int .i64 (wrap64 (2 + t242)), .slice Ao16 x9_2.length co16, .slice Ao110 x25_3.length co110] rfl (by (try simp only [List.map_toArray, List.map_cons, List.map_nil]); first | done | rfl | (simp only [List.length_drop, List.length_take]; rfl)) ?_; (with_reducible refine (shuffle_Same.calls k3 (wrap64 (2 + t242)) _ _ x9_2 _ _ x25_3 t288 t289 _ ?side1 ?side2 ?side3 ?side4 A106.out).mono ?_); (case side1 => repeat (first | exact (Kd.R_reads' HO_9.out).2.2 | (with_reducible refine Kd.C_alloc ?_ _) | (with_reducible refine Kd.C_drewN ?_ _) | (with_reducible refine Kd.C_drew ?_))); (case side2 => exact (Kd.R_reads' HO_9.out).2.1); (case side3 => repeat (first | exact (Kd.R_reads' HO_25.out).2.2 | (with_reducible refine Kd.C_alloc ?_ _) | (with_reducible refine Kd.C_drewN ?_ _) | (with_reducible refine Kd.C_drew ?_))); (case side4 => exact (Kd.R_reads' HO_25.out).2.1); rintro e w111 ⟨rfl, hb⟩; refine ⟨_, rfl, ?_⟩; have n0_ := Aside0.mk (Kd.R_below (by (with_reducible repeat (first | apply Kd.R_alloc | apply Kd.R_drewN | apply Kd.R_drew)); exact HO_9.out) hb); have n1_ := Aside0.mk (Kd.R_below (by (with_reducible repeat (first | apply Kd.R_alloc | apply Kd.R_drewN | apply Kd.R_drew)); exact HO_21.out) hb); have n2_ := Aside0.mk (Kd.R_below (by (with_reducible repeat (first | apply Kd.R_alloc | apply Kd.R_drewN | apply Kd.R_drew)); exact HO_25.out) hb); have n3_ := Aside0.mk (below_step (by repeat (first | (with_reducible first | exact HB.out | apply below_alloc | apply pw_below_drewN | apply below_drew1) | exact HB.out)) hb); clear HO_9; clear HO_21; clear HO_25; clear HB; have HO_9 := n0_; have HO_21 := n1_; have HO_25 := n2_; have HB := n3_; clear n0_ n1_ n2_ n3_; (try clear hb); (try clear hb2); (try clear hk); (try clear hi)) | (go_at_call 19; (with_reducible refine (galloonlaw06_awake.calls k3  t290 _ A109.out).mono ?_); rintro e w112 ⟨rfl, hb⟩; have n0_ := Aside0.mk (Kd.R_below (by (with_reducible repeat (first | apply Kd.R_alloc | apply Kd.R_drewN | apply Kd.R_drew)); exact HO_9.out) hb); have n1_ := Aside0.mk (Kd.R_below (by (with_reducible repeat (first | apply Kd.R_alloc | apply Kd.R_drewN | apply Kd.R_drew)); exact HO_21.out) hb); have n2_ := Aside0.mk (Kd.R_below (by (with_reducible repeat (first | apply Kd.R_alloc | apply Kd.R_drewN | apply Kd.R_drew)); exact HO_25.out) hb); have n3_ := Aside0.mk (below_step (by repeat (first | (with_reducible first | exact HB.out | apply below_alloc | apply pw_below_drewN | apply below_drew1) | exact HB.out)) hb); clear HO_9; clear HO_21; clear HO_25; clear HB; have HO_9 := n0_; have HO_21 := n1_; have HO_25 := n2_; have HB := n3_; clear n0_ n1_ n2_ n3_; (try clear hb); (try clear hb2); (try clear hk); (try clear hi)))
               go_ret
               exact ⟨by first | rfl | (simp [errW_none, errW_some] <;> rfl) | (simp only [← hji77]; first | rfl | (simp [errW_none, errW_some] <;> rfl)) | (simp [*, errW_none, errW_some] <;> rfl), by repeat (first | (with_reducible first | exact HB.out | apply below_alloc | apply pw_below_drewN | apply below_drew1) | exact HB.out)⟩
              ·
               rw [if_neg c108] at H
               exact absurd H (by simp)
             ·
              rw [if_neg c107] at H
              exact absurd H (by simp)
         ·
          rw [if_neg c79] at H
          exact absurd H (by simp)
        ·
         rw [if_neg c78] at H
         exact absurd H (by simp)

/-- THE ONE PURE STATEMENT of galloonlaw06_ShuffleSame: yours. -/
def galloonlaw06_ShuffleSame.Pure : Prop := ∀ (a0 : Int) (l1 : List Int) (l2 : List Int) (a3 : Int), (Lit.int .i64 a0).wf = true → l1.length ≤ maxLen → l1.length * 8 ≤ 140737488351232 → (∀ x ∈ l1, (Lit.int .i64 x).wf = true) → l2.length ≤ maxLen → l2.length * 8 ≤ 140737488351232 → (∀ x ∈ l2, (Lit.int .i64 x).wf = true) → (Lit.int .i64 a3).wf = true → ∃ k, galloonlaw06_ShuffleSame.f k a0 l1 l2 a3 = some true
theorem galloonlaw06_ShuffleSame.walk (P : galloonlaw06_ShuffleSame.Pure) (a0 : Int) (a1 : Option Addr) (len1 cap1 : Nat) (z1 : List Int) (a2 : Option Addr) (len2 cap2 : Nat) (z2 : List Int) (a3 : Int) (w : World) (w0 : (Lit.int .i64 a0).wf = true) (w1 : (a1 = none ∧ len1 = 0 ∧ cap1 = 0 ∧ z1 = []) ∨ ∃ x, a1 = some x ∧ len1 ≤ cap1 ∧ cap1 ≤ maxLen ∧ z1.length = cap1 ∧ (∀ i, i < z1.length → w.cell? (x.add i) = some (.int .i64 (z1.getD i 0))) ∧ ∀ n ∈ z1, (Lit.int .i64 n).wf = true) (y1 : len1 * 8 ≤ 140737488351232) (w2 : (a2 = none ∧ len2 = 0 ∧ cap2 = 0 ∧ z2 = []) ∨ ∃ x, a2 = some x ∧ len2 ≤ cap2 ∧ cap2 ≤ maxLen ∧ z2.length = cap2 ∧ (∀ i, i < z2.length → w.cell? (x.add i) = some (.int .i64 (z2.getD i 0))) ∧ ∀ n ∈ z2, (Lit.int .i64 n).wf = true) (y2 : len2 * 8 ≤ 140737488351232) (w3 : (Lit.int .i64 a3).wf = true) :
  Calls Try.prog 5 #[.int .i64 a0, .slice a1 len1 cap1, .slice a2 len2 cap2, .int .i64 a3] w fun e w' => e = .returned (.bool true) ∧ Below w.heap.size w w' := by
 obtain ⟨l1, rfl, hr1, hm1, hw1, hc1⟩ := ReadsInt.ofRowC w1
 obtain ⟨l2, rfl, hr2, hm2, hw2, hc2⟩ := ReadsInt.ofRowC w2
 obtain ⟨k, h⟩ := P a0 l1 l2 a3 w0 hm1 y1 hw1 hm2 y2 hw2 w3
 refine (galloonlaw06_ShuffleSame.calls k a0 _ _ l1 _ _ l2 a3 true w (Kd.C_of_reads (d := (0 : Int)) (h1 := fun _ => rfl) hr1) hc1 (Kd.C_of_reads (d := (0 : Int)) (h1 := fun _ => rfl) hr2) hc2 h).mono ?_
 rintro e w' ⟨rfl, hd⟩
 exact ⟨rfl, hd⟩

end Go.Proofs.Ytkjjnfbgcdanmaa.P
