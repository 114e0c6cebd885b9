-- Written by a program of this session (wip/xprint.py), over the kit's print; some sections by hand.
import Derived.Test.YtkjjnfbgcdanmaaPx0
import Derived.Test.YtkjjnfbgcdanmaaPx6
namespace Go.Proofs.Ytkjjnfbgcdanmaa.P
open Go.RowKit Go.Proofs.YtkjjnfbgcdanmaaW.PrintWords Go.Proofs.YtkjjnfbgcdanmaaW.PrintLast Go.Proofs.YtkjjnfbgcdanmaaW.PrintMore
attribute [local go_sem] max2_int min2_int max_two min_two max_three min_three max_four min_four   -- for this text's walks alone
set_option linter.unusedVariables false
set_option linter.unusedSimpArgs false

/-! ### galloonref06_Product: function 45 -/
mutual
def galloonref06_Product.l0 : Nat → List (S44) → Int → Int → Option (Int)
 | 0, _, _, _ => none
 | k + 1, x0, x3, x4 => if x4 < (x0.length : Int) then (if 0 ≤ x4 then (if ((rd_T44 x0 x4).f0) < 2 then (galloonref06_Product.j1 k x0 x3 x4 ((rd_T44 x0 x4).f0) ((rd_T44 x0 x4).f1) true) else (if ((rd_T44 x0 x4).f0) > 64 then (galloonref06_Product.j1 k x0 x3 x4 ((rd_T44 x0 x4).f0) ((rd_T44 x0 x4).f1) true) else (if ((rd_T44 x0 x4).f1) < 1 then (galloonref06_Product.j1 k x0 x3 x4 ((rd_T44 x0 x4).f0) ((rd_T44 x0 x4).f1) true) else (if ((rd_T44 x0 x4).f1) > 6 then (galloonref06_Product.j1 k x0 x3 x4 ((rd_T44 x0 x4).f0) ((rd_T44 x0 x4).f1) true) else (if x4 > 0 then (if 0 ≤ (wrap64 (x4 - 1)) then (if (wrap64 (x4 - 1)) < (x0.length : Int) then (galloonref06_Product.j1 k x0 x3 x4 ((rd_T44 x0 x4).f0) ((rd_T44 x0 x4).f1) (decide (((rd_T44 x0 (wrap64 (x4 - 1))).f0) ≥ ((rd_T44 x0 x4).f0)))) else (none)) else (none)) else (galloonref06_Product.j1 k x0 x3 x4 ((rd_T44 x0 x4).f0) ((rd_T44 x0 x4).f1) false)))))) else (none)) else (if x3 < 2 then (some 0) else (some x3))
def galloonref06_Product.j1 : Nat → List (S44) → Int → Int → Int → Int → Bool → Option (Int)
 | 0, _, _, _, _, _, _ => none
 | k + 1, x0, x3, x4, x5, x6, x52 => if x52 = true then (some 0) else (galloonref06_Product.l1 k x0 x3 x4 x5 x6 2)
def galloonref06_Product.l1 : Nat → List (S44) → Int → Int → Int → Int → Int → Option (Int)
 | 0, _, _, _, _, _, _ => none
 | k + 1, x0, x3, x4, x5, x6, x7 => if x7 < x5 then (if x7 = 0 then (none) else (if (Int.tmod x5 x7) = 0 then (some 0) else (galloonref06_Product.l1 k x0 x3 x4 x5 x6 (wrap64 (x7 + 1))))) else (galloonref06_Product.l2 k x0 x3 x4 x5 x6 0)
def galloonref06_Product.l2 : Nat → List (S44) → Int → Int → Int → Int → Int → Option (Int)
 | 0, _, _, _, _, _, _ => none
 | k + 1, x0, x3, x4, x5, x6, x8 => if x8 < x6 then (if (wrap64 (x3 * x5)) > 64 then (some 0) else (galloonref06_Product.l2 k x0 (wrap64 (x3 * x5)) x4 x5 x6 (wrap64 (x8 + 1)))) else (galloonref06_Product.l0 k x0 x3 (wrap64 (x4 + 1)))
end
def galloonref06_Product.f (k : Nat) (l0 : List (S44)) : Option (Int) := galloonref06_Product.l0 k l0 1 0
theorem galloonref06_Product.mono_l : ∀ k, (∀ y0 y1 y2, LeO (galloonref06_Product.l0 k y0 y1 y2) (galloonref06_Product.l0 (k + 1) y0 y1 y2)) ∧ (∀ y0 y1 y2 y3 y4 y5, LeO (galloonref06_Product.j1 k y0 y1 y2 y3 y4 y5) (galloonref06_Product.j1 (k + 1) y0 y1 y2 y3 y4 y5)) ∧ (∀ y0 y1 y2 y3 y4 y5, LeO (galloonref06_Product.l1 k y0 y1 y2 y3 y4 y5) (galloonref06_Product.l1 (k + 1) y0 y1 y2 y3 y4 y5)) ∧ (∀ y0 y1 y2 y3 y4 y5, LeO (galloonref06_Product.l2 k y0 y1 y2 y3 y4 y5) (galloonref06_Product.l2 (k + 1) y0 y1 y2 y3 y4 y5))
 | 0 => ⟨fun _ _ _ r h => by simp [galloonref06_Product.l0] at h, fun _ _ _ _ _ _ r h => by simp [galloonref06_Product.j1] at h, fun _ _ _ _ _ _ r h => by simp [galloonref06_Product.l1] at h, fun _ _ _ _ _ _ r h => by simp [galloonref06_Product.l2] at h⟩
 | k + 1 => by
  obtain ⟨ih0, ih1, ih2, ih3⟩ := galloonref06_Product.mono_l k
  refine ⟨?_, ?_, ?_, ?_⟩
  ·
   intro y0 y1 y2
   unfold galloonref06_Product.l0
   repeat' first
   | (with_reducible exact ih0 _ _ _)
   | (with_reducible exact ih1 _ _ _ _ _ _)
   | (with_reducible exact ih2 _ _ _ _ _ _)
   | (with_reducible exact ih3 _ _ _ _ _ _)
   | (with_reducible exact LeO.refl _)
   | (with_reducible exact LeO.none _)
   | (with_reducible refine LeO.ite ?_ ?_)
   | (with_reducible refine LeO.bind ?_ (fun _ => ?_))
   | exact ih0 _ _ _
   | exact ih1 _ _ _ _ _ _
   | exact ih2 _ _ _ _ _ _
   | exact ih3 _ _ _ _ _ _
   | exact LeO.none _
   | refine LeO.ite ?_ ?_
   | refine LeO.bind ?_ (fun _ => ?_)
  ·
   intro y0 y1 y2 y3 y4 y5
   unfold galloonref06_Product.j1
   repeat' first
   | (with_reducible exact ih0 _ _ _)
   | (with_reducible exact ih1 _ _ _ _ _ _)
   | (with_reducible exact ih2 _ _ _ _ _ _)
   | (with_reducible exact ih3 _ _ _ _ _ _)
   | (with_reducible exact LeO.refl _)
   | (with_reducible exact LeO.none _)
   | (with_reducible refine LeO.ite ?_ ?_)
   | (with_reducible refine LeO.bind ?_ (fun _ => ?_))
   | exact ih0 _ _ _
   | exact ih1 _ _ _ _ _ _
   | exact ih2 _ _ _ _ _ _
   | exact ih3 _ _ _ _ _ _
   | exact LeO.none _
   | refine LeO.ite ?_ ?_
   | refine LeO.bind ?_ (fun _ => ?_)
  ·
   intro y0 y1 y2 y3 y4 y5
   unfold galloonref06_Product.l1
   repeat' first
   | (with_reducible exact ih0 _ _ _)
   | (with_reducible exact ih1 _ _ _ _ _ _)
   | (with_reducible exact ih2 _ _ _ _ _ _)
   | (with_reducible exact ih3 _ _ _ _ _ _)
   | (with_reducible exact LeO.refl _)
   | (with_reducible exact LeO.none _)
   | (with_reducible refine LeO.ite ?_ ?_)
   | (with_reducible refine LeO.bind ?_ (fun _ => ?_))
   | exact ih0 _ _ _
   | exact ih1 _ _ _ _ _ _
   | exact ih2 _ _ _ _ _ _
   | exact ih3 _ _ _ _ _ _
   | exact LeO.none _
   | refine LeO.ite ?_ ?_
   | refine LeO.bind ?_ (fun _ => ?_)
  ·
   intro y0 y1 y2 y3 y4 y5
   unfold galloonref06_Product.l2
   repeat' first
   | (with_reducible exact ih0 _ _ _)
   | (with_reducible exact ih1 _ _ _ _ _ _)
   | (with_reducible exact ih2 _ _ _ _ _ _)
   | (with_reducible exact ih3 _ _ _ _ _ _)
   | (with_reducible exact LeO.refl _)
   | (with_reducible exact LeO.none _)
   | (with_reducible refine LeO.ite ?_ ?_)
   | (with_reducible refine LeO.bind ?_ (fun _ => ?_))
   | exact ih0 _ _ _
   | exact ih1 _ _ _ _ _ _
   | exact ih2 _ _ _ _ _ _
   | exact ih3 _ _ _ _ _ _
   | exact LeO.none _
   | refine LeO.ite ?_ ?_
   | refine LeO.bind ?_ (fun _ => ?_)
theorem galloonref06_Product.mono : ∀ a0 k, LeO (galloonref06_Product.f k a0) (galloonref06_Product.f (k + 1) a0) := by
 intro a0 k
 obtain ⟨ih0, ih1, ih2, ih3⟩ := galloonref06_Product.mono_l k
 unfold galloonref06_Product.f
 repeat' first
   | (with_reducible exact ih0 _ _ _)
   | (with_reducible exact ih1 _ _ _ _ _ _)
   | (with_reducible exact ih2 _ _ _ _ _ _)
   | (with_reducible exact ih3 _ _ _ _ _ _)
   | (with_reducible exact LeO.refl _)
   | (with_reducible exact LeO.none _)
   | (with_reducible refine LeO.ite ?_ ?_)
   | (with_reducible refine LeO.bind ?_ (fun _ => ?_))
   | exact ih0 _ _ _
   | exact ih1 _ _ _ _ _ _
   | exact ih2 _ _ _ _ _ _
   | exact ih3 _ _ _ _ _ _
   | exact LeO.none _
   | refine LeO.ite ?_ ?_
   | refine LeO.bind ?_ (fun _ => ?_)
set_option maxHeartbeats 8000000 in
set_option maxRecDepth 100000 in
theorem galloonref06_Product.calls (k : Nat) (A0 : Option Addr) (c0 : Nat) (l0 : List (S44)) (r : Int) (w : World) (hr0 : Kd.C k44 w A0 l0.length l0) (hc0 : l0.length ≤ c0) (h : galloonref06_Product.f k l0 = some r) :
  Calls Try.prog 45 #[.slice A0 l0.length c0] w fun e w' => e = .returned (.int .i64 r) ∧ Drawn0 w w' := by
 have HR0 := Aside0.mk hr0
 have HC0 := Aside0.mk hc0
 clear hr0 hc0
 have H : (galloonref06_Product.l0 k l0 1 0) = some r := h
 clear h
 have H' := Aside0.mk H
 clear H
 go_enter Try.func45, Try.ntmps45
 go_wp2
 repeat (go_quiet (fail); try go_wp2)
 go_loopg [3, 4] k (fun kq v3 v4 w' => ∃ (x3_1 : Int) (x4_1 : Int), v3 = .int .i64 x3_1 ∧ v4 = .int .i64 x4_1 ∧ Aside0 (galloonref06_Product.l0 kq l0 x3_1 x4_1 = some r) ∧ Aside0 (kq ≤ k) ∧ Drawn0 w w')
 case atStart => exact ⟨(1), (0), (by first | rfl | (simp; done) | (simp [*]; done)), (by first | rfl | (simp; done) | (simp [*]; done)), H', ⟨Nat.le_refl _⟩, by repeat (first | exact Drawn0.refl _ | apply Drawn0.step)⟩
 case round =>
  as_aux_lemma =>
  clear H'
  obtain ⟨x3_1, x4_1, rfl, rfl, HA, HK1, ⟨m1, rfl⟩⟩ := hrel
  cases gk with
  | zero => exact absurd HA.out (by simp [galloonref06_Product.l0])
  | succ k1 =>
   have H := HA.out
   clear HA
   simp only [galloonref06_Product.l0] at H
   by_cases c2 : x4_1 < (l0.length : Int)
   ·
    rw [if_pos c2] at H
    have c2b0 : decide (x4_1 < (l0.length : Int)) = true := decide_eq_true c2
    clear c2
    by_cases c3 : 0 ≤ x4_1
    ·
     rw [if_pos c3] at H
     have c3b0 : decide (0 ≤ x4_1) = true := decide_eq_true c3
     clear c3
     have HC4 := Aside0.mk H
     clear H
     have p289 : 0 ≤ (x4_1 : Int) := of_decide_eq_true (by assumption)
     have q289 : x4_1 < (l0.length : Int) := of_decide_eq_true (by assumption)
     obtain ⟨ad289, e289, hx289_0, hx289_1⟩ := at_T44 HR0.out x4_1 p289 q289
     cases e289
     replace p289 := eq_true p289
     replace q289 := eq_true q289
     have p290 : 0 ≤ (x4_1 : Int) := of_decide_eq_true (by assumption)
     have q290 : x4_1 < (l0.length : Int) := of_decide_eq_true (by assumption)
     obtain ⟨ad290, e290, hx290_0, hx290_1⟩ := at_T44 HR0.out x4_1 p290 q290
     obtain rfl : ad289 = ad290 := (by injection e290)
     replace p290 := eq_true p290
     replace q290 := eq_true q290
     go_upto_region 6 with (fail)
     repeat (go_quiet (fail); go_upto_region 6 with (fail))
     go_cut [52] (fun v52 wc => ∃ (kq : Nat) (x52_3 : Bool), v52 = .bool x52_3 ∧ Aside0 (galloonref06_Product.j1 kq l0 x3_1 x4_1 ((rd_T44 l0 x4_1).f0) ((rd_T44 l0 x4_1).f1) x52_3 = some r) ∧ Aside0 (kq ≤ k1) ∧ Drawn0 w wc)
     case first =>
      as_aux_lemma =>
      have H := HC4.out
      clear HC4
      by_cases c5 : ((rd_T44 l0 x4_1).f0) < 2
      ·
       rw [if_pos c5] at H
       have c5b0 : decide (((rd_T44 l0 x4_1).f0) < 2) = true := decide_eq_true c5
       clear c5
       (first | rw [c5b0] | (simp only [i64_w, i32_w]; rw [c5b0]) | skip)
       have H' := Aside0.mk H
       clear H
       go_wp2
       repeat (go_quiet (fail); try go_wp2)
       go_meet
       case rel => exact ⟨_, (true), (by first | rfl | (simp; done) | (simp [*]; done)), H', ⟨by have := HK1.out; first | omega | exact Nat.le_refl _⟩, by repeat (first | exact Drawn0.refl _ | apply Drawn0.step)⟩
      ·
       rw [if_neg c5] at H
       have c5b0 : decide (((rd_T44 l0 x4_1).f0) < 2) = false := decide_eq_false c5
       clear c5
       (first | rw [c5b0] | (simp only [i64_w, i32_w]; rw [c5b0]) | skip)
       by_cases c6 : ((rd_T44 l0 x4_1).f0) > 64
       ·
        rw [if_pos c6] at H
        have c6b0 : decide (64 < ((rd_T44 l0 x4_1).f0)) = true := decide_eq_true c6
        clear c6
        have H' := Aside0.mk H
        clear H
        go_wp2
        repeat (go_quiet (fail); try go_wp2)
        go_meet
        case rel => exact ⟨_, (true), (by first | rfl | (simp; done) | (simp [*]; done)), H', ⟨by have := HK1.out; first | omega | exact Nat.le_refl _⟩, by repeat (first | exact Drawn0.refl _ | apply Drawn0.step)⟩
       ·
        rw [if_neg c6] at H
        have c6b0 : decide (64 < ((rd_T44 l0 x4_1).f0)) = false := decide_eq_false c6
        clear c6
        by_cases c7 : ((rd_T44 l0 x4_1).f1) < 1
        ·
         rw [if_pos c7] at H
         have c7b0 : decide (((rd_T44 l0 x4_1).f1) < 1) = true := decide_eq_true c7
         clear c7
         have H' := Aside0.mk H
         clear H
         go_wp2
         repeat (go_quiet (fail); try go_wp2)
         go_meet
         case rel => exact ⟨_, (true), (by first | rfl | (simp; done) | (simp [*]; done)), H', ⟨by have := HK1.out; first | omega | exact Nat.le_refl _⟩, by repeat (first | exact Drawn0.refl _ | apply Drawn0.step)⟩
        ·
         rw [if_neg c7] at H
         have c7b0 : decide (((rd_T44 l0 x4_1).f1) < 1) = false := decide_eq_false c7
         clear c7
         by_cases c8 : ((rd_T44 l0 x4_1).f1) > 6
         ·
          rw [if_pos c8] at H
          have c8b0 : decide (6 < ((rd_T44 l0 x4_1).f1)) = true := decide_eq_true c8
          clear c8
          have H' := Aside0.mk H
          clear H
          go_wp2
          repeat (go_quiet (fail); try go_wp2)
          go_meet
          case rel => exact ⟨_, (true), (by first | rfl | (simp; done) | (simp [*]; done)), H', ⟨by have := HK1.out; first | omega | exact Nat.le_refl _⟩, by repeat (first | exact Drawn0.refl _ | apply Drawn0.step)⟩
         ·
          rw [if_neg c8] at H
          have c8b0 : decide (6 < ((rd_T44 l0 x4_1).f1)) = false := decide_eq_false c8
          clear c8
          by_cases c9 : x4_1 > 0
          ·
           rw [if_pos c9] at H
           have c9b0 : decide (0 < x4_1) = true := decide_eq_true c9
           clear c9
           obtain ⟨ji10, hji10⟩ : ∃ j_ : Int, (wrap64 (x4_1 - 1)) = j_ := ⟨_, rfl⟩
           replace H : (if 0 ≤ (ji10) then (if (ji10) < (l0.length : Int) then (galloonref06_Product.j1 k1 l0 x3_1 x4_1 ((rd_T44 l0 x4_1).f0) ((rd_T44 l0 x4_1).f1) (decide (((rd_T44 l0 (ji10)).f0) ≥ ((rd_T44 l0 x4_1).f0)))) else (none)) else (none)) = some r := by first | (rw [hji10] at H; exact H) | (simp only [hji10] at H ⊢; exact H)
           have hji10w : (IntKind.i64.wrap (x4_1 - 1)) = ji10 := (i64_w _).trans hji10
           by_cases c11 : 0 ≤ (ji10)
           ·
            rw [if_pos c11] at H
            have c11b0 : decide (0 ≤ (ji10)) = true := decide_eq_true c11
            clear c11
            by_cases c12 : (ji10) < (l0.length : Int)
            ·
             rw [if_pos c12] at H
             have c12b0 : decide ((ji10) < (l0.length : Int)) = true := decide_eq_true c12
             clear c12
             have H' := Aside0.mk H
             clear H
             have p291 : 0 ≤ ((ji10) : Int) := of_decide_eq_true (by assumption)
             have q291 : (ji10) < (l0.length : Int) := of_decide_eq_true (by assumption)
             obtain ⟨ad291, e291, hx291_0, hx291_1⟩ := at_T44 HR0.out (ji10) p291 q291
             obtain rfl : ad289 = ad291 := (by injection e291)
             replace p291 := eq_true p291
             replace q291 := eq_true q291
             go_wp2
             repeat (go_quiet (fail); try go_wp2)
             go_meet
             case rel => exact ⟨_, (decide (((rd_T44 l0 (ji10)).f0) ≥ ((rd_T44 l0 x4_1).f0))), (by first | rfl | (simp; done) | (simp only [← hji10] <;> (first | rfl | simp)) | (simp [*]; done)), H', ⟨by have := HK1.out; first | omega | exact Nat.le_refl _⟩, by repeat (first | exact Drawn0.refl _ | apply Drawn0.step)⟩
            ·
             rw [if_neg c12] at H
             exact absurd H (by simp)
           ·
            rw [if_neg c11] at H
            exact absurd H (by simp)
          ·
           rw [if_neg c9] at H
           have c9b0 : decide (0 < x4_1) = false := decide_eq_false c9
           clear c9
           have H' := Aside0.mk H
           clear H
           go_wp2
           repeat (go_quiet (fail); try go_wp2)
           go_meet
           case rel => exact ⟨_, (false), (by first | rfl | (simp; done) | (simp [*]; done)), H', ⟨by have := HK1.out; first | omega | exact Nat.le_refl _⟩, by repeat (first | exact Drawn0.refl _ | apply Drawn0.step)⟩
     case rest =>
      as_aux_lemma =>
      clear HC4
      try clear c1
      try clear c2
      try clear c2b0
      try clear p2
      try clear q2
      try clear hx2
      try clear c3
      try clear c3b0
      try clear c4
      try clear c5
      try clear c5b0
      try clear c6
      try clear c6b0
      try clear p6
      try clear c7
      try clear c7b0
      try clear c8
      try clear c8b0
      try clear c9
      try clear c9b0
      try clear c11
      try clear c11b0
      try clear c12
      try clear c12b0
      try clear hx289_0
      try clear hx289_1
      try clear hx290_0
      try clear hx290_1
      try clear hx291_0
      try clear hx291_1
      try clear p289
      try clear p290
      try clear p291
      try clear q289
      try clear q290
      try clear q291
      obtain ⟨kq, x52_3, rfl, HA, HJ3, ⟨mc3, rfl⟩⟩ := hcut
      cases kq with
      | zero => exact absurd HA.out (by simp [galloonref06_Product.j1])
      | succ kj3 =>
       have H := HA.out
       clear HA
       simp only [galloonref06_Product.j1] at H
       by_cases c13 : x52_3 = true
       ·
        subst c13
        have H1 : (some 0) = some r := by rw [if_pos rfl] at H; exact H
        clear H
        have H := H1
        clear H1
        obtain rfl := Option.some.inj H
        go_wp2
        repeat (go_quiet (fail); try go_wp2)
        go_ret
        exact ⟨by first | rfl | (simp; done) | (simp [*]; done), by repeat (first | exact Drawn0.refl _ | apply Drawn0.step)⟩
       ·
        replace c13 := Bool.eq_false_iff.mpr c13
        subst c13
        have H1 : (galloonref06_Product.l1 kj3 l0 x3_1 x4_1 ((rd_T44 l0 x4_1).f0) ((rd_T44 l0 x4_1).f1) 2) = some r := by rw [if_neg (show ¬ (false = true) by decide)] at H; exact H
        clear H
        have H := H1
        clear H1
        have H' := Aside0.mk H
        clear H
        go_wp2
        repeat (go_quiet (fail); try go_wp2)
        go_loopg [7] kj3 (fun kq v7 w' => ∃ (x7_3 : Int), v7 = .int .i64 x7_3 ∧ Aside0 (galloonref06_Product.l1 kq l0 x3_1 x4_1 ((rd_T44 l0 x4_1).f0) ((rd_T44 l0 x4_1).f1) x7_3 = some r) ∧ Aside0 (kq ≤ kj3) ∧ Drawn0 w w')
        case atStart => exact ⟨(2), (by first | rfl | (simp; done) | (simp [*]; done)), H', ⟨Nat.le_refl _⟩, by repeat (first | exact Drawn0.refl _ | apply Drawn0.step)⟩
        case round =>
         as_aux_lemma =>
         clear H'
         try clear c1
         try clear c2
         try clear c2b0
         try clear p2
         try clear q2
         try clear hx2
         try clear c3
         try clear c3b0
         try clear c4
         try clear c5
         try clear c5b0
         try clear c6
         try clear c6b0
         try clear p6
         try clear c7
         try clear c7b0
         try clear c8
         try clear c8b0
         try clear c9
         try clear c9b0
         try clear c11
         try clear c11b0
         try clear c12
         try clear c12b0
         try clear c13
         try clear hx289_0
         try clear hx289_1
         try clear hx290_0
         try clear hx290_1
         try clear hx291_0
         try clear hx291_1
         try clear p2
         try clear p289
         try clear p290
         try clear p291
         try clear p6
         try clear q2
         try clear q289
         try clear q290
         try clear q291
         obtain ⟨x7_3, rfl, HA, HK3, ⟨m3, rfl⟩⟩ := hrel
         cases gk with
         | zero => exact absurd HA.out (by simp [galloonref06_Product.l1])
         | succ k3 =>
          have H := HA.out
          clear HA
          simp only [galloonref06_Product.l1] at H
          by_cases c14 : x7_3 < ((rd_T44 l0 x4_1).f0)
          ·
           rw [if_pos c14] at H
           have c14b0 : decide (x7_3 < ((rd_T44 l0 x4_1).f0)) = true := decide_eq_true c14
           clear c14
           by_cases c15 : x7_3 = 0
           ·
            rw [if_pos c15] at H
            exact absurd H (by simp)
           ·
            rw [if_neg c15] at H
            have c15b0 : (x7_3 == 0) = false := beq_eq_false_iff_ne.mpr c15
            have c15b1 : (x7_3 != 0) = true := bne_iff_ne.mpr c15
            by_cases c16 : (Int.tmod ((rd_T44 l0 x4_1).f0) x7_3) = 0
            ·
             rw [if_pos c16] at H
             have c16b0 : ((Int.tmod ((rd_T44 l0 x4_1).f0) x7_3) == 0) = true := beq_iff_eq.mpr c16
             have c16b1 : ((Int.tmod ((rd_T44 l0 x4_1).f0) x7_3) != 0) = false := bne_eq_false_iff_eq.mpr c16
             clear c16
             obtain rfl := Option.some.inj H
             go_wp2
             repeat (go_quiet (fail); try go_wp2)
             go_ret
             exact ⟨by first | rfl | (simp; done) | (simp [*]; done), by repeat (first | exact Drawn0.refl _ | apply Drawn0.step)⟩
            ·
             rw [if_neg c16] at H
             have c16b0 : ((Int.tmod ((rd_T44 l0 x4_1).f0) x7_3) == 0) = false := beq_eq_false_iff_ne.mpr c16
             have c16b1 : ((Int.tmod ((rd_T44 l0 x4_1).f0) x7_3) != 0) = true := bne_iff_ne.mpr c16
             have H' := Aside0.mk H
             clear H
             go_wp2
             repeat (go_quiet (fail); try go_wp2)
             go_roundg k3
             case measure => have := HK1.out; have := HJ3.out; have := HK3.out; omega
             case rel => exact ⟨(wrap64 (x7_3 + 1)), (by first | rfl | (simp; done) | (simp [*]; done)), H', ⟨by have := HK1.out; have := HJ3.out; have := HK3.out; omega⟩, by repeat (first | exact Drawn0.refl _ | apply Drawn0.step)⟩
          ·
           rw [if_neg c14] at H
           have c14b0 : decide (x7_3 < ((rd_T44 l0 x4_1).f0)) = false := decide_eq_false c14
           clear c14
           have H' := Aside0.mk H
           clear H
           go_wp2
           repeat (go_quiet (fail); try go_wp2)
           go_loopg [3, 8] k3 (fun kq v3 v8 w' => ∃ (x3_4 : Int) (x8_4 : Int), v3 = .int .i64 x3_4 ∧ v8 = .int .i64 x8_4 ∧ Aside0 (galloonref06_Product.l2 kq l0 x3_4 x4_1 ((rd_T44 l0 x4_1).f0) ((rd_T44 l0 x4_1).f1) x8_4 = some r) ∧ Aside0 (kq ≤ k3) ∧ Drawn0 w w')
           case atStart => exact ⟨(x3_1), (0), (by first | rfl | (simp; done) | (simp [*]; done)), (by first | rfl | (simp; done) | (simp [*]; done)), H', ⟨Nat.le_refl _⟩, by repeat (first | exact Drawn0.refl _ | apply Drawn0.step)⟩
           case round =>
            as_aux_lemma =>
            clear H'
            try clear c1
            try clear c2
            try clear c2b0
            try clear p2
            try clear q2
            try clear hx2
            try clear c3
            try clear c3b0
            try clear c4
            try clear c5
            try clear c5b0
            try clear c6
            try clear c6b0
            try clear p6
            try clear c7
            try clear c7b0
            try clear c8
            try clear c8b0
            try clear c9
            try clear c9b0
            try clear c11
            try clear c11b0
            try clear c12
            try clear c12b0
            try clear c13
            try clear c14
            try clear c14b0
            try clear c15
            try clear c15b0
            try clear c15b1
            try clear c16
            try clear c16b0
            try clear c16b1
            try clear hx289_0
            try clear hx289_1
            try clear hx290_0
            try clear hx290_1
            try clear hx291_0
            try clear hx291_1
            try clear p2
            try clear p289
            try clear p290
            try clear p291
            try clear p6
            try clear q2
            try clear q289
            try clear q290
            try clear q291
            obtain ⟨x3_4, x8_4, rfl, rfl, HA, HK4, ⟨m4, rfl⟩⟩ := hrel
            cases gk with
            | zero => exact absurd HA.out (by simp [galloonref06_Product.l2])
            | succ k4 =>
             have H := HA.out
             clear HA
             simp only [galloonref06_Product.l2] at H
             by_cases c17 : x8_4 < ((rd_T44 l0 x4_1).f1)
             ·
              rw [if_pos c17] at H
              have c17b0 : decide (x8_4 < ((rd_T44 l0 x4_1).f1)) = true := decide_eq_true c17
              clear c17
              by_cases c18 : (wrap64 (x3_4 * ((rd_T44 l0 x4_1).f0))) > 64
              ·
               rw [if_pos c18] at H
               have c18b0 : decide (64 < (wrap64 (x3_4 * ((rd_T44 l0 x4_1).f0)))) = true := decide_eq_true c18
               clear c18
               obtain rfl := Option.some.inj H
               go_wp2
               repeat (go_quiet (fail); try go_wp2)
               go_ret
               exact ⟨by first | rfl | (simp; done) | (simp [*]; done), by repeat (first | exact Drawn0.refl _ | apply Drawn0.step)⟩
              ·
               rw [if_neg c18] at H
               have c18b0 : decide (64 < (wrap64 (x3_4 * ((rd_T44 l0 x4_1).f0)))) = false := decide_eq_false c18
               clear c18
               have H' := Aside0.mk H
               clear H
               go_wp2
               repeat (go_quiet (fail); try go_wp2)
               go_roundg k4
               case measure => have := HK1.out; have := HJ3.out; have := HK3.out; have := HK4.out; omega
               case rel => exact ⟨(wrap64 (x3_4 * ((rd_T44 l0 x4_1).f0))), (wrap64 (x8_4 + 1)), (by first | rfl | (simp; done) | (simp [*]; done)), (by first | rfl | (simp; done) | (simp [*]; done)), H', ⟨by have := HK1.out; have := HJ3.out; have := HK3.out; have := HK4.out; omega⟩, by repeat (first | exact Drawn0.refl _ | apply Drawn0.step)⟩
             ·
              rw [if_neg c17] at H
              have c17b0 : decide (x8_4 < ((rd_T44 l0 x4_1).f1)) = false := decide_eq_false c17
              clear c17
              have H' := Aside0.mk H
              clear H
              go_wp2
              repeat (go_quiet (fail); try go_wp2)
              go_roundg k4
              case measure => have := HK1.out; have := HJ3.out; have := HK3.out; have := HK4.out; omega
              case rel => exact ⟨(x3_4), (wrap64 (x4_1 + 1)), (by first | rfl | (simp; done) | (simp [*]; done)), (by first | rfl | (simp; done) | (simp [*]; done)), H', ⟨by have := HK1.out; have := HJ3.out; have := HK3.out; have := HK4.out; omega⟩, by repeat (first | exact Drawn0.refl _ | apply Drawn0.step)⟩
    ·
     rw [if_neg c3] at H
     exact absurd H (by simp)
   ·
    rw [if_neg c2] at H
    have c2b0 : decide (x4_1 < (l0.length : Int)) = false := decide_eq_false c2
    clear c2
    by_cases c19 : x3_1 < 2
    ·
     rw [if_pos c19] at H
     have c19b0 : decide (x3_1 < 2) = true := decide_eq_true c19
     clear c19
     obtain rfl := Option.some.inj H
     go_wp2
     repeat (go_quiet (fail); try go_wp2)
     go_ret
     exact ⟨by first | rfl | (simp; done) | (simp [*]; done), by repeat (first | exact Drawn0.refl _ | apply Drawn0.step)⟩
    ·
     rw [if_neg c19] at H
     have c19b0 : decide (x3_1 < 2) = false := decide_eq_false c19
     clear c19
     obtain rfl := Option.some.inj H
     go_wp2
     repeat (go_quiet (fail); try go_wp2)
     go_ret
     exact ⟨by first | rfl | (simp; done) | (simp [*]; done), by repeat (first | exact Drawn0.refl _ | apply Drawn0.step)⟩

/-! ### galloonref06_Permutation: function 52 -/
def galloonref06_Permutation.f (k : Nat) (l0 : List Int) : Option (Bool) := (galloonref06_Equal.f k l0).bind fun bt292 => (some (decide (bt292.1 < 0)))
theorem galloonref06_Permutation.mono : ∀ a0 k, LeO (galloonref06_Permutation.f k a0) (galloonref06_Permutation.f (k + 1) a0) := by
 intro a0 k
 unfold galloonref06_Permutation.f
 repeat' first
   | (with_reducible exact galloonref06_Equal.mono _ _)
   | (with_reducible exact LeO.refl _)
   | (with_reducible exact LeO.none _)
   | (with_reducible refine LeO.ite ?_ ?_)
   | (with_reducible refine LeO.bind ?_ (fun _ => ?_))
   | exact galloonref06_Equal.mono _ _
   | exact LeO.none _
   | refine LeO.ite ?_ ?_
   | refine LeO.bind ?_ (fun _ => ?_)
set_option maxHeartbeats 8000000 in
set_option maxRecDepth 100000 in
theorem galloonref06_Permutation.calls (k : Nat) (A0 : Option Addr) (c0 : Nat) (l0 : List Int) (r : Bool) (w : World) (hr0 : Kd.C (Kd.int .i64) w A0 l0.length l0) (hc0 : l0.length ≤ c0) (h : galloonref06_Permutation.f k l0 = some r) :
  Calls Try.prog 52 #[.slice A0 l0.length c0] w fun e w' => e = .returned (.bool r) ∧ Drawn0 w w' := by
 have HR0 := Aside0.mk hr0
 have HC0 := Aside0.mk hc0
 clear hr0 hc0
 have H : ((galloonref06_Equal.f k l0).bind fun bt292 => (some (decide (bt292.1 < 0)))) = some r := h
 clear h
 replace H := Option.bind_eq_some_iff.mp H
 obtain ⟨⟨t292, t293⟩, A20, H⟩ := H
 replace H : (some (decide (t292 < 0))) = some r := H
 have A2 := Aside0.mk A20
 clear A20
 obtain rfl := Option.some.inj H
 go_enter Try.func52, Try.ntmps52
 go_wp2_with (first | ((with_reducible refine gate_callee (f := 48) rfl ?_); refine goesL_ (some 7) rfl rfl Try.func48 (by kernel_rfl) rfl #[.slice A0 l0.length c0] rfl (by (try simp only [List.map_toArray, List.map_cons, List.map_nil]); first | done | rfl | (simp only [List.length_drop, List.length_take]; rfl)) ?_; (with_reducible refine (galloonref06_Equal.calls k _ _ l0 t292 t293 _ ?side1 ?side2 A2.out).mono ?_); (case side1 => repeat (first | exact HR0.out | (with_reducible refine Kd.C_alloc ?_ _) | (with_reducible refine Kd.C_drewN ?_ _) | (with_reducible refine Kd.C_drew ?_))); (case side2 => exact HC0.out); rintro e w' ⟨rfl, ⟨nd, rfl⟩⟩; refine ⟨_, rfl, ?_⟩))
 go_ret
 exact ⟨by first | rfl | (simp; done) | (simp [*]; done), by repeat (first | exact Drawn0.refl _ | apply Drawn0.step)⟩

end Go.Proofs.Ytkjjnfbgcdanmaa.P
