-- Written by a program of this session (wip/xprint.py), over the kit's print; some sections by hand.
import Derived.Test.YtkjjnfbgcdanmaaPx0
import Derived.Test.YtkjjnfbgcdanmaaPx4
import Derived.Test.YtkjjnfbgcdanmaaPx7
import Derived.Test.YtkjjnfbgcdanmaaPx9
import Derived.Test.YtkjjnfbgcdanmaaPx10
namespace Go.Proofs.Ytkjjnfbgcdanmaa.P
open Go.RowKit Go.Proofs.YtkjjnfbgcdanmaaW.PrintWords Go.Proofs.YtkjjnfbgcdanmaaW.PrintLast Go.Proofs.YtkjjnfbgcdanmaaW.PrintMore
attribute [local go_sem] max2_int min2_int max_two min_two max_three min_three max_four min_four   -- for this text's walks alone
set_option linter.unusedVariables false
set_option linter.unusedSimpArgs false

/-! ### galloonref06_Left: function 46 -/
def galloonref06_Left.l0 : Nat → List (S44) → List Int → Int → Option (Bool)
 | 0, _, _, _ => none
 | k + 1, x0, x1, x5 => if x5 < (x1.length : Int) then (if 0 ≤ x5 then (if (rd x1 x5) < 0 then (some false) else (if x5 < (x0.length : Int) then ((galloonref06_Power.f k ((rd_T44 x0 x5).f0) ((rd_T44 x0 x5).f1)).bind fun t675 => (if (rd x1 x5) ≥ t675 then (some false) else (galloonref06_Left.l0 k x0 x1 (wrap64 (x5 + 1))))) else (none))) else (none)) else (some true)
def galloonref06_Left.f (k : Nat) (l0 : List (S44)) (l1 : List Int) : Option (Bool) := if (l1.length : Int) = (l0.length : Int) then (galloonref06_Left.l0 k l0 l1 0) else (some false)
theorem galloonref06_Left.mono_l : ∀ k, (∀ y0 y1 y2, LeO (galloonref06_Left.l0 k y0 y1 y2) (galloonref06_Left.l0 (k + 1) y0 y1 y2))
 | 0 => fun _ _ _ r h => by simp [galloonref06_Left.l0] at h
 | k + 1 => by
  have ih0 := galloonref06_Left.mono_l k
  ·
   intro y0 y1 y2
   unfold galloonref06_Left.l0
   repeat' first
   | (with_reducible exact ih0 _ _ _)
   | (with_reducible exact galloonref06_Power.mono _ _ _)
   | (with_reducible exact LeO.refl _)
   | (with_reducible exact LeO.none _)
   | (with_reducible refine LeO.ite ?_ ?_)
   | (with_reducible refine LeO.bind ?_ (fun _ => ?_))
   | exact ih0 _ _ _
   | exact galloonref06_Power.mono _ _ _
   | exact LeO.none _
   | refine LeO.ite ?_ ?_
   | refine LeO.bind ?_ (fun _ => ?_)
theorem galloonref06_Left.mono : ∀ a0 a1 k, LeO (galloonref06_Left.f k a0 a1) (galloonref06_Left.f (k + 1) a0 a1) := by
 intro a0 a1 k
 have ih0 := galloonref06_Left.mono_l k
 unfold galloonref06_Left.f
 repeat' first
   | (with_reducible exact ih0 _ _ _)
   | (with_reducible exact galloonref06_Power.mono _ _ _)
   | (with_reducible exact LeO.refl _)
   | (with_reducible exact LeO.none _)
   | (with_reducible refine LeO.ite ?_ ?_)
   | (with_reducible refine LeO.bind ?_ (fun _ => ?_))
   | exact ih0 _ _ _
   | exact galloonref06_Power.mono _ _ _
   | exact LeO.none _
   | refine LeO.ite ?_ ?_
   | refine LeO.bind ?_ (fun _ => ?_)
set_option maxHeartbeats 8000000 in
set_option maxRecDepth 100000 in
theorem galloonref06_Left.calls (k : Nat) (A0 : Option Addr) (c0 : Nat) (l0 : List (S44)) (A1 : Option Addr) (c1 : Nat) (l1 : List Int) (r : Bool) (w : World) (hr0 : Kd.C k44 w A0 l0.length l0) (hc0 : l0.length ≤ c0) (hr1 : Kd.C (Kd.int .i64) w A1 l1.length l1) (hc1 : l1.length ≤ c1) (h : galloonref06_Left.f k l0 l1 = some r) :
  Calls Try.prog 46 #[.slice A0 l0.length c0, .slice A1 l1.length c1] w fun e w' => e = .returned (.bool r) ∧ Drawn0 w w' := by
 have HR0 := Aside0.mk hr0
 have HC0 := Aside0.mk hc0
 clear hr0 hc0
 have HR1 := Aside0.mk hr1
 have HC1 := Aside0.mk hc1
 clear hr1 hc1
 have H : (if (l1.length : Int) = (l0.length : Int) then (galloonref06_Left.l0 k l0 l1 0) else (some false)) = some r := h
 clear h
 by_cases c3 : (l1.length : Int) = (l0.length : Int)
 ·
  rw [if_pos c3] at H
  have c3b0 : ((l1.length : Int) == (l0.length : Int)) = true := beq_iff_eq.mpr c3
  have c3b1 : ((l1.length : Int) != (l0.length : Int)) = false := bne_eq_false_iff_eq.mpr c3
  have c3b2 : (l1.length == l0.length) = true := by first | simpa using c3 | (simp at c3 ⊢; omega)
  clear c3
  have H' := Aside0.mk H
  clear H
  go_enter Try.func46, Try.ntmps46
  go_wp2
  repeat (go_quiet (fail); try go_wp2)
  go_loopg [5] k (fun kq v5 w' => ∃ (x5_1 : Int), v5 = .int .i64 x5_1 ∧ Aside0 (galloonref06_Left.l0 kq l0 l1 x5_1 = some r) ∧ Aside0 (kq ≤ k) ∧ Drawn0 w w')
  case atStart => exact ⟨(0), (by first | rfl | (simp; done) | (simp [*]; done)), H', ⟨Nat.le_refl _⟩, by repeat (first | exact Drawn0.refl _ | apply Drawn0.step)⟩
  case round =>
   as_aux_lemma =>
   clear H'
   try clear c1
   try clear p2
   try clear c3
   try clear c3b0
   try clear c3b1
   try clear c3b2
   obtain ⟨x5_1, rfl, HA, HK1, ⟨m1, rfl⟩⟩ := hrel
   cases gk with
   | zero => exact absurd HA.out (by simp [galloonref06_Left.l0])
   | succ k1 =>
    have H := HA.out
    clear HA
    simp only [galloonref06_Left.l0] at H
    by_cases c4 : x5_1 < (l1.length : Int)
    ·
     rw [if_pos c4] at H
     have c4b0 : decide (x5_1 < (l1.length : Int)) = true := decide_eq_true c4
     clear c4
     by_cases c5 : 0 ≤ x5_1
     ·
      rw [if_pos c5] at H
      have c5b0 : decide (0 ≤ x5_1) = true := decide_eq_true c5
      clear c5
      by_cases c6 : (rd l1 x5_1) < 0
      ·
       rw [if_pos c6] at H
       have c6b0 : decide ((rd l1 x5_1) < 0) = true := decide_eq_true c6
       clear c6
       obtain rfl := Option.some.inj H
       have p671 : 0 ≤ (x5_1 : Int) := of_decide_eq_true (by assumption)
       have q671 : x5_1 < (l1.length : Int) := of_decide_eq_true (by assumption)
       obtain ⟨ad671, e671, hx671_0⟩ := Kd.at_int HR1.out x5_1 p671 q671
       cases e671
       replace p671 := eq_true p671
       replace q671 := eq_true q671
       go_wp2
       repeat (go_quiet (fail); try go_wp2)
       go_ret
       exact ⟨by first | rfl | (simp; done) | (simp [*]; done), by repeat (first | exact Drawn0.refl _ | apply Drawn0.step)⟩
      ·
       rw [if_neg c6] at H
       have c6b0 : decide ((rd l1 x5_1) < 0) = false := decide_eq_false c6
       clear c6
       by_cases c7 : x5_1 < (l0.length : Int)
       ·
        rw [if_pos c7] at H
        have c7b0 : decide (x5_1 < (l0.length : Int)) = true := decide_eq_true c7
        clear c7
        replace H := Option.bind_eq_some_iff.mp H
        obtain ⟨t675, A80, H⟩ := H
        replace H : (if (rd l1 x5_1) ≥ t675 then (some false) else (galloonref06_Left.l0 k1 l0 l1 (wrap64 (x5_1 + 1)))) = some r := H
        have A8 := Aside0.mk A80
        clear A80
        by_cases c9 : (rd l1 x5_1) ≥ t675
        ·
         rw [if_pos c9] at H
         have c9b0 : decide (t675 ≤ (rd l1 x5_1)) = true := decide_eq_true c9
         clear c9
         obtain rfl := Option.some.inj H
         have p671 : 0 ≤ (x5_1 : Int) := of_decide_eq_true (by assumption)
         have q671 : x5_1 < (l1.length : Int) := of_decide_eq_true (by assumption)
         obtain ⟨ad671, e671, hx671_0⟩ := Kd.at_int HR1.out x5_1 p671 q671
         cases e671
         replace p671 := eq_true p671
         replace q671 := eq_true q671
         have p672 : 0 ≤ (x5_1 : Int) := of_decide_eq_true (by assumption)
         have q672 : x5_1 < (l1.length : Int) := of_decide_eq_true (by assumption)
         obtain ⟨ad672, e672, hx672_0⟩ := Kd.at_int HR1.out x5_1 p672 q672
         obtain rfl : ad671 = ad672 := (by injection e672)
         replace p672 := eq_true p672
         replace q672 := eq_true q672
         have p673 : 0 ≤ (x5_1 : Int) := of_decide_eq_true (by assumption)
         have q673 : x5_1 < (l0.length : Int) := of_decide_eq_true (by assumption)
         obtain ⟨ad673, e673, hx673_0, hx673_1⟩ := at_T44 HR0.out x5_1 p673 q673
         cases e673
         replace p673 := eq_true p673
         replace q673 := eq_true q673
         have p674 : 0 ≤ (x5_1 : Int) := of_decide_eq_true (by assumption)
         have q674 : x5_1 < (l0.length : Int) := of_decide_eq_true (by assumption)
         obtain ⟨ad674, e674, hx674_0, hx674_1⟩ := at_T44 HR0.out x5_1 p674 q674
         obtain rfl : ad673 = ad674 := (by injection e674)
         replace p674 := eq_true p674
         replace q674 := eq_true q674
         go_wp2_with (first | (go_at_call 50; (with_reducible refine (galloonref06_Power.calls k1 ((rd_T44 l0 x5_1).f0) ((rd_T44 l0 x5_1).f1) t675 _ A8.out).mono ?_); rintro e w' ⟨rfl, ⟨nd, rfl⟩⟩; (try first | exact ⟨rfl, _, World.drewN_drewN _ _ _⟩ | exact ⟨rfl, _, Eq.trans (World.drewN_drewN _ _ _) (congrArg (World.drewN _) (Nat.add_assoc _ _ _))⟩)))
         repeat (go_quiet (first | (go_at_call 50; (with_reducible refine (galloonref06_Power.calls k1 ((rd_T44 l0 x5_1).f0) ((rd_T44 l0 x5_1).f1) t675 _ A8.out).mono ?_); rintro e w' ⟨rfl, ⟨nd, rfl⟩⟩; (try first | exact ⟨rfl, _, World.drewN_drewN _ _ _⟩ | exact ⟨rfl, _, Eq.trans (World.drewN_drewN _ _ _) (congrArg (World.drewN _) (Nat.add_assoc _ _ _))⟩))); try go_wp2_with (first | (go_at_call 50; (with_reducible refine (galloonref06_Power.calls k1 ((rd_T44 l0 x5_1).f0) ((rd_T44 l0 x5_1).f1) t675 _ A8.out).mono ?_); rintro e w' ⟨rfl, ⟨nd, rfl⟩⟩; (try first | exact ⟨rfl, _, World.drewN_drewN _ _ _⟩ | exact ⟨rfl, _, Eq.trans (World.drewN_drewN _ _ _) (congrArg (World.drewN _) (Nat.add_assoc _ _ _))⟩))))
         go_ret
         exact ⟨by first | rfl | (simp; done) | (simp [*]; done), by repeat (first | exact Drawn0.refl _ | apply Drawn0.step)⟩
        ·
         rw [if_neg c9] at H
         have c9b0 : decide (t675 ≤ (rd l1 x5_1)) = false := decide_eq_false c9
         clear c9
         have H' := Aside0.mk H
         clear H
         have p671 : 0 ≤ (x5_1 : Int) := of_decide_eq_true (by assumption)
         have q671 : x5_1 < (l1.length : Int) := of_decide_eq_true (by assumption)
         obtain ⟨ad671, e671, hx671_0⟩ := Kd.at_int HR1.out x5_1 p671 q671
         cases e671
         replace p671 := eq_true p671
         replace q671 := eq_true q671
         have p672 : 0 ≤ (x5_1 : Int) := of_decide_eq_true (by assumption)
         have q672 : x5_1 < (l1.length : Int) := of_decide_eq_true (by assumption)
         obtain ⟨ad672, e672, hx672_0⟩ := Kd.at_int HR1.out x5_1 p672 q672
         obtain rfl : ad671 = ad672 := (by injection e672)
         replace p672 := eq_true p672
         replace q672 := eq_true q672
         have p673 : 0 ≤ (x5_1 : Int) := of_decide_eq_true (by assumption)
         have q673 : x5_1 < (l0.length : Int) := of_decide_eq_true (by assumption)
         obtain ⟨ad673, e673, hx673_0, hx673_1⟩ := at_T44 HR0.out x5_1 p673 q673
         cases e673
         replace p673 := eq_true p673
         replace q673 := eq_true q673
         have p674 : 0 ≤ (x5_1 : Int) := of_decide_eq_true (by assumption)
         have q674 : x5_1 < (l0.length : Int) := of_decide_eq_true (by assumption)
         obtain ⟨ad674, e674, hx674_0, hx674_1⟩ := at_T44 HR0.out x5_1 p674 q674
         obtain rfl : ad673 = ad674 := (by injection e674)
         replace p674 := eq_true p674
         replace q674 := eq_true q674
         go_wp2_with (first | (go_at_call 50; (with_reducible refine (galloonref06_Power.calls k1 ((rd_T44 l0 x5_1).f0) ((rd_T44 l0 x5_1).f1) t675 _ A8.out).mono ?_); rintro e w' ⟨rfl, ⟨nd, rfl⟩⟩; (try first | exact ⟨rfl, _, World.drewN_drewN _ _ _⟩ | exact ⟨rfl, _, Eq.trans (World.drewN_drewN _ _ _) (congrArg (World.drewN _) (Nat.add_assoc _ _ _))⟩)))
         repeat (go_quiet (first | (go_at_call 50; (with_reducible refine (galloonref06_Power.calls k1 ((rd_T44 l0 x5_1).f0) ((rd_T44 l0 x5_1).f1) t675 _ A8.out).mono ?_); rintro e w' ⟨rfl, ⟨nd, rfl⟩⟩; (try first | exact ⟨rfl, _, World.drewN_drewN _ _ _⟩ | exact ⟨rfl, _, Eq.trans (World.drewN_drewN _ _ _) (congrArg (World.drewN _) (Nat.add_assoc _ _ _))⟩))); try go_wp2_with (first | (go_at_call 50; (with_reducible refine (galloonref06_Power.calls k1 ((rd_T44 l0 x5_1).f0) ((rd_T44 l0 x5_1).f1) t675 _ A8.out).mono ?_); rintro e w' ⟨rfl, ⟨nd, rfl⟩⟩; (try first | exact ⟨rfl, _, World.drewN_drewN _ _ _⟩ | exact ⟨rfl, _, Eq.trans (World.drewN_drewN _ _ _) (congrArg (World.drewN _) (Nat.add_assoc _ _ _))⟩))))
         go_roundg k1
         case measure => have := HK1.out; omega
         case rel => exact ⟨(wrap64 (x5_1 + 1)), (by first | rfl | (simp; done) | (simp [*]; done)), H', ⟨by have := HK1.out; omega⟩, by repeat (first | exact Drawn0.refl _ | apply Drawn0.step)⟩
       ·
        rw [if_neg c7] at H
        exact absurd H (by simp)
     ·
      rw [if_neg c5] at H
      exact absurd H (by simp)
    ·
     rw [if_neg c4] at H
     have c4b0 : decide (x5_1 < (l1.length : Int)) = false := decide_eq_false c4
     clear c4
     obtain rfl := Option.some.inj H
     go_wp2
     repeat (go_quiet (fail); try go_wp2)
     go_ret
     exact ⟨by first | rfl | (simp; done) | (simp [*]; done), by repeat (first | exact Drawn0.refl _ | apply Drawn0.step)⟩
 ·
  rw [if_neg c3] at H
  have c3b0 : ((l1.length : Int) == (l0.length : Int)) = false := beq_eq_false_iff_ne.mpr c3
  have c3b1 : ((l1.length : Int) != (l0.length : Int)) = true := bne_iff_ne.mpr c3
  have c3b2 : (l1.length == l0.length) = false := by first | simpa using c3 | (simp at c3 ⊢; omega)
  obtain rfl := Option.some.inj H
  go_enter Try.func46, Try.ntmps46
  go_wp2
  repeat (go_quiet (fail); try go_wp2)
  go_ret
  exact ⟨by first | rfl | (simp; done) | (simp [*]; done), by repeat (first | exact Drawn0.refl _ | apply Drawn0.step)⟩

/-! ### galloonref06_Joined: function 47 -/
mutual
def galloonref06_Joined.l0 : Nat → List (S44) → List Int → Int → Option (Int)
 | 0, _, _, _ => none
 | k + 1, x0, x1, x5 => galloonref06_Joined.l1 k x0 x1 x5 true 0
def galloonref06_Joined.l1 : Nat → List (S44) → List Int → Int → Bool → Int → Option (Int)
 | 0, _, _, _, _, _ => none
 | k + 1, x0, x1, x5, x6, x7 => if x7 < (x1.length : Int) then (if x6 = true then (if 0 ≤ x7 then (if x7 < (x0.length : Int) then ((galloonref06_Power.f k ((rd_T44 x0 x7).f0) ((rd_T44 x0 x7).f1)).bind fun t678 => (if t678 = 0 then (none) else (galloonref06_Joined.l1 k x0 x1 x5 ((Int.tmod x5 t678) == (rd x1 x7)) (wrap64 (x7 + 1))))) else (none)) else (none)) else (galloonref06_Joined.l1 k x0 x1 x5 false (wrap64 (x7 + 1)))) else (if x6 = true then (some x5) else (galloonref06_Joined.l0 k x0 x1 (wrap64 (x5 + 1))))
end
def galloonref06_Joined.f (k : Nat) (l0 : List (S44)) (l1 : List Int) : Option (Int) := galloonref06_Joined.l0 k l0 l1 0
theorem galloonref06_Joined.mono_l : ∀ k, (∀ y0 y1 y2, LeO (galloonref06_Joined.l0 k y0 y1 y2) (galloonref06_Joined.l0 (k + 1) y0 y1 y2)) ∧ (∀ y0 y1 y2 y3 y4, LeO (galloonref06_Joined.l1 k y0 y1 y2 y3 y4) (galloonref06_Joined.l1 (k + 1) y0 y1 y2 y3 y4))
 | 0 => ⟨fun _ _ _ r h => by simp [galloonref06_Joined.l0] at h, fun _ _ _ _ _ r h => by simp [galloonref06_Joined.l1] at h⟩
 | k + 1 => by
  obtain ⟨ih0, ih1⟩ := galloonref06_Joined.mono_l k
  refine ⟨?_, ?_⟩
  ·
   intro y0 y1 y2
   unfold galloonref06_Joined.l0
   repeat' first
   | (with_reducible exact ih0 _ _ _)
   | (with_reducible exact ih1 _ _ _ _ _)
   | (with_reducible exact galloonref06_Power.mono _ _ _)
   | (with_reducible exact LeO.refl _)
   | (with_reducible exact LeO.none _)
   | (with_reducible refine LeO.ite ?_ ?_)
   | (with_reducible refine LeO.bind ?_ (fun _ => ?_))
   | exact ih0 _ _ _
   | exact ih1 _ _ _ _ _
   | exact galloonref06_Power.mono _ _ _
   | exact LeO.none _
   | refine LeO.ite ?_ ?_
   | refine LeO.bind ?_ (fun _ => ?_)
  ·
   intro y0 y1 y2 y3 y4
   unfold galloonref06_Joined.l1
   repeat' first
   | (with_reducible exact ih0 _ _ _)
   | (with_reducible exact ih1 _ _ _ _ _)
   | (with_reducible exact galloonref06_Power.mono _ _ _)
   | (with_reducible exact LeO.refl _)
   | (with_reducible exact LeO.none _)
   | (with_reducible refine LeO.ite ?_ ?_)
   | (with_reducible refine LeO.bind ?_ (fun _ => ?_))
   | exact ih0 _ _ _
   | exact ih1 _ _ _ _ _
   | exact galloonref06_Power.mono _ _ _
   | exact LeO.none _
   | refine LeO.ite ?_ ?_
   | refine LeO.bind ?_ (fun _ => ?_)
theorem galloonref06_Joined.mono : ∀ a0 a1 k, LeO (galloonref06_Joined.f k a0 a1) (galloonref06_Joined.f (k + 1) a0 a1) := by
 intro a0 a1 k
 obtain ⟨ih0, ih1⟩ := galloonref06_Joined.mono_l k
 unfold galloonref06_Joined.f
 repeat' first
   | (with_reducible exact ih0 _ _ _)
   | (with_reducible exact ih1 _ _ _ _ _)
   | (with_reducible exact galloonref06_Power.mono _ _ _)
   | (with_reducible exact LeO.refl _)
   | (with_reducible exact LeO.none _)
   | (with_reducible refine LeO.ite ?_ ?_)
   | (with_reducible refine LeO.bind ?_ (fun _ => ?_))
   | exact ih0 _ _ _
   | exact ih1 _ _ _ _ _
   | exact galloonref06_Power.mono _ _ _
   | exact LeO.none _
   | refine LeO.ite ?_ ?_
   | refine LeO.bind ?_ (fun _ => ?_)
set_option maxHeartbeats 8000000 in
set_option maxRecDepth 100000 in
theorem galloonref06_Joined.calls (k : Nat) (A0 : Option Addr) (c0 : Nat) (l0 : List (S44)) (A1 : Option Addr) (c1 : Nat) (l1 : List Int) (r : Int) (w : World) (hr0 : Kd.C k44 w A0 l0.length l0) (hc0 : l0.length ≤ c0) (hr1 : Kd.C (Kd.int .i64) w A1 l1.length l1) (hc1 : l1.length ≤ c1) (h : galloonref06_Joined.f k l0 l1 = some r) :
  Calls Try.prog 47 #[.slice A0 l0.length c0, .slice A1 l1.length c1] w fun e w' => e = .returned (.int .i64 r) ∧ Drawn0 w w' := by
 have HR0 := Aside0.mk hr0
 have HC0 := Aside0.mk hc0
 clear hr0 hc0
 have HR1 := Aside0.mk hr1
 have HC1 := Aside0.mk hc1
 clear hr1 hc1
 have H : (galloonref06_Joined.l0 k l0 l1 0) = some r := h
 clear h
 have H' := Aside0.mk H
 clear H
 go_enter Try.func47, Try.ntmps47
 go_wp2
 repeat (go_quiet (fail); try go_wp2)
 go_loopg [5] k (fun kq v5 w' => ∃ (x5_1 : Int), v5 = .int .i64 x5_1 ∧ Aside0 (galloonref06_Joined.l0 kq l0 l1 x5_1 = some r) ∧ Aside0 (kq ≤ k) ∧ Drawn0 w w')
 case atStart => exact ⟨(0), (by first | rfl | (simp; done) | (simp [*]; done)), H', ⟨Nat.le_refl _⟩, by repeat (first | exact Drawn0.refl _ | apply Drawn0.step)⟩
 case round =>
  as_aux_lemma =>
  clear H'
  try clear c1
  try clear p2
  obtain ⟨x5_1, rfl, HA, HK1, ⟨m1, rfl⟩⟩ := hrel
  cases gk with
  | zero => exact absurd HA.out (by simp [galloonref06_Joined.l0])
  | succ k1 =>
   have H := HA.out
   clear HA
   simp only [galloonref06_Joined.l0] at H
   have H' := Aside0.mk H
   clear H
   go_wp2
   repeat (go_quiet (fail); try go_wp2)
   go_loopg [6, 7] k1 (fun kq v6 v7 w' => ∃ (x6_2 : Bool) (x7_2 : Int), v6 = .bool x6_2 ∧ v7 = .int .i64 x7_2 ∧ Aside0 (galloonref06_Joined.l1 kq l0 l1 x5_1 x6_2 x7_2 = some r) ∧ Aside0 (kq ≤ k1) ∧ Drawn0 w w')
   case atStart => exact ⟨(true), (0), (by first | rfl | (simp; done) | (simp [*]; done)), (by first | rfl | (simp; done) | (simp [*]; done)), H', ⟨Nat.le_refl _⟩, by repeat (first | exact Drawn0.refl _ | apply Drawn0.step)⟩
   case round =>
    as_aux_lemma =>
    clear H'
    try clear c1
    try clear p2
    try clear p2
    obtain ⟨x6_2, x7_2, rfl, rfl, HA, HK2, ⟨m2, rfl⟩⟩ := hrel
    cases gk with
    | zero => exact absurd HA.out (by simp [galloonref06_Joined.l1])
    | succ k2 =>
     have H := HA.out
     clear HA
     simp only [galloonref06_Joined.l1] at H
     by_cases c3 : x7_2 < (l1.length : Int)
     ·
      rw [if_pos c3] at H
      have c3b0 : decide (x7_2 < (l1.length : Int)) = true := decide_eq_true c3
      clear c3
      by_cases c4 : x6_2 = true
      ·
       subst c4
       have H1 : (if 0 ≤ x7_2 then (if x7_2 < (l0.length : Int) then ((galloonref06_Power.f k2 ((rd_T44 l0 x7_2).f0) ((rd_T44 l0 x7_2).f1)).bind fun t678 => (if t678 = 0 then (none) else (galloonref06_Joined.l1 k2 l0 l1 x5_1 ((Int.tmod x5_1 t678) == (rd l1 x7_2)) (wrap64 (x7_2 + 1))))) else (none)) else (none)) = some r := by rw [if_pos rfl] at H; exact H
       clear H
       have H := H1
       clear H1
       by_cases c5 : 0 ≤ x7_2
       ·
        rw [if_pos c5] at H
        have c5b0 : decide (0 ≤ x7_2) = true := decide_eq_true c5
        clear c5
        by_cases c6 : x7_2 < (l0.length : Int)
        ·
         rw [if_pos c6] at H
         have c6b0 : decide (x7_2 < (l0.length : Int)) = true := decide_eq_true c6
         clear c6
         replace H := Option.bind_eq_some_iff.mp H
         obtain ⟨t678, A70, H⟩ := H
         replace H : (if t678 = 0 then (none) else (galloonref06_Joined.l1 k2 l0 l1 x5_1 ((Int.tmod x5_1 t678) == (rd l1 x7_2)) (wrap64 (x7_2 + 1)))) = some r := H
         have A7 := Aside0.mk A70
         clear A70
         by_cases c8 : t678 = 0
         ·
          rw [if_pos c8] at H
          exact absurd H (by simp)
         ·
          rw [if_neg c8] at H
          have c8b0 : (t678 == 0) = false := beq_eq_false_iff_ne.mpr c8
          have c8b1 : (t678 != 0) = true := bne_iff_ne.mpr c8
          have H' := Aside0.mk H
          clear H
          have p676 : 0 ≤ (x7_2 : Int) := of_decide_eq_true (by assumption)
          have q676 : x7_2 < (l0.length : Int) := of_decide_eq_true (by assumption)
          obtain ⟨ad676, e676, hx676_0, hx676_1⟩ := at_T44 HR0.out x7_2 p676 q676
          cases e676
          replace p676 := eq_true p676
          replace q676 := eq_true q676
          have p677 : 0 ≤ (x7_2 : Int) := of_decide_eq_true (by assumption)
          have q677 : x7_2 < (l0.length : Int) := of_decide_eq_true (by assumption)
          obtain ⟨ad677, e677, hx677_0, hx677_1⟩ := at_T44 HR0.out x7_2 p677 q677
          obtain rfl : ad676 = ad677 := (by injection e677)
          replace p677 := eq_true p677
          replace q677 := eq_true q677
          go_wp2_with (first | (go_at_call 50; (with_reducible refine (galloonref06_Power.calls k2 ((rd_T44 l0 x7_2).f0) ((rd_T44 l0 x7_2).f1) t678 _ A7.out).mono ?_); rintro e w' ⟨rfl, ⟨nd, rfl⟩⟩; (try first | exact ⟨rfl, _, World.drewN_drewN _ _ _⟩ | exact ⟨rfl, _, Eq.trans (World.drewN_drewN _ _ _) (congrArg (World.drewN _) (Nat.add_assoc _ _ _))⟩); have p679 : 0 ≤ (x7_2 : Int) := of_decide_eq_true (by assumption); have q679 : x7_2 < (l1.length : Int) := of_decide_eq_true (by assumption); obtain ⟨ad679, e679, hx679_0⟩ := Kd.at_int HR1.out x7_2 p679 q679; cases e679; replace p679 := eq_true p679; replace q679 := eq_true q679))
          repeat (go_quiet (first | (go_at_call 50; (with_reducible refine (galloonref06_Power.calls k2 ((rd_T44 l0 x7_2).f0) ((rd_T44 l0 x7_2).f1) t678 _ A7.out).mono ?_); rintro e w' ⟨rfl, ⟨nd, rfl⟩⟩; (try first | exact ⟨rfl, _, World.drewN_drewN _ _ _⟩ | exact ⟨rfl, _, Eq.trans (World.drewN_drewN _ _ _) (congrArg (World.drewN _) (Nat.add_assoc _ _ _))⟩); have p679 : 0 ≤ (x7_2 : Int) := of_decide_eq_true (by assumption); have q679 : x7_2 < (l1.length : Int) := of_decide_eq_true (by assumption); obtain ⟨ad679, e679, hx679_0⟩ := Kd.at_int HR1.out x7_2 p679 q679; cases e679; replace p679 := eq_true p679; replace q679 := eq_true q679)); try go_wp2_with (first | (go_at_call 50; (with_reducible refine (galloonref06_Power.calls k2 ((rd_T44 l0 x7_2).f0) ((rd_T44 l0 x7_2).f1) t678 _ A7.out).mono ?_); rintro e w' ⟨rfl, ⟨nd, rfl⟩⟩; (try first | exact ⟨rfl, _, World.drewN_drewN _ _ _⟩ | exact ⟨rfl, _, Eq.trans (World.drewN_drewN _ _ _) (congrArg (World.drewN _) (Nat.add_assoc _ _ _))⟩); have p679 : 0 ≤ (x7_2 : Int) := of_decide_eq_true (by assumption); have q679 : x7_2 < (l1.length : Int) := of_decide_eq_true (by assumption); obtain ⟨ad679, e679, hx679_0⟩ := Kd.at_int HR1.out x7_2 p679 q679; cases e679; replace p679 := eq_true p679; replace q679 := eq_true q679)))
          go_roundg k2
          case measure => have := HK1.out; have := HK2.out; omega
          case rel => exact ⟨(((Int.tmod x5_1 t678) == (rd l1 x7_2))), (wrap64 (x7_2 + 1)), (by first | rfl | (simp; done) | (simp [*]; done)), (by first | rfl | (simp; done) | (simp [*]; done)), H', ⟨by have := HK1.out; have := HK2.out; omega⟩, by repeat (first | exact Drawn0.refl _ | apply Drawn0.step)⟩
        ·
         rw [if_neg c6] at H
         exact absurd H (by simp)
       ·
        rw [if_neg c5] at H
        exact absurd H (by simp)
      ·
       replace c4 := Bool.eq_false_iff.mpr c4
       subst c4
       have H1 : (galloonref06_Joined.l1 k2 l0 l1 x5_1 false (wrap64 (x7_2 + 1))) = some r := by rw [if_neg (show ¬ (false = true) by decide)] at H; exact H
       clear H
       have H := H1
       clear H1
       have H' := Aside0.mk H
       clear H
       go_wp2
       repeat (go_quiet (fail); try go_wp2)
       go_roundg k2
       case measure => have := HK1.out; have := HK2.out; omega
       case rel => exact ⟨(false), (wrap64 (x7_2 + 1)), (by first | rfl | (simp; done) | (simp [*]; done)), (by first | rfl | (simp; done) | (simp [*]; done)), H', ⟨by have := HK1.out; have := HK2.out; omega⟩, by repeat (first | exact Drawn0.refl _ | apply Drawn0.step)⟩
     ·
      rw [if_neg c3] at H
      have c3b0 : decide (x7_2 < (l1.length : Int)) = false := decide_eq_false c3
      clear c3
      by_cases c9 : x6_2 = true
      ·
       subst c9
       have H1 : (some x5_1) = some r := by rw [if_pos rfl] at H; exact H
       clear H
       have H := H1
       clear H1
       obtain rfl := Option.some.inj H
       go_wp2
       repeat (go_quiet (fail); try go_wp2)
       go_ret
       exact ⟨by first | rfl | (simp; done) | (simp [*]; done), by repeat (first | exact Drawn0.refl _ | apply Drawn0.step)⟩
      ·
       replace c9 := Bool.eq_false_iff.mpr c9
       subst c9
       have H1 : (galloonref06_Joined.l0 k2 l0 l1 (wrap64 (x5_1 + 1))) = some r := by rw [if_neg (show ¬ (false = true) by decide)] at H; exact H
       clear H
       have H := H1
       clear H1
       have H' := Aside0.mk H
       clear H
       go_wp2
       repeat (go_quiet (fail); try go_wp2)
       go_roundg k2
       case measure => have := HK1.out; have := HK2.out; omega
       case rel => exact ⟨(wrap64 (x5_1 + 1)), (by first | rfl | (simp; done) | (simp [*]; done)), H', ⟨by have := HK1.out; have := HK2.out; omega⟩, by repeat (first | exact Drawn0.refl _ | apply Drawn0.step)⟩

/-! ### galloonlaw06_ShuffleJoins: function 12 -/
def galloonlaw06_ShuffleJoins.j0 : Nat → List (S44) → List Int → Int → Int → Bool → Option (Bool)
 | 0, _, _, _, _, _ => none
 | k + 1, x5, x6, x7, x8, x32 => if x32 = true then (if x7 = 0 then (if x8 = 2 then ((galloonlaw06_awake.f k).bind fun t694 => (some t694)) else (none)) else (none)) else ((galloonref06_Joined.f k x5 x6).bind fun t695 => (if x7 = t695 then (if x8 = 0 then ((galloonlaw06_awake.f k).bind fun t696 => (some t696)) else (none)) else (none)))
def galloonlaw06_ShuffleJoins.f (k : Nat) (l0 : List (S44)) (l1 : List Int) : Option (Bool) := if 0 ≤ (mn (l0.length : Int) 8) then (if (mn (l0.length : Int) 8) ≤ (l0.length : Int) then ((some (l0.take ((mn (l0.length : Int) 8) : Int).toNat : List (S44))).bind fun y680 => (if ([] : List (S44)).length + y680.length < 8796093022208 then ((some (([] : List (S44)) ++ y680 : List (S44))).bind fun y684 => ((galloonlaw06_list.f l1).bind fun t687 => ((shuffle_Joined.f k y684 t687).bind fun bt690 => ((galloonref06_Product.f k y684).bind fun t692 => (if t692 = 0 then (galloonlaw06_ShuffleJoins.j0 k y684 t687 bt690.1 bt690.2 true) else ((galloonref06_Left.f k y684 t687).bind fun t693 => (galloonlaw06_ShuffleJoins.j0 k y684 t687 bt690.1 bt690.2 (!t693)))))))) else (none))) else (none)) else (none)
theorem galloonlaw06_ShuffleJoins.mono_l : ∀ k, (∀ y0 y1 y2 y3 y4, LeO (galloonlaw06_ShuffleJoins.j0 k y0 y1 y2 y3 y4) (galloonlaw06_ShuffleJoins.j0 (k + 1) y0 y1 y2 y3 y4))
 | 0 => fun _ _ _ _ _ r h => by simp [galloonlaw06_ShuffleJoins.j0] at h
 | k + 1 => by
  have ih0 := galloonlaw06_ShuffleJoins.mono_l k
  ·
   intro y0 y1 y2 y3 y4
   unfold galloonlaw06_ShuffleJoins.j0
   repeat' first
   | (with_reducible exact ih0 _ _ _ _ _)
   | (with_reducible exact galloonlaw06_awake.mono _)
   | (with_reducible exact galloonref06_Joined.mono _ _ _)
   | (with_reducible exact galloonref06_Left.mono _ _ _)
   | (with_reducible exact galloonref06_Product.mono _ _)
   | (with_reducible exact shuffle_Joined.mono _ _ _)
   | (with_reducible exact LeO.refl _)
   | (with_reducible exact LeO.none _)
   | (with_reducible refine LeO.ite ?_ ?_)
   | (with_reducible refine LeO.bind ?_ (fun _ => ?_))
   | exact ih0 _ _ _ _ _
   | exact galloonlaw06_awake.mono _
   | exact galloonref06_Joined.mono _ _ _
   | exact galloonref06_Left.mono _ _ _
   | exact galloonref06_Product.mono _ _
   | exact shuffle_Joined.mono _ _ _
   | exact LeO.none _
   | refine LeO.ite ?_ ?_
   | refine LeO.bind ?_ (fun _ => ?_)
theorem galloonlaw06_ShuffleJoins.mono : ∀ a0 a1 k, LeO (galloonlaw06_ShuffleJoins.f k a0 a1) (galloonlaw06_ShuffleJoins.f (k + 1) a0 a1) := by
 intro a0 a1 k
 have ih0 := galloonlaw06_ShuffleJoins.mono_l k
 unfold galloonlaw06_ShuffleJoins.f
 repeat' first
   | (with_reducible exact ih0 _ _ _ _ _)
   | (with_reducible exact galloonlaw06_awake.mono _)
   | (with_reducible exact galloonref06_Joined.mono _ _ _)
   | (with_reducible exact galloonref06_Left.mono _ _ _)
   | (with_reducible exact galloonref06_Product.mono _ _)
   | (with_reducible exact shuffle_Joined.mono _ _ _)
   | (with_reducible exact LeO.refl _)
   | (with_reducible exact LeO.none _)
   | (with_reducible refine LeO.ite ?_ ?_)
   | (with_reducible refine LeO.bind ?_ (fun _ => ?_))
   | exact ih0 _ _ _ _ _
   | exact galloonlaw06_awake.mono _
   | exact galloonref06_Joined.mono _ _ _
   | exact galloonref06_Left.mono _ _ _
   | exact galloonref06_Product.mono _ _
   | exact shuffle_Joined.mono _ _ _
   | exact LeO.none _
   | refine LeO.ite ?_ ?_
   | refine LeO.bind ?_ (fun _ => ?_)
set_option maxHeartbeats 8000000 in
set_option maxRecDepth 100000 in
theorem galloonlaw06_ShuffleJoins.calls (k : Nat) (A0 : Option Addr) (c0 : Nat) (l0 : List (S44)) (A1 : Option Addr) (c1 : Nat) (l1 : List Int) (r : Bool) (w : World) (hr0 : Kd.C k44 w A0 l0.length l0) (hc0 : l0.length ≤ c0) (hr1 : Kd.C (Kd.int .i64) w A1 l1.length l1) (hc1 : l1.length ≤ c1) (h : galloonlaw06_ShuffleJoins.f k l0 l1 = some r) :
  Calls Try.prog 12 #[.slice A0 l0.length c0, .slice A1 l1.length c1] w fun e w' => e = .returned (.bool r) ∧ Below w.heap.size w w' := by
 have HR0 := Aside0.mk hr0
 have HC0 := Aside0.mk hc0
 clear hr0 hc0
 have HR1 := Aside0.mk hr1
 have HC1 := Aside0.mk hc1
 clear hr1 hc1
 have HB := Aside0.mk (Below.refl w.heap.size w)
 have H : (if 0 ≤ (mn (l0.length : Int) 8) then (if (mn (l0.length : Int) 8) ≤ (l0.length : Int) then ((some (l0.take ((mn (l0.length : Int) 8) : Int).toNat : List (S44))).bind fun y680 => (if ([] : List (S44)).length + y680.length < 8796093022208 then ((some (([] : List (S44)) ++ y680 : List (S44))).bind fun y684 => ((galloonlaw06_list.f l1).bind fun t687 => ((shuffle_Joined.f k y684 t687).bind fun bt690 => ((galloonref06_Product.f k y684).bind fun t692 => (if t692 = 0 then (galloonlaw06_ShuffleJoins.j0 k y684 t687 bt690.1 bt690.2 true) else ((galloonref06_Left.f k y684 t687).bind fun t693 => (galloonlaw06_ShuffleJoins.j0 k y684 t687 bt690.1 bt690.2 (!t693)))))))) else (none))) else (none)) else (none)) = some r := h
 clear h
 obtain ⟨ji3, hji3⟩ : ∃ j_ : Int, (mn (l0.length : Int) 8) = j_ := ⟨_, rfl⟩
 replace H : (if 0 ≤ (ji3) then (if (ji3) ≤ (l0.length : Int) then ((some (l0.take ((ji3) : Int).toNat : List (S44))).bind fun y680 => (if ([] : List (S44)).length + y680.length < 8796093022208 then ((some (([] : List (S44)) ++ y680 : List (S44))).bind fun y684 => ((galloonlaw06_list.f l1).bind fun t687 => ((shuffle_Joined.f k y684 t687).bind fun bt690 => ((galloonref06_Product.f k y684).bind fun t692 => (if t692 = 0 then (galloonlaw06_ShuffleJoins.j0 k y684 t687 bt690.1 bt690.2 true) else ((galloonref06_Left.f k y684 t687).bind fun t693 => (galloonlaw06_ShuffleJoins.j0 k y684 t687 bt690.1 bt690.2 (!t693)))))))) else (none))) else (none)) else (none)) = some r := by first | (rw [hji3] at H; exact H) | (simp only [hji3] at H ⊢; exact H)
 (try (have hji3h : ji3 ≤ 8 := by (rw [← hji3]; unfold mn; (repeat' split) <;> omega)))
 (try (have hji3g : ji3 ≤ 64 := by omega))
 (try (have hji3l : 0 ≤ ji3 := by (rw [← hji3]; unfold mn; (repeat' split) <;> omega)))
 (try (have hji3m : 0 ≤ ji3 := by omega))
 have hji3_ : (if 8 < (l0.length : Int) then 8 else (l0.length : Int)) = ji3 := hji3
 by_cases c4 : 0 ≤ (ji3)
 ·
  rw [if_pos c4] at H
  have c4b0 := eq_true c4
  have c4b1 : decide (0 ≤ (ji3)) = true := decide_eq_true c4
  clear c4
  by_cases c5 : (ji3) ≤ (l0.length : Int)
  ·
   rw [if_pos c5] at H
   have c5b0 := eq_true c5
   have c5b1 : decide ((ji3) ≤ (l0.length : Int)) = true := decide_eq_true c5
   clear c5
   obtain ⟨y680, hy680⟩ : ∃ y_ : List (S44), y_ = (l0.take ((ji3) : Int).toNat) := ⟨_, rfl⟩
   replace H : (if ([] : List (S44)).length + y680.length < 8796093022208 then ((some (([] : List (S44)) ++ y680 : List (S44))).bind fun y684 => ((galloonlaw06_list.f l1).bind fun t687 => ((shuffle_Joined.f k y684 t687).bind fun bt690 => ((galloonref06_Product.f k y684).bind fun t692 => (if t692 = 0 then (galloonlaw06_ShuffleJoins.j0 k y684 t687 bt690.1 bt690.2 true) else ((galloonref06_Left.f k y684 t687).bind fun t693 => (galloonlaw06_ShuffleJoins.j0 k y684 t687 bt690.1 bt690.2 (!t693)))))))) else (none)) = some r := by first | (rw [hy680]; with_reducible exact H) | (have H2_ := (Option.bind_some _ _).symm.trans H; rw [hy680]; with_reducible exact H2_) | (have H2_ := (Option.bind_some _ _).symm.trans H; with_reducible exact H2_) | with_reducible exact H | (rw [hy680]; exact H) | exact H
   have Ny680 := Aside0.mk hy680
   clear hy680
   by_cases c6 : ([] : List (S44)).length + y680.length < 8796093022208
   ·
    rw [if_pos c6] at H
    have LMc6 := Aside0.mk c6
    clear c6
    obtain ⟨y684, hy684⟩ : ∃ y_ : List (S44), y_ = (([] : List (S44)) ++ y680) := ⟨_, rfl⟩
    replace H : ((galloonlaw06_list.f l1).bind fun t687 => ((shuffle_Joined.f k y684 t687).bind fun bt690 => ((galloonref06_Product.f k y684).bind fun t692 => (if t692 = 0 then (galloonlaw06_ShuffleJoins.j0 k y684 t687 bt690.1 bt690.2 true) else ((galloonref06_Left.f k y684 t687).bind fun t693 => (galloonlaw06_ShuffleJoins.j0 k y684 t687 bt690.1 bt690.2 (!t693))))))) = some r := by first | (rw [hy684]; with_reducible exact H) | (have H2_ := (Option.bind_some _ _).symm.trans H; rw [hy684]; with_reducible exact H2_) | (have H2_ := (Option.bind_some _ _).symm.trans H; with_reducible exact H2_) | with_reducible exact H | (rw [hy684]; exact H) | exact H
    have Ny684 := Aside0.mk hy684
    clear hy684
    replace H := Option.bind_eq_some_iff.mp H
    obtain ⟨t687, A70, H⟩ := H
    replace H : ((shuffle_Joined.f k y684 t687).bind fun bt690 => ((galloonref06_Product.f k y684).bind fun t692 => (if t692 = 0 then (galloonlaw06_ShuffleJoins.j0 k y684 t687 bt690.1 bt690.2 true) else ((galloonref06_Left.f k y684 t687).bind fun t693 => (galloonlaw06_ShuffleJoins.j0 k y684 t687 bt690.1 bt690.2 (!t693)))))) = some r := H
    have A7 := Aside0.mk A70
    clear A70
    replace H := Option.bind_eq_some_iff.mp H
    obtain ⟨⟨t690, t691⟩, A80, H⟩ := H
    replace H : ((galloonref06_Product.f k y684).bind fun t692 => (if t692 = 0 then (galloonlaw06_ShuffleJoins.j0 k y684 t687 t690 t691 true) else ((galloonref06_Left.f k y684 t687).bind fun t693 => (galloonlaw06_ShuffleJoins.j0 k y684 t687 t690 t691 (!t693))))) = some r := H
    have A8 := Aside0.mk A80
    clear A80
    have HC9 := Aside0.mk H
    clear H
    have q10 : ((ji3) : Int) ≤ ((l0.length : Int) : Int) := of_decide_eq_true (by assumption)
    obtain ⟨i010, hi010, _, hsz10, _⟩ := info_parts info44
    have hroom10 : l0.length ≤ c0 := HC0.out
    have hC10 : Kd.C k44 _ A0 l0.length l0 := HR0.out
    have hcut10 := cut_to (P := Try.prog) 42 44 .i64 Try.underlying42 hi010 A0 l0.length c0 (ji3) (of_decide_eq_true (by assumption)) q10 hroom10
    have hr10 := Kd.C_take (m := ((ji3) : Int).toNat) hC10 (by omega)
    have hy10 : y680.length = ((ji3) : Int).toNat := (by rw [Ny680.out, List.length_take]; omega)
    rw [← Ny680.out] at hr10
    rw [← hy10] at hcut10
    have HR683 := Aside0.mk hr10
    have HC683 := Aside0.mk (show y680.length ≤ c0 from by omega)
    clear hr10 hC10 hroom10 hi010 hsz10
    have KY10 := Aside0.mk hy10
    clear hy10
    replace q10 := eq_true q10
    go_enter Try.func12, Try.ntmps12
    go_upto_region 5 with (first | ((with_reducible refine gate_builtin (b := .append) (xs := #[.tmp 9, .tmp 14]) rfl ?_); at_builtin; refine Kd.R_append_rows k44 (w0 := w) w.heap.size rfl (.tmp 9) (.tmp 14) 42 44 (.agg #[(.int .i64 0), (.int .i64 0)]) 16 rfl Try.underlying42 info44 rfl (by decide) (by omega) (.slice none 0 0) ([] : List (S44)) y680 _ _ _ (fun _ => True) (fun _ => False) rfl rfl ?aO ?aR (fun _ _ h => h) (fun _ h => h.elim) ?aF ?aB ?aS ?aL ?_; (case aR => repeat (first | exact HR683.out | (with_reducible refine Kd.C_alloc ?_ _) | (with_reducible refine Kd.C_drewN ?_ _) | (with_reducible refine Kd.C_drew ?_))); (case aB => exact (by repeat (first | (with_reducible first | exact HB.out | apply below_alloc | apply pw_below_drewN | apply below_drew1) | exact HB.out))); (case aF => exact (fun _ _ => trivial)); (case aO => exact ((Kd.R_nil _ _ _ _ (fun _ => True)))); (case aS => exact (below_size (by repeat (first | (with_reducible first | exact HB.out | apply below_alloc | apply pw_below_drewN | apply below_drew1) | exact HB.out)))); (case aL => have := LMc6.out; omega); intro v685 w11 ho hb hg hat; rw [← Ny684.out] at ho; have n0_ := Aside0.mk (hb); have n1_ := Aside0.mk (ho); clear HB; have HB := n0_; have HO686 := n1_; clear n0_ n1_; clear ho hb hg hat) | ((with_reducible refine gate_callee (f := 27) rfl ?_); refine goesL_ (some 17) rfl rfl Try.func27 (by kernel_rfl) rfl #[.slice A1 l1.length c1] rfl (by (try simp only [List.map_toArray, List.map_cons, List.map_nil]); first | done | rfl | (simp only [List.length_drop, List.length_take]; rfl)) ?_; (with_reducible refine (galloonlaw06_list.calls _ _ l1 t687 _ ?side1 ?side2 A7.out).mono ?_); (case side1 => repeat (first | exact (Kd.C_below HR1.out HB.out) | (with_reducible refine Kd.C_alloc ?_ _) | (with_reducible refine Kd.C_drewN ?_ _) | (with_reducible refine Kd.C_drew ?_))); (case side2 => exact HC1.out); rintro e w12 ⟨v688, rfl, ho0, hb⟩; refine ⟨_, rfl, ?_⟩; have n0_ := Aside0.mk (Kd.R_below (by (with_reducible repeat (first | apply Kd.R_alloc | apply Kd.R_drewN | apply Kd.R_drew)); exact HO686.out) hb); have n1_ := Aside0.mk (Kd.R_lower ho0 (below_size (by repeat (first | (with_reducible first | exact HB.out | apply below_alloc | apply pw_below_drewN | apply below_drew1) | exact HB.out)))); have n2_ := Aside0.mk (below_step (by repeat (first | (with_reducible first | exact HB.out | apply below_alloc | apply pw_below_drewN | apply below_drew1) | exact HB.out)) hb); clear HO686; clear HB; have HO686 := n0_; have HO689 := n1_; have HB := n2_; clear n0_ n1_ n2_; (try clear hb); (try clear hb2); (try clear hk); (try clear hi); (try clear ho0); obtain ⟨Ao13, co13, eo13⟩ := Kd.R_slice HO686.out; subst eo13; obtain ⟨Ao14, co14, eo14⟩ := Kd.R_slice HO689.out; subst eo14) | ((with_reducible refine gate_callee (f := 44) rfl ?_); refine goesL_ (some 21) rfl rfl Try.func44 (by kernel_rfl) rfl #[.slice Ao13 y684.length co13, .slice Ao14 t687.length co14] rfl (by (try simp only [List.map_toArray, List.map_cons, List.map_nil]); first | done | rfl | (simp only [List.length_drop, List.length_take]; rfl)) ?_; (with_reducible refine (shuffle_Joined.calls k _ _ y684 _ _ t687 t690 t691 _ ?side1 ?side2 ?side3 ?side4 A8.out).mono ?_); (case side1 => repeat (first | exact (Kd.R_reads' HO686.out).2.2 | (with_reducible refine Kd.C_alloc ?_ _) | (with_reducible refine Kd.C_drewN ?_ _) | (with_reducible refine Kd.C_drew ?_))); (case side2 => exact (Kd.R_reads' HO686.out).2.1); (case side3 => repeat (first | exact (Kd.R_reads' HO689.out).2.2 | (with_reducible refine Kd.C_alloc ?_ _) | (with_reducible refine Kd.C_drewN ?_ _) | (with_reducible refine Kd.C_drew ?_))); (case side4 => exact (Kd.R_reads' HO689.out).2.1); rintro e w15 ⟨rfl, hb⟩; refine ⟨_, rfl, ?_⟩; have n0_ := Aside0.mk (Kd.R_below (by (with_reducible repeat (first | apply Kd.R_alloc | apply Kd.R_drewN | apply Kd.R_drew)); exact HO686.out) hb); have n1_ := Aside0.mk (Kd.R_below (by (with_reducible repeat (first | apply Kd.R_alloc | apply Kd.R_drewN | apply Kd.R_drew)); exact HO689.out) hb); have n2_ := Aside0.mk (below_step (by repeat (first | (with_reducible first | exact HB.out | apply below_alloc | apply pw_below_drewN | apply below_drew1) | exact HB.out)) hb); clear HO686; clear HO689; clear HB; have HO686 := n0_; have HO689 := n1_; have HB := n2_; clear n0_ n1_ n2_; (try clear hb); (try clear hb2); (try clear hk); (try clear hi)))
    (try simp only [Act.put, List.setIfInBounds_toArray, List.set_cons_zero, List.set_cons_succ])
    go_cut [32] (fun v32 wc => ∃ (kq : Nat) (x32_8 : Bool), v32 = .bool x32_8 ∧ Aside0 (galloonlaw06_ShuffleJoins.j0 kq y684 t687 t690 t691 x32_8 = some r) ∧ Aside0 (kq ≤ k) ∧ Aside0 (Kd.R k44 44 wc w.heap.size (fun _ => True) (.slice Ao13 y684.length co13) y684) ∧ Aside0 (Kd.R (Kd.int .i64) 3 wc w.heap.size (fun _ => True) (.slice Ao14 t687.length co14) t687) ∧ Aside0 (Below w.heap.size w wc))
    case first =>
     as_aux_lemma =>
     have H := HC9.out
     clear HC9
     replace H := Option.bind_eq_some_iff.mp H
     obtain ⟨t692, A160, H⟩ := H
     replace H : (if t692 = 0 then (galloonlaw06_ShuffleJoins.j0 k y684 t687 t690 t691 true) else ((galloonref06_Left.f k y684 t687).bind fun t693 => (galloonlaw06_ShuffleJoins.j0 k y684 t687 t690 t691 (!t693)))) = some r := H
     have A16 := Aside0.mk A160
     clear A160
     by_cases c17 : t692 = 0
     ·
      rw [if_pos c17] at H
      have c17b0 : (t692 == 0) = true := beq_iff_eq.mpr c17
      have c17b1 : (t692 != 0) = false := bne_eq_false_iff_eq.mpr c17
      clear c17
      (first | rw [c17b0] | (simp only [i64_w, i32_w]; rw [c17b0]) | skip)
      have H' := Aside0.mk H
      clear H
      go_wp2_with (first | ((with_reducible refine gate_callee (f := 45) rfl ?_); refine goesL_ (some 25) rfl rfl Try.func45 (by kernel_rfl) rfl #[.slice Ao13 y684.length co13] rfl (by (try simp only [List.map_toArray, List.map_cons, List.map_nil]); first | done | rfl | (simp only [List.length_drop, List.length_take]; rfl)) ?_; (with_reducible refine (galloonref06_Product.calls k _ _ y684 t692 _ ?side1 ?side2 A16.out).mono ?_); (case side1 => repeat (first | exact (Kd.R_reads' HO686.out).2.2 | (with_reducible refine Kd.C_alloc ?_ _) | (with_reducible refine Kd.C_drewN ?_ _) | (with_reducible refine Kd.C_drew ?_))); (case side2 => exact (Kd.R_reads' HO686.out).2.1); rintro e w' ⟨rfl, ⟨nd, rfl⟩⟩; refine ⟨_, rfl, ?_⟩))
      go_meet
      case rel => exact ⟨_, (true), (by first | rfl | (simp; done) | (simp [*]; done)), H', ⟨by first | omega | exact Nat.le_refl _⟩, ⟨by (with_reducible repeat (first | apply Kd.R_alloc | apply Kd.R_drewN | apply Kd.R_drew)); exact HO686.out⟩, ⟨by (with_reducible repeat (first | apply Kd.R_alloc | apply Kd.R_drewN | apply Kd.R_drew)); exact HO689.out⟩, ⟨by repeat (first | (with_reducible first | exact HB.out | apply below_alloc | apply pw_below_drewN | apply below_drew1) | exact HB.out)⟩⟩
     ·
      rw [if_neg c17] at H
      have c17b0 : (t692 == 0) = false := beq_eq_false_iff_ne.mpr c17
      have c17b1 : (t692 != 0) = true := bne_iff_ne.mpr c17
      (first | rw [c17b0] | (simp only [i64_w, i32_w]; rw [c17b0]) | skip)
      replace H := Option.bind_eq_some_iff.mp H
      obtain ⟨t693, A180, H⟩ := H
      replace H : (galloonlaw06_ShuffleJoins.j0 k y684 t687 t690 t691 (!t693)) = some r := H
      have A18 := Aside0.mk A180
      clear A180
      have H' := Aside0.mk H
      clear H
      go_wp2_with (first | ((with_reducible refine gate_callee (f := 45) rfl ?_); refine goesL_ (some 25) rfl rfl Try.func45 (by kernel_rfl) rfl #[.slice Ao13 y684.length co13] rfl (by (try simp only [List.map_toArray, List.map_cons, List.map_nil]); first | done | rfl | (simp only [List.length_drop, List.length_take]; rfl)) ?_; (with_reducible refine (galloonref06_Product.calls k _ _ y684 t692 _ ?side1 ?side2 A16.out).mono ?_); (case side1 => repeat (first | exact (Kd.R_reads' HO686.out).2.2 | (with_reducible refine Kd.C_alloc ?_ _) | (with_reducible refine Kd.C_drewN ?_ _) | (with_reducible refine Kd.C_drew ?_))); (case side2 => exact (Kd.R_reads' HO686.out).2.1); rintro e w' ⟨rfl, ⟨nd, rfl⟩⟩; refine ⟨_, rfl, ?_⟩) | (go_at_call 46; (with_reducible refine (galloonref06_Left.calls k _ _ y684 _ _ t687 t693 _ ?side1 ?side2 ?side3 ?side4 A18.out).mono ?_); (case side1 => repeat (first | exact (Kd.R_reads' HO686.out).2.2 | (with_reducible refine Kd.C_alloc ?_ _) | (with_reducible refine Kd.C_drewN ?_ _) | (with_reducible refine Kd.C_drew ?_))); (case side2 => exact (Kd.R_reads' HO686.out).2.1); (case side3 => repeat (first | exact (Kd.R_reads' HO689.out).2.2 | (with_reducible refine Kd.C_alloc ?_ _) | (with_reducible refine Kd.C_drewN ?_ _) | (with_reducible refine Kd.C_drew ?_))); (case side4 => exact (Kd.R_reads' HO689.out).2.1); rintro e w' ⟨rfl, ⟨nd, rfl⟩⟩))
      go_meet
      case rel => exact ⟨_, (!t693), (by first | rfl | (simp; done) | (simp [*]; done)), H', ⟨by first | omega | exact Nat.le_refl _⟩, ⟨by (with_reducible repeat (first | apply Kd.R_alloc | apply Kd.R_drewN | apply Kd.R_drew)); exact HO686.out⟩, ⟨by (with_reducible repeat (first | apply Kd.R_alloc | apply Kd.R_drewN | apply Kd.R_drew)); exact HO689.out⟩, ⟨by repeat (first | (with_reducible first | exact HB.out | apply below_alloc | apply pw_below_drewN | apply below_drew1) | exact HB.out)⟩⟩
    case rest =>
     as_aux_lemma =>
     clear HC9
     try clear c1
     try clear q1
     try clear c2
     try clear p2
     try clear c4
     try clear c4b0
     try clear c4b1
     try clear c5
     try clear c5b0
     try clear c5b1
     try clear c6
     try clear q10
     try clear c12
     try clear c17
     try clear c17b0
     try clear c17b1
     try clear q10
     obtain ⟨kq, x32_8, rfl, HA, HJ8, HO_5, HO_6, HB⟩ := hcut
     cases kq with
     | zero => exact absurd HA.out (by simp [galloonlaw06_ShuffleJoins.j0])
     | succ kj8 =>
      have H := HA.out
      clear HA
      simp only [galloonlaw06_ShuffleJoins.j0] at H
      by_cases c19 : x32_8 = true
      ·
       subst c19
       have H1 : (if t690 = 0 then (if t691 = 2 then ((galloonlaw06_awake.f kj8).bind fun t694 => (some t694)) else (none)) else (none)) = some r := by rw [if_pos rfl] at H; exact H
       clear H
       have H := H1
       clear H1
       by_cases c20 : t690 = 0
       ·
        rw [if_pos c20] at H
        have c20b0 : (t690 == 0) = true := beq_iff_eq.mpr c20
        have c20b1 : (t690 != 0) = false := bne_eq_false_iff_eq.mpr c20
        clear c20
        by_cases c21 : t691 = 2
        ·
         rw [if_pos c21] at H
         have c21b0 : (t691 == 2) = true := beq_iff_eq.mpr c21
         have c21b1 : (t691 != 2) = false := bne_eq_false_iff_eq.mpr c21
         clear c21
         replace H := Option.bind_eq_some_iff.mp H
         obtain ⟨t694, A220, H⟩ := H
         replace H : (some t694) = some r := H
         have A22 := Aside0.mk A220
         clear A220
         obtain rfl := Option.some.inj H
         go_wp2_with (first | (go_at_call 19; (with_reducible refine (galloonlaw06_awake.calls kj8  t694 _ A22.out).mono ?_); rintro e w23 ⟨rfl, hb⟩; have n0_ := Aside0.mk (Kd.R_below (by (with_reducible repeat (first | apply Kd.R_alloc | apply Kd.R_drewN | apply Kd.R_drew)); exact HO_5.out) hb); have n1_ := Aside0.mk (Kd.R_below (by (with_reducible repeat (first | apply Kd.R_alloc | apply Kd.R_drewN | apply Kd.R_drew)); exact HO_6.out) hb); have n2_ := Aside0.mk (below_step (by repeat (first | (with_reducible first | exact HB.out | apply below_alloc | apply pw_below_drewN | apply below_drew1) | exact HB.out)) hb); clear HO_5; clear HO_6; clear HB; have HO_5 := n0_; have HO_6 := n1_; have HB := n2_; clear n0_ n1_ n2_; (try clear hb); (try clear hb2); (try clear hk); (try clear hi)))
         go_ret
         exact ⟨by first | rfl | (simp [errW_none, errW_some] <;> rfl) | (simp only [← hji3]; first | rfl | (simp [errW_none, errW_some] <;> rfl)) | (simp [*, errW_none, errW_some] <;> rfl), by repeat (first | (with_reducible first | exact HB.out | apply below_alloc | apply pw_below_drewN | apply below_drew1) | exact HB.out)⟩
        ·
         rw [if_neg c21] at H
         exact absurd H (by simp)
       ·
        rw [if_neg c20] at H
        exact absurd H (by simp)
      ·
       replace c19 := Bool.eq_false_iff.mpr c19
       subst c19
       have H1 : ((galloonref06_Joined.f kj8 y684 t687).bind fun t695 => (if t690 = t695 then (if t691 = 0 then ((galloonlaw06_awake.f kj8).bind fun t696 => (some t696)) else (none)) else (none))) = some r := by rw [if_neg (show ¬ (false = true) by decide)] at H; exact H
       clear H
       have H := H1
       clear H1
       replace H := Option.bind_eq_some_iff.mp H
       obtain ⟨t695, A240, H⟩ := H
       replace H : (if t690 = t695 then (if t691 = 0 then ((galloonlaw06_awake.f kj8).bind fun t696 => (some t696)) else (none)) else (none)) = some r := H
       have A24 := Aside0.mk A240
       clear A240
       by_cases c25 : t690 = t695
       ·
        rw [if_pos c25] at H
        have c25b0 : (t690 == t695) = true := beq_iff_eq.mpr c25
        have c25b1 : (t690 != t695) = false := bne_eq_false_iff_eq.mpr c25
        clear c25
        by_cases c26 : t691 = 0
        ·
         rw [if_pos c26] at H
         have c26b0 : (t691 == 0) = true := beq_iff_eq.mpr c26
         have c26b1 : (t691 != 0) = false := bne_eq_false_iff_eq.mpr c26
         clear c26
         replace H := Option.bind_eq_some_iff.mp H
         obtain ⟨t696, A270, H⟩ := H
         replace H : (some t696) = some r := H
         have A27 := Aside0.mk A270
         clear A270
         obtain rfl := Option.some.inj H
         go_wp2_with (first | ((with_reducible refine gate_callee (f := 47) rfl ?_); refine goesL_ (some 45) rfl rfl Try.func47 (by kernel_rfl) rfl #[.slice Ao13 y684.length co13, .slice Ao14 t687.length co14] rfl (by (try simp only [List.map_toArray, List.map_cons, List.map_nil]); first | done | rfl | (simp only [List.length_drop, List.length_take]; rfl)) ?_; (with_reducible refine (galloonref06_Joined.calls kj8 _ _ y684 _ _ t687 t695 _ ?side1 ?side2 ?side3 ?side4 A24.out).mono ?_); (case side1 => repeat (first | exact (Kd.R_reads' HO_5.out).2.2 | (with_reducible refine Kd.C_alloc ?_ _) | (with_reducible refine Kd.C_drewN ?_ _) | (with_reducible refine Kd.C_drew ?_))); (case side2 => exact (Kd.R_reads' HO_5.out).2.1); (case side3 => repeat (first | exact (Kd.R_reads' HO_6.out).2.2 | (with_reducible refine Kd.C_alloc ?_ _) | (with_reducible refine Kd.C_drewN ?_ _) | (with_reducible refine Kd.C_drew ?_))); (case side4 => exact (Kd.R_reads' HO_6.out).2.1); rintro e w' ⟨rfl, ⟨nd, rfl⟩⟩; refine ⟨_, rfl, ?_⟩) | (go_at_call 19; (with_reducible refine (galloonlaw06_awake.calls kj8  t696 _ A27.out).mono ?_); rintro e w28 ⟨rfl, hb⟩; have n0_ := Aside0.mk (Kd.R_below (by (with_reducible repeat (first | apply Kd.R_alloc | apply Kd.R_drewN | apply Kd.R_drew)); exact HO_5.out) hb); have n1_ := Aside0.mk (Kd.R_below (by (with_reducible repeat (first | apply Kd.R_alloc | apply Kd.R_drewN | apply Kd.R_drew)); exact HO_6.out) hb); have n2_ := Aside0.mk (below_step (by repeat (first | (with_reducible first | exact HB.out | apply below_alloc | apply pw_below_drewN | apply below_drew1) | exact HB.out)) hb); clear HO_5; clear HO_6; clear HB; have HO_5 := n0_; have HO_6 := n1_; have HB := n2_; clear n0_ n1_ n2_; (try clear hb); (try clear hb2); (try clear hk); (try clear hi)))
         go_ret
         exact ⟨by first | rfl | (simp [errW_none, errW_some] <;> rfl) | (simp only [← hji3]; first | rfl | (simp [errW_none, errW_some] <;> rfl)) | (simp [*, errW_none, errW_some] <;> rfl), by repeat (first | (with_reducible first | exact HB.out | apply below_alloc | apply pw_below_drewN | apply below_drew1) | exact HB.out)⟩
        ·
         rw [if_neg c26] at H
         exact absurd H (by simp)
       ·
        rw [if_neg c25] at H
        exact absurd H (by simp)
   ·
    rw [if_neg c6] at H
    exact absurd H (by simp)
  ·
   rw [if_neg c5] at H
   exact absurd H (by simp)
 ·
  rw [if_neg c4] at H
  exact absurd H (by simp)

end Go.Proofs.Ytkjjnfbgcdanmaa.P
