-- Written by a program of this session (wip/xprint.py), over the kit's print; some sections by hand.
import Derived.Test.YtoecbchfdgbliaaBx0
import Derived.Test.YtoecbchfdgbliaaBx1
import Derived.Test.YtoecbchfdgbliaaBx2
import Derived.Test.YtoecbchfdgbliaaHandI
namespace Go.Proofs.Ytoecbchfdgbliaa.B
open Go.RowKit Go.Proofs.YtoecbchfdgbliaaW.PrintWords Go.Proofs.YtoecbchfdgbliaaW.PrintLast Go.Proofs.YtoecbchfdgbliaaW.PrintMore
attribute [local go_sem] max2_int min2_int max_two min_two max_three min_three max_four min_four   -- for this text's walks alone
set_option linter.unusedVariables false
set_option linter.unusedSimpArgs false

-- NOT PRINTED: function 72 (remnant_fit)

/-! ### remnant_never: function 73 -/
def remnant_never.f (a0 : Int) (a1 : Int) : Option (Bool) := some false
set_option maxHeartbeats 8000000 in
set_option maxRecDepth 100000 in
theorem remnant_never.calls (a0 : Int) (a1 : Int) (r : Bool) (w : World) (h : remnant_never.f a0 a1 = some r) :
  Calls Try.prog 73 #[.int .i64 a0, .int .i64 a1] w fun e w' => e = .returned (.bool r) ∧ Drawn0 w w' := by
 have H : (some false) = some r := h
 clear h
 obtain rfl := Option.some.inj H
 go_enter Try.func73, Try.ntmps73
 go_wp2
 go_ret
 exact ⟨by first | rfl | (simp; done) | (simp [*]; done), by repeat (first | exact Drawn0.refl _ | apply Drawn0.step)⟩

/-! ### remnant_First: function 45 -/
def remnant_First.f (k : Nat) (a0 : Int) (l1 : List Int) : Option (List Int × Int) := (remnant_arePieces.f a0 l1).bind fun t160 => (if t160 = true then ((remnant_inOrder.f k l1).bind fun t161 => ((fitNever.f a0 l1 t161).bind fun t164 => (some (t164, 0)))) else (some (([] : List Int), 2)))
theorem remnant_First.mono : ∀ a0 a1 k, LeO (remnant_First.f k a0 a1) (remnant_First.f (k + 1) a0 a1) := by
 intro a0 a1 k
 unfold remnant_First.f
 repeat' first
   | (with_reducible exact remnant_inOrder.mono _ _)
   | (with_reducible exact LeO.refl _)
   | (with_reducible exact LeO.none _)
   | (with_reducible refine LeO.ite ?_ ?_)
   | (with_reducible refine LeO.bind ?_ (fun _ => ?_))
   | exact remnant_inOrder.mono _ _
   | exact LeO.none _
   | refine LeO.ite ?_ ?_
   | refine LeO.bind ?_ (fun _ => ?_)
set_option maxHeartbeats 8000000 in
set_option maxRecDepth 100000 in
theorem remnant_First.calls (k : Nat) (a0 : Int) (A1 : Option Addr) (c1 : Nat) (l1 : List Int) (r1 : List Int) (r2 : Int) (w : World) (hr1 : Kd.C (Kd.int .i64) w A1 l1.length l1) (hc1 : l1.length ≤ c1) (h : remnant_First.f k a0 l1 = some (r1, r2)) :
  Calls Try.prog 45 #[.int .i64 a0, .slice A1 l1.length c1] w fun e w' => ∃ v0_ : Value, e = .returned (.tuple #[v0_, .int .i64 r2]) ∧ Kd.R (Kd.int .i64) 3 w' w.heap.size (fun _ => True) v0_ r1 ∧ Below w.heap.size w w' := by
 have HR1 := Aside0.mk hr1
 have HC1 := Aside0.mk hc1
 clear hr1 hc1
 have HB := Aside0.mk (Below.refl w.heap.size w)
 have H : ((remnant_arePieces.f a0 l1).bind fun t160 => (if t160 = true then ((remnant_inOrder.f k l1).bind fun t161 => ((fitNever.f a0 l1 t161).bind fun t164 => (some (t164, 0)))) else (some (([] : List Int), 2)))) = some (r1, r2) := h
 clear h
 replace H := Option.bind_eq_some_iff.mp H
 obtain ⟨t160, A30, H⟩ := H
 replace H : (if t160 = true then ((remnant_inOrder.f k l1).bind fun t161 => ((fitNever.f a0 l1 t161).bind fun t164 => (some (t164, 0)))) else (some (([] : List Int), 2))) = some (r1, r2) := H
 have A3 := Aside0.mk A30
 clear A30
 by_cases c4 : t160 = true
 ·
  subst c4
  have H1 : ((remnant_inOrder.f k l1).bind fun t161 => ((fitNever.f a0 l1 t161).bind fun t164 => (some (t164, 0)))) = some (r1, r2) := by rw [if_pos rfl] at H; exact H
  clear H
  have H := H1
  clear H1
  replace H := Option.bind_eq_some_iff.mp H
  obtain ⟨t161, A50, H⟩ := H
  replace H : ((fitNever.f a0 l1 t161).bind fun t164 => (some (t164, 0))) = some (r1, r2) := H
  have A5 := Aside0.mk A50
  clear A50
  replace H := Option.bind_eq_some_iff.mp H
  obtain ⟨t164, A60, H⟩ := H
  replace H : (some (t164, 0)) = some (r1, r2) := H
  have A6 := Aside0.mk A60
  clear A60
  simp only [Option.some.injEq, Prod.mk.injEq] at H
  obtain ⟨rfl, rfl⟩ := H
  go_enter Try.func45, Try.ntmps45
  go_wp2_with (first | ((with_reducible refine gate_callee (f := 53) rfl ?_); refine goesL_ (some 8) rfl rfl Try.func53 (by kernel_rfl) rfl #[.int .i64 a0, .slice A1 l1.length c1] rfl (by (try simp only [List.map_toArray, List.map_cons, List.map_nil]); first | done | rfl | (simp only [List.length_drop, List.length_take]; rfl)) ?_; (with_reducible refine (remnant_arePieces.calls a0 _ _ l1 true _ ?side1 ?side2 A3.out).mono ?_); (case side1 => repeat (first | exact HR1.out | (with_reducible refine Kd.C_alloc ?_ _) | (with_reducible refine Kd.C_drewN ?_ _) | (with_reducible refine Kd.C_drew ?_))); (case side2 => exact HC1.out); rintro e w7 ⟨rfl, hb⟩; refine ⟨_, rfl, ?_⟩; have n0_ := Aside0.mk (below_step (by repeat (first | (with_reducible first | exact HB.out | apply below_alloc | apply pw_below_drewN | apply below_drew1) | exact HB.out)) hb); clear HB; have HB := n0_; clear n0_; (try clear hb); (try clear hb2); (try clear hk); (try clear hi)) | ((with_reducible refine gate_callee (f := 57) rfl ?_); refine goesL_ (some 13) rfl rfl Try.func57 (by kernel_rfl) rfl #[.slice A1 l1.length c1] rfl (by (try simp only [List.map_toArray, List.map_cons, List.map_nil]); first | done | rfl | (simp only [List.length_drop, List.length_take]; rfl)) ?_; (with_reducible refine (remnant_inOrder.calls k _ _ l1 t161 _ ?side1 ?side2 A5.out).mono ?_); (case side1 => repeat (first | exact (Kd.C_below HR1.out HB.out) | (with_reducible refine Kd.C_alloc ?_ _) | (with_reducible refine Kd.C_drewN ?_ _) | (with_reducible refine Kd.C_drew ?_))); (case side2 => exact HC1.out); rintro e w8 ⟨v162, rfl, ho0, hb⟩; refine ⟨_, rfl, ?_⟩; have n0_ := Aside0.mk (Kd.R_lower ho0 (below_size (by repeat (first | (with_reducible first | exact HB.out | apply below_alloc | apply pw_below_drewN | apply below_drew1) | exact HB.out)))); have n1_ := Aside0.mk (below_step (by repeat (first | (with_reducible first | exact HB.out | apply below_alloc | apply pw_below_drewN | apply below_drew1) | exact HB.out)) hb); clear HB; have HO163 := n0_; have HB := n1_; clear n0_ n1_; (try clear hb); (try clear hb2); (try clear hk); (try clear hi); (try clear ho0); obtain ⟨Ao9, co9, eo9⟩ := Kd.R_slice HO163.out; subst eo9) | ((with_reducible refine gate_callee (f := 72) rfl ?_); refine goesL_ (some 14) rfl rfl Try.func72 (by kernel_rfl) rfl #[.int .i64 a0, .slice A1 l1.length c1, .slice Ao9 t161.length co9, .func (.func 73) #[] #[]] rfl (by (try simp only [List.map_toArray, List.map_cons, List.map_nil]); first | done | rfl | (simp only [List.length_drop, List.length_take]; rfl)) ?_; (with_reducible refine (fitNever.calls a0 _ _ l1 _ _ t161 t164 _ ?side1 ?side2 ?side3 ?side4 A6.out).mono ?_); (case side1 => repeat (first | exact (Kd.C_below HR1.out HB.out) | (with_reducible refine Kd.C_alloc ?_ _) | (with_reducible refine Kd.C_drewN ?_ _) | (with_reducible refine Kd.C_drew ?_))); (case side2 => exact HC1.out); (case side3 => repeat (first | exact (Kd.R_reads' HO163.out).2.2 | (with_reducible refine Kd.C_alloc ?_ _) | (with_reducible refine Kd.C_drewN ?_ _) | (with_reducible refine Kd.C_drew ?_))); (case side4 => exact (Kd.R_reads' HO163.out).2.1); rintro e w10 ⟨v165, rfl, ho0, hb⟩; refine ⟨_, rfl, ?_⟩; have n0_ := Aside0.mk (Kd.R_elder' (by (with_reducible repeat (first | apply Kd.R_alloc | apply Kd.R_drewN | apply Kd.R_drew)); exact HO163.out) (Kd.R_base ho0) hb); have n1_ := Aside0.mk (Kd.R_lower (Kd.R_new' ho0 (Kd.R_lt (by (with_reducible repeat (first | apply Kd.R_alloc | apply Kd.R_drewN | apply Kd.R_drew)); exact HO163.out))) (below_size (by repeat (first | (with_reducible first | exact HB.out | apply below_alloc | apply pw_below_drewN | apply below_drew1) | exact HB.out)))); have n2_ := Aside0.mk (below_step (by repeat (first | (with_reducible first | exact HB.out | apply below_alloc | apply pw_below_drewN | apply below_drew1) | exact HB.out)) hb); clear HO163; clear HB; have HO163 := n0_; have HO166 := n1_; have HB := n2_; clear n0_ n1_ n2_; (try clear hb); (try clear hb2); (try clear hk); (try clear hi); (try clear ho0)))
  go_ret2
  exact ⟨_, by first | rfl | (simp [errW_none, errW_some] <;> rfl) | (simp [*, errW_none, errW_some] <;> rfl), by (with_reducible repeat (first | apply Kd.R_alloc | apply Kd.R_drewN | apply Kd.R_drew)); exact Kd.R_mono HO166.out (fun _ hk => trivial), by repeat (first | (with_reducible first | exact HB.out | apply below_alloc | apply pw_below_drewN | apply below_drew1) | exact HB.out)⟩
 ·
  replace c4 := Bool.eq_false_iff.mpr c4
  subst c4
  have H1 : (some (([] : List Int), 2)) = some (r1, r2) := by rw [if_neg (show ¬ (false = true) by decide)] at H; exact H
  clear H
  have H := H1
  clear H1
  simp only [Option.some.injEq, Prod.mk.injEq] at H
  obtain ⟨rfl, rfl⟩ := H
  go_enter Try.func45, Try.ntmps45
  go_wp2_with (first | ((with_reducible refine gate_callee (f := 53) rfl ?_); refine goesL_ (some 8) rfl rfl Try.func53 (by kernel_rfl) rfl #[.int .i64 a0, .slice A1 l1.length c1] rfl (by (try simp only [List.map_toArray, List.map_cons, List.map_nil]); first | done | rfl | (simp only [List.length_drop, List.length_take]; rfl)) ?_; (with_reducible refine (remnant_arePieces.calls a0 _ _ l1 false _ ?side1 ?side2 A3.out).mono ?_); (case side1 => repeat (first | exact HR1.out | (with_reducible refine Kd.C_alloc ?_ _) | (with_reducible refine Kd.C_drewN ?_ _) | (with_reducible refine Kd.C_drew ?_))); (case side2 => exact HC1.out); rintro e w11 ⟨rfl, hb⟩; refine ⟨_, rfl, ?_⟩; have n0_ := Aside0.mk (below_step (by repeat (first | (with_reducible first | exact HB.out | apply below_alloc | apply pw_below_drewN | apply below_drew1) | exact HB.out)) hb); clear HB; have HB := n0_; clear n0_; (try clear hb); (try clear hb2); (try clear hk); (try clear hi)))
  go_ret2
  exact ⟨_, by first | rfl | (simp [errW_none, errW_some] <;> rfl) | (simp [*, errW_none, errW_some] <;> rfl), by first | exact Kd.R_nil _ _ _ _ _ | exact Kd.N_nil _ _ _ _ _ | exact Kd.V_nil _ _ _ _ _ | exact Kd.Q_nil _ _ _ _ _ | exact Kd.S_nil _ _ _ _ _, by repeat (first | (with_reducible first | exact HB.out | apply below_alloc | apply pw_below_drewN | apply below_drew1) | exact HB.out)⟩

/-! ### galloonlaw09_awake: function 19 -/
def galloonlaw09_awake.f (k : Nat)  : Option (Bool) := (remnant_First.f k 10 (([6, 5, 4, 5] : List Int))).bind fun bt170 => ((remnant_Weight.f k 10 (([6, 5, 4, 5] : List Int))).bind fun bt177 => ((remnant_Fill.f k 10 (([4, 4, 4] : List Int))).bind fun bt183 => ((remnant_Split.f (([3, 1, 2] : List Int))).bind fun bt191 => (if bt170.2 = 0 then ((galloonlaw09_ints.f k bt170.1 (([0, 1, 0, 1] : List Int))).bind fun t199 => (if t199 = true then (if bt177.2.2 = 0 then (if bt177.1 = 2 then (if bt177.2.1 = 0 then (if bt183.2.2 = 0 then (if bt183.2.1 = 1 then ((galloonlaw09_ints.f k bt183.1 (([0, 0, 0] : List Int))).bind fun t203 => (if t203 = true then (if bt191.2.2 = 0 then ((galloonlaw09_ints.f k bt191.1 (([0] : List Int))).bind fun t207 => (if t207 = true then (if bt191.2.1 = 0 then (some true) else (none)) else (none))) else (none)) else (none))) else (none)) else (none)) else (none)) else (none)) else (none)) else (none))) else (none)))))
theorem galloonlaw09_awake.mono : ∀ k, LeO (galloonlaw09_awake.f k ) (galloonlaw09_awake.f (k + 1) ) := by
 intro  k
 unfold galloonlaw09_awake.f
 repeat' first
   | (with_reducible exact galloonlaw09_ints.mono _ _ _)
   | (with_reducible exact remnant_Fill.mono _ _ _)
   | (with_reducible exact remnant_First.mono _ _ _)
   | (with_reducible exact remnant_Weight.mono _ _ _)
   | (with_reducible exact LeO.refl _)
   | (with_reducible exact LeO.none _)
   | (with_reducible refine LeO.ite ?_ ?_)
   | (with_reducible refine LeO.bind ?_ (fun _ => ?_))
   | exact galloonlaw09_ints.mono _ _ _
   | exact remnant_Fill.mono _ _ _
   | exact remnant_First.mono _ _ _
   | exact remnant_Weight.mono _ _ _
   | exact LeO.none _
   | refine LeO.ite ?_ ?_
   | refine LeO.bind ?_ (fun _ => ?_)
set_option maxHeartbeats 8000000 in
set_option maxRecDepth 100000 in
theorem galloonlaw09_awake.calls (k : Nat)  (r : Bool) (w : World) (h : galloonlaw09_awake.f k  = some r) :
  Calls Try.prog 19 #[] w fun e w' => e = .returned (.bool r) ∧ Below w.heap.size w w' := by
 have HB := Aside0.mk (Below.refl w.heap.size w)
 have H : ((remnant_First.f k 10 (([6, 5, 4, 5] : List Int))).bind fun bt170 => ((remnant_Weight.f k 10 (([6, 5, 4, 5] : List Int))).bind fun bt177 => ((remnant_Fill.f k 10 (([4, 4, 4] : List Int))).bind fun bt183 => ((remnant_Split.f (([3, 1, 2] : List Int))).bind fun bt191 => (if bt170.2 = 0 then ((galloonlaw09_ints.f k bt170.1 (([0, 1, 0, 1] : List Int))).bind fun t199 => (if t199 = true then (if bt177.2.2 = 0 then (if bt177.1 = 2 then (if bt177.2.1 = 0 then (if bt183.2.2 = 0 then (if bt183.2.1 = 1 then ((galloonlaw09_ints.f k bt183.1 (([0, 0, 0] : List Int))).bind fun t203 => (if t203 = true then (if bt191.2.2 = 0 then ((galloonlaw09_ints.f k bt191.1 (([0] : List Int))).bind fun t207 => (if t207 = true then (if bt191.2.1 = 0 then (some true) else (none)) else (none))) else (none)) else (none))) else (none)) else (none)) else (none)) else (none)) else (none)) else (none))) else (none)))))) = some r := h
 clear h
 obtain ⟨y167, hy167⟩ : ∃ y_ : List Int, y_ = (([6, 5, 4, 5] : List Int)) := ⟨_, rfl⟩
 replace H : ((remnant_First.f k 10 y167).bind fun bt170 => ((remnant_Weight.f k 10 (([6, 5, 4, 5] : List Int))).bind fun bt177 => ((remnant_Fill.f k 10 (([4, 4, 4] : List Int))).bind fun bt183 => ((remnant_Split.f (([3, 1, 2] : List Int))).bind fun bt191 => (if bt170.2 = 0 then ((galloonlaw09_ints.f k bt170.1 (([0, 1, 0, 1] : List Int))).bind fun t199 => (if t199 = true then (if bt177.2.2 = 0 then (if bt177.1 = 2 then (if bt177.2.1 = 0 then (if bt183.2.2 = 0 then (if bt183.2.1 = 1 then ((galloonlaw09_ints.f k bt183.1 (([0, 0, 0] : List Int))).bind fun t203 => (if t203 = true then (if bt191.2.2 = 0 then ((galloonlaw09_ints.f k bt191.1 (([0] : List Int))).bind fun t207 => (if t207 = true then (if bt191.2.1 = 0 then (some true) else (none)) else (none))) else (none)) else (none))) else (none)) else (none)) else (none)) else (none)) else (none)) else (none))) else (none)))))) = some r := by first | (rw [hy167]; with_reducible exact H) | (have H2_ := (Option.bind_some _ _).symm.trans H; rw [hy167]; with_reducible exact H2_) | (have H2_ := (Option.bind_some _ _).symm.trans H; with_reducible exact H2_) | with_reducible exact H | (rw [hy167]; exact H) | exact H
 have Ny167 := Aside0.mk hy167
 clear hy167
 replace H := Option.bind_eq_some_iff.mp H
 obtain ⟨⟨t170, t171⟩, A10, H⟩ := H
 replace H : ((remnant_Weight.f k 10 (([6, 5, 4, 5] : List Int))).bind fun bt177 => ((remnant_Fill.f k 10 (([4, 4, 4] : List Int))).bind fun bt183 => ((remnant_Split.f (([3, 1, 2] : List Int))).bind fun bt191 => (if t171 = 0 then ((galloonlaw09_ints.f k t170 (([0, 1, 0, 1] : List Int))).bind fun t199 => (if t199 = true then (if bt177.2.2 = 0 then (if bt177.1 = 2 then (if bt177.2.1 = 0 then (if bt183.2.2 = 0 then (if bt183.2.1 = 1 then ((galloonlaw09_ints.f k bt183.1 (([0, 0, 0] : List Int))).bind fun t203 => (if t203 = true then (if bt191.2.2 = 0 then ((galloonlaw09_ints.f k bt191.1 (([0] : List Int))).bind fun t207 => (if t207 = true then (if bt191.2.1 = 0 then (some true) else (none)) else (none))) else (none)) else (none))) else (none)) else (none)) else (none)) else (none)) else (none)) else (none))) else (none))))) = some r := H
 have A1 := Aside0.mk A10
 clear A10
 obtain ⟨y174, hy174⟩ : ∃ y_ : List Int, y_ = (([6, 5, 4, 5] : List Int)) := ⟨_, rfl⟩
 replace H : ((remnant_Weight.f k 10 y174).bind fun bt177 => ((remnant_Fill.f k 10 (([4, 4, 4] : List Int))).bind fun bt183 => ((remnant_Split.f (([3, 1, 2] : List Int))).bind fun bt191 => (if t171 = 0 then ((galloonlaw09_ints.f k t170 (([0, 1, 0, 1] : List Int))).bind fun t199 => (if t199 = true then (if bt177.2.2 = 0 then (if bt177.1 = 2 then (if bt177.2.1 = 0 then (if bt183.2.2 = 0 then (if bt183.2.1 = 1 then ((galloonlaw09_ints.f k bt183.1 (([0, 0, 0] : List Int))).bind fun t203 => (if t203 = true then (if bt191.2.2 = 0 then ((galloonlaw09_ints.f k bt191.1 (([0] : List Int))).bind fun t207 => (if t207 = true then (if bt191.2.1 = 0 then (some true) else (none)) else (none))) else (none)) else (none))) else (none)) else (none)) else (none)) else (none)) else (none)) else (none))) else (none))))) = some r := by first | (rw [hy174]; with_reducible exact H) | (have H2_ := (Option.bind_some _ _).symm.trans H; rw [hy174]; with_reducible exact H2_) | (have H2_ := (Option.bind_some _ _).symm.trans H; with_reducible exact H2_) | with_reducible exact H | (rw [hy174]; exact H) | exact H
 have Ny174 := Aside0.mk hy174
 clear hy174
 replace H := Option.bind_eq_some_iff.mp H
 obtain ⟨⟨t177, t178, t179⟩, A20, H⟩ := H
 replace H : ((remnant_Fill.f k 10 (([4, 4, 4] : List Int))).bind fun bt183 => ((remnant_Split.f (([3, 1, 2] : List Int))).bind fun bt191 => (if t171 = 0 then ((galloonlaw09_ints.f k t170 (([0, 1, 0, 1] : List Int))).bind fun t199 => (if t199 = true then (if t179 = 0 then (if t177 = 2 then (if t178 = 0 then (if bt183.2.2 = 0 then (if bt183.2.1 = 1 then ((galloonlaw09_ints.f k bt183.1 (([0, 0, 0] : List Int))).bind fun t203 => (if t203 = true then (if bt191.2.2 = 0 then ((galloonlaw09_ints.f k bt191.1 (([0] : List Int))).bind fun t207 => (if t207 = true then (if bt191.2.1 = 0 then (some true) else (none)) else (none))) else (none)) else (none))) else (none)) else (none)) else (none)) else (none)) else (none)) else (none))) else (none)))) = some r := H
 have A2 := Aside0.mk A20
 clear A20
 obtain ⟨y180, hy180⟩ : ∃ y_ : List Int, y_ = (([4, 4, 4] : List Int)) := ⟨_, rfl⟩
 replace H : ((remnant_Fill.f k 10 y180).bind fun bt183 => ((remnant_Split.f (([3, 1, 2] : List Int))).bind fun bt191 => (if t171 = 0 then ((galloonlaw09_ints.f k t170 (([0, 1, 0, 1] : List Int))).bind fun t199 => (if t199 = true then (if t179 = 0 then (if t177 = 2 then (if t178 = 0 then (if bt183.2.2 = 0 then (if bt183.2.1 = 1 then ((galloonlaw09_ints.f k bt183.1 (([0, 0, 0] : List Int))).bind fun t203 => (if t203 = true then (if bt191.2.2 = 0 then ((galloonlaw09_ints.f k bt191.1 (([0] : List Int))).bind fun t207 => (if t207 = true then (if bt191.2.1 = 0 then (some true) else (none)) else (none))) else (none)) else (none))) else (none)) else (none)) else (none)) else (none)) else (none)) else (none))) else (none)))) = some r := by first | (rw [hy180]; with_reducible exact H) | (have H2_ := (Option.bind_some _ _).symm.trans H; rw [hy180]; with_reducible exact H2_) | (have H2_ := (Option.bind_some _ _).symm.trans H; with_reducible exact H2_) | with_reducible exact H | (rw [hy180]; exact H) | exact H
 have Ny180 := Aside0.mk hy180
 clear hy180
 replace H := Option.bind_eq_some_iff.mp H
 obtain ⟨⟨t183, t184, t185⟩, A30, H⟩ := H
 replace H : ((remnant_Split.f (([3, 1, 2] : List Int))).bind fun bt191 => (if t171 = 0 then ((galloonlaw09_ints.f k t170 (([0, 1, 0, 1] : List Int))).bind fun t199 => (if t199 = true then (if t179 = 0 then (if t177 = 2 then (if t178 = 0 then (if t185 = 0 then (if t184 = 1 then ((galloonlaw09_ints.f k t183 (([0, 0, 0] : List Int))).bind fun t203 => (if t203 = true then (if bt191.2.2 = 0 then ((galloonlaw09_ints.f k bt191.1 (([0] : List Int))).bind fun t207 => (if t207 = true then (if bt191.2.1 = 0 then (some true) else (none)) else (none))) else (none)) else (none))) else (none)) else (none)) else (none)) else (none)) else (none)) else (none))) else (none))) = some r := H
 have A3 := Aside0.mk A30
 clear A30
 obtain ⟨y188, hy188⟩ : ∃ y_ : List Int, y_ = (([3, 1, 2] : List Int)) := ⟨_, rfl⟩
 replace H : ((remnant_Split.f y188).bind fun bt191 => (if t171 = 0 then ((galloonlaw09_ints.f k t170 (([0, 1, 0, 1] : List Int))).bind fun t199 => (if t199 = true then (if t179 = 0 then (if t177 = 2 then (if t178 = 0 then (if t185 = 0 then (if t184 = 1 then ((galloonlaw09_ints.f k t183 (([0, 0, 0] : List Int))).bind fun t203 => (if t203 = true then (if bt191.2.2 = 0 then ((galloonlaw09_ints.f k bt191.1 (([0] : List Int))).bind fun t207 => (if t207 = true then (if bt191.2.1 = 0 then (some true) else (none)) else (none))) else (none)) else (none))) else (none)) else (none)) else (none)) else (none)) else (none)) else (none))) else (none))) = some r := by first | (rw [hy188]; with_reducible exact H) | (have H2_ := (Option.bind_some _ _).symm.trans H; rw [hy188]; with_reducible exact H2_) | (have H2_ := (Option.bind_some _ _).symm.trans H; with_reducible exact H2_) | with_reducible exact H | (rw [hy188]; exact H) | exact H
 have Ny188 := Aside0.mk hy188
 clear hy188
 replace H := Option.bind_eq_some_iff.mp H
 obtain ⟨⟨t191, t192, t193⟩, A40, H⟩ := H
 replace H : (if t171 = 0 then ((galloonlaw09_ints.f k t170 (([0, 1, 0, 1] : List Int))).bind fun t199 => (if t199 = true then (if t179 = 0 then (if t177 = 2 then (if t178 = 0 then (if t185 = 0 then (if t184 = 1 then ((galloonlaw09_ints.f k t183 (([0, 0, 0] : List Int))).bind fun t203 => (if t203 = true then (if t193 = 0 then ((galloonlaw09_ints.f k t191 (([0] : List Int))).bind fun t207 => (if t207 = true then (if t192 = 0 then (some true) else (none)) else (none))) else (none)) else (none))) else (none)) else (none)) else (none)) else (none)) else (none)) else (none))) else (none)) = some r := H
 have A4 := Aside0.mk A40
 clear A40
 by_cases c5 : t171 = 0
 ·
  rw [if_pos c5] at H
  have c5b0 : (t171 == 0) = true := beq_iff_eq.mpr c5
  have c5b1 : (t171 != 0) = false := bne_eq_false_iff_eq.mpr c5
  clear c5
  obtain ⟨y196, hy196⟩ : ∃ y_ : List Int, y_ = (([0, 1, 0, 1] : List Int)) := ⟨_, rfl⟩
  replace H : ((galloonlaw09_ints.f k t170 y196).bind fun t199 => (if t199 = true then (if t179 = 0 then (if t177 = 2 then (if t178 = 0 then (if t185 = 0 then (if t184 = 1 then ((galloonlaw09_ints.f k t183 (([0, 0, 0] : List Int))).bind fun t203 => (if t203 = true then (if t193 = 0 then ((galloonlaw09_ints.f k t191 (([0] : List Int))).bind fun t207 => (if t207 = true then (if t192 = 0 then (some true) else (none)) else (none))) else (none)) else (none))) else (none)) else (none)) else (none)) else (none)) else (none)) else (none))) = some r := by first | (rw [hy196]; with_reducible exact H) | (have H2_ := (Option.bind_some _ _).symm.trans H; rw [hy196]; with_reducible exact H2_) | (have H2_ := (Option.bind_some _ _).symm.trans H; with_reducible exact H2_) | with_reducible exact H | (rw [hy196]; exact H) | exact H
  have Ny196 := Aside0.mk hy196
  clear hy196
  replace H := Option.bind_eq_some_iff.mp H
  obtain ⟨t199, A60, H⟩ := H
  replace H : (if t199 = true then (if t179 = 0 then (if t177 = 2 then (if t178 = 0 then (if t185 = 0 then (if t184 = 1 then ((galloonlaw09_ints.f k t183 (([0, 0, 0] : List Int))).bind fun t203 => (if t203 = true then (if t193 = 0 then ((galloonlaw09_ints.f k t191 (([0] : List Int))).bind fun t207 => (if t207 = true then (if t192 = 0 then (some true) else (none)) else (none))) else (none)) else (none))) else (none)) else (none)) else (none)) else (none)) else (none)) else (none)) = some r := H
  have A6 := Aside0.mk A60
  clear A60
  by_cases c7 : t199 = true
  ·
   subst c7
   have H1 : (if t179 = 0 then (if t177 = 2 then (if t178 = 0 then (if t185 = 0 then (if t184 = 1 then ((galloonlaw09_ints.f k t183 (([0, 0, 0] : List Int))).bind fun t203 => (if t203 = true then (if t193 = 0 then ((galloonlaw09_ints.f k t191 (([0] : List Int))).bind fun t207 => (if t207 = true then (if t192 = 0 then (some true) else (none)) else (none))) else (none)) else (none))) else (none)) else (none)) else (none)) else (none)) else (none)) = some r := by rw [if_pos rfl] at H; exact H
   clear H
   have H := H1
   clear H1
   by_cases c8 : t179 = 0
   ·
    rw [if_pos c8] at H
    have c8b0 : (t179 == 0) = true := beq_iff_eq.mpr c8
    have c8b1 : (t179 != 0) = false := bne_eq_false_iff_eq.mpr c8
    clear c8
    by_cases c9 : t177 = 2
    ·
     rw [if_pos c9] at H
     have c9b0 : (t177 == 2) = true := beq_iff_eq.mpr c9
     have c9b1 : (t177 != 2) = false := bne_eq_false_iff_eq.mpr c9
     clear c9
     by_cases c10 : t178 = 0
     ·
      rw [if_pos c10] at H
      have c10b0 : (t178 == 0) = true := beq_iff_eq.mpr c10
      have c10b1 : (t178 != 0) = false := bne_eq_false_iff_eq.mpr c10
      clear c10
      by_cases c11 : t185 = 0
      ·
       rw [if_pos c11] at H
       have c11b0 : (t185 == 0) = true := beq_iff_eq.mpr c11
       have c11b1 : (t185 != 0) = false := bne_eq_false_iff_eq.mpr c11
       clear c11
       by_cases c12 : t184 = 1
       ·
        rw [if_pos c12] at H
        have c12b0 : (t184 == 1) = true := beq_iff_eq.mpr c12
        have c12b1 : (t184 != 1) = false := bne_eq_false_iff_eq.mpr c12
        clear c12
        obtain ⟨y200, hy200⟩ : ∃ y_ : List Int, y_ = (([0, 0, 0] : List Int)) := ⟨_, rfl⟩
        replace H : ((galloonlaw09_ints.f k t183 y200).bind fun t203 => (if t203 = true then (if t193 = 0 then ((galloonlaw09_ints.f k t191 (([0] : List Int))).bind fun t207 => (if t207 = true then (if t192 = 0 then (some true) else (none)) else (none))) else (none)) else (none))) = some r := by first | (rw [hy200]; with_reducible exact H) | (have H2_ := (Option.bind_some _ _).symm.trans H; rw [hy200]; with_reducible exact H2_) | (have H2_ := (Option.bind_some _ _).symm.trans H; with_reducible exact H2_) | with_reducible exact H | (rw [hy200]; exact H) | exact H
        have Ny200 := Aside0.mk hy200
        clear hy200
        replace H := Option.bind_eq_some_iff.mp H
        obtain ⟨t203, A130, H⟩ := H
        replace H : (if t203 = true then (if t193 = 0 then ((galloonlaw09_ints.f k t191 (([0] : List Int))).bind fun t207 => (if t207 = true then (if t192 = 0 then (some true) else (none)) else (none))) else (none)) else (none)) = some r := H
        have A13 := Aside0.mk A130
        clear A130
        by_cases c14 : t203 = true
        ·
         subst c14
         have H1 : (if t193 = 0 then ((galloonlaw09_ints.f k t191 (([0] : List Int))).bind fun t207 => (if t207 = true then (if t192 = 0 then (some true) else (none)) else (none))) else (none)) = some r := by rw [if_pos rfl] at H; exact H
         clear H
         have H := H1
         clear H1
         by_cases c15 : t193 = 0
         ·
          rw [if_pos c15] at H
          have c15b0 : (t193 == 0) = true := beq_iff_eq.mpr c15
          have c15b1 : (t193 != 0) = false := bne_eq_false_iff_eq.mpr c15
          clear c15
          obtain ⟨y204, hy204⟩ : ∃ y_ : List Int, y_ = (([0] : List Int)) := ⟨_, rfl⟩
          replace H : ((galloonlaw09_ints.f k t191 y204).bind fun t207 => (if t207 = true then (if t192 = 0 then (some true) else (none)) else (none))) = some r := by first | (rw [hy204]; with_reducible exact H) | (have H2_ := (Option.bind_some _ _).symm.trans H; rw [hy204]; with_reducible exact H2_) | (have H2_ := (Option.bind_some _ _).symm.trans H; with_reducible exact H2_) | with_reducible exact H | (rw [hy204]; exact H) | exact H
          have Ny204 := Aside0.mk hy204
          clear hy204
          replace H := Option.bind_eq_some_iff.mp H
          obtain ⟨t207, A160, H⟩ := H
          replace H : (if t207 = true then (if t192 = 0 then (some true) else (none)) else (none)) = some r := H
          have A16 := Aside0.mk A160
          clear A160
          by_cases c17 : t207 = true
          ·
           subst c17
           have H1 : (if t192 = 0 then (some true) else (none)) = some r := by rw [if_pos rfl] at H; exact H
           clear H
           have H := H1
           clear H1
           by_cases c18 : t192 = 0
           ·
            rw [if_pos c18] at H
            have c18b0 : (t192 == 0) = true := beq_iff_eq.mpr c18
            have c18b1 : (t192 != 0) = false := bne_eq_false_iff_eq.mpr c18
            clear c18
            obtain rfl := Option.some.inj H
            go_enter Try.func19, Try.ntmps19
            go_wp2_with (first | ((with_reducible refine gate_dst (N := 13) rfl ?_); (try (refine gate_guard (by rfl) ?_; dsimp only)); refine Kd.R_lit (Kd.int .i64) _ 3 ?hg (N := 13) ?hd (xs := ([6, 5, 4, 5] : List Int)) (inner := [.int .i64 6, .int .i64 5, .int .i64 4, .int .i64 5]) (ok := fun _ => True) (okp := fun _ => True) ?hr ?hp (fun _ hk => hk) trivial (Below.refl _ _) (Nat.le_refl _) (by simp) ?_; (case hd => rfl); (case hg => rfl); (case hr => first | (go_simp; done) | (go_simp; rfl)); (case hp => exact (Reps.one (show Kd.M (Kd.int .i64) _ _ _ 6 [.int .i64 6] from rfl) (Reps.one (show Kd.M (Kd.int .i64) _ _ _ 5 [.int .i64 5] from rfl) (Reps.one (show Kd.M (Kd.int .i64) _ _ _ 4 [.int .i64 4] from rfl) (Reps.one (show Kd.M (Kd.int .i64) _ _ _ 5 [.int .i64 5] from rfl) (Reps.none _ _)))))); intro v168 w19 ho20 hb hg_ hnew_; clear hg_ hnew_; (first | rw [← Ny167.out] at ho20 | (simp only [Int.reduceToNat] at ho20; rw [← Ny167.out] at ho20)); have n0_ := Aside0.mk (Kd.R_lower ho20 (below_size (by repeat (first | (with_reducible first | exact HB.out | apply below_alloc | apply pw_below_drewN | apply below_drew1) | exact HB.out)))); have n1_ := Aside0.mk (below_step (by repeat (first | (with_reducible first | exact HB.out | apply below_alloc | apply pw_below_drewN | apply below_drew1) | exact HB.out)) hb); clear HB; have HO169 := n0_; have HB := n1_; clear n0_ n1_; clear hb ho20; obtain ⟨Ao21, co21, eo21⟩ := Kd.R_slice HO169.out; subst eo21) | ((with_reducible refine gate_callee (f := 45) rfl ?_); refine goesL_ (some 14) rfl rfl Try.func45 (by kernel_rfl) rfl #[.int .i64 10, .slice Ao21 y167.length co21] rfl (by (try simp only [List.map_toArray, List.map_cons, List.map_nil]); first | done | rfl | (simp only [List.length_drop, List.length_take]; rfl)) ?_; (with_reducible refine (remnant_First.calls k 10 _ _ y167 t170 t171 _ ?side1 ?side2 A1.out).mono ?_); (case side1 => repeat (first | exact (Kd.R_reads' HO169.out).2.2 | (with_reducible refine Kd.C_alloc ?_ _) | (with_reducible refine Kd.C_drewN ?_ _) | (with_reducible refine Kd.C_drew ?_))); (case side2 => exact (Kd.R_reads' HO169.out).2.1); rintro e w22 ⟨v172, rfl, ho0, hb⟩; refine ⟨_, rfl, ?_⟩; have n0_ := Aside0.mk (Kd.R_elder' (by (with_reducible repeat (first | apply Kd.R_alloc | apply Kd.R_drewN | apply Kd.R_drew)); exact HO169.out) (Kd.R_base ho0) hb); have n1_ := Aside0.mk (Kd.R_lower (Kd.R_new' ho0 (Kd.R_lt (by (with_reducible repeat (first | apply Kd.R_alloc | apply Kd.R_drewN | apply Kd.R_drew)); exact HO169.out))) (below_size (by repeat (first | (with_reducible first | exact HB.out | apply below_alloc | apply pw_below_drewN | apply below_drew1) | exact HB.out)))); have n2_ := Aside0.mk (below_step (by repeat (first | (with_reducible first | exact HB.out | apply below_alloc | apply pw_below_drewN | apply below_drew1) | exact HB.out)) hb); clear HO169; clear HB; have HO169 := n0_; have HO173 := n1_; have HB := n2_; clear n0_ n1_ n2_; (try clear hb); (try clear hb2); (try clear hk); (try clear hi); (try clear ho0)) | ((with_reducible refine gate_dst (N := 18) rfl ?_); (try (refine gate_guard (by rfl) ?_; dsimp only)); refine Kd.R_lit (Kd.int .i64) _ 3 ?hg (N := 18) ?hd (xs := ([6, 5, 4, 5] : List Int)) (inner := [.int .i64 6, .int .i64 5, .int .i64 4, .int .i64 5]) (ok := fun _ => True) (okp := fun _ => True) ?hr ?hp (fun _ hk => hk) trivial (Below.refl _ _) (Nat.le_refl _) (by simp) ?_; (case hd => rfl); (case hg => rfl); (case hr => first | (go_simp; done) | (go_simp; rfl)); (case hp => exact (Reps.one (show Kd.M (Kd.int .i64) _ _ _ 6 [.int .i64 6] from rfl) (Reps.one (show Kd.M (Kd.int .i64) _ _ _ 5 [.int .i64 5] from rfl) (Reps.one (show Kd.M (Kd.int .i64) _ _ _ 4 [.int .i64 4] from rfl) (Reps.one (show Kd.M (Kd.int .i64) _ _ _ 5 [.int .i64 5] from rfl) (Reps.none _ _)))))); intro v175 w23 ho24 hb hg_ hnew_; clear hg_ hnew_; (first | rw [← Ny174.out] at ho24 | (simp only [Int.reduceToNat] at ho24; rw [← Ny174.out] at ho24)); have n0_ := Aside0.mk (Kd.R_elder' (by (with_reducible repeat (first | apply Kd.R_alloc | apply Kd.R_drewN | apply Kd.R_drew)); exact HO169.out) (Kd.R_base ho24) hb); have n1_ := Aside0.mk (Kd.R_elder' (by (with_reducible repeat (first | apply Kd.R_alloc | apply Kd.R_drewN | apply Kd.R_drew)); exact HO173.out) (Kd.R_base ho24) hb); have n2_ := Aside0.mk (Kd.R_lower (Kd.R_new' (Kd.R_new' ho24 (Kd.R_lt (by (with_reducible repeat (first | apply Kd.R_alloc | apply Kd.R_drewN | apply Kd.R_drew)); exact HO169.out))) (Kd.R_lt (by (with_reducible repeat (first | apply Kd.R_alloc | apply Kd.R_drewN | apply Kd.R_drew)); exact HO173.out))) (below_size (by repeat (first | (with_reducible first | exact HB.out | apply below_alloc | apply pw_below_drewN | apply below_drew1) | exact HB.out)))); have n3_ := Aside0.mk (below_step (by repeat (first | (with_reducible first | exact HB.out | apply below_alloc | apply pw_below_drewN | apply below_drew1) | exact HB.out)) hb); clear HO169; clear HO173; clear HB; have HO169 := n0_; have HO173 := n1_; have HO176 := n2_; have HB := n3_; clear n0_ n1_ n2_ n3_; clear hb ho24; obtain ⟨Ao25, co25, eo25⟩ := Kd.R_slice HO176.out; subst eo25) | ((with_reducible refine gate_callee (f := 17) rfl ?_); refine goesL_ (some 19) rfl rfl Try.func17 (by kernel_rfl) rfl #[.int .i64 10, .slice Ao25 y174.length co25] rfl (by (try simp only [List.map_toArray, List.map_cons, List.map_nil]); first | done | rfl | (simp only [List.length_drop, List.length_take]; rfl)) ?_; (with_reducible refine (remnant_Weight.calls k 10 _ _ y174 t177 t178 t179 _ ?side1 ?side2 A2.out).mono ?_); (case side1 => repeat (first | exact (Kd.R_reads' HO176.out).2.2 | (with_reducible refine Kd.C_alloc ?_ _) | (with_reducible refine Kd.C_drewN ?_ _) | (with_reducible refine Kd.C_drew ?_))); (case side2 => exact (Kd.R_reads' HO176.out).2.1); rintro e w26 ⟨rfl, hb⟩; refine ⟨_, rfl, ?_⟩; have n0_ := Aside0.mk (Kd.R_below (by (with_reducible repeat (first | apply Kd.R_alloc | apply Kd.R_drewN | apply Kd.R_drew)); exact HO169.out) hb); have n1_ := Aside0.mk (Kd.R_below (by (with_reducible repeat (first | apply Kd.R_alloc | apply Kd.R_drewN | apply Kd.R_drew)); exact HO173.out) hb); have n2_ := Aside0.mk (Kd.R_below (by (with_reducible repeat (first | apply Kd.R_alloc | apply Kd.R_drewN | apply Kd.R_drew)); exact HO176.out) hb); have n3_ := Aside0.mk (below_step (by repeat (first | (with_reducible first | exact HB.out | apply below_alloc | apply pw_below_drewN | apply below_drew1) | exact HB.out)) hb); clear HO169; clear HO173; clear HO176; clear HB; have HO169 := n0_; have HO173 := n1_; have HO176 := n2_; have HB := n3_; clear n0_ n1_ n2_ n3_; (try clear hb); (try clear hb2); (try clear hk); (try clear hi)) | ((with_reducible refine gate_dst (N := 24) rfl ?_); (try (refine gate_guard (by rfl) ?_; dsimp only)); refine Kd.R_lit (Kd.int .i64) _ 3 ?hg (N := 24) ?hd (xs := ([4, 4, 4] : List Int)) (inner := [.int .i64 4, .int .i64 4, .int .i64 4]) (ok := fun _ => True) (okp := fun _ => True) ?hr ?hp (fun _ hk => hk) trivial (Below.refl _ _) (Nat.le_refl _) (by simp) ?_; (case hd => rfl); (case hg => rfl); (case hr => first | (go_simp; done) | (go_simp; rfl)); (case hp => exact (Reps.one (show Kd.M (Kd.int .i64) _ _ _ 4 [.int .i64 4] from rfl) (Reps.one (show Kd.M (Kd.int .i64) _ _ _ 4 [.int .i64 4] from rfl) (Reps.one (show Kd.M (Kd.int .i64) _ _ _ 4 [.int .i64 4] from rfl) (Reps.none _ _))))); intro v181 w27 ho28 hb hg_ hnew_; clear hg_ hnew_; (first | rw [← Ny180.out] at ho28 | (simp only [Int.reduceToNat] at ho28; rw [← Ny180.out] at ho28)); have n0_ := Aside0.mk (Kd.R_elder' (by (with_reducible repeat (first | apply Kd.R_alloc | apply Kd.R_drewN | apply Kd.R_drew)); exact HO169.out) (Kd.R_base ho28) hb); have n1_ := Aside0.mk (Kd.R_elder' (by (with_reducible repeat (first | apply Kd.R_alloc | apply Kd.R_drewN | apply Kd.R_drew)); exact HO173.out) (Kd.R_base ho28) hb); have n2_ := Aside0.mk (Kd.R_elder' (by (with_reducible repeat (first | apply Kd.R_alloc | apply Kd.R_drewN | apply Kd.R_drew)); exact HO176.out) (Kd.R_base ho28) hb); have n3_ := Aside0.mk (Kd.R_lower (Kd.R_new' (Kd.R_new' (Kd.R_new' ho28 (Kd.R_lt (by (with_reducible repeat (first | apply Kd.R_alloc | apply Kd.R_drewN | apply Kd.R_drew)); exact HO169.out))) (Kd.R_lt (by (with_reducible repeat (first | apply Kd.R_alloc | apply Kd.R_drewN | apply Kd.R_drew)); exact HO173.out))) (Kd.R_lt (by (with_reducible repeat (first | apply Kd.R_alloc | apply Kd.R_drewN | apply Kd.R_drew)); exact HO176.out))) (below_size (by repeat (first | (with_reducible first | exact HB.out | apply below_alloc | apply pw_below_drewN | apply below_drew1) | exact HB.out)))); have n4_ := Aside0.mk (below_step (by repeat (first | (with_reducible first | exact HB.out | apply below_alloc | apply pw_below_drewN | apply below_drew1) | exact HB.out)) hb); clear HO169; clear HO173; clear HO176; clear HB; have HO169 := n0_; have HO173 := n1_; have HO176 := n2_; have HO182 := n3_; have HB := n4_; clear n0_ n1_ n2_ n3_ n4_; clear hb ho28; obtain ⟨Ao29, co29, eo29⟩ := Kd.R_slice HO182.out; subst eo29) | ((with_reducible refine gate_callee (f := 31) rfl ?_); refine goesL_ (some 25) rfl rfl Try.func31 (by kernel_rfl) rfl #[.int .i64 10, .slice Ao29 y180.length co29] rfl (by (try simp only [List.map_toArray, List.map_cons, List.map_nil]); first | done | rfl | (simp only [List.length_drop, List.length_take]; rfl)) ?_; (with_reducible refine (remnant_Fill.calls k 10 _ _ y180 t183 t184 t185 _ ?side1 ?side2 A3.out).mono ?_); (case side1 => repeat (first | exact (Kd.R_reads' HO182.out).2.2 | (with_reducible refine Kd.C_alloc ?_ _) | (with_reducible refine Kd.C_drewN ?_ _) | (with_reducible refine Kd.C_drew ?_))); (case side2 => exact (Kd.R_reads' HO182.out).2.1); rintro e w30 ⟨v186, rfl, ho0, hb⟩; refine ⟨_, rfl, ?_⟩; have n0_ := Aside0.mk (Kd.R_elder' (by (with_reducible repeat (first | apply Kd.R_alloc | apply Kd.R_drewN | apply Kd.R_drew)); exact HO169.out) (Kd.R_base ho0) hb); have n1_ := Aside0.mk (Kd.R_elder' (by (with_reducible repeat (first | apply Kd.R_alloc | apply Kd.R_drewN | apply Kd.R_drew)); exact HO173.out) (Kd.R_base ho0) hb); have n2_ := Aside0.mk (Kd.R_elder' (by (with_reducible repeat (first | apply Kd.R_alloc | apply Kd.R_drewN | apply Kd.R_drew)); exact HO176.out) (Kd.R_base ho0) hb); have n3_ := Aside0.mk (Kd.R_elder' (by (with_reducible repeat (first | apply Kd.R_alloc | apply Kd.R_drewN | apply Kd.R_drew)); exact HO182.out) (Kd.R_base ho0) hb); have n4_ := Aside0.mk (Kd.R_lower (Kd.R_new' (Kd.R_new' (Kd.R_new' (Kd.R_new' ho0 (Kd.R_lt (by (with_reducible repeat (first | apply Kd.R_alloc | apply Kd.R_drewN | apply Kd.R_drew)); exact HO169.out))) (Kd.R_lt (by (with_reducible repeat (first | apply Kd.R_alloc | apply Kd.R_drewN | apply Kd.R_drew)); exact HO173.out))) (Kd.R_lt (by (with_reducible repeat (first | apply Kd.R_alloc | apply Kd.R_drewN | apply Kd.R_drew)); exact HO176.out))) (Kd.R_lt (by (with_reducible repeat (first | apply Kd.R_alloc | apply Kd.R_drewN | apply Kd.R_drew)); exact HO182.out))) (below_size (by repeat (first | (with_reducible first | exact HB.out | apply below_alloc | apply pw_below_drewN | apply below_drew1) | exact HB.out)))); have n5_ := Aside0.mk (below_step (by repeat (first | (with_reducible first | exact HB.out | apply below_alloc | apply pw_below_drewN | apply below_drew1) | exact HB.out)) hb); clear HO169; clear HO173; clear HO176; clear HO182; clear HB; have HO169 := n0_; have HO173 := n1_; have HO176 := n2_; have HO182 := n3_; have HO187 := n4_; have HB := n5_; clear n0_ n1_ n2_ n3_ n4_ n5_; (try clear hb); (try clear hb2); (try clear hk); (try clear hi); (try clear ho0)) | ((with_reducible refine gate_dst (N := 30) rfl ?_); (try (refine gate_guard (by rfl) ?_; dsimp only)); refine Kd.R_lit (Kd.int .i64) _ 3 ?hg (N := 30) ?hd (xs := ([3, 1, 2] : List Int)) (inner := [.int .i64 3, .int .i64 1, .int .i64 2]) (ok := fun _ => True) (okp := fun _ => True) ?hr ?hp (fun _ hk => hk) trivial (Below.refl _ _) (Nat.le_refl _) (by simp) ?_; (case hd => rfl); (case hg => rfl); (case hr => first | (go_simp; done) | (go_simp; rfl)); (case hp => exact (Reps.one (show Kd.M (Kd.int .i64) _ _ _ 3 [.int .i64 3] from rfl) (Reps.one (show Kd.M (Kd.int .i64) _ _ _ 1 [.int .i64 1] from rfl) (Reps.one (show Kd.M (Kd.int .i64) _ _ _ 2 [.int .i64 2] from rfl) (Reps.none _ _))))); intro v189 w31 ho32 hb hg_ hnew_; clear hg_ hnew_; (first | rw [← Ny188.out] at ho32 | (simp only [Int.reduceToNat] at ho32; rw [← Ny188.out] at ho32)); have n0_ := Aside0.mk (Kd.R_elder' (by (with_reducible repeat (first | apply Kd.R_alloc | apply Kd.R_drewN | apply Kd.R_drew)); exact HO169.out) (Kd.R_base ho32) hb); have n1_ := Aside0.mk (Kd.R_elder' (by (with_reducible repeat (first | apply Kd.R_alloc | apply Kd.R_drewN | apply Kd.R_drew)); exact HO173.out) (Kd.R_base ho32) hb); have n2_ := Aside0.mk (Kd.R_elder' (by (with_reducible repeat (first | apply Kd.R_alloc | apply Kd.R_drewN | apply Kd.R_drew)); exact HO176.out) (Kd.R_base ho32) hb); have n3_ := Aside0.mk (Kd.R_elder' (by (with_reducible repeat (first | apply Kd.R_alloc | apply Kd.R_drewN | apply Kd.R_drew)); exact HO182.out) (Kd.R_base ho32) hb); have n4_ := Aside0.mk (Kd.R_elder' (by (with_reducible repeat (first | apply Kd.R_alloc | apply Kd.R_drewN | apply Kd.R_drew)); exact HO187.out) (Kd.R_base ho32) hb); have n5_ := Aside0.mk (Kd.R_lower (Kd.R_new' (Kd.R_new' (Kd.R_new' (Kd.R_new' (Kd.R_new' ho32 (Kd.R_lt (by (with_reducible repeat (first | apply Kd.R_alloc | apply Kd.R_drewN | apply Kd.R_drew)); exact HO169.out))) (Kd.R_lt (by (with_reducible repeat (first | apply Kd.R_alloc | apply Kd.R_drewN | apply Kd.R_drew)); exact HO173.out))) (Kd.R_lt (by (with_reducible repeat (first | apply Kd.R_alloc | apply Kd.R_drewN | apply Kd.R_drew)); exact HO176.out))) (Kd.R_lt (by (with_reducible repeat (first | apply Kd.R_alloc | apply Kd.R_drewN | apply Kd.R_drew)); exact HO182.out))) (Kd.R_lt (by (with_reducible repeat (first | apply Kd.R_alloc | apply Kd.R_drewN | apply Kd.R_drew)); exact HO187.out))) (below_size (by repeat (first | (with_reducible first | exact HB.out | apply below_alloc | apply pw_below_drewN | apply below_drew1) | exact HB.out)))); have n6_ := Aside0.mk (below_step (by repeat (first | (with_reducible first | exact HB.out | apply below_alloc | apply pw_below_drewN | apply below_drew1) | exact HB.out)) hb); clear HO169; clear HO173; clear HO176; clear HO182; clear HO187; clear HB; have HO169 := n0_; have HO173 := n1_; have HO176 := n2_; have HO182 := n3_; have HO187 := n4_; have HO190 := n5_; have HB := n6_; clear n0_ n1_ n2_ n3_ n4_ n5_ n6_; clear hb ho32; obtain ⟨Ao33, co33, eo33⟩ := Kd.R_slice HO190.out; subst eo33) | ((with_reducible refine gate_callee (f := 22) rfl ?_); refine goesL_ (some 31) rfl rfl Try.func22 (by kernel_rfl) rfl #[.slice Ao33 y188.length co33] rfl (by (try simp only [List.map_toArray, List.map_cons, List.map_nil]); first | done | rfl | (simp only [List.length_drop, List.length_take]; rfl)) ?_; (with_reducible refine (remnant_Split.calls _ _ y188 t191 t192 t193 _ ?side1 ?side2 A4.out).mono ?_); (case side1 => repeat (first | exact (Kd.R_reads' HO190.out).2.2 | (with_reducible refine Kd.C_alloc ?_ _) | (with_reducible refine Kd.C_drewN ?_ _) | (with_reducible refine Kd.C_drew ?_))); (case side2 => exact (Kd.R_reads' HO190.out).2.1); rintro e w34 ⟨v194, rfl, ho0, hb⟩; refine ⟨_, rfl, ?_⟩; have n0_ := Aside0.mk (Kd.R_elder' (by (with_reducible repeat (first | apply Kd.R_alloc | apply Kd.R_drewN | apply Kd.R_drew)); exact HO169.out) (Kd.R_base ho0) hb); have n1_ := Aside0.mk (Kd.R_elder' (by (with_reducible repeat (first | apply Kd.R_alloc | apply Kd.R_drewN | apply Kd.R_drew)); exact HO173.out) (Kd.R_base ho0) hb); have n2_ := Aside0.mk (Kd.R_elder' (by (with_reducible repeat (first | apply Kd.R_alloc | apply Kd.R_drewN | apply Kd.R_drew)); exact HO176.out) (Kd.R_base ho0) hb); have n3_ := Aside0.mk (Kd.R_elder' (by (with_reducible repeat (first | apply Kd.R_alloc | apply Kd.R_drewN | apply Kd.R_drew)); exact HO182.out) (Kd.R_base ho0) hb); have n4_ := Aside0.mk (Kd.R_elder' (by (with_reducible repeat (first | apply Kd.R_alloc | apply Kd.R_drewN | apply Kd.R_drew)); exact HO187.out) (Kd.R_base ho0) hb); have n5_ := Aside0.mk (Kd.R_elder' (by (with_reducible repeat (first | apply Kd.R_alloc | apply Kd.R_drewN | apply Kd.R_drew)); exact HO190.out) (Kd.R_base ho0) hb); have n6_ := Aside0.mk (Kd.R_lower (Kd.R_new' (Kd.R_new' (Kd.R_new' (Kd.R_new' (Kd.R_new' (Kd.R_new' ho0 (Kd.R_lt (by (with_reducible repeat (first | apply Kd.R_alloc | apply Kd.R_drewN | apply Kd.R_drew)); exact HO169.out))) (Kd.R_lt (by (with_reducible repeat (first | apply Kd.R_alloc | apply Kd.R_drewN | apply Kd.R_drew)); exact HO173.out))) (Kd.R_lt (by (with_reducible repeat (first | apply Kd.R_alloc | apply Kd.R_drewN | apply Kd.R_drew)); exact HO176.out))) (Kd.R_lt (by (with_reducible repeat (first | apply Kd.R_alloc | apply Kd.R_drewN | apply Kd.R_drew)); exact HO182.out))) (Kd.R_lt (by (with_reducible repeat (first | apply Kd.R_alloc | apply Kd.R_drewN | apply Kd.R_drew)); exact HO187.out))) (Kd.R_lt (by (with_reducible repeat (first | apply Kd.R_alloc | apply Kd.R_drewN | apply Kd.R_drew)); exact HO190.out))) (below_size (by repeat (first | (with_reducible first | exact HB.out | apply below_alloc | apply pw_below_drewN | apply below_drew1) | exact HB.out)))); have n7_ := Aside0.mk (below_step (by repeat (first | (with_reducible first | exact HB.out | apply below_alloc | apply pw_below_drewN | apply below_drew1) | exact HB.out)) hb); clear HO169; clear HO173; clear HO176; clear HO182; clear HO187; clear HO190; clear HB; have HO169 := n0_; have HO173 := n1_; have HO176 := n2_; have HO182 := n3_; have HO187 := n4_; have HO190 := n5_; have HO195 := n6_; have HB := n7_; clear n0_ n1_ n2_ n3_ n4_ n5_ n6_ n7_; (try clear hb); (try clear hb2); (try clear hk); (try clear hi); (try clear ho0)) | ((with_reducible refine gate_dst (N := 39) rfl ?_); (try (refine gate_guard (by rfl) ?_; dsimp only)); refine Kd.R_lit (Kd.int .i64) _ 3 ?hg (N := 39) ?hd (xs := ([0, 1, 0, 1] : List Int)) (inner := [.int .i64 0, .int .i64 1, .int .i64 0, .int .i64 1]) (ok := fun _ => True) (okp := fun _ => True) ?hr ?hp (fun _ hk => hk) trivial (Below.refl _ _) (Nat.le_refl _) (by simp) ?_; (case hd => rfl); (case hg => rfl); (case hr => first | (go_simp; done) | (go_simp; rfl)); (case hp => exact (Reps.one (show Kd.M (Kd.int .i64) _ _ _ 0 [.int .i64 0] from rfl) (Reps.one (show Kd.M (Kd.int .i64) _ _ _ 1 [.int .i64 1] from rfl) (Reps.one (show Kd.M (Kd.int .i64) _ _ _ 0 [.int .i64 0] from rfl) (Reps.one (show Kd.M (Kd.int .i64) _ _ _ 1 [.int .i64 1] from rfl) (Reps.none _ _)))))); intro v197 w35 ho36 hb hg_ hnew_; clear hg_ hnew_; (first | rw [← Ny196.out] at ho36 | (simp only [Int.reduceToNat] at ho36; rw [← Ny196.out] at ho36)); have n0_ := Aside0.mk (Kd.R_elder' (by (with_reducible repeat (first | apply Kd.R_alloc | apply Kd.R_drewN | apply Kd.R_drew)); exact HO169.out) (Kd.R_base ho36) hb); have n1_ := Aside0.mk (Kd.R_elder' (by (with_reducible repeat (first | apply Kd.R_alloc | apply Kd.R_drewN | apply Kd.R_drew)); exact HO173.out) (Kd.R_base ho36) hb); have n2_ := Aside0.mk (Kd.R_elder' (by (with_reducible repeat (first | apply Kd.R_alloc | apply Kd.R_drewN | apply Kd.R_drew)); exact HO176.out) (Kd.R_base ho36) hb); have n3_ := Aside0.mk (Kd.R_elder' (by (with_reducible repeat (first | apply Kd.R_alloc | apply Kd.R_drewN | apply Kd.R_drew)); exact HO182.out) (Kd.R_base ho36) hb); have n4_ := Aside0.mk (Kd.R_elder' (by (with_reducible repeat (first | apply Kd.R_alloc | apply Kd.R_drewN | apply Kd.R_drew)); exact HO187.out) (Kd.R_base ho36) hb); have n5_ := Aside0.mk (Kd.R_elder' (by (with_reducible repeat (first | apply Kd.R_alloc | apply Kd.R_drewN | apply Kd.R_drew)); exact HO190.out) (Kd.R_base ho36) hb); have n6_ := Aside0.mk (Kd.R_elder' (by (with_reducible repeat (first | apply Kd.R_alloc | apply Kd.R_drewN | apply Kd.R_drew)); exact HO195.out) (Kd.R_base ho36) hb); have n7_ := Aside0.mk (Kd.R_lower (Kd.R_new' (Kd.R_new' (Kd.R_new' (Kd.R_new' (Kd.R_new' (Kd.R_new' (Kd.R_new' ho36 (Kd.R_lt (by (with_reducible repeat (first | apply Kd.R_alloc | apply Kd.R_drewN | apply Kd.R_drew)); exact HO169.out))) (Kd.R_lt (by (with_reducible repeat (first | apply Kd.R_alloc | apply Kd.R_drewN | apply Kd.R_drew)); exact HO173.out))) (Kd.R_lt (by (with_reducible repeat (first | apply Kd.R_alloc | apply Kd.R_drewN | apply Kd.R_drew)); exact HO176.out))) (Kd.R_lt (by (with_reducible repeat (first | apply Kd.R_alloc | apply Kd.R_drewN | apply Kd.R_drew)); exact HO182.out))) (Kd.R_lt (by (with_reducible repeat (first | apply Kd.R_alloc | apply Kd.R_drewN | apply Kd.R_drew)); exact HO187.out))) (Kd.R_lt (by (with_reducible repeat (first | apply Kd.R_alloc | apply Kd.R_drewN | apply Kd.R_drew)); exact HO190.out))) (Kd.R_lt (by (with_reducible repeat (first | apply Kd.R_alloc | apply Kd.R_drewN | apply Kd.R_drew)); exact HO195.out))) (below_size (by repeat (first | (with_reducible first | exact HB.out | apply below_alloc | apply pw_below_drewN | apply below_drew1) | exact HB.out)))); have n8_ := Aside0.mk (below_step (by repeat (first | (with_reducible first | exact HB.out | apply below_alloc | apply pw_below_drewN | apply below_drew1) | exact HB.out)) hb); clear HO169; clear HO173; clear HO176; clear HO182; clear HO187; clear HO190; clear HO195; clear HB; have HO169 := n0_; have HO173 := n1_; have HO176 := n2_; have HO182 := n3_; have HO187 := n4_; have HO190 := n5_; have HO195 := n6_; have HO198 := n7_; have HB := n8_; clear n0_ n1_ n2_ n3_ n4_ n5_ n6_ n7_ n8_; clear hb ho36; obtain ⟨Ao37, co37, eo37⟩ := Kd.R_slice HO173.out; subst eo37; obtain ⟨Ao38, co38, eo38⟩ := Kd.R_slice HO198.out; subst eo38) | (go_at_call 25; (with_reducible refine (galloonlaw09_ints.calls k _ _ t170 _ _ y196 true _ ?side1 ?side2 ?side3 ?side4 A6.out).mono ?_); (case side1 => repeat (first | exact (Kd.R_reads' HO173.out).2.2 | (with_reducible refine Kd.C_alloc ?_ _) | (with_reducible refine Kd.C_drewN ?_ _) | (with_reducible refine Kd.C_drew ?_))); (case side2 => exact (Kd.R_reads' HO173.out).2.1); (case side3 => repeat (first | exact (Kd.R_reads' HO198.out).2.2 | (with_reducible refine Kd.C_alloc ?_ _) | (with_reducible refine Kd.C_drewN ?_ _) | (with_reducible refine Kd.C_drew ?_))); (case side4 => exact (Kd.R_reads' HO198.out).2.1); rintro e w' ⟨rfl, ⟨nd, rfl⟩⟩) | ((with_reducible refine gate_dst (N := 65) rfl ?_); (try (refine gate_guard (by rfl) ?_; dsimp only)); refine Kd.R_lit (Kd.int .i64) _ 3 ?hg (N := 65) ?hd (xs := ([0, 0, 0] : List Int)) (inner := [.int .i64 0, .int .i64 0, .int .i64 0]) (ok := fun _ => True) (okp := fun _ => True) ?hr ?hp (fun _ hk => hk) trivial (Below.refl _ _) (Nat.le_refl _) (by simp) ?_; (case hd => rfl); (case hg => rfl); (case hr => first | (go_simp; done) | (go_simp; rfl)); (case hp => exact (Reps.one (show Kd.M (Kd.int .i64) _ _ _ 0 [.int .i64 0] from rfl) (Reps.one (show Kd.M (Kd.int .i64) _ _ _ 0 [.int .i64 0] from rfl) (Reps.one (show Kd.M (Kd.int .i64) _ _ _ 0 [.int .i64 0] from rfl) (Reps.none _ _))))); intro v201 w39 ho40 hb hg_ hnew_; clear hg_ hnew_; (first | rw [← Ny200.out] at ho40 | (simp only [Int.reduceToNat] at ho40; rw [← Ny200.out] at ho40)); have n0_ := Aside0.mk (Kd.R_elder' (by (with_reducible repeat (first | apply Kd.R_alloc | apply Kd.R_drewN | apply Kd.R_drew)); exact HO169.out) (Kd.R_base ho40) hb); have n1_ := Aside0.mk (Kd.R_elder' (by (with_reducible repeat (first | apply Kd.R_alloc | apply Kd.R_drewN | apply Kd.R_drew)); exact HO173.out) (Kd.R_base ho40) hb); have n2_ := Aside0.mk (Kd.R_elder' (by (with_reducible repeat (first | apply Kd.R_alloc | apply Kd.R_drewN | apply Kd.R_drew)); exact HO176.out) (Kd.R_base ho40) hb); have n3_ := Aside0.mk (Kd.R_elder' (by (with_reducible repeat (first | apply Kd.R_alloc | apply Kd.R_drewN | apply Kd.R_drew)); exact HO182.out) (Kd.R_base ho40) hb); have n4_ := Aside0.mk (Kd.R_elder' (by (with_reducible repeat (first | apply Kd.R_alloc | apply Kd.R_drewN | apply Kd.R_drew)); exact HO187.out) (Kd.R_base ho40) hb); have n5_ := Aside0.mk (Kd.R_elder' (by (with_reducible repeat (first | apply Kd.R_alloc | apply Kd.R_drewN | apply Kd.R_drew)); exact HO190.out) (Kd.R_base ho40) hb); have n6_ := Aside0.mk (Kd.R_elder' (by (with_reducible repeat (first | apply Kd.R_alloc | apply Kd.R_drewN | apply Kd.R_drew)); exact HO195.out) (Kd.R_base ho40) hb); have n7_ := Aside0.mk (Kd.R_elder' (by (with_reducible repeat (first | apply Kd.R_alloc | apply Kd.R_drewN | apply Kd.R_drew)); exact HO198.out) (Kd.R_base ho40) hb); have n8_ := Aside0.mk (Kd.R_lower (Kd.R_new' (Kd.R_new' (Kd.R_new' (Kd.R_new' (Kd.R_new' (Kd.R_new' (Kd.R_new' (Kd.R_new' ho40 (Kd.R_lt (by (with_reducible repeat (first | apply Kd.R_alloc | apply Kd.R_drewN | apply Kd.R_drew)); exact HO169.out))) (Kd.R_lt (by (with_reducible repeat (first | apply Kd.R_alloc | apply Kd.R_drewN | apply Kd.R_drew)); exact HO173.out))) (Kd.R_lt (by (with_reducible repeat (first | apply Kd.R_alloc | apply Kd.R_drewN | apply Kd.R_drew)); exact HO176.out))) (Kd.R_lt (by (with_reducible repeat (first | apply Kd.R_alloc | apply Kd.R_drewN | apply Kd.R_drew)); exact HO182.out))) (Kd.R_lt (by (with_reducible repeat (first | apply Kd.R_alloc | apply Kd.R_drewN | apply Kd.R_drew)); exact HO187.out))) (Kd.R_lt (by (with_reducible repeat (first | apply Kd.R_alloc | apply Kd.R_drewN | apply Kd.R_drew)); exact HO190.out))) (Kd.R_lt (by (with_reducible repeat (first | apply Kd.R_alloc | apply Kd.R_drewN | apply Kd.R_drew)); exact HO195.out))) (Kd.R_lt (by (with_reducible repeat (first | apply Kd.R_alloc | apply Kd.R_drewN | apply Kd.R_drew)); exact HO198.out))) (below_size (by repeat (first | (with_reducible first | exact HB.out | apply below_alloc | apply pw_below_drewN | apply below_drew1) | exact HB.out)))); have n9_ := Aside0.mk (below_step (by repeat (first | (with_reducible first | exact HB.out | apply below_alloc | apply pw_below_drewN | apply below_drew1) | exact HB.out)) hb); clear HO169; clear HO173; clear HO176; clear HO182; clear HO187; clear HO190; clear HO195; clear HO198; clear HB; have HO169 := n0_; have HO173 := n1_; have HO176 := n2_; have HO182 := n3_; have HO187 := n4_; have HO190 := n5_; have HO195 := n6_; have HO198 := n7_; have HO202 := n8_; have HB := n9_; clear n0_ n1_ n2_ n3_ n4_ n5_ n6_ n7_ n8_ n9_; clear hb ho40; obtain ⟨Ao41, co41, eo41⟩ := Kd.R_slice HO187.out; subst eo41; obtain ⟨Ao42, co42, eo42⟩ := Kd.R_slice HO202.out; subst eo42) | (go_at_call 25; (with_reducible refine (galloonlaw09_ints.calls k _ _ t183 _ _ y200 true _ ?side1 ?side2 ?side3 ?side4 A13.out).mono ?_); (case side1 => repeat (first | exact (Kd.R_reads' HO187.out).2.2 | (with_reducible refine Kd.C_alloc ?_ _) | (with_reducible refine Kd.C_drewN ?_ _) | (with_reducible refine Kd.C_drew ?_))); (case side2 => exact (Kd.R_reads' HO187.out).2.1); (case side3 => repeat (first | exact (Kd.R_reads' HO202.out).2.2 | (with_reducible refine Kd.C_alloc ?_ _) | (with_reducible refine Kd.C_drewN ?_ _) | (with_reducible refine Kd.C_drew ?_))); (case side4 => exact (Kd.R_reads' HO202.out).2.1); rintro e w' ⟨rfl, ⟨nd, rfl⟩⟩) | ((with_reducible refine gate_dst (N := 75) rfl ?_); (try (refine gate_guard (by rfl) ?_; dsimp only)); refine Kd.R_lit (Kd.int .i64) _ 3 ?hg (N := 75) ?hd (xs := ([0] : List Int)) (inner := [.int .i64 0]) (ok := fun _ => True) (okp := fun _ => True) ?hr ?hp (fun _ hk => hk) trivial (Below.refl _ _) (Nat.le_refl _) (by simp) ?_; (case hd => rfl); (case hg => rfl); (case hr => first | (go_simp; done) | (go_simp; rfl)); (case hp => exact (Reps.one (show Kd.M (Kd.int .i64) _ _ _ 0 [.int .i64 0] from rfl) (Reps.none _ _))); intro v205 w43 ho44 hb hg_ hnew_; clear hg_ hnew_; (first | rw [← Ny204.out] at ho44 | (simp only [Int.reduceToNat] at ho44; rw [← Ny204.out] at ho44)); have n0_ := Aside0.mk (Kd.R_elder' (by (with_reducible repeat (first | apply Kd.R_alloc | apply Kd.R_drewN | apply Kd.R_drew)); exact HO169.out) (Kd.R_base ho44) hb); have n1_ := Aside0.mk (Kd.R_elder' (by (with_reducible repeat (first | apply Kd.R_alloc | apply Kd.R_drewN | apply Kd.R_drew)); exact HO173.out) (Kd.R_base ho44) hb); have n2_ := Aside0.mk (Kd.R_elder' (by (with_reducible repeat (first | apply Kd.R_alloc | apply Kd.R_drewN | apply Kd.R_drew)); exact HO176.out) (Kd.R_base ho44) hb); have n3_ := Aside0.mk (Kd.R_elder' (by (with_reducible repeat (first | apply Kd.R_alloc | apply Kd.R_drewN | apply Kd.R_drew)); exact HO182.out) (Kd.R_base ho44) hb); have n4_ := Aside0.mk (Kd.R_elder' (by (with_reducible repeat (first | apply Kd.R_alloc | apply Kd.R_drewN | apply Kd.R_drew)); exact HO187.out) (Kd.R_base ho44) hb); have n5_ := Aside0.mk (Kd.R_elder' (by (with_reducible repeat (first | apply Kd.R_alloc | apply Kd.R_drewN | apply Kd.R_drew)); exact HO190.out) (Kd.R_base ho44) hb); have n6_ := Aside0.mk (Kd.R_elder' (by (with_reducible repeat (first | apply Kd.R_alloc | apply Kd.R_drewN | apply Kd.R_drew)); exact HO195.out) (Kd.R_base ho44) hb); have n7_ := Aside0.mk (Kd.R_elder' (by (with_reducible repeat (first | apply Kd.R_alloc | apply Kd.R_drewN | apply Kd.R_drew)); exact HO198.out) (Kd.R_base ho44) hb); have n8_ := Aside0.mk (Kd.R_elder' (by (with_reducible repeat (first | apply Kd.R_alloc | apply Kd.R_drewN | apply Kd.R_drew)); exact HO202.out) (Kd.R_base ho44) hb); have n9_ := Aside0.mk (Kd.R_lower (Kd.R_new' (Kd.R_new' (Kd.R_new' (Kd.R_new' (Kd.R_new' (Kd.R_new' (Kd.R_new' (Kd.R_new' (Kd.R_new' ho44 (Kd.R_lt (by (with_reducible repeat (first | apply Kd.R_alloc | apply Kd.R_drewN | apply Kd.R_drew)); exact HO169.out))) (Kd.R_lt (by (with_reducible repeat (first | apply Kd.R_alloc | apply Kd.R_drewN | apply Kd.R_drew)); exact HO173.out))) (Kd.R_lt (by (with_reducible repeat (first | apply Kd.R_alloc | apply Kd.R_drewN | apply Kd.R_drew)); exact HO176.out))) (Kd.R_lt (by (with_reducible repeat (first | apply Kd.R_alloc | apply Kd.R_drewN | apply Kd.R_drew)); exact HO182.out))) (Kd.R_lt (by (with_reducible repeat (first | apply Kd.R_alloc | apply Kd.R_drewN | apply Kd.R_drew)); exact HO187.out))) (Kd.R_lt (by (with_reducible repeat (first | apply Kd.R_alloc | apply Kd.R_drewN | apply Kd.R_drew)); exact HO190.out))) (Kd.R_lt (by (with_reducible repeat (first | apply Kd.R_alloc | apply Kd.R_drewN | apply Kd.R_drew)); exact HO195.out))) (Kd.R_lt (by (with_reducible repeat (first | apply Kd.R_alloc | apply Kd.R_drewN | apply Kd.R_drew)); exact HO198.out))) (Kd.R_lt (by (with_reducible repeat (first | apply Kd.R_alloc | apply Kd.R_drewN | apply Kd.R_drew)); exact HO202.out))) (below_size (by repeat (first | (with_reducible first | exact HB.out | apply below_alloc | apply pw_below_drewN | apply below_drew1) | exact HB.out)))); have n10_ := Aside0.mk (below_step (by repeat (first | (with_reducible first | exact HB.out | apply below_alloc | apply pw_below_drewN | apply below_drew1) | exact HB.out)) hb); clear HO169; clear HO173; clear HO176; clear HO182; clear HO187; clear HO190; clear HO195; clear HO198; clear HO202; clear HB; have HO169 := n0_; have HO173 := n1_; have HO176 := n2_; have HO182 := n3_; have HO187 := n4_; have HO190 := n5_; have HO195 := n6_; have HO198 := n7_; have HO202 := n8_; have HO206 := n9_; have HB := n10_; clear n0_ n1_ n2_ n3_ n4_ n5_ n6_ n7_ n8_ n9_ n10_; clear hb ho44; obtain ⟨Ao45, co45, eo45⟩ := Kd.R_slice HO195.out; subst eo45; obtain ⟨Ao46, co46, eo46⟩ := Kd.R_slice HO206.out; subst eo46) | (go_at_call 25; (with_reducible refine (galloonlaw09_ints.calls k _ _ t191 _ _ y204 true _ ?side1 ?side2 ?side3 ?side4 A16.out).mono ?_); (case side1 => repeat (first | exact (Kd.R_reads' HO195.out).2.2 | (with_reducible refine Kd.C_alloc ?_ _) | (with_reducible refine Kd.C_drewN ?_ _) | (with_reducible refine Kd.C_drew ?_))); (case side2 => exact (Kd.R_reads' HO195.out).2.1); (case side3 => repeat (first | exact (Kd.R_reads' HO206.out).2.2 | (with_reducible refine Kd.C_alloc ?_ _) | (with_reducible refine Kd.C_drewN ?_ _) | (with_reducible refine Kd.C_drew ?_))); (case side4 => exact (Kd.R_reads' HO206.out).2.1); rintro e w' ⟨rfl, ⟨nd, rfl⟩⟩))
            go_ret
            exact ⟨by first | rfl | (simp [errW_none, errW_some] <;> rfl) | (simp [*, errW_none, errW_some] <;> rfl), by repeat (first | (with_reducible first | exact HB.out | apply below_alloc | apply pw_below_drewN | apply below_drew1) | exact HB.out)⟩
           ·
            rw [if_neg c18] at H
            exact absurd H (by simp)
          ·
           replace c17 := Bool.eq_false_iff.mpr c17
           subst c17
           have H1 : (none) = some r := by rw [if_neg (show ¬ (false = true) by decide)] at H; exact H
           clear H
           have H := H1
           clear H1
           exact absurd H (by simp)
         ·
          rw [if_neg c15] at H
          exact absurd H (by simp)
        ·
         replace c14 := Bool.eq_false_iff.mpr c14
         subst c14
         have H1 : (none) = some r := by rw [if_neg (show ¬ (false = true) by decide)] at H; exact H
         clear H
         have H := H1
         clear H1
         exact absurd H (by simp)
       ·
        rw [if_neg c12] at H
        exact absurd H (by simp)
      ·
       rw [if_neg c11] at H
       exact absurd H (by simp)
     ·
      rw [if_neg c10] at H
      exact absurd H (by simp)
    ·
     rw [if_neg c9] at H
     exact absurd H (by simp)
   ·
    rw [if_neg c8] at H
    exact absurd H (by simp)
  ·
   replace c7 := Bool.eq_false_iff.mpr c7
   subst c7
   have H1 : (none) = some r := by rw [if_neg (show ¬ (false = true) by decide)] at H; exact H
   clear H
   have H := H1
   clear H1
   exact absurd H (by simp)
 ·
  rw [if_neg c5] at H
  exact absurd H (by simp)

/-! ### galloonref09_Weigh: function 21 -/
def galloonref09_Weigh.l0 : Nat → Int → List Int → Int → Int → Int → Int → Int → Int → Option (Int)
 | 0, _, _, _, _, _, _, _, _ => none
 | k + 1, x0, x1, x2, x7, x8, x9, x10, x11 => if x11 < (x1.length : Int) then (if 0 ≤ x11 then (if (rd x1 x11) > (wrap64 (x0 - x2)) then (galloonref09_Weigh.l0 k x0 x1 x2 (wrap64 (x7 + 1)) x8 x9 x10 (wrap64 (x11 + 1))) else (if (wrap64 (2 * (rd x1 x11))) > x0 then (galloonref09_Weigh.l0 k x0 x1 x2 x7 (wrap64 (x8 + 1)) (wrap64 ((wrap64 (x9 + x0)) - (rd x1 x11))) x10 (wrap64 (x11 + 1))) else (if (rd x1 x11) ≥ x2 then (galloonref09_Weigh.l0 k x0 x1 x2 x7 x8 x9 (wrap64 (x10 + (rd x1 x11))) (wrap64 (x11 + 1))) else (galloonref09_Weigh.l0 k x0 x1 x2 x7 x8 x9 x10 (wrap64 (x11 + 1)))))) else (none)) else (if x0 = 0 then (none) else (some (wrap64 ((wrap64 (x7 + x8)) + (wrap64 (Int.tdiv (wrap64 ((wrap64 ((mx 0 (wrap64 (x10 - x9))) + x0)) - 1)) x0))))))
def galloonref09_Weigh.f (k : Nat) (a0 : Int) (l1 : List Int) (a2 : Int) : Option (Int) := galloonref09_Weigh.l0 k a0 l1 a2 0 0 0 0 0
theorem galloonref09_Weigh.mono_l : ∀ k, (∀ y0 y1 y2 y3 y4 y5 y6 y7, LeO (galloonref09_Weigh.l0 k y0 y1 y2 y3 y4 y5 y6 y7) (galloonref09_Weigh.l0 (k + 1) y0 y1 y2 y3 y4 y5 y6 y7))
 | 0 => fun _ _ _ _ _ _ _ _ r h => by simp [galloonref09_Weigh.l0] at h
 | k + 1 => by
  have ih0 := galloonref09_Weigh.mono_l k
  ·
   intro y0 y1 y2 y3 y4 y5 y6 y7
   unfold galloonref09_Weigh.l0
   repeat' first
   | (with_reducible exact ih0 _ _ _ _ _ _ _ _)
   | (with_reducible exact LeO.refl _)
   | (with_reducible exact LeO.none _)
   | (with_reducible refine LeO.ite ?_ ?_)
   | (with_reducible refine LeO.bind ?_ (fun _ => ?_))
   | exact ih0 _ _ _ _ _ _ _ _
   | exact LeO.none _
   | refine LeO.ite ?_ ?_
   | refine LeO.bind ?_ (fun _ => ?_)
theorem galloonref09_Weigh.mono : ∀ a0 a1 a2 k, LeO (galloonref09_Weigh.f k a0 a1 a2) (galloonref09_Weigh.f (k + 1) a0 a1 a2) := by
 intro a0 a1 a2 k
 have ih0 := galloonref09_Weigh.mono_l k
 unfold galloonref09_Weigh.f
 repeat' first
   | (with_reducible exact ih0 _ _ _ _ _ _ _ _)
   | (with_reducible exact LeO.refl _)
   | (with_reducible exact LeO.none _)
   | (with_reducible refine LeO.ite ?_ ?_)
   | (with_reducible refine LeO.bind ?_ (fun _ => ?_))
   | exact ih0 _ _ _ _ _ _ _ _
   | exact LeO.none _
   | refine LeO.ite ?_ ?_
   | refine LeO.bind ?_ (fun _ => ?_)
set_option maxHeartbeats 8000000 in
set_option maxRecDepth 100000 in
theorem galloonref09_Weigh.calls (k : Nat) (a0 : Int) (A1 : Option Addr) (c1 : Nat) (l1 : List Int) (a2 : Int) (r : Int) (w : World) (hr1 : Kd.C (Kd.int .i64) w A1 l1.length l1) (hc1 : l1.length ≤ c1) (h : galloonref09_Weigh.f k a0 l1 a2 = some r) :
  Calls Try.prog 21 #[.int .i64 a0, .slice A1 l1.length c1, .int .i64 a2] w fun e w' => e = .returned (.int .i64 r) ∧ Below w.heap.size w w' := by
 have HR1 := Aside0.mk hr1
 have HC1 := Aside0.mk hc1
 clear hr1 hc1
 have HB := Aside0.mk (Below.refl w.heap.size w)
 have H : (galloonref09_Weigh.l0 k a0 l1 a2 0 0 0 0 0) = some r := h
 clear h
 have H' := Aside0.mk H
 clear H
 go_enter Try.func21, Try.ntmps21
 go_wp2
 go_loopg [7, 8, 9, 10, 11] k (fun kq v7 v8 v9 v10 v11 w' => ∃ (x7_1 : Int) (x8_1 : Int) (x9_1 : Int) (x10_1 : Int) (x11_1 : Int), v7 = .int .i64 x7_1 ∧ v8 = .int .i64 x8_1 ∧ v9 = .int .i64 x9_1 ∧ v10 = .int .i64 x10_1 ∧ v11 = .int .i64 x11_1 ∧ Aside0 (galloonref09_Weigh.l0 kq a0 l1 a2 x7_1 x8_1 x9_1 x10_1 x11_1 = some r) ∧ Aside0 (kq ≤ k) ∧ Aside0 (Below w.heap.size w w'))
 case atStart => exact ⟨(0), (0), (0), (0), (0), (by first | rfl | (simp; done) | (simp [*]; done)), (by first | rfl | (simp; done) | (simp [*]; done)), (by first | rfl | (simp; done) | (simp [*]; done)), (by first | rfl | (simp; done) | (simp [*]; done)), (by first | rfl | (simp; done) | (simp [*]; done)), H', ⟨Nat.le_refl _⟩, ⟨by repeat (first | (with_reducible first | exact HB.out | apply below_alloc | apply pw_below_drewN | apply below_drew1) | exact HB.out)⟩⟩
 case round =>
  as_aux_lemma =>
  clear H'
  try clear c1
  try clear c2
  try clear p2
  obtain ⟨x7_1, x8_1, x9_1, x10_1, x11_1, rfl, rfl, rfl, rfl, rfl, HA, HK1, HB⟩ := hrel
  cases gk with
  | zero => exact absurd HA.out (by simp [galloonref09_Weigh.l0])
  | succ k1 =>
   have H := HA.out
   clear HA
   simp only [galloonref09_Weigh.l0] at H
   by_cases c4 : x11_1 < (l1.length : Int)
   ·
    rw [if_pos c4] at H
    have c4b0 : decide (x11_1 < (l1.length : Int)) = true := decide_eq_true c4
    clear c4
    by_cases c5 : 0 ≤ x11_1
    ·
     rw [if_pos c5] at H
     have c5b0 : decide (0 ≤ x11_1) = true := decide_eq_true c5
     clear c5
     by_cases c6 : (rd l1 x11_1) > (wrap64 (a0 - a2))
     ·
      rw [if_pos c6] at H
      have c6b0 : decide ((wrap64 (a0 - a2)) < (rd l1 x11_1)) = true := decide_eq_true c6
      clear c6
      have H' := Aside0.mk H
      clear H
      have p208 : 0 ≤ (x11_1 : Int) := of_decide_eq_true (by assumption)
      have q208 : x11_1 < (l1.length : Int) := of_decide_eq_true (by assumption)
      obtain ⟨ad208, e208, hx208_0⟩ := Kd.at_int HR1.out x11_1 p208 q208
      cases e208
      replace hx208_0 := (HB.out.cell (World.block_lt_of_cell? w _ hx208_0)).trans hx208_0
      replace p208 := eq_true p208
      replace q208 := eq_true q208
      go_wp2
      go_roundg k1
      case measure => have := HK1.out; omega
      case rel => exact ⟨(wrap64 (x7_1 + 1)), (x8_1), (x9_1), (x10_1), (wrap64 (x11_1 + 1)), (by first | rfl | (simp; done) | (simp [*]; done)), (by first | rfl | (simp; done) | (simp [*]; done)), (by first | rfl | (simp; done) | (simp [*]; done)), (by first | rfl | (simp; done) | (simp [*]; done)), (by first | rfl | (simp; done) | (simp [*]; done)), H', ⟨by have := HK1.out; omega⟩, ⟨by repeat (first | (with_reducible first | exact HB.out | apply below_alloc | apply pw_below_drewN | apply below_drew1) | exact HB.out)⟩⟩
     ·
      rw [if_neg c6] at H
      have c6b0 : decide ((wrap64 (a0 - a2)) < (rd l1 x11_1)) = false := decide_eq_false c6
      clear c6
      by_cases c7 : (wrap64 (2 * (rd l1 x11_1))) > a0
      ·
       rw [if_pos c7] at H
       have c7b0 : decide (a0 < (wrap64 (2 * (rd l1 x11_1)))) = true := decide_eq_true c7
       clear c7
       have H' := Aside0.mk H
       clear H
       have p208 : 0 ≤ (x11_1 : Int) := of_decide_eq_true (by assumption)
       have q208 : x11_1 < (l1.length : Int) := of_decide_eq_true (by assumption)
       obtain ⟨ad208, e208, hx208_0⟩ := Kd.at_int HR1.out x11_1 p208 q208
       cases e208
       replace hx208_0 := (HB.out.cell (World.block_lt_of_cell? w _ hx208_0)).trans hx208_0
       replace p208 := eq_true p208
       replace q208 := eq_true q208
       have p209 : 0 ≤ (x11_1 : Int) := of_decide_eq_true (by assumption)
       have q209 : x11_1 < (l1.length : Int) := of_decide_eq_true (by assumption)
       obtain ⟨ad209, e209, hx209_0⟩ := Kd.at_int HR1.out x11_1 p209 q209
       obtain rfl : ad208 = ad209 := (by injection e209)
       replace hx209_0 := (HB.out.cell (World.block_lt_of_cell? w _ hx209_0)).trans hx209_0
       replace p209 := eq_true p209
       replace q209 := eq_true q209
       have p210 : 0 ≤ (x11_1 : Int) := of_decide_eq_true (by assumption)
       have q210 : x11_1 < (l1.length : Int) := of_decide_eq_true (by assumption)
       obtain ⟨ad210, e210, hx210_0⟩ := Kd.at_int HR1.out x11_1 p210 q210
       obtain rfl : ad208 = ad210 := (by injection e210)
       replace hx210_0 := (HB.out.cell (World.block_lt_of_cell? w _ hx210_0)).trans hx210_0
       replace p210 := eq_true p210
       replace q210 := eq_true q210
       go_wp2
       go_roundg k1
       case measure => have := HK1.out; omega
       case rel => exact ⟨(x7_1), (wrap64 (x8_1 + 1)), (wrap64 ((wrap64 (x9_1 + a0)) - (rd l1 x11_1))), (x10_1), (wrap64 (x11_1 + 1)), (by first | rfl | (simp; done) | (simp [*]; done)), (by first | rfl | (simp; done) | (simp [*]; done)), (by first | rfl | (simp; done) | (simp [*]; done)), (by first | rfl | (simp; done) | (simp [*]; done)), (by first | rfl | (simp; done) | (simp [*]; done)), H', ⟨by have := HK1.out; omega⟩, ⟨by repeat (first | (with_reducible first | exact HB.out | apply below_alloc | apply pw_below_drewN | apply below_drew1) | exact HB.out)⟩⟩
      ·
       rw [if_neg c7] at H
       have c7b0 : decide (a0 < (wrap64 (2 * (rd l1 x11_1)))) = false := decide_eq_false c7
       clear c7
       by_cases c8 : (rd l1 x11_1) ≥ a2
       ·
        rw [if_pos c8] at H
        have c8b0 : decide (a2 ≤ (rd l1 x11_1)) = true := decide_eq_true c8
        clear c8
        have H' := Aside0.mk H
        clear H
        have p208 : 0 ≤ (x11_1 : Int) := of_decide_eq_true (by assumption)
        have q208 : x11_1 < (l1.length : Int) := of_decide_eq_true (by assumption)
        obtain ⟨ad208, e208, hx208_0⟩ := Kd.at_int HR1.out x11_1 p208 q208
        cases e208
        replace hx208_0 := (HB.out.cell (World.block_lt_of_cell? w _ hx208_0)).trans hx208_0
        replace p208 := eq_true p208
        replace q208 := eq_true q208
        have p209 : 0 ≤ (x11_1 : Int) := of_decide_eq_true (by assumption)
        have q209 : x11_1 < (l1.length : Int) := of_decide_eq_true (by assumption)
        obtain ⟨ad209, e209, hx209_0⟩ := Kd.at_int HR1.out x11_1 p209 q209
        obtain rfl : ad208 = ad209 := (by injection e209)
        replace hx209_0 := (HB.out.cell (World.block_lt_of_cell? w _ hx209_0)).trans hx209_0
        replace p209 := eq_true p209
        replace q209 := eq_true q209
        have p211 : 0 ≤ (x11_1 : Int) := of_decide_eq_true (by assumption)
        have q211 : x11_1 < (l1.length : Int) := of_decide_eq_true (by assumption)
        obtain ⟨ad211, e211, hx211_0⟩ := Kd.at_int HR1.out x11_1 p211 q211
        obtain rfl : ad208 = ad211 := (by injection e211)
        replace hx211_0 := (HB.out.cell (World.block_lt_of_cell? w _ hx211_0)).trans hx211_0
        replace p211 := eq_true p211
        replace q211 := eq_true q211
        have p212 : 0 ≤ (x11_1 : Int) := of_decide_eq_true (by assumption)
        have q212 : x11_1 < (l1.length : Int) := of_decide_eq_true (by assumption)
        obtain ⟨ad212, e212, hx212_0⟩ := Kd.at_int HR1.out x11_1 p212 q212
        obtain rfl : ad208 = ad212 := (by injection e212)
        replace hx212_0 := (HB.out.cell (World.block_lt_of_cell? w _ hx212_0)).trans hx212_0
        replace p212 := eq_true p212
        replace q212 := eq_true q212
        go_wp2
        go_roundg k1
        case measure => have := HK1.out; omega
        case rel => exact ⟨(x7_1), (x8_1), (x9_1), (wrap64 (x10_1 + (rd l1 x11_1))), (wrap64 (x11_1 + 1)), (by first | rfl | (simp; done) | (simp [*]; done)), (by first | rfl | (simp; done) | (simp [*]; done)), (by first | rfl | (simp; done) | (simp [*]; done)), (by first | rfl | (simp; done) | (simp [*]; done)), (by first | rfl | (simp; done) | (simp [*]; done)), H', ⟨by have := HK1.out; omega⟩, ⟨by repeat (first | (with_reducible first | exact HB.out | apply below_alloc | apply pw_below_drewN | apply below_drew1) | exact HB.out)⟩⟩
       ·
        rw [if_neg c8] at H
        have c8b0 : decide (a2 ≤ (rd l1 x11_1)) = false := decide_eq_false c8
        clear c8
        have H' := Aside0.mk H
        clear H
        have p208 : 0 ≤ (x11_1 : Int) := of_decide_eq_true (by assumption)
        have q208 : x11_1 < (l1.length : Int) := of_decide_eq_true (by assumption)
        obtain ⟨ad208, e208, hx208_0⟩ := Kd.at_int HR1.out x11_1 p208 q208
        cases e208
        replace hx208_0 := (HB.out.cell (World.block_lt_of_cell? w _ hx208_0)).trans hx208_0
        replace p208 := eq_true p208
        replace q208 := eq_true q208
        have p209 : 0 ≤ (x11_1 : Int) := of_decide_eq_true (by assumption)
        have q209 : x11_1 < (l1.length : Int) := of_decide_eq_true (by assumption)
        obtain ⟨ad209, e209, hx209_0⟩ := Kd.at_int HR1.out x11_1 p209 q209
        obtain rfl : ad208 = ad209 := (by injection e209)
        replace hx209_0 := (HB.out.cell (World.block_lt_of_cell? w _ hx209_0)).trans hx209_0
        replace p209 := eq_true p209
        replace q209 := eq_true q209
        have p211 : 0 ≤ (x11_1 : Int) := of_decide_eq_true (by assumption)
        have q211 : x11_1 < (l1.length : Int) := of_decide_eq_true (by assumption)
        obtain ⟨ad211, e211, hx211_0⟩ := Kd.at_int HR1.out x11_1 p211 q211
        obtain rfl : ad208 = ad211 := (by injection e211)
        replace hx211_0 := (HB.out.cell (World.block_lt_of_cell? w _ hx211_0)).trans hx211_0
        replace p211 := eq_true p211
        replace q211 := eq_true q211
        go_wp2
        go_roundg k1
        case measure => have := HK1.out; omega
        case rel => exact ⟨(x7_1), (x8_1), (x9_1), (x10_1), (wrap64 (x11_1 + 1)), (by first | rfl | (simp; done) | (simp [*]; done)), (by first | rfl | (simp; done) | (simp [*]; done)), (by first | rfl | (simp; done) | (simp [*]; done)), (by first | rfl | (simp; done) | (simp [*]; done)), (by first | rfl | (simp; done) | (simp [*]; done)), H', ⟨by have := HK1.out; omega⟩, ⟨by repeat (first | (with_reducible first | exact HB.out | apply below_alloc | apply pw_below_drewN | apply below_drew1) | exact HB.out)⟩⟩
    ·
     rw [if_neg c5] at H
     exact absurd H (by simp)
   ·
    rw [if_neg c4] at H
    have c4b0 : decide (x11_1 < (l1.length : Int)) = false := decide_eq_false c4
    clear c4
    obtain ⟨ji9, hji9⟩ : ∃ j_ : Int, (mx 0 (wrap64 (x10_1 - x9_1))) = j_ := ⟨_, rfl⟩
    replace H : (if a0 = 0 then (none) else (some (wrap64 ((wrap64 (x7_1 + x8_1)) + (wrap64 (Int.tdiv (wrap64 ((wrap64 ((ji9) + a0)) - 1)) a0)))))) = some r := by first | (rw [hji9] at H; exact H) | (simp only [hji9] at H ⊢; exact H)
    have hji9_ : (if 0 < (wrap64 (x10_1 - x9_1)) then (wrap64 (x10_1 - x9_1)) else 0) = ji9 := hji9
    by_cases c10 : a0 = 0
    ·
     rw [if_pos c10] at H
     exact absurd H (by simp)
    ·
     rw [if_neg c10] at H
     have c10b0 : (a0 == 0) = false := beq_eq_false_iff_ne.mpr c10
     have c10b1 : (a0 != 0) = true := bne_iff_ne.mpr c10
     obtain rfl := Option.some.inj H
     go_wp2
     go_ret
     exact ⟨by first | rfl | (simp [errW_none, errW_some] <;> rfl) | (simp only [← hji9]; first | rfl | (simp [errW_none, errW_some] <;> rfl)) | (simp [*, errW_none, errW_some] <;> rfl), by repeat (first | (with_reducible first | exact HB.out | apply below_alloc | apply pw_below_drewN | apply below_drew1) | exact HB.out)⟩

/-! ### galloonref09_Weight: function 20 -/
def galloonref09_Weight.l0 : Nat → Int → List Int → Int → Int → Int → Option (Int × Int)
 | 0, _, _, _, _, _ => none
 | k + 1, x0, x1, x6, x7, x8 => if (wrap64 (2 * x8)) ≤ x0 then ((galloonref09_Weigh.f k x0 x1 x8).bind fun t213 => (if t213 > x6 then (galloonref09_Weight.l0 k x0 x1 t213 x8 (wrap64 (x8 + 1))) else (galloonref09_Weight.l0 k x0 x1 x6 x7 (wrap64 (x8 + 1))))) else (some (x6, x7))
def galloonref09_Weight.f (k : Nat) (a0 : Int) (l1 : List Int) : Option (Int × Int) := galloonref09_Weight.l0 k a0 l1 (-1) 0 0
theorem galloonref09_Weight.mono_l : ∀ k, (∀ y0 y1 y2 y3 y4, LeO (galloonref09_Weight.l0 k y0 y1 y2 y3 y4) (galloonref09_Weight.l0 (k + 1) y0 y1 y2 y3 y4))
 | 0 => fun _ _ _ _ _ r h => by simp [galloonref09_Weight.l0] at h
 | k + 1 => by
  have ih0 := galloonref09_Weight.mono_l k
  ·
   intro y0 y1 y2 y3 y4
   unfold galloonref09_Weight.l0
   repeat' first
   | (with_reducible exact ih0 _ _ _ _ _)
   | (with_reducible exact galloonref09_Weigh.mono _ _ _ _)
   | (with_reducible exact LeO.refl _)
   | (with_reducible exact LeO.none _)
   | (with_reducible refine LeO.ite ?_ ?_)
   | (with_reducible refine LeO.bind ?_ (fun _ => ?_))
   | exact ih0 _ _ _ _ _
   | exact galloonref09_Weigh.mono _ _ _ _
   | exact LeO.none _
   | refine LeO.ite ?_ ?_
   | refine LeO.bind ?_ (fun _ => ?_)
theorem galloonref09_Weight.mono : ∀ a0 a1 k, LeO (galloonref09_Weight.f k a0 a1) (galloonref09_Weight.f (k + 1) a0 a1) := by
 intro a0 a1 k
 have ih0 := galloonref09_Weight.mono_l k
 unfold galloonref09_Weight.f
 repeat' first
   | (with_reducible exact ih0 _ _ _ _ _)
   | (with_reducible exact galloonref09_Weigh.mono _ _ _ _)
   | (with_reducible exact LeO.refl _)
   | (with_reducible exact LeO.none _)
   | (with_reducible refine LeO.ite ?_ ?_)
   | (with_reducible refine LeO.bind ?_ (fun _ => ?_))
   | exact ih0 _ _ _ _ _
   | exact galloonref09_Weigh.mono _ _ _ _
   | exact LeO.none _
   | refine LeO.ite ?_ ?_
   | refine LeO.bind ?_ (fun _ => ?_)
set_option maxHeartbeats 8000000 in
set_option maxRecDepth 100000 in
theorem galloonref09_Weight.calls (k : Nat) (a0 : Int) (A1 : Option Addr) (c1 : Nat) (l1 : List Int) (r1 : Int) (r2 : Int) (w : World) (hr1 : Kd.C (Kd.int .i64) w A1 l1.length l1) (hc1 : l1.length ≤ c1) (h : galloonref09_Weight.f k a0 l1 = some (r1, r2)) :
  Calls Try.prog 20 #[.int .i64 a0, .slice A1 l1.length c1] w fun e w' => e = .returned (.tuple #[.int .i64 r1, .int .i64 r2]) ∧ Below w.heap.size w w' := by
 have HR1 := Aside0.mk hr1
 have HC1 := Aside0.mk hc1
 clear hr1 hc1
 have HB := Aside0.mk (Below.refl w.heap.size w)
 have H : (galloonref09_Weight.l0 k a0 l1 (-1) 0 0) = some (r1, r2) := h
 clear h
 have H' := Aside0.mk H
 clear H
 go_enter Try.func20, Try.ntmps20
 go_wp2
 go_loopg [6, 7, 8] k (fun kq v6 v7 v8 w' => ∃ (x6_1 : Int) (x7_1 : Int) (x8_1 : Int), v6 = .int .i64 x6_1 ∧ v7 = .int .i64 x7_1 ∧ v8 = .int .i64 x8_1 ∧ Aside0 (galloonref09_Weight.l0 kq a0 l1 x6_1 x7_1 x8_1 = some (r1, r2)) ∧ Aside0 (kq ≤ k) ∧ Aside0 (Below w.heap.size w w'))
 case atStart => exact ⟨((-1)), (0), (0), (by first | rfl | (simp; done) | (simp [*]; done)), (by first | rfl | (simp; done) | (simp [*]; done)), (by first | rfl | (simp; done) | (simp [*]; done)), H', ⟨Nat.le_refl _⟩, ⟨by repeat (first | (with_reducible first | exact HB.out | apply below_alloc | apply pw_below_drewN | apply below_drew1) | exact HB.out)⟩⟩
 case round =>
  as_aux_lemma =>
  clear H'
  try clear c1
  try clear c2
  try clear p2
  obtain ⟨x6_1, x7_1, x8_1, rfl, rfl, rfl, HA, HK1, HB⟩ := hrel
  cases gk with
  | zero => exact absurd HA.out (by simp [galloonref09_Weight.l0])
  | succ k1 =>
   have H := HA.out
   clear HA
   simp only [galloonref09_Weight.l0] at H
   by_cases c3 : (wrap64 (2 * x8_1)) ≤ a0
   ·
    rw [if_pos c3] at H
    have c3b0 : decide ((wrap64 (2 * x8_1)) ≤ a0) = true := decide_eq_true c3
    clear c3
    replace H := Option.bind_eq_some_iff.mp H
    obtain ⟨t213, A40, H⟩ := H
    replace H : (if t213 > x6_1 then (galloonref09_Weight.l0 k1 a0 l1 t213 x8_1 (wrap64 (x8_1 + 1))) else (galloonref09_Weight.l0 k1 a0 l1 x6_1 x7_1 (wrap64 (x8_1 + 1)))) = some (r1, r2) := H
    have A4 := Aside0.mk A40
    clear A40
    by_cases c5 : t213 > x6_1
    ·
     rw [if_pos c5] at H
     have c5b0 : decide (x6_1 < t213) = true := decide_eq_true c5
     clear c5
     have H' := Aside0.mk H
     clear H
     go_wp2_with (first | ((with_reducible refine gate_callee (f := 21) rfl ?_); refine goesL_ (some 19) rfl rfl Try.func21 (by kernel_rfl) rfl #[.int .i64 a0, .slice A1 l1.length c1, .int .i64 x8_1] rfl (by (try simp only [List.map_toArray, List.map_cons, List.map_nil]); first | done | rfl | (simp only [List.length_drop, List.length_take]; rfl)) ?_; (with_reducible refine (galloonref09_Weigh.calls k1 a0 _ _ l1 x8_1 t213 _ ?side1 ?side2 A4.out).mono ?_); (case side1 => repeat (first | exact (Kd.C_below HR1.out HB.out) | (with_reducible refine Kd.C_alloc ?_ _) | (with_reducible refine Kd.C_drewN ?_ _) | (with_reducible refine Kd.C_drew ?_))); (case side2 => exact HC1.out); rintro e w6 ⟨rfl, hb⟩; refine ⟨_, rfl, ?_⟩; have n0_ := Aside0.mk (below_step (by repeat (first | (with_reducible first | exact HB.out | apply below_alloc | apply pw_below_drewN | apply below_drew1) | exact HB.out)) hb); clear HB; have HB := n0_; clear n0_; (try clear hb); (try clear hb2); (try clear hk); (try clear hi)))
     go_roundg k1
     case measure => have := HK1.out; omega
     case rel => exact ⟨(t213), (x8_1), (wrap64 (x8_1 + 1)), (by first | rfl | (simp; done) | (simp [*]; done)), (by first | rfl | (simp; done) | (simp [*]; done)), (by first | rfl | (simp; done) | (simp [*]; done)), H', ⟨by have := HK1.out; omega⟩, ⟨by repeat (first | (with_reducible first | exact HB.out | apply below_alloc | apply pw_below_drewN | apply below_drew1) | exact HB.out)⟩⟩
    ·
     rw [if_neg c5] at H
     have c5b0 : decide (x6_1 < t213) = false := decide_eq_false c5
     clear c5
     have H' := Aside0.mk H
     clear H
     go_wp2_with (first | ((with_reducible refine gate_callee (f := 21) rfl ?_); refine goesL_ (some 19) rfl rfl Try.func21 (by kernel_rfl) rfl #[.int .i64 a0, .slice A1 l1.length c1, .int .i64 x8_1] rfl (by (try simp only [List.map_toArray, List.map_cons, List.map_nil]); first | done | rfl | (simp only [List.length_drop, List.length_take]; rfl)) ?_; (with_reducible refine (galloonref09_Weigh.calls k1 a0 _ _ l1 x8_1 t213 _ ?side1 ?side2 A4.out).mono ?_); (case side1 => repeat (first | exact (Kd.C_below HR1.out HB.out) | (with_reducible refine Kd.C_alloc ?_ _) | (with_reducible refine Kd.C_drewN ?_ _) | (with_reducible refine Kd.C_drew ?_))); (case side2 => exact HC1.out); rintro e w7 ⟨rfl, hb⟩; refine ⟨_, rfl, ?_⟩; have n0_ := Aside0.mk (below_step (by repeat (first | (with_reducible first | exact HB.out | apply below_alloc | apply pw_below_drewN | apply below_drew1) | exact HB.out)) hb); clear HB; have HB := n0_; clear n0_; (try clear hb); (try clear hb2); (try clear hk); (try clear hi)))
     go_roundg k1
     case measure => have := HK1.out; omega
     case rel => exact ⟨(x6_1), (x7_1), (wrap64 (x8_1 + 1)), (by first | rfl | (simp; done) | (simp [*]; done)), (by first | rfl | (simp; done) | (simp [*]; done)), (by first | rfl | (simp; done) | (simp [*]; done)), H', ⟨by have := HK1.out; omega⟩, ⟨by repeat (first | (with_reducible first | exact HB.out | apply below_alloc | apply pw_below_drewN | apply below_drew1) | exact HB.out)⟩⟩
   ·
    rw [if_neg c3] at H
    have c3b0 : decide ((wrap64 (2 * x8_1)) ≤ a0) = false := decide_eq_false c3
    clear c3
    simp only [Option.some.injEq, Prod.mk.injEq] at H
    obtain ⟨rfl, rfl⟩ := H
    go_wp2
    go_ret2
    exact ⟨by first | rfl | (simp [errW_none, errW_some] <;> rfl) | (simp [*, errW_none, errW_some] <;> rfl), by repeat (first | (with_reducible first | exact HB.out | apply below_alloc | apply pw_below_drewN | apply below_drew1) | exact HB.out)⟩

/-! ### galloonlaw09_RemnantWeighs: function 3 -/
mutual
def galloonlaw09_RemnantWeighs.j0 : Nat → Int → Int → List Int → Int → Int → Bool → Option (Bool)
 | 0, _, _, _, _, _, _ => none
 | k + 1, x0, x2, x7, x8, x9, x73 => if x73 = true then (none) else (if x2 < 0 then (galloonlaw09_RemnantWeighs.j1 k x0 x2 x7 x8 x9 true) else (galloonlaw09_RemnantWeighs.j1 k x0 x2 x7 x8 x9 (decide (x2 > (wrap64 (Int.tdiv x0 2))))))
def galloonlaw09_RemnantWeighs.j1 : Nat → Int → Int → List Int → Int → Int → Bool → Option (Bool)
 | 0, _, _, _, _, _, _ => none
 | k + 1, x0, x2, x7, x8, x9, x81 => if x81 = true then (if x8 = 0 then (if x9 = 2 then ((galloonlaw09_awake.f k).bind fun t226 => (some t226)) else (none)) else (none)) else ((galloonref09_Weigh.f k x0 x7 x2).bind fun t227 => (if x8 = t227 then (if x9 = 0 then ((galloonlaw09_awake.f k).bind fun t228 => (some t228)) else (none)) else (none)))
end
def galloonlaw09_RemnantWeighs.f (k : Nat) (a0 : Int) (l1 : List Int) (a2 : Int) : Option (Bool) := (galloonlaw09_list.f l1).bind fun t214 => ((remnant_Weigh.f k a0 t214 a2).bind fun bt217 => ((remnant_Weight.f k a0 t214).bind fun bt219 => ((galloonref09_Pieces.f k a0 t214).bind fun t222 => (if t222 = true then ((galloonref09_Weight.f k a0 t214).bind fun bt224 => (if bt219.1 = bt224.1 then (if bt219.2.1 = bt224.2 then (galloonlaw09_RemnantWeighs.j0 k a0 a2 t214 bt217.1 bt217.2 (bt219.2.2 != 0)) else (none)) else (none))) else (if bt217.1 = 0 then (if bt217.2 = 2 then (if bt219.1 = 0 then (if bt219.2.1 = 0 then (if bt219.2.2 = 2 then ((galloonlaw09_awake.f k).bind fun t223 => (some t223)) else (none)) else (none)) else (none)) else (none)) else (none))))))
theorem galloonlaw09_RemnantWeighs.mono_l : ∀ k, (∀ y0 y1 y2 y3 y4 y5, LeO (galloonlaw09_RemnantWeighs.j0 k y0 y1 y2 y3 y4 y5) (galloonlaw09_RemnantWeighs.j0 (k + 1) y0 y1 y2 y3 y4 y5)) ∧ (∀ y0 y1 y2 y3 y4 y5, LeO (galloonlaw09_RemnantWeighs.j1 k y0 y1 y2 y3 y4 y5) (galloonlaw09_RemnantWeighs.j1 (k + 1) y0 y1 y2 y3 y4 y5))
 | 0 => ⟨fun _ _ _ _ _ _ r h => by simp [galloonlaw09_RemnantWeighs.j0] at h, fun _ _ _ _ _ _ r h => by simp [galloonlaw09_RemnantWeighs.j1] at h⟩
 | k + 1 => by
  obtain ⟨ih0, ih1⟩ := galloonlaw09_RemnantWeighs.mono_l k
  refine ⟨?_, ?_⟩
  ·
   intro y0 y1 y2 y3 y4 y5
   unfold galloonlaw09_RemnantWeighs.j0
   repeat' first
   | (with_reducible exact ih0 _ _ _ _ _ _)
   | (with_reducible exact ih1 _ _ _ _ _ _)
   | (with_reducible exact galloonlaw09_awake.mono _)
   | (with_reducible exact galloonref09_Pieces.mono _ _ _)
   | (with_reducible exact galloonref09_Weigh.mono _ _ _ _)
   | (with_reducible exact galloonref09_Weight.mono _ _ _)
   | (with_reducible exact remnant_Weigh.mono _ _ _ _)
   | (with_reducible exact remnant_Weight.mono _ _ _)
   | (with_reducible exact LeO.refl _)
   | (with_reducible exact LeO.none _)
   | (with_reducible refine LeO.ite ?_ ?_)
   | (with_reducible refine LeO.bind ?_ (fun _ => ?_))
   | exact ih0 _ _ _ _ _ _
   | exact ih1 _ _ _ _ _ _
   | exact galloonlaw09_awake.mono _
   | exact galloonref09_Pieces.mono _ _ _
   | exact galloonref09_Weigh.mono _ _ _ _
   | exact galloonref09_Weight.mono _ _ _
   | exact remnant_Weigh.mono _ _ _ _
   | exact remnant_Weight.mono _ _ _
   | exact LeO.none _
   | refine LeO.ite ?_ ?_
   | refine LeO.bind ?_ (fun _ => ?_)
  ·
   intro y0 y1 y2 y3 y4 y5
   unfold galloonlaw09_RemnantWeighs.j1
   repeat' first
   | (with_reducible exact ih0 _ _ _ _ _ _)
   | (with_reducible exact ih1 _ _ _ _ _ _)
   | (with_reducible exact galloonlaw09_awake.mono _)
   | (with_reducible exact galloonref09_Pieces.mono _ _ _)
   | (with_reducible exact galloonref09_Weigh.mono _ _ _ _)
   | (with_reducible exact galloonref09_Weight.mono _ _ _)
   | (with_reducible exact remnant_Weigh.mono _ _ _ _)
   | (with_reducible exact remnant_Weight.mono _ _ _)
   | (with_reducible exact LeO.refl _)
   | (with_reducible exact LeO.none _)
   | (with_reducible refine LeO.ite ?_ ?_)
   | (with_reducible refine LeO.bind ?_ (fun _ => ?_))
   | exact ih0 _ _ _ _ _ _
   | exact ih1 _ _ _ _ _ _
   | exact galloonlaw09_awake.mono _
   | exact galloonref09_Pieces.mono _ _ _
   | exact galloonref09_Weigh.mono _ _ _ _
   | exact galloonref09_Weight.mono _ _ _
   | exact remnant_Weigh.mono _ _ _ _
   | exact remnant_Weight.mono _ _ _
   | exact LeO.none _
   | refine LeO.ite ?_ ?_
   | refine LeO.bind ?_ (fun _ => ?_)
theorem galloonlaw09_RemnantWeighs.mono : ∀ a0 a1 a2 k, LeO (galloonlaw09_RemnantWeighs.f k a0 a1 a2) (galloonlaw09_RemnantWeighs.f (k + 1) a0 a1 a2) := by
 intro a0 a1 a2 k
 obtain ⟨ih0, ih1⟩ := galloonlaw09_RemnantWeighs.mono_l k
 unfold galloonlaw09_RemnantWeighs.f
 repeat' first
   | (with_reducible exact ih0 _ _ _ _ _ _)
   | (with_reducible exact ih1 _ _ _ _ _ _)
   | (with_reducible exact galloonlaw09_awake.mono _)
   | (with_reducible exact galloonref09_Pieces.mono _ _ _)
   | (with_reducible exact galloonref09_Weigh.mono _ _ _ _)
   | (with_reducible exact galloonref09_Weight.mono _ _ _)
   | (with_reducible exact remnant_Weigh.mono _ _ _ _)
   | (with_reducible exact remnant_Weight.mono _ _ _)
   | (with_reducible exact LeO.refl _)
   | (with_reducible exact LeO.none _)
   | (with_reducible refine LeO.ite ?_ ?_)
   | (with_reducible refine LeO.bind ?_ (fun _ => ?_))
   | exact ih0 _ _ _ _ _ _
   | exact ih1 _ _ _ _ _ _
   | exact galloonlaw09_awake.mono _
   | exact galloonref09_Pieces.mono _ _ _
   | exact galloonref09_Weigh.mono _ _ _ _
   | exact galloonref09_Weight.mono _ _ _
   | exact remnant_Weigh.mono _ _ _ _
   | exact remnant_Weight.mono _ _ _
   | exact LeO.none _
   | refine LeO.ite ?_ ?_
   | refine LeO.bind ?_ (fun _ => ?_)
set_option maxHeartbeats 8000000 in
set_option maxRecDepth 100000 in
theorem galloonlaw09_RemnantWeighs.calls (k : Nat) (a0 : Int) (A1 : Option Addr) (c1 : Nat) (l1 : List Int) (a2 : Int) (r : Bool) (w : World) (hr1 : Kd.C (Kd.int .i64) w A1 l1.length l1) (hc1 : l1.length ≤ c1) (h : galloonlaw09_RemnantWeighs.f k a0 l1 a2 = some r) :
  Calls Try.prog 3 #[.int .i64 a0, .slice A1 l1.length c1, .int .i64 a2] w fun e w' => e = .returned (.bool r) ∧ Below w.heap.size w w' := by
 have HR1 := Aside0.mk hr1
 have HC1 := Aside0.mk hc1
 clear hr1 hc1
 have HB := Aside0.mk (Below.refl w.heap.size w)
 have H : ((galloonlaw09_list.f l1).bind fun t214 => ((remnant_Weigh.f k a0 t214 a2).bind fun bt217 => ((remnant_Weight.f k a0 t214).bind fun bt219 => ((galloonref09_Pieces.f k a0 t214).bind fun t222 => (if t222 = true then ((galloonref09_Weight.f k a0 t214).bind fun bt224 => (if bt219.1 = bt224.1 then (if bt219.2.1 = bt224.2 then (galloonlaw09_RemnantWeighs.j0 k a0 a2 t214 bt217.1 bt217.2 (bt219.2.2 != 0)) else (none)) else (none))) else (if bt217.1 = 0 then (if bt217.2 = 2 then (if bt219.1 = 0 then (if bt219.2.1 = 0 then (if bt219.2.2 = 2 then ((galloonlaw09_awake.f k).bind fun t223 => (some t223)) else (none)) else (none)) else (none)) else (none)) else (none))))))) = some r := h
 clear h
 replace H := Option.bind_eq_some_iff.mp H
 obtain ⟨t214, A40, H⟩ := H
 replace H : ((remnant_Weigh.f k a0 t214 a2).bind fun bt217 => ((remnant_Weight.f k a0 t214).bind fun bt219 => ((galloonref09_Pieces.f k a0 t214).bind fun t222 => (if t222 = true then ((galloonref09_Weight.f k a0 t214).bind fun bt224 => (if bt219.1 = bt224.1 then (if bt219.2.1 = bt224.2 then (galloonlaw09_RemnantWeighs.j0 k a0 a2 t214 bt217.1 bt217.2 (bt219.2.2 != 0)) else (none)) else (none))) else (if bt217.1 = 0 then (if bt217.2 = 2 then (if bt219.1 = 0 then (if bt219.2.1 = 0 then (if bt219.2.2 = 2 then ((galloonlaw09_awake.f k).bind fun t223 => (some t223)) else (none)) else (none)) else (none)) else (none)) else (none)))))) = some r := H
 have A4 := Aside0.mk A40
 clear A40
 replace H := Option.bind_eq_some_iff.mp H
 obtain ⟨⟨t217, t218⟩, A50, H⟩ := H
 replace H : ((remnant_Weight.f k a0 t214).bind fun bt219 => ((galloonref09_Pieces.f k a0 t214).bind fun t222 => (if t222 = true then ((galloonref09_Weight.f k a0 t214).bind fun bt224 => (if bt219.1 = bt224.1 then (if bt219.2.1 = bt224.2 then (galloonlaw09_RemnantWeighs.j0 k a0 a2 t214 t217 t218 (bt219.2.2 != 0)) else (none)) else (none))) else (if t217 = 0 then (if t218 = 2 then (if bt219.1 = 0 then (if bt219.2.1 = 0 then (if bt219.2.2 = 2 then ((galloonlaw09_awake.f k).bind fun t223 => (some t223)) else (none)) else (none)) else (none)) else (none)) else (none))))) = some r := H
 have A5 := Aside0.mk A50
 clear A50
 replace H := Option.bind_eq_some_iff.mp H
 obtain ⟨⟨t219, t220, t221⟩, A60, H⟩ := H
 replace H : ((galloonref09_Pieces.f k a0 t214).bind fun t222 => (if t222 = true then ((galloonref09_Weight.f k a0 t214).bind fun bt224 => (if t219 = bt224.1 then (if t220 = bt224.2 then (galloonlaw09_RemnantWeighs.j0 k a0 a2 t214 t217 t218 (t221 != 0)) else (none)) else (none))) else (if t217 = 0 then (if t218 = 2 then (if t219 = 0 then (if t220 = 0 then (if t221 = 2 then ((galloonlaw09_awake.f k).bind fun t223 => (some t223)) else (none)) else (none)) else (none)) else (none)) else (none)))) = some r := H
 have A6 := Aside0.mk A60
 clear A60
 replace H := Option.bind_eq_some_iff.mp H
 obtain ⟨t222, A70, H⟩ := H
 replace H : (if t222 = true then ((galloonref09_Weight.f k a0 t214).bind fun bt224 => (if t219 = bt224.1 then (if t220 = bt224.2 then (galloonlaw09_RemnantWeighs.j0 k a0 a2 t214 t217 t218 (t221 != 0)) else (none)) else (none))) else (if t217 = 0 then (if t218 = 2 then (if t219 = 0 then (if t220 = 0 then (if t221 = 2 then ((galloonlaw09_awake.f k).bind fun t223 => (some t223)) else (none)) else (none)) else (none)) else (none)) else (none))) = some r := H
 have A7 := Aside0.mk A70
 clear A70
 by_cases c8 : t222 = true
 ·
  subst c8
  have H1 : ((galloonref09_Weight.f k a0 t214).bind fun bt224 => (if t219 = bt224.1 then (if t220 = bt224.2 then (galloonlaw09_RemnantWeighs.j0 k a0 a2 t214 t217 t218 (t221 != 0)) else (none)) else (none))) = some r := by rw [if_pos rfl] at H; exact H
  clear H
  have H := H1
  clear H1
  replace H := Option.bind_eq_some_iff.mp H
  obtain ⟨⟨t224, t225⟩, A90, H⟩ := H
  replace H : (if t219 = t224 then (if t220 = t225 then (galloonlaw09_RemnantWeighs.j0 k a0 a2 t214 t217 t218 (t221 != 0)) else (none)) else (none)) = some r := H
  have A9 := Aside0.mk A90
  clear A90
  have HC10 := Aside0.mk H
  clear H
  go_enter Try.func3, Try.ntmps3
  go_upto_region 7 with (first | ((with_reducible refine gate_callee (f := 15) rfl ?_); refine goesL_ (some 16) rfl rfl Try.func15 (by kernel_rfl) rfl #[.slice A1 l1.length c1] rfl (by (try simp only [List.map_toArray, List.map_cons, List.map_nil]); first | done | rfl | (simp only [List.length_drop, List.length_take]; rfl)) ?_; (with_reducible refine (galloonlaw09_list.calls _ _ l1 t214 _ ?side1 ?side2 A4.out).mono ?_); (case side1 => repeat (first | exact HR1.out | (with_reducible refine Kd.C_alloc ?_ _) | (with_reducible refine Kd.C_drewN ?_ _) | (with_reducible refine Kd.C_drew ?_))); (case side2 => exact HC1.out); rintro e w11 ⟨v215, rfl, ho0, hb⟩; refine ⟨_, rfl, ?_⟩; have n0_ := Aside0.mk (Kd.R_lower ho0 (below_size (by repeat (first | (with_reducible first | exact HB.out | apply below_alloc | apply pw_below_drewN | apply below_drew1) | exact HB.out)))); have n1_ := Aside0.mk (below_step (by repeat (first | (with_reducible first | exact HB.out | apply below_alloc | apply pw_below_drewN | apply below_drew1) | exact HB.out)) hb); clear HB; have HO216 := n0_; have HB := n1_; clear n0_ n1_; (try clear hb); (try clear hb2); (try clear hk); (try clear hi); (try clear ho0); obtain ⟨Ao12, co12, eo12⟩ := Kd.R_slice HO216.out; subst eo12) | ((with_reducible refine gate_callee (f := 16) rfl ?_); refine goesL_ (some 21) rfl rfl Try.func16 (by kernel_rfl) rfl #[.int .i64 a0, .slice Ao12 t214.length co12, .int .i64 a2] rfl (by (try simp only [List.map_toArray, List.map_cons, List.map_nil]); first | done | rfl | (simp only [List.length_drop, List.length_take]; rfl)) ?_; (with_reducible refine (remnant_Weigh.calls k a0 _ _ t214 a2 t217 t218 _ ?side1 ?side2 A5.out).mono ?_); (case side1 => repeat (first | exact (Kd.R_reads' HO216.out).2.2 | (with_reducible refine Kd.C_alloc ?_ _) | (with_reducible refine Kd.C_drewN ?_ _) | (with_reducible refine Kd.C_drew ?_))); (case side2 => exact (Kd.R_reads' HO216.out).2.1); rintro e w13 ⟨rfl, hb⟩; refine ⟨_, rfl, ?_⟩; have n0_ := Aside0.mk (Kd.R_below (by (with_reducible repeat (first | apply Kd.R_alloc | apply Kd.R_drewN | apply Kd.R_drew)); exact HO216.out) hb); have n1_ := Aside0.mk (below_step (by repeat (first | (with_reducible first | exact HB.out | apply below_alloc | apply pw_below_drewN | apply below_drew1) | exact HB.out)) hb); clear HO216; clear HB; have HO216 := n0_; have HB := n1_; clear n0_ n1_; (try clear hb); (try clear hb2); (try clear hk); (try clear hi)) | ((with_reducible refine gate_callee (f := 17) rfl ?_); refine goesL_ (some 27) rfl rfl Try.func17 (by kernel_rfl) rfl #[.int .i64 a0, .slice Ao12 t214.length co12] rfl (by (try simp only [List.map_toArray, List.map_cons, List.map_nil]); first | done | rfl | (simp only [List.length_drop, List.length_take]; rfl)) ?_; (with_reducible refine (remnant_Weight.calls k a0 _ _ t214 t219 t220 t221 _ ?side1 ?side2 A6.out).mono ?_); (case side1 => repeat (first | exact (Kd.R_reads' HO216.out).2.2 | (with_reducible refine Kd.C_alloc ?_ _) | (with_reducible refine Kd.C_drewN ?_ _) | (with_reducible refine Kd.C_drew ?_))); (case side2 => exact (Kd.R_reads' HO216.out).2.1); rintro e w14 ⟨rfl, hb⟩; refine ⟨_, rfl, ?_⟩; have n0_ := Aside0.mk (Kd.R_below (by (with_reducible repeat (first | apply Kd.R_alloc | apply Kd.R_drewN | apply Kd.R_drew)); exact HO216.out) hb); have n1_ := Aside0.mk (below_step (by repeat (first | (with_reducible first | exact HB.out | apply below_alloc | apply pw_below_drewN | apply below_drew1) | exact HB.out)) hb); clear HO216; clear HB; have HO216 := n0_; have HB := n1_; clear n0_ n1_; (try clear hb); (try clear hb2); (try clear hk); (try clear hi)) | ((with_reducible refine gate_callee (f := 18) rfl ?_); refine goesL_ (some 33) rfl rfl Try.func18 (by kernel_rfl) rfl #[.int .i64 a0, .slice Ao12 t214.length co12] rfl (by (try simp only [List.map_toArray, List.map_cons, List.map_nil]); first | done | rfl | (simp only [List.length_drop, List.length_take]; rfl)) ?_; (with_reducible refine (galloonref09_Pieces.calls k a0 _ _ t214 true _ ?side1 ?side2 A7.out).mono ?_); (case side1 => repeat (first | exact (Kd.R_reads' HO216.out).2.2 | (with_reducible refine Kd.C_alloc ?_ _) | (with_reducible refine Kd.C_drewN ?_ _) | (with_reducible refine Kd.C_drew ?_))); (case side2 => exact (Kd.R_reads' HO216.out).2.1); rintro e w' ⟨rfl, ⟨nd, rfl⟩⟩; refine ⟨_, rfl, ?_⟩) | ((with_reducible refine gate_callee (f := 20) rfl ?_); refine goesL_ (some 59) rfl rfl Try.func20 (by kernel_rfl) rfl #[.int .i64 a0, .slice Ao12 t214.length co12] rfl (by (try simp only [List.map_toArray, List.map_cons, List.map_nil]); first | done | rfl | (simp only [List.length_drop, List.length_take]; rfl)) ?_; (with_reducible refine (galloonref09_Weight.calls k a0 _ _ t214 t224 t225 _ ?side1 ?side2 A9.out).mono ?_); (case side1 => repeat (first | exact (Kd.R_reads' HO216.out).2.2 | (with_reducible refine Kd.C_alloc ?_ _) | (with_reducible refine Kd.C_drewN ?_ _) | (with_reducible refine Kd.C_drew ?_))); (case side2 => exact (Kd.R_reads' HO216.out).2.1); rintro e w15 ⟨rfl, hb⟩; refine ⟨_, rfl, ?_⟩; have n0_ := Aside0.mk (Kd.R_below (by (with_reducible repeat (first | apply Kd.R_alloc | apply Kd.R_drewN | apply Kd.R_drew)); exact HO216.out) hb); have n1_ := Aside0.mk (below_step (by repeat (first | (with_reducible first | exact HB.out | apply below_alloc | apply pw_below_drewN | apply below_drew1) | exact HB.out)) hb); clear HO216; clear HB; have HO216 := n0_; have HB := n1_; clear n0_ n1_; (try clear hb); (try clear hb2); (try clear hk); (try clear hi)))
  (try simp only [Act.put, List.setIfInBounds_toArray, List.set_cons_zero, List.set_cons_succ])
  go_cut [73] (fun v73 wc => ∃ (kq : Nat) (x73_9 : Bool), v73 = .bool x73_9 ∧ Aside0 (galloonlaw09_RemnantWeighs.j0 kq a0 a2 t214 t217 t218 x73_9 = some r) ∧ Aside0 (kq ≤ k) ∧ Aside0 (Kd.R (Kd.int .i64) 3 wc w.heap.size (fun _ => True) (.slice Ao12 t214.length co12) t214) ∧ Aside0 (Below w.heap.size w wc))
  case first =>
   as_aux_lemma =>
   have H := HC10.out
   clear HC10
   by_cases c16 : t219 = t224
   ·
    rw [if_pos c16] at H
    have c16b0 : (t219 == t224) = true := beq_iff_eq.mpr c16
    have c16b1 : (t219 != t224) = false := bne_eq_false_iff_eq.mpr c16
    clear c16
    (first | rw [c16b0] | (simp only [i64_w, i32_w]; rw [c16b0]) | skip)
    by_cases c17 : t220 = t225
    ·
     rw [if_pos c17] at H
     have c17b0 : (t220 == t225) = true := beq_iff_eq.mpr c17
     have c17b1 : (t220 != t225) = false := bne_eq_false_iff_eq.mpr c17
     clear c17
     have H' := Aside0.mk H
     clear H
     go_wp2
     go_meet
     case rel => exact ⟨_, ((t221 != 0)), (by first | rfl | (simp; done) | (simp [*]; done)), H', ⟨by first | omega | exact Nat.le_refl _⟩, ⟨by (with_reducible repeat (first | apply Kd.R_alloc | apply Kd.R_drewN | apply Kd.R_drew)); exact HO216.out⟩, ⟨by repeat (first | (with_reducible first | exact HB.out | apply below_alloc | apply pw_below_drewN | apply below_drew1) | exact HB.out)⟩⟩
    ·
     rw [if_neg c17] at H
     exact absurd H (by simp)
   ·
    rw [if_neg c16] at H
    exact absurd H (by simp)
  case rest =>
   as_aux_lemma =>
   clear HC10
   try clear c1
   try clear c2
   try clear p2
   try clear c3
   try clear c8
   try clear c15
   try clear c16
   try clear c16b0
   try clear c16b1
   try clear c17
   try clear c17b0
   try clear c17b1
   obtain ⟨kq, x73_9, rfl, HA, HJ9, HO_7, HB⟩ := hcut
   cases kq with
   | zero => exact absurd HA.out (by simp [galloonlaw09_RemnantWeighs.j0])
   | succ kj9 =>
    have H := HA.out
    clear HA
    simp only [galloonlaw09_RemnantWeighs.j0] at H
    by_cases c18 : x73_9 = true
    ·
     subst c18
     have H1 : (none) = some r := by rw [if_pos rfl] at H; exact H
     clear H
     have H := H1
     clear H1
     exact absurd H (by simp)
    ·
     replace c18 := Bool.eq_false_iff.mpr c18
     subst c18
     have H1 : (if a2 < 0 then (galloonlaw09_RemnantWeighs.j1 kj9 a0 a2 t214 t217 t218 true) else (galloonlaw09_RemnantWeighs.j1 kj9 a0 a2 t214 t217 t218 (decide (a2 > (wrap64 (Int.tdiv a0 2)))))) = some r := by rw [if_neg (show ¬ (false = true) by decide)] at H; exact H
     clear H
     have H := H1
     clear H1
     have HC19 := Aside0.mk H
     clear H
     go_upto_region 9 with (fail)
     go_cut [81] (fun v81 wc => ∃ (kq : Nat) (x81_18 : Bool), v81 = .bool x81_18 ∧ Aside0 (galloonlaw09_RemnantWeighs.j1 kq a0 a2 t214 t217 t218 x81_18 = some r) ∧ Aside0 (kq ≤ kj9) ∧ Aside0 (Kd.R (Kd.int .i64) 3 wc w.heap.size (fun _ => True) (.slice Ao12 t214.length co12) t214) ∧ Aside0 (Below w.heap.size w wc))
     case first =>
      as_aux_lemma =>
      have H := HC19.out
      clear HC19
      by_cases c20 : a2 < 0
      ·
       rw [if_pos c20] at H
       have c20b0 : decide (a2 < 0) = true := decide_eq_true c20
       clear c20
       (first | rw [c20b0] | (simp only [i64_w, i32_w]; rw [c20b0]) | skip)
       have H' := Aside0.mk H
       clear H
       go_wp2
       go_meet
       case rel => exact ⟨_, (true), (by first | rfl | (simp; done) | (simp [*]; done)), H', ⟨by have := HJ9.out; first | omega | exact Nat.le_refl _⟩, ⟨by (with_reducible repeat (first | apply Kd.R_alloc | apply Kd.R_drewN | apply Kd.R_drew)); exact HO_7.out⟩, ⟨by repeat (first | (with_reducible first | exact HB.out | apply below_alloc | apply pw_below_drewN | apply below_drew1) | exact HB.out)⟩⟩
      ·
       rw [if_neg c20] at H
       have c20b0 : decide (a2 < 0) = false := decide_eq_false c20
       clear c20
       (first | rw [c20b0] | (simp only [i64_w, i32_w]; rw [c20b0]) | skip)
       have H' := Aside0.mk H
       clear H
       go_wp2
       go_meet
       case rel => exact ⟨_, (decide (a2 > (wrap64 (Int.tdiv a0 2)))), (by first | rfl | (simp; done) | (simp [*]; done)), H', ⟨by have := HJ9.out; first | omega | exact Nat.le_refl _⟩, ⟨by (with_reducible repeat (first | apply Kd.R_alloc | apply Kd.R_drewN | apply Kd.R_drew)); exact HO_7.out⟩, ⟨by repeat (first | (with_reducible first | exact HB.out | apply below_alloc | apply pw_below_drewN | apply below_drew1) | exact HB.out)⟩⟩
     case rest =>
      as_aux_lemma =>
      clear HC19
      try clear c1
      try clear c2
      try clear p2
      try clear c3
      try clear p6
      try clear c8
      try clear c15
      try clear c16
      try clear c16b0
      try clear c16b1
      try clear c17
      try clear c17b0
      try clear c17b1
      try clear c18
      try clear c20
      try clear c20b0
      try clear p2
      obtain ⟨kq, x81_18, rfl, HA, HJ18, HO_7, HB⟩ := hcut
      cases kq with
      | zero => exact absurd HA.out (by simp [galloonlaw09_RemnantWeighs.j1])
      | succ kj18 =>
       have H := HA.out
       clear HA
       simp only [galloonlaw09_RemnantWeighs.j1] at H
       by_cases c21 : x81_18 = true
       ·
        subst c21
        have H1 : (if t217 = 0 then (if t218 = 2 then ((galloonlaw09_awake.f kj18).bind fun t226 => (some t226)) else (none)) else (none)) = some r := by rw [if_pos rfl] at H; exact H
        clear H
        have H := H1
        clear H1
        by_cases c22 : t217 = 0
        ·
         rw [if_pos c22] at H
         have c22b0 : (t217 == 0) = true := beq_iff_eq.mpr c22
         have c22b1 : (t217 != 0) = false := bne_eq_false_iff_eq.mpr c22
         clear c22
         by_cases c23 : t218 = 2
         ·
          rw [if_pos c23] at H
          have c23b0 : (t218 == 2) = true := beq_iff_eq.mpr c23
          have c23b1 : (t218 != 2) = false := bne_eq_false_iff_eq.mpr c23
          clear c23
          replace H := Option.bind_eq_some_iff.mp H
          obtain ⟨t226, A240, H⟩ := H
          replace H : (some t226) = some r := H
          have A24 := Aside0.mk A240
          clear A240
          obtain rfl := Option.some.inj H
          go_wp2_with (first | (go_at_call 19; (with_reducible refine (galloonlaw09_awake.calls kj18  t226 _ A24.out).mono ?_); rintro e w25 ⟨rfl, hb⟩; have n0_ := Aside0.mk (Kd.R_below (by (with_reducible repeat (first | apply Kd.R_alloc | apply Kd.R_drewN | apply Kd.R_drew)); exact HO_7.out) hb); have n1_ := Aside0.mk (below_step (by repeat (first | (with_reducible first | exact HB.out | apply below_alloc | apply pw_below_drewN | apply below_drew1) | exact HB.out)) hb); clear HO_7; clear HB; have HO_7 := n0_; have HB := n1_; clear n0_ n1_; (try clear hb); (try clear hb2); (try clear hk); (try clear hi)))
          go_ret
          exact ⟨by first | rfl | (simp [errW_none, errW_some] <;> rfl) | (simp [*, errW_none, errW_some] <;> rfl), by repeat (first | (with_reducible first | exact HB.out | apply below_alloc | apply pw_below_drewN | apply below_drew1) | exact HB.out)⟩
         ·
          rw [if_neg c23] at H
          exact absurd H (by simp)
        ·
         rw [if_neg c22] at H
         exact absurd H (by simp)
       ·
        replace c21 := Bool.eq_false_iff.mpr c21
        subst c21
        have H1 : ((galloonref09_Weigh.f kj18 a0 t214 a2).bind fun t227 => (if t217 = t227 then (if t218 = 0 then ((galloonlaw09_awake.f kj18).bind fun t228 => (some t228)) else (none)) else (none))) = some r := by rw [if_neg (show ¬ (false = true) by decide)] at H; exact H
        clear H
        have H := H1
        clear H1
        replace H := Option.bind_eq_some_iff.mp H
        obtain ⟨t227, A260, H⟩ := H
        replace H : (if t217 = t227 then (if t218 = 0 then ((galloonlaw09_awake.f kj18).bind fun t228 => (some t228)) else (none)) else (none)) = some r := H
        have A26 := Aside0.mk A260
        clear A260
        by_cases c27 : t217 = t227
        ·
         rw [if_pos c27] at H
         have c27b0 : (t217 == t227) = true := beq_iff_eq.mpr c27
         have c27b1 : (t217 != t227) = false := bne_eq_false_iff_eq.mpr c27
         clear c27
         by_cases c28 : t218 = 0
         ·
          rw [if_pos c28] at H
          have c28b0 : (t218 == 0) = true := beq_iff_eq.mpr c28
          have c28b1 : (t218 != 0) = false := bne_eq_false_iff_eq.mpr c28
          clear c28
          replace H := Option.bind_eq_some_iff.mp H
          obtain ⟨t228, A290, H⟩ := H
          replace H : (some t228) = some r := H
          have A29 := Aside0.mk A290
          clear A290
          obtain rfl := Option.some.inj H
          go_wp2_with (first | ((with_reducible refine gate_callee (f := 21) rfl ?_); refine goesL_ (some 95) rfl rfl Try.func21 (by kernel_rfl) rfl #[.int .i64 a0, .slice Ao12 t214.length co12, .int .i64 a2] rfl (by (try simp only [List.map_toArray, List.map_cons, List.map_nil]); first | done | rfl | (simp only [List.length_drop, List.length_take]; rfl)) ?_; (with_reducible refine (galloonref09_Weigh.calls kj18 a0 _ _ t214 a2 t227 _ ?side1 ?side2 A26.out).mono ?_); (case side1 => repeat (first | exact (Kd.R_reads' HO_7.out).2.2 | (with_reducible refine Kd.C_alloc ?_ _) | (with_reducible refine Kd.C_drewN ?_ _) | (with_reducible refine Kd.C_drew ?_))); (case side2 => exact (Kd.R_reads' HO_7.out).2.1); rintro e w30 ⟨rfl, hb⟩; refine ⟨_, rfl, ?_⟩; have n0_ := Aside0.mk (Kd.R_below (by (with_reducible repeat (first | apply Kd.R_alloc | apply Kd.R_drewN | apply Kd.R_drew)); exact HO_7.out) hb); have n1_ := Aside0.mk (below_step (by repeat (first | (with_reducible first | exact HB.out | apply below_alloc | apply pw_below_drewN | apply below_drew1) | exact HB.out)) hb); clear HO_7; clear HB; have HO_7 := n0_; have HB := n1_; clear n0_ n1_; (try clear hb); (try clear hb2); (try clear hk); (try clear hi)) | (go_at_call 19; (with_reducible refine (galloonlaw09_awake.calls kj18  t228 _ A29.out).mono ?_); rintro e w31 ⟨rfl, hb⟩; have n0_ := Aside0.mk (Kd.R_below (by (with_reducible repeat (first | apply Kd.R_alloc | apply Kd.R_drewN | apply Kd.R_drew)); exact HO_7.out) hb); have n1_ := Aside0.mk (below_step (by repeat (first | (with_reducible first | exact HB.out | apply below_alloc | apply pw_below_drewN | apply below_drew1) | exact HB.out)) hb); clear HO_7; clear HB; have HO_7 := n0_; have HB := n1_; clear n0_ n1_; (try clear hb); (try clear hb2); (try clear hk); (try clear hi)))
          go_ret
          exact ⟨by first | rfl | (simp [errW_none, errW_some] <;> rfl) | (simp [*, errW_none, errW_some] <;> rfl), by repeat (first | (with_reducible first | exact HB.out | apply below_alloc | apply pw_below_drewN | apply below_drew1) | exact HB.out)⟩
         ·
          rw [if_neg c28] at H
          exact absurd H (by simp)
        ·
         rw [if_neg c27] at H
         exact absurd H (by simp)
 ·
  replace c8 := Bool.eq_false_iff.mpr c8
  subst c8
  have H1 : (if t217 = 0 then (if t218 = 2 then (if t219 = 0 then (if t220 = 0 then (if t221 = 2 then ((galloonlaw09_awake.f k).bind fun t223 => (some t223)) else (none)) else (none)) else (none)) else (none)) else (none)) = some r := by rw [if_neg (show ¬ (false = true) by decide)] at H; exact H
  clear H
  have H := H1
  clear H1
  by_cases c32 : t217 = 0
  ·
   rw [if_pos c32] at H
   have c32b0 : (t217 == 0) = true := beq_iff_eq.mpr c32
   have c32b1 : (t217 != 0) = false := bne_eq_false_iff_eq.mpr c32
   clear c32
   by_cases c33 : t218 = 2
   ·
    rw [if_pos c33] at H
    have c33b0 : (t218 == 2) = true := beq_iff_eq.mpr c33
    have c33b1 : (t218 != 2) = false := bne_eq_false_iff_eq.mpr c33
    clear c33
    by_cases c34 : t219 = 0
    ·
     rw [if_pos c34] at H
     have c34b0 : (t219 == 0) = true := beq_iff_eq.mpr c34
     have c34b1 : (t219 != 0) = false := bne_eq_false_iff_eq.mpr c34
     clear c34
     by_cases c35 : t220 = 0
     ·
      rw [if_pos c35] at H
      have c35b0 : (t220 == 0) = true := beq_iff_eq.mpr c35
      have c35b1 : (t220 != 0) = false := bne_eq_false_iff_eq.mpr c35
      clear c35
      by_cases c36 : t221 = 2
      ·
       rw [if_pos c36] at H
       have c36b0 : (t221 == 2) = true := beq_iff_eq.mpr c36
       have c36b1 : (t221 != 2) = false := bne_eq_false_iff_eq.mpr c36
       clear c36
       replace H := Option.bind_eq_some_iff.mp H
       obtain ⟨t223, A370, H⟩ := H
       replace H : (some t223) = some r := H
       have A37 := Aside0.mk A370
       clear A370
       obtain rfl := Option.some.inj H
       go_enter Try.func3, Try.ntmps3
       go_wp2_with (first | ((with_reducible refine gate_callee (f := 15) rfl ?_); refine goesL_ (some 16) rfl rfl Try.func15 (by kernel_rfl) rfl #[.slice A1 l1.length c1] rfl (by (try simp only [List.map_toArray, List.map_cons, List.map_nil]); first | done | rfl | (simp only [List.length_drop, List.length_take]; rfl)) ?_; (with_reducible refine (galloonlaw09_list.calls _ _ l1 t214 _ ?side1 ?side2 A4.out).mono ?_); (case side1 => repeat (first | exact HR1.out | (with_reducible refine Kd.C_alloc ?_ _) | (with_reducible refine Kd.C_drewN ?_ _) | (with_reducible refine Kd.C_drew ?_))); (case side2 => exact HC1.out); rintro e w38 ⟨v215, rfl, ho0, hb⟩; refine ⟨_, rfl, ?_⟩; have n0_ := Aside0.mk (Kd.R_lower ho0 (below_size (by repeat (first | (with_reducible first | exact HB.out | apply below_alloc | apply pw_below_drewN | apply below_drew1) | exact HB.out)))); have n1_ := Aside0.mk (below_step (by repeat (first | (with_reducible first | exact HB.out | apply below_alloc | apply pw_below_drewN | apply below_drew1) | exact HB.out)) hb); clear HB; have HO216 := n0_; have HB := n1_; clear n0_ n1_; (try clear hb); (try clear hb2); (try clear hk); (try clear hi); (try clear ho0); obtain ⟨Ao39, co39, eo39⟩ := Kd.R_slice HO216.out; subst eo39) | ((with_reducible refine gate_callee (f := 16) rfl ?_); refine goesL_ (some 21) rfl rfl Try.func16 (by kernel_rfl) rfl #[.int .i64 a0, .slice Ao39 t214.length co39, .int .i64 a2] rfl (by (try simp only [List.map_toArray, List.map_cons, List.map_nil]); first | done | rfl | (simp only [List.length_drop, List.length_take]; rfl)) ?_; (with_reducible refine (remnant_Weigh.calls k a0 _ _ t214 a2 t217 t218 _ ?side1 ?side2 A5.out).mono ?_); (case side1 => repeat (first | exact (Kd.R_reads' HO216.out).2.2 | (with_reducible refine Kd.C_alloc ?_ _) | (with_reducible refine Kd.C_drewN ?_ _) | (with_reducible refine Kd.C_drew ?_))); (case side2 => exact (Kd.R_reads' HO216.out).2.1); rintro e w40 ⟨rfl, hb⟩; refine ⟨_, rfl, ?_⟩; have n0_ := Aside0.mk (Kd.R_below (by (with_reducible repeat (first | apply Kd.R_alloc | apply Kd.R_drewN | apply Kd.R_drew)); exact HO216.out) hb); have n1_ := Aside0.mk (below_step (by repeat (first | (with_reducible first | exact HB.out | apply below_alloc | apply pw_below_drewN | apply below_drew1) | exact HB.out)) hb); clear HO216; clear HB; have HO216 := n0_; have HB := n1_; clear n0_ n1_; (try clear hb); (try clear hb2); (try clear hk); (try clear hi)) | ((with_reducible refine gate_callee (f := 17) rfl ?_); refine goesL_ (some 27) rfl rfl Try.func17 (by kernel_rfl) rfl #[.int .i64 a0, .slice Ao39 t214.length co39] rfl (by (try simp only [List.map_toArray, List.map_cons, List.map_nil]); first | done | rfl | (simp only [List.length_drop, List.length_take]; rfl)) ?_; (with_reducible refine (remnant_Weight.calls k a0 _ _ t214 t219 t220 t221 _ ?side1 ?side2 A6.out).mono ?_); (case side1 => repeat (first | exact (Kd.R_reads' HO216.out).2.2 | (with_reducible refine Kd.C_alloc ?_ _) | (with_reducible refine Kd.C_drewN ?_ _) | (with_reducible refine Kd.C_drew ?_))); (case side2 => exact (Kd.R_reads' HO216.out).2.1); rintro e w41 ⟨rfl, hb⟩; refine ⟨_, rfl, ?_⟩; have n0_ := Aside0.mk (Kd.R_below (by (with_reducible repeat (first | apply Kd.R_alloc | apply Kd.R_drewN | apply Kd.R_drew)); exact HO216.out) hb); have n1_ := Aside0.mk (below_step (by repeat (first | (with_reducible first | exact HB.out | apply below_alloc | apply pw_below_drewN | apply below_drew1) | exact HB.out)) hb); clear HO216; clear HB; have HO216 := n0_; have HB := n1_; clear n0_ n1_; (try clear hb); (try clear hb2); (try clear hk); (try clear hi)) | ((with_reducible refine gate_callee (f := 18) rfl ?_); refine goesL_ (some 33) rfl rfl Try.func18 (by kernel_rfl) rfl #[.int .i64 a0, .slice Ao39 t214.length co39] rfl (by (try simp only [List.map_toArray, List.map_cons, List.map_nil]); first | done | rfl | (simp only [List.length_drop, List.length_take]; rfl)) ?_; (with_reducible refine (galloonref09_Pieces.calls k a0 _ _ t214 false _ ?side1 ?side2 A7.out).mono ?_); (case side1 => repeat (first | exact (Kd.R_reads' HO216.out).2.2 | (with_reducible refine Kd.C_alloc ?_ _) | (with_reducible refine Kd.C_drewN ?_ _) | (with_reducible refine Kd.C_drew ?_))); (case side2 => exact (Kd.R_reads' HO216.out).2.1); rintro e w' ⟨rfl, ⟨nd, rfl⟩⟩; refine ⟨_, rfl, ?_⟩) | (go_at_call 19; (with_reducible refine (galloonlaw09_awake.calls k  t223 _ A37.out).mono ?_); rintro e w42 ⟨rfl, hb⟩; have n0_ := Aside0.mk (Kd.R_below (by (with_reducible repeat (first | apply Kd.R_alloc | apply Kd.R_drewN | apply Kd.R_drew)); exact HO216.out) hb); have n1_ := Aside0.mk (below_step (by repeat (first | (with_reducible first | exact HB.out | apply below_alloc | apply pw_below_drewN | apply below_drew1) | exact HB.out)) hb); clear HO216; clear HB; have HO216 := n0_; have HB := n1_; clear n0_ n1_; (try clear hb); (try clear hb2); (try clear hk); (try clear hi)))
       go_ret
       exact ⟨by first | rfl | (simp [errW_none, errW_some] <;> rfl) | (simp [*, errW_none, errW_some] <;> rfl), by repeat (first | (with_reducible first | exact HB.out | apply below_alloc | apply pw_below_drewN | apply below_drew1) | exact HB.out)⟩
      ·
       rw [if_neg c36] at H
       exact absurd H (by simp)
     ·
      rw [if_neg c35] at H
      exact absurd H (by simp)
    ·
     rw [if_neg c34] at H
     exact absurd H (by simp)
   ·
    rw [if_neg c33] at H
    exact absurd H (by simp)
  ·
   rw [if_neg c32] at H
   exact absurd H (by simp)

/-- THE ONE PURE STATEMENT of galloonlaw09_RemnantWeighs: yours. -/
def galloonlaw09_RemnantWeighs.Pure : Prop := ∀ (a0 : Int) (l1 : List Int) (a2 : Int), (Lit.int .i64 a0).wf = true → l1.length ≤ maxLen → l1.length * 8 ≤ 140737488351232 → (∀ x ∈ l1, (Lit.int .i64 x).wf = true) → (Lit.int .i64 a2).wf = true → ∃ k, galloonlaw09_RemnantWeighs.f k a0 l1 a2 = some true
theorem galloonlaw09_RemnantWeighs.walk (P : galloonlaw09_RemnantWeighs.Pure) (a0 : Int) (a1 : Option Addr) (len1 cap1 : Nat) (z1 : List Int) (a2 : Int) (w : World) (w0 : (Lit.int .i64 a0).wf = true) (w1 : (a1 = none ∧ len1 = 0 ∧ cap1 = 0 ∧ z1 = []) ∨ ∃ x, a1 = some x ∧ len1 ≤ cap1 ∧ cap1 ≤ maxLen ∧ z1.length = cap1 ∧ (∀ i, i < z1.length → w.cell? (x.add i) = some (.int .i64 (z1.getD i 0))) ∧ ∀ n ∈ z1, (Lit.int .i64 n).wf = true) (y1 : len1 * 8 ≤ 140737488351232) (w2 : (Lit.int .i64 a2).wf = true) :
  Calls Try.prog 3 #[.int .i64 a0, .slice a1 len1 cap1, .int .i64 a2] w fun e w' => e = .returned (.bool true) ∧ Below w.heap.size w w' := by
 obtain ⟨l1, rfl, hr1, hm1, hw1, hc1⟩ := ReadsInt.ofRowC w1
 obtain ⟨k, h⟩ := P a0 l1 a2 w0 hm1 y1 hw1 w2
 refine (galloonlaw09_RemnantWeighs.calls k a0 _ _ l1 a2 true w (Kd.C_of_reads (d := (0 : Int)) (h1 := fun _ => rfl) hr1) hc1 h).mono ?_
 rintro e w' ⟨rfl, hd⟩
 exact ⟨rfl, hd⟩

/-! ### galloonlaw09_mod: function 29 -/
def galloonlaw09_mod.f (a0 : Int) (a1 : Int) : Option (Int) := if (IntKind.u64.wrap (a1)) = 0 then (none) else (some (wrap64 (Int.tmod (IntKind.u64.wrap (a0)) (IntKind.u64.wrap (a1)))))
set_option maxHeartbeats 8000000 in
set_option maxRecDepth 100000 in
theorem galloonlaw09_mod.calls (a0 : Int) (a1 : Int) (r : Int) (w : World) (h : galloonlaw09_mod.f a0 a1 = some r) :
  Calls Try.prog 29 #[.int .i64 a0, .int .i64 a1] w fun e w' => e = .returned (.int .i64 r) ∧ Drawn0 w w' := by
 have H : (if (IntKind.u64.wrap (a1)) = 0 then (none) else (some (wrap64 (Int.tmod (IntKind.u64.wrap (a0)) (IntKind.u64.wrap (a1)))))) = some r := h
 clear h
 by_cases c3 : (IntKind.u64.wrap (a1)) = 0
 ·
  rw [if_pos c3] at H
  exact absurd H (by simp)
 ·
  rw [if_neg c3] at H
  have c3b0 : ((IntKind.u64.wrap (a1)) == 0) = false := beq_eq_false_iff_ne.mpr c3
  have c3b1 : ((IntKind.u64.wrap (a1)) != 0) = true := bne_iff_ne.mpr c3
  obtain rfl := Option.some.inj H
  go_enter Try.func29, Try.ntmps29
  go_wp2
  go_ret
  exact ⟨by first | rfl | (simp; done) | (simp [*]; done), by repeat (first | exact Drawn0.refl _ | apply Drawn0.step)⟩

/-! ### galloonlaw09_tame: function 27 -/
def galloonlaw09_tame.l0 : Nat → Int → List Int → Int → List Int → Int → Option (Int × List Int)
 | 0, _, _, _, _, _ => none
 | k + 1, x0, x1, x2, x8, x9 => if x9 < (x1.length : Int) then (if x9 < x2 then (if 0 ≤ x9 then ((galloonlaw09_mod.f (rd x1 x9) x0).bind fun t234 => (if x8.length < 17592186044416 then (galloonlaw09_tame.l0 k x0 x1 x2 (x8 ++ [wrap64 (1 + t234)]) (wrap64 (x9 + 1))) else (none))) else (none)) else (some (x0, x8))) else (some (x0, x8))
def galloonlaw09_tame.f (k : Nat) (a0 : Int) (l1 : List Int) (a2 : Int) : Option (Int × List Int) := (galloonlaw09_mod.f a0 100).bind fun t229 => (galloonlaw09_tame.l0 k (wrap64 (1 + t229)) l1 a2 (([] : List Int)) 0)
theorem galloonlaw09_tame.mono_l : ∀ k, (∀ y0 y1 y2 y3 y4, LeO (galloonlaw09_tame.l0 k y0 y1 y2 y3 y4) (galloonlaw09_tame.l0 (k + 1) y0 y1 y2 y3 y4))
 | 0 => fun _ _ _ _ _ r h => by simp [galloonlaw09_tame.l0] at h
 | k + 1 => by
  have ih0 := galloonlaw09_tame.mono_l k
  ·
   intro y0 y1 y2 y3 y4
   unfold galloonlaw09_tame.l0
   repeat' first
   | (with_reducible exact ih0 _ _ _ _ _)
   | (with_reducible exact LeO.refl _)
   | (with_reducible exact LeO.none _)
   | (with_reducible refine LeO.ite ?_ ?_)
   | (with_reducible refine LeO.bind ?_ (fun _ => ?_))
   | exact ih0 _ _ _ _ _
   | exact LeO.none _
   | refine LeO.ite ?_ ?_
   | refine LeO.bind ?_ (fun _ => ?_)
theorem galloonlaw09_tame.mono : ∀ a0 a1 a2 k, LeO (galloonlaw09_tame.f k a0 a1 a2) (galloonlaw09_tame.f (k + 1) a0 a1 a2) := by
 intro a0 a1 a2 k
 have ih0 := galloonlaw09_tame.mono_l k
 unfold galloonlaw09_tame.f
 repeat' first
   | (with_reducible exact ih0 _ _ _ _ _)
   | (with_reducible exact LeO.refl _)
   | (with_reducible exact LeO.none _)
   | (with_reducible refine LeO.ite ?_ ?_)
   | (with_reducible refine LeO.bind ?_ (fun _ => ?_))
   | exact ih0 _ _ _ _ _
   | exact LeO.none _
   | refine LeO.ite ?_ ?_
   | refine LeO.bind ?_ (fun _ => ?_)
set_option maxHeartbeats 8000000 in
set_option maxRecDepth 100000 in
theorem galloonlaw09_tame.calls (k : Nat) (a0 : Int) (A1 : Option Addr) (c1 : Nat) (l1 : List Int) (a2 : Int) (r1 : Int) (r2 : List Int) (w : World) (hr1 : Kd.C (Kd.int .i64) w A1 l1.length l1) (hc1 : l1.length ≤ c1) (h : galloonlaw09_tame.f k a0 l1 a2 = some (r1, r2)) :
  Calls Try.prog 27 #[.int .i64 a0, .slice A1 l1.length c1, .int .i64 a2] w fun e w' => ∃ v1_ : Value, e = .returned (.tuple #[.int .i64 r1, v1_]) ∧ Kd.R (Kd.int .i64) 3 w' w.heap.size (fun _ => True) v1_ r2 ∧ Below w.heap.size w w' := by
 have HR1 := Aside0.mk hr1
 have HC1 := Aside0.mk hc1
 clear hr1 hc1
 have HB := Aside0.mk (Below.refl w.heap.size w)
 have H : ((galloonlaw09_mod.f a0 100).bind fun t229 => (galloonlaw09_tame.l0 k (wrap64 (1 + t229)) l1 a2 (([] : List Int)) 0)) = some (r1, r2) := h
 clear h
 replace H := Option.bind_eq_some_iff.mp H
 obtain ⟨t229, A40, H⟩ := H
 replace H : (galloonlaw09_tame.l0 k (wrap64 (1 + t229)) l1 a2 (([] : List Int)) 0) = some (r1, r2) := H
 have A4 := Aside0.mk A40
 clear A40
 obtain ⟨y230, hy230⟩ : ∃ y_ : List Int, y_ = (([] : List Int)) := ⟨_, rfl⟩
 replace H : (galloonlaw09_tame.l0 k (wrap64 (1 + t229)) l1 a2 y230 0) = some (r1, r2) := by first | (rw [hy230]; with_reducible exact H) | (have H2_ := (Option.bind_some _ _).symm.trans H; rw [hy230]; with_reducible exact H2_) | (have H2_ := (Option.bind_some _ _).symm.trans H; with_reducible exact H2_) | with_reducible exact H | (rw [hy230]; exact H) | exact H
 have Ny230 := Aside0.mk hy230
 clear hy230
 have H' := Aside0.mk H
 clear H
 go_enter Try.func27, Try.ntmps27
 go_wp2_with (first | ((with_reducible refine gate_callee (f := 29) rfl ?_); refine goesL_ (some 11) rfl rfl Try.func29 (by kernel_rfl) rfl #[.int .i64 a0, .int .i64 100] rfl (by (try simp only [List.map_toArray, List.map_cons, List.map_nil]); first | done | rfl | (simp only [List.length_drop, List.length_take]; rfl)) ?_; (with_reducible refine (galloonlaw09_mod.calls a0 100 t229 _ A4.out).mono ?_); rintro e w' ⟨rfl, ⟨nd, rfl⟩⟩; refine ⟨_, rfl, ?_⟩) | ((with_reducible refine gate_dst (N := 13) rfl ?_); refine Kd.R_lit (Kd.int .i64) _ 3 ?hg (N := 13) ?hd (xs := ([] : List Int)) (inner := []) (ok := fun _ => True) (okp := fun _ => True) ?hr ?hp (fun _ hk => hk) trivial (Below.refl _ _) (Nat.le_refl _) (by simp) ?_; (case hd => rfl); (case hg => rfl); (case hr => first | (go_simp; done) | (go_simp; rfl)); (case hp => exact (Reps.none _ _)); intro v231 w5 ho6 hb hg_ hnew_; clear hg_ hnew_; (first | rw [← Ny230.out] at ho6 | (simp only [Int.reduceToNat] at ho6; rw [← Ny230.out] at ho6)); have n0_ := Aside0.mk (Kd.R_lower ho6 (below_size (by repeat (first | (with_reducible first | exact HB.out | apply below_alloc | apply pw_below_drewN | apply below_drew1) | exact HB.out)))); have n1_ := Aside0.mk (below_step (by repeat (first | (with_reducible first | exact HB.out | apply below_alloc | apply pw_below_drewN | apply below_drew1) | exact HB.out)) hb); clear HB; have HO232 := n0_; have HB := n1_; clear n0_ n1_; clear hb ho6))
 go_loopg [8, 9] k (fun kq v8 v9 w' => ∃ (x8_1 : List Int) (x9_1 : Int), v9 = .int .i64 x9_1 ∧ Aside0 (galloonlaw09_tame.l0 kq (wrap64 (1 + t229)) l1 a2 x8_1 x9_1 = some (r1, r2)) ∧ Aside0 (kq ≤ k) ∧ Aside0 (Kd.R (Kd.int .i64) 3 w' w.heap.size (fun _ => True) v8 x8_1) ∧ Aside0 (Below w.heap.size w w'))
 case atStart => exact ⟨(y230), (0), (by first | rfl | (simp; done) | (simp [*]; done)), H', ⟨Nat.le_refl _⟩, ⟨by (with_reducible repeat (first | apply Kd.R_alloc | apply Kd.R_drewN | apply Kd.R_drew)); exact HO232.out⟩, ⟨by repeat (first | (with_reducible first | exact HB.out | apply below_alloc | apply pw_below_drewN | apply below_drew1) | exact HB.out)⟩⟩
 case round =>
  as_aux_lemma =>
  clear H'
  try clear c1
  try clear c2
  try clear p2
  try clear p6
  obtain ⟨x8_1, x9_1, rfl, HA, HK1, HO_8, HB⟩ := hrel
  cases gk with
  | zero => exact absurd HA.out (by simp [galloonlaw09_tame.l0])
  | succ k1 =>
   have H := HA.out
   clear HA
   simp only [galloonlaw09_tame.l0] at H
   by_cases c7 : x9_1 < (l1.length : Int)
   ·
    rw [if_pos c7] at H
    have c7b0 : decide (x9_1 < (l1.length : Int)) = true := decide_eq_true c7
    clear c7
    by_cases c8 : x9_1 < a2
    ·
     rw [if_pos c8] at H
     have c8b0 : decide (x9_1 < a2) = true := decide_eq_true c8
     clear c8
     by_cases c9 : 0 ≤ x9_1
     ·
      rw [if_pos c9] at H
      have c9b0 : decide (0 ≤ x9_1) = true := decide_eq_true c9
      clear c9
      replace H := Option.bind_eq_some_iff.mp H
      obtain ⟨t234, A100, H⟩ := H
      replace H : (if x8_1.length < 17592186044416 then (galloonlaw09_tame.l0 k1 (wrap64 (1 + t229)) l1 a2 (x8_1 ++ [wrap64 (1 + t234)]) (wrap64 (x9_1 + 1))) else (none)) = some (r1, r2) := H
      have A10 := Aside0.mk A100
      clear A100
      by_cases c11 : x8_1.length < 17592186044416
      ·
       rw [if_pos c11] at H
       have LMc11 := Aside0.mk c11
       clear c11
       obtain ⟨y235, hy235⟩ : ∃ y_ : List Int, y_ = (x8_1 ++ [wrap64 (1 + t234)]) := ⟨_, rfl⟩
       replace H : (galloonlaw09_tame.l0 k1 (wrap64 (1 + t229)) l1 a2 y235 (wrap64 (x9_1 + 1))) = some (r1, r2) := by first | (rw [hy235]; with_reducible exact H) | (have H2_ := (Option.bind_some _ _).symm.trans H; rw [hy235]; with_reducible exact H2_) | (have H2_ := (Option.bind_some _ _).symm.trans H; with_reducible exact H2_) | with_reducible exact H | (rw [hy235]; exact H) | exact H
       have Ny235 := Aside0.mk hy235
       clear hy235
       have H' := Aside0.mk H
       clear H
       have p233 : 0 ≤ (x9_1 : Int) := of_decide_eq_true (by assumption)
       have q233 : x9_1 < (l1.length : Int) := of_decide_eq_true (by assumption)
       obtain ⟨ad233, e233, hx233_0⟩ := Kd.at_int HR1.out x9_1 p233 q233
       cases e233
       replace hx233_0 := (HB.out.cell (World.block_lt_of_cell? w _ hx233_0)).trans hx233_0
       replace p233 := eq_true p233
       replace q233 := eq_true q233
       go_wp2_with (first | ((with_reducible refine gate_callee (f := 29) rfl ?_); refine goesL_ (some 31) rfl rfl Try.func29 (by kernel_rfl) rfl #[.int .i64 (rd l1 x9_1), .int .i64 (wrap64 (1 + t229))] rfl (by (try simp only [List.map_toArray, List.map_cons, List.map_nil]); first | done | rfl | (simp only [List.length_drop, List.length_take]; rfl)) ?_; (with_reducible refine (galloonlaw09_mod.calls (rd l1 x9_1) (wrap64 (1 + t229)) t234 _ A10.out).mono ?_); rintro e w' ⟨rfl, ⟨nd, rfl⟩⟩; refine ⟨_, rfl, ?_⟩) | ((with_reducible refine gate_builtin (b := .append) (xs := #[.tmp 25, .tmp 33]) rfl ?_); at_builtin; refine Kd.R_append (Kd.int .i64) (w0 := w) w.heap.size rfl (.tmp 25) (.tmp 33) 22 3 (.int .i64 0) 8 rfl Try.underlying22 info3 rfl (by decide) (by omega) u8 x8_1 (wrap64 (1 + t234)) [.int .i64 (wrap64 (1 + t234))] (fun _ => True) (fun _ => False) rfl rfl ?aP (fun _ hk => hk.elim) ?aF ?aO ?aB ?aS ?aL ?_; (case aP => exact rfl); (case aB => exact (by repeat (first | (with_reducible first | exact HB.out | apply below_alloc | apply pw_below_drewN | apply below_drew1) | exact HB.out))); (case aF => exact (fun _ _ => trivial)); (case aO => exact (by (with_reducible repeat (first | apply Kd.R_alloc | apply Kd.R_drewN | apply Kd.R_drew)); exact HO_8.out)); (case aS => exact (below_size (by repeat (first | (with_reducible first | exact HB.out | apply below_alloc | apply pw_below_drewN | apply below_drew1) | exact HB.out)))); (case aL => have := LMc11.out; omega); intro v236 w12 ho hb hg hat; rw [← Ny235.out] at ho; have n0_ := Aside0.mk (hb); have n1_ := Aside0.mk (ho); clear HB; clear HO_8; have HB := n0_; have HO237 := n1_; clear n0_ n1_; clear ho hb hg hat))
       go_roundg k1
       case measure => have := HK1.out; omega
       case rel => exact ⟨(y235), (wrap64 (x9_1 + 1)), (by first | rfl | (simp; done) | (simp [*]; done)), H', ⟨by have := HK1.out; omega⟩, ⟨by (with_reducible repeat (first | apply Kd.R_alloc | apply Kd.R_drewN | apply Kd.R_drew)); exact HO237.out⟩, ⟨by repeat (first | (with_reducible first | exact HB.out | apply below_alloc | apply pw_below_drewN | apply below_drew1) | exact HB.out)⟩⟩
      ·
       rw [if_neg c11] at H
       exact absurd H (by simp)
     ·
      rw [if_neg c9] at H
      exact absurd H (by simp)
    ·
     rw [if_neg c8] at H
     have c8b0 : decide (x9_1 < a2) = false := decide_eq_false c8
     clear c8
     simp only [Option.some.injEq, Prod.mk.injEq] at H
     obtain ⟨rfl, rfl⟩ := H
     go_wp2
     go_ret2
     exact ⟨_, by first | rfl | (simp [errW_none, errW_some] <;> rfl) | (simp [*, errW_none, errW_some] <;> rfl), by (with_reducible repeat (first | apply Kd.R_alloc | apply Kd.R_drewN | apply Kd.R_drew)); exact HO_8.out, by repeat (first | (with_reducible first | exact HB.out | apply below_alloc | apply pw_below_drewN | apply below_drew1) | exact HB.out)⟩
   ·
    rw [if_neg c7] at H
    have c7b0 : decide (x9_1 < (l1.length : Int)) = false := decide_eq_false c7
    clear c7
    simp only [Option.some.injEq, Prod.mk.injEq] at H
    obtain ⟨rfl, rfl⟩ := H
    go_wp2
    go_ret2
    exact ⟨_, by first | rfl | (simp [errW_none, errW_some] <;> rfl) | (simp [*, errW_none, errW_some] <;> rfl), by (with_reducible repeat (first | apply Kd.R_alloc | apply Kd.R_drewN | apply Kd.R_drew)); exact HO_8.out, by repeat (first | (with_reducible first | exact HB.out | apply below_alloc | apply pw_below_drewN | apply below_drew1) | exact HB.out)⟩

/-! ### galloonlaw09_sum: function 30 -/
def galloonlaw09_sum.l0 : Nat → List Int → Int → Int → Option (Int)
 | 0, _, _, _ => none
 | k + 1, x0, x3, x4 => if x4 < (x0.length : Int) then (if 0 ≤ x4 then (galloonlaw09_sum.l0 k x0 (wrap64 (x3 + (rd x0 x4))) (wrap64 (x4 + 1))) else (none)) else (some x3)
def galloonlaw09_sum.f (k : Nat) (l0 : List Int) : Option (Int) := galloonlaw09_sum.l0 k l0 0 0
theorem galloonlaw09_sum.mono_l : ∀ k, (∀ y0 y1 y2, LeO (galloonlaw09_sum.l0 k y0 y1 y2) (galloonlaw09_sum.l0 (k + 1) y0 y1 y2))
 | 0 => fun _ _ _ r h => by simp [galloonlaw09_sum.l0] at h
 | k + 1 => by
  have ih0 := galloonlaw09_sum.mono_l k
  ·
   intro y0 y1 y2
   unfold galloonlaw09_sum.l0
   repeat' first
   | (with_reducible exact ih0 _ _ _)
   | (with_reducible exact LeO.refl _)
   | (with_reducible exact LeO.none _)
   | (with_reducible refine LeO.ite ?_ ?_)
   | (with_reducible refine LeO.bind ?_ (fun _ => ?_))
   | exact ih0 _ _ _
   | exact LeO.none _
   | refine LeO.ite ?_ ?_
   | refine LeO.bind ?_ (fun _ => ?_)
theorem galloonlaw09_sum.mono : ∀ a0 k, LeO (galloonlaw09_sum.f k a0) (galloonlaw09_sum.f (k + 1) a0) := by
 intro a0 k
 have ih0 := galloonlaw09_sum.mono_l k
 unfold galloonlaw09_sum.f
 repeat' first
   | (with_reducible exact ih0 _ _ _)
   | (with_reducible exact LeO.refl _)
   | (with_reducible exact LeO.none _)
   | (with_reducible refine LeO.ite ?_ ?_)
   | (with_reducible refine LeO.bind ?_ (fun _ => ?_))
   | exact ih0 _ _ _
   | exact LeO.none _
   | refine LeO.ite ?_ ?_
   | refine LeO.bind ?_ (fun _ => ?_)
set_option maxHeartbeats 8000000 in
set_option maxRecDepth 100000 in
theorem galloonlaw09_sum.calls (k : Nat) (A0 : Option Addr) (c0 : Nat) (l0 : List Int) (r : Int) (w : World) (hr0 : Kd.C (Kd.int .i64) w A0 l0.length l0) (hc0 : l0.length ≤ c0) (h : galloonlaw09_sum.f k l0 = some r) :
  Calls Try.prog 30 #[.slice A0 l0.length c0] w fun e w' => e = .returned (.int .i64 r) ∧ Drawn0 w w' := by
 have HR0 := Aside0.mk hr0
 have HC0 := Aside0.mk hc0
 clear hr0 hc0
 have H : (galloonlaw09_sum.l0 k l0 0 0) = some r := h
 clear h
 have H' := Aside0.mk H
 clear H
 go_enter Try.func30, Try.ntmps30
 go_wp2
 go_loopg [3, 4] k (fun kq v3 v4 w' => ∃ (x3_1 : Int) (x4_1 : Int), v3 = .int .i64 x3_1 ∧ v4 = .int .i64 x4_1 ∧ Aside0 (galloonlaw09_sum.l0 kq l0 x3_1 x4_1 = some r) ∧ Aside0 (kq ≤ k) ∧ Drawn0 w w')
 case atStart => exact ⟨(0), (0), (by first | rfl | (simp; done) | (simp [*]; done)), (by first | rfl | (simp; done) | (simp [*]; done)), H', ⟨Nat.le_refl _⟩, by repeat (first | exact Drawn0.refl _ | apply Drawn0.step)⟩
 case round =>
  as_aux_lemma =>
  clear H'
  obtain ⟨x3_1, x4_1, rfl, rfl, HA, HK1, ⟨m1, rfl⟩⟩ := hrel
  cases gk with
  | zero => exact absurd HA.out (by simp [galloonlaw09_sum.l0])
  | succ k1 =>
   have H := HA.out
   clear HA
   simp only [galloonlaw09_sum.l0] at H
   by_cases c2 : x4_1 < (l0.length : Int)
   ·
    rw [if_pos c2] at H
    have c2b0 : decide (x4_1 < (l0.length : Int)) = true := decide_eq_true c2
    clear c2
    by_cases c3 : 0 ≤ x4_1
    ·
     rw [if_pos c3] at H
     have c3b0 : decide (0 ≤ x4_1) = true := decide_eq_true c3
     clear c3
     have H' := Aside0.mk H
     clear H
     have p238 : 0 ≤ (x4_1 : Int) := of_decide_eq_true (by assumption)
     have q238 : x4_1 < (l0.length : Int) := of_decide_eq_true (by assumption)
     obtain ⟨ad238, e238, hx238_0⟩ := Kd.at_int HR0.out x4_1 p238 q238
     cases e238
     replace p238 := eq_true p238
     replace q238 := eq_true q238
     go_wp2
     go_roundg k1
     case measure => have := HK1.out; omega
     case rel => exact ⟨(wrap64 (x3_1 + (rd l0 x4_1))), (wrap64 (x4_1 + 1)), (by first | rfl | (simp; done) | (simp [*]; done)), (by first | rfl | (simp; done) | (simp [*]; done)), H', ⟨by have := HK1.out; omega⟩, by repeat (first | exact Drawn0.refl _ | apply Drawn0.step)⟩
    ·
     rw [if_neg c3] at H
     exact absurd H (by simp)
   ·
    rw [if_neg c2] at H
    have c2b0 : decide (x4_1 < (l0.length : Int)) = false := decide_eq_false c2
    clear c2
    obtain rfl := Option.some.inj H
    go_wp2
    go_ret
    exact ⟨by first | rfl | (simp; done) | (simp [*]; done), by repeat (first | exact Drawn0.refl _ | apply Drawn0.step)⟩

-- NOT PRINTED: function 68 (remnant_packings)

/-! ### remnant_Best: function 37, by hand -/
def remnant_Best.f (k : Nat) (a0 : Int) (l1 : List Int) : Option (List Int × Int × Int) := if Hand.pieF a0 l1 = true then (remnant_Weight.f k a0 l1).bind fun t => (if t.2.2 = 0 ∧ 0 ≤ t.1 ∧ t.1 ≤ 1000000 then some (Hand.bestF a0 l1 t.1) else none) else some ([], 0, 2)
theorem remnant_Best.mono : ∀ a0 a1 k, LeO (remnant_Best.f k a0 a1) (remnant_Best.f (k + 1) a0 a1) := by
 intro a0 a1 k r h
 unfold remnant_Best.f at h ⊢
 by_cases hp : Hand.pieF a0 a1 = true
 ·
  rw [if_pos hp] at h ⊢
  cases hw : remnant_Weight.f k a0 a1 with
  | none => rw [hw] at h; cases h
  | some t => rw [hw] at h; rw [remnant_Weight.mono _ _ _ _ hw]; exact h
 ·
  rw [if_neg hp] at h ⊢; exact h
theorem remnant_Best.calls (k : Nat) (a0 : Int) (A1 : Option Addr) (c1 : Nat) (l1 : List Int) (r1 : List Int) (r2 : Int) (r3 : Int) (w : World) (hr1 : Kd.C (Kd.int .i64) w A1 l1.length l1) (hc1 : l1.length ≤ c1) (h : remnant_Best.f k a0 l1 = some (r1, r2, r3)) :
  Calls Try.prog 37 #[.int .i64 a0, .slice A1 l1.length c1] w fun e w' => ∃ v0_ : Value, e = .returned (.tuple #[v0_, .int .i64 r2, .int .i64 r3]) ∧ Kd.R (Kd.int .i64) 3 w' w.heap.size (fun _ => True) v0_ r1 ∧ Below w.heap.size w w' := by
 unfold remnant_Best.f at h
 by_cases hp : Hand.pieF a0 l1 = true
 ·
  rw [if_pos hp] at h
  cases hw : remnant_Weight.f k a0 l1 with
  | none => rw [hw] at h; cases h
  | some t =>
   obtain ⟨t1, t2, t3⟩ := t
   rw [hw, Option.bind_some] at h
   split at h
   ·
    rename_i hc
    obtain ⟨e3, h0, h1⟩ := hc
    obtain rfl : t3 = 0 := e3
    have hh := Option.some.inj h
    have hb := Hand.best_calls a0 A1 c1 l1 w hr1 hc1 t1 t2 (fun _ => ⟨⟨h0, h1⟩, fun W hW => remnant_Weight.calls k a0 A1 c1 l1 t1 t2 0 W hW hc1 hw⟩)
    rw [hh] at hb
    exact hb
   ·
    cases h
 ·
  rw [if_neg hp] at h
  have hh := Option.some.inj h
  have hb := Hand.best_calls a0 A1 c1 l1 w hr1 hc1 0 0 (fun h => absurd h hp)
  rw [show Hand.bestF a0 l1 0 = (r1, r2, r3) from (if_neg hp).trans hh] at hb
  exact hb


/-! ### galloonlaw09_RemnantBounds: function 7 -/
def galloonlaw09_RemnantBounds.f (k : Nat) (a0 : Int) (l1 : List Int) (a2 : Int) : Option (Bool) := (galloonlaw09_tame.f k a0 l1 12).bind fun bt239 => ((remnant_Best.f k bt239.1 bt239.2).bind fun bt243 => ((remnant_Weight.f k bt239.1 bt239.2).bind fun bt248 => ((galloonlaw09_mod.f a2 (wrap64 ((wrap64 (Int.tdiv bt239.1 2)) + 1))).bind fun t251 => ((remnant_Weigh.f k bt239.1 bt239.2 t251).bind fun bt252 => ((remnant_Weigh.f k bt239.1 bt239.2 bt248.2.1).bind fun bt254 => ((remnant_Fill.f k bt239.1 bt239.2).bind fun bt256 => (if bt243.2.2 = 0 then (if bt248.2.2 = 0 then (if bt252.2 = 0 then (if bt254.2 = 0 then (if bt256.2.2 = 0 then (if bt248.1 ≤ bt243.2.1 then ((galloonlaw09_sum.f k bt239.2).bind fun t261 => (if bt239.1 = 0 then (none) else (if bt248.1 ≥ (wrap64 (Int.tdiv (wrap64 ((wrap64 (t261 + bt239.1)) - 1)) bt239.1)) then (if bt252.1 ≤ bt248.1 then (if bt254.1 = bt248.1 then (if bt256.2.1 ≤ bt243.2.1 then (if bt256.2.1 ≥ 0 then ((galloonlaw09_sum.f k bt239.2).bind fun t262 => (if (wrap64 (bt256.2.1 * bt239.1)) ≤ t262 then ((galloonlaw09_awake.f k).bind fun t263 => (some t263)) else (none))) else (none)) else (none)) else (none)) else (none)) else (none)))) else (none)) else (none)) else (none)) else (none)) else (none)) else (none))))))))
theorem galloonlaw09_RemnantBounds.mono : ∀ a0 a1 a2 k, LeO (galloonlaw09_RemnantBounds.f k a0 a1 a2) (galloonlaw09_RemnantBounds.f (k + 1) a0 a1 a2) := by
 intro a0 a1 a2 k
 unfold galloonlaw09_RemnantBounds.f
 repeat' first
   | (with_reducible exact galloonlaw09_awake.mono _)
   | (with_reducible exact galloonlaw09_sum.mono _ _)
   | (with_reducible exact galloonlaw09_tame.mono _ _ _ _)
   | (with_reducible exact remnant_Best.mono _ _ _)
   | (with_reducible exact remnant_Fill.mono _ _ _)
   | (with_reducible exact remnant_Weigh.mono _ _ _ _)
   | (with_reducible exact remnant_Weight.mono _ _ _)
   | (with_reducible exact LeO.refl _)
   | (with_reducible exact LeO.none _)
   | (with_reducible refine LeO.ite ?_ ?_)
   | (with_reducible refine LeO.bind ?_ (fun _ => ?_))
   | exact galloonlaw09_awake.mono _
   | exact galloonlaw09_sum.mono _ _
   | exact galloonlaw09_tame.mono _ _ _ _
   | exact remnant_Best.mono _ _ _
   | exact remnant_Fill.mono _ _ _
   | exact remnant_Weigh.mono _ _ _ _
   | exact remnant_Weight.mono _ _ _
   | exact LeO.none _
   | refine LeO.ite ?_ ?_
   | refine LeO.bind ?_ (fun _ => ?_)
set_option maxHeartbeats 8000000 in
set_option maxRecDepth 100000 in
theorem galloonlaw09_RemnantBounds.calls (k : Nat) (a0 : Int) (A1 : Option Addr) (c1 : Nat) (l1 : List Int) (a2 : Int) (r : Bool) (w : World) (hr1 : Kd.C (Kd.int .i64) w A1 l1.length l1) (hc1 : l1.length ≤ c1) (h : galloonlaw09_RemnantBounds.f k a0 l1 a2 = some r) :
  Calls Try.prog 7 #[.int .i64 a0, .slice A1 l1.length c1, .int .i64 a2] w fun e w' => e = .returned (.bool r) ∧ Below w.heap.size w w' := by
 have HR1 := Aside0.mk hr1
 have HC1 := Aside0.mk hc1
 clear hr1 hc1
 have HB := Aside0.mk (Below.refl w.heap.size w)
 have H : ((galloonlaw09_tame.f k a0 l1 12).bind fun bt239 => ((remnant_Best.f k bt239.1 bt239.2).bind fun bt243 => ((remnant_Weight.f k bt239.1 bt239.2).bind fun bt248 => ((galloonlaw09_mod.f a2 (wrap64 ((wrap64 (Int.tdiv bt239.1 2)) + 1))).bind fun t251 => ((remnant_Weigh.f k bt239.1 bt239.2 t251).bind fun bt252 => ((remnant_Weigh.f k bt239.1 bt239.2 bt248.2.1).bind fun bt254 => ((remnant_Fill.f k bt239.1 bt239.2).bind fun bt256 => (if bt243.2.2 = 0 then (if bt248.2.2 = 0 then (if bt252.2 = 0 then (if bt254.2 = 0 then (if bt256.2.2 = 0 then (if bt248.1 ≤ bt243.2.1 then ((galloonlaw09_sum.f k bt239.2).bind fun t261 => (if bt239.1 = 0 then (none) else (if bt248.1 ≥ (wrap64 (Int.tdiv (wrap64 ((wrap64 (t261 + bt239.1)) - 1)) bt239.1)) then (if bt252.1 ≤ bt248.1 then (if bt254.1 = bt248.1 then (if bt256.2.1 ≤ bt243.2.1 then (if bt256.2.1 ≥ 0 then ((galloonlaw09_sum.f k bt239.2).bind fun t262 => (if (wrap64 (bt256.2.1 * bt239.1)) ≤ t262 then ((galloonlaw09_awake.f k).bind fun t263 => (some t263)) else (none))) else (none)) else (none)) else (none)) else (none)) else (none)))) else (none)) else (none)) else (none)) else (none)) else (none)) else (none))))))))) = some r := h
 clear h
 replace H := Option.bind_eq_some_iff.mp H
 obtain ⟨⟨t239, t240⟩, A40, H⟩ := H
 replace H : ((remnant_Best.f k t239 t240).bind fun bt243 => ((remnant_Weight.f k t239 t240).bind fun bt248 => ((galloonlaw09_mod.f a2 (wrap64 ((wrap64 (Int.tdiv t239 2)) + 1))).bind fun t251 => ((remnant_Weigh.f k t239 t240 t251).bind fun bt252 => ((remnant_Weigh.f k t239 t240 bt248.2.1).bind fun bt254 => ((remnant_Fill.f k t239 t240).bind fun bt256 => (if bt243.2.2 = 0 then (if bt248.2.2 = 0 then (if bt252.2 = 0 then (if bt254.2 = 0 then (if bt256.2.2 = 0 then (if bt248.1 ≤ bt243.2.1 then ((galloonlaw09_sum.f k t240).bind fun t261 => (if t239 = 0 then (none) else (if bt248.1 ≥ (wrap64 (Int.tdiv (wrap64 ((wrap64 (t261 + t239)) - 1)) t239)) then (if bt252.1 ≤ bt248.1 then (if bt254.1 = bt248.1 then (if bt256.2.1 ≤ bt243.2.1 then (if bt256.2.1 ≥ 0 then ((galloonlaw09_sum.f k t240).bind fun t262 => (if (wrap64 (bt256.2.1 * t239)) ≤ t262 then ((galloonlaw09_awake.f k).bind fun t263 => (some t263)) else (none))) else (none)) else (none)) else (none)) else (none)) else (none)))) else (none)) else (none)) else (none)) else (none)) else (none)) else (none)))))))) = some r := H
 have A4 := Aside0.mk A40
 clear A40
 replace H := Option.bind_eq_some_iff.mp H
 obtain ⟨⟨t243, t244, t245⟩, A50, H⟩ := H
 replace H : ((remnant_Weight.f k t239 t240).bind fun bt248 => ((galloonlaw09_mod.f a2 (wrap64 ((wrap64 (Int.tdiv t239 2)) + 1))).bind fun t251 => ((remnant_Weigh.f k t239 t240 t251).bind fun bt252 => ((remnant_Weigh.f k t239 t240 bt248.2.1).bind fun bt254 => ((remnant_Fill.f k t239 t240).bind fun bt256 => (if t245 = 0 then (if bt248.2.2 = 0 then (if bt252.2 = 0 then (if bt254.2 = 0 then (if bt256.2.2 = 0 then (if bt248.1 ≤ t244 then ((galloonlaw09_sum.f k t240).bind fun t261 => (if t239 = 0 then (none) else (if bt248.1 ≥ (wrap64 (Int.tdiv (wrap64 ((wrap64 (t261 + t239)) - 1)) t239)) then (if bt252.1 ≤ bt248.1 then (if bt254.1 = bt248.1 then (if bt256.2.1 ≤ t244 then (if bt256.2.1 ≥ 0 then ((galloonlaw09_sum.f k t240).bind fun t262 => (if (wrap64 (bt256.2.1 * t239)) ≤ t262 then ((galloonlaw09_awake.f k).bind fun t263 => (some t263)) else (none))) else (none)) else (none)) else (none)) else (none)) else (none)))) else (none)) else (none)) else (none)) else (none)) else (none)) else (none))))))) = some r := H
 have A5 := Aside0.mk A50
 clear A50
 replace H := Option.bind_eq_some_iff.mp H
 obtain ⟨⟨t248, t249, t250⟩, A60, H⟩ := H
 replace H : ((galloonlaw09_mod.f a2 (wrap64 ((wrap64 (Int.tdiv t239 2)) + 1))).bind fun t251 => ((remnant_Weigh.f k t239 t240 t251).bind fun bt252 => ((remnant_Weigh.f k t239 t240 t249).bind fun bt254 => ((remnant_Fill.f k t239 t240).bind fun bt256 => (if t245 = 0 then (if t250 = 0 then (if bt252.2 = 0 then (if bt254.2 = 0 then (if bt256.2.2 = 0 then (if t248 ≤ t244 then ((galloonlaw09_sum.f k t240).bind fun t261 => (if t239 = 0 then (none) else (if t248 ≥ (wrap64 (Int.tdiv (wrap64 ((wrap64 (t261 + t239)) - 1)) t239)) then (if bt252.1 ≤ t248 then (if bt254.1 = t248 then (if bt256.2.1 ≤ t244 then (if bt256.2.1 ≥ 0 then ((galloonlaw09_sum.f k t240).bind fun t262 => (if (wrap64 (bt256.2.1 * t239)) ≤ t262 then ((galloonlaw09_awake.f k).bind fun t263 => (some t263)) else (none))) else (none)) else (none)) else (none)) else (none)) else (none)))) else (none)) else (none)) else (none)) else (none)) else (none)) else (none)))))) = some r := H
 have A6 := Aside0.mk A60
 clear A60
 replace H := Option.bind_eq_some_iff.mp H
 obtain ⟨t251, A70, H⟩ := H
 replace H : ((remnant_Weigh.f k t239 t240 t251).bind fun bt252 => ((remnant_Weigh.f k t239 t240 t249).bind fun bt254 => ((remnant_Fill.f k t239 t240).bind fun bt256 => (if t245 = 0 then (if t250 = 0 then (if bt252.2 = 0 then (if bt254.2 = 0 then (if bt256.2.2 = 0 then (if t248 ≤ t244 then ((galloonlaw09_sum.f k t240).bind fun t261 => (if t239 = 0 then (none) else (if t248 ≥ (wrap64 (Int.tdiv (wrap64 ((wrap64 (t261 + t239)) - 1)) t239)) then (if bt252.1 ≤ t248 then (if bt254.1 = t248 then (if bt256.2.1 ≤ t244 then (if bt256.2.1 ≥ 0 then ((galloonlaw09_sum.f k t240).bind fun t262 => (if (wrap64 (bt256.2.1 * t239)) ≤ t262 then ((galloonlaw09_awake.f k).bind fun t263 => (some t263)) else (none))) else (none)) else (none)) else (none)) else (none)) else (none)))) else (none)) else (none)) else (none)) else (none)) else (none)) else (none))))) = some r := H
 have A7 := Aside0.mk A70
 clear A70
 replace H := Option.bind_eq_some_iff.mp H
 obtain ⟨⟨t252, t253⟩, A80, H⟩ := H
 replace H : ((remnant_Weigh.f k t239 t240 t249).bind fun bt254 => ((remnant_Fill.f k t239 t240).bind fun bt256 => (if t245 = 0 then (if t250 = 0 then (if t253 = 0 then (if bt254.2 = 0 then (if bt256.2.2 = 0 then (if t248 ≤ t244 then ((galloonlaw09_sum.f k t240).bind fun t261 => (if t239 = 0 then (none) else (if t248 ≥ (wrap64 (Int.tdiv (wrap64 ((wrap64 (t261 + t239)) - 1)) t239)) then (if t252 ≤ t248 then (if bt254.1 = t248 then (if bt256.2.1 ≤ t244 then (if bt256.2.1 ≥ 0 then ((galloonlaw09_sum.f k t240).bind fun t262 => (if (wrap64 (bt256.2.1 * t239)) ≤ t262 then ((galloonlaw09_awake.f k).bind fun t263 => (some t263)) else (none))) else (none)) else (none)) else (none)) else (none)) else (none)))) else (none)) else (none)) else (none)) else (none)) else (none)) else (none)))) = some r := H
 have A8 := Aside0.mk A80
 clear A80
 replace H := Option.bind_eq_some_iff.mp H
 obtain ⟨⟨t254, t255⟩, A90, H⟩ := H
 replace H : ((remnant_Fill.f k t239 t240).bind fun bt256 => (if t245 = 0 then (if t250 = 0 then (if t253 = 0 then (if t255 = 0 then (if bt256.2.2 = 0 then (if t248 ≤ t244 then ((galloonlaw09_sum.f k t240).bind fun t261 => (if t239 = 0 then (none) else (if t248 ≥ (wrap64 (Int.tdiv (wrap64 ((wrap64 (t261 + t239)) - 1)) t239)) then (if t252 ≤ t248 then (if t254 = t248 then (if bt256.2.1 ≤ t244 then (if bt256.2.1 ≥ 0 then ((galloonlaw09_sum.f k t240).bind fun t262 => (if (wrap64 (bt256.2.1 * t239)) ≤ t262 then ((galloonlaw09_awake.f k).bind fun t263 => (some t263)) else (none))) else (none)) else (none)) else (none)) else (none)) else (none)))) else (none)) else (none)) else (none)) else (none)) else (none)) else (none))) = some r := H
 have A9 := Aside0.mk A90
 clear A90
 replace H := Option.bind_eq_some_iff.mp H
 obtain ⟨⟨t256, t257, t258⟩, A100, H⟩ := H
 replace H : (if t245 = 0 then (if t250 = 0 then (if t253 = 0 then (if t255 = 0 then (if t258 = 0 then (if t248 ≤ t244 then ((galloonlaw09_sum.f k t240).bind fun t261 => (if t239 = 0 then (none) else (if t248 ≥ (wrap64 (Int.tdiv (wrap64 ((wrap64 (t261 + t239)) - 1)) t239)) then (if t252 ≤ t248 then (if t254 = t248 then (if t257 ≤ t244 then (if t257 ≥ 0 then ((galloonlaw09_sum.f k t240).bind fun t262 => (if (wrap64 (t257 * t239)) ≤ t262 then ((galloonlaw09_awake.f k).bind fun t263 => (some t263)) else (none))) else (none)) else (none)) else (none)) else (none)) else (none)))) else (none)) else (none)) else (none)) else (none)) else (none)) else (none)) = some r := H
 have A10 := Aside0.mk A100
 clear A100
 by_cases c11 : t245 = 0
 ·
  rw [if_pos c11] at H
  have c11b0 : (t245 == 0) = true := beq_iff_eq.mpr c11
  have c11b1 : (t245 != 0) = false := bne_eq_false_iff_eq.mpr c11
  clear c11
  by_cases c12 : t250 = 0
  ·
   rw [if_pos c12] at H
   have c12b0 : (t250 == 0) = true := beq_iff_eq.mpr c12
   have c12b1 : (t250 != 0) = false := bne_eq_false_iff_eq.mpr c12
   clear c12
   by_cases c13 : t253 = 0
   ·
    rw [if_pos c13] at H
    have c13b0 : (t253 == 0) = true := beq_iff_eq.mpr c13
    have c13b1 : (t253 != 0) = false := bne_eq_false_iff_eq.mpr c13
    clear c13
    by_cases c14 : t255 = 0
    ·
     rw [if_pos c14] at H
     have c14b0 : (t255 == 0) = true := beq_iff_eq.mpr c14
     have c14b1 : (t255 != 0) = false := bne_eq_false_iff_eq.mpr c14
     clear c14
     by_cases c15 : t258 = 0
     ·
      rw [if_pos c15] at H
      have c15b0 : (t258 == 0) = true := beq_iff_eq.mpr c15
      have c15b1 : (t258 != 0) = false := bne_eq_false_iff_eq.mpr c15
      clear c15
      by_cases c16 : t248 ≤ t244
      ·
       rw [if_pos c16] at H
       have c16b0 : decide (t248 ≤ t244) = true := decide_eq_true c16
       clear c16
       replace H := Option.bind_eq_some_iff.mp H
       obtain ⟨t261, A170, H⟩ := H
       replace H : (if t239 = 0 then (none) else (if t248 ≥ (wrap64 (Int.tdiv (wrap64 ((wrap64 (t261 + t239)) - 1)) t239)) then (if t252 ≤ t248 then (if t254 = t248 then (if t257 ≤ t244 then (if t257 ≥ 0 then ((galloonlaw09_sum.f k t240).bind fun t262 => (if (wrap64 (t257 * t239)) ≤ t262 then ((galloonlaw09_awake.f k).bind fun t263 => (some t263)) else (none))) else (none)) else (none)) else (none)) else (none)) else (none))) = some r := H
       have A17 := Aside0.mk A170
       clear A170
       by_cases c18 : t239 = 0
       ·
        rw [if_pos c18] at H
        exact absurd H (by simp)
       ·
        rw [if_neg c18] at H
        have c18b0 : (t239 == 0) = false := beq_eq_false_iff_ne.mpr c18
        have c18b1 : (t239 != 0) = true := bne_iff_ne.mpr c18
        by_cases c19 : t248 ≥ (wrap64 (Int.tdiv (wrap64 ((wrap64 (t261 + t239)) - 1)) t239))
        ·
         rw [if_pos c19] at H
         have c19b0 : decide ((wrap64 (Int.tdiv (wrap64 ((wrap64 (t261 + t239)) - 1)) t239)) ≤ t248) = true := decide_eq_true c19
         clear c19
         by_cases c20 : t252 ≤ t248
         ·
          rw [if_pos c20] at H
          have c20b0 : decide (t252 ≤ t248) = true := decide_eq_true c20
          clear c20
          by_cases c21 : t254 = t248
          ·
           rw [if_pos c21] at H
           have c21b0 : (t254 == t248) = true := beq_iff_eq.mpr c21
           have c21b1 : (t254 != t248) = false := bne_eq_false_iff_eq.mpr c21
           clear c21
           by_cases c22 : t257 ≤ t244
           ·
            rw [if_pos c22] at H
            have c22b0 : decide (t257 ≤ t244) = true := decide_eq_true c22
            clear c22
            by_cases c23 : t257 ≥ 0
            ·
             rw [if_pos c23] at H
             have c23b0 : decide (0 ≤ t257) = true := decide_eq_true c23
             clear c23
             replace H := Option.bind_eq_some_iff.mp H
             obtain ⟨t262, A240, H⟩ := H
             obtain rfl : t262 = t261 := Option.some.inj (A240.symm.trans A17.out)
             replace H : (if (wrap64 (t257 * t239)) ≤ t262 then ((galloonlaw09_awake.f k).bind fun t263 => (some t263)) else (none)) = some r := H
             have A24 := Aside0.mk A240
             clear A240
             by_cases c25 : (wrap64 (t257 * t239)) ≤ t262
             ·
              rw [if_pos c25] at H
              have c25b0 : decide ((wrap64 (t257 * t239)) ≤ t262) = true := decide_eq_true c25
              clear c25
              replace H := Option.bind_eq_some_iff.mp H
              obtain ⟨t263, A260, H⟩ := H
              replace H : (some t263) = some r := H
              have A26 := Aside0.mk A260
              clear A260
              obtain rfl := Option.some.inj H
              go_enter Try.func7, Try.ntmps7
              go_wp2_with (first | ((with_reducible refine gate_callee (f := 27) rfl ?_); refine goesL_ (some 24) rfl rfl Try.func27 (by kernel_rfl) rfl #[.int .i64 a0, .slice A1 l1.length c1, .int .i64 12] rfl (by (try simp only [List.map_toArray, List.map_cons, List.map_nil]); first | done | rfl | (simp only [List.length_drop, List.length_take]; rfl)) ?_; (with_reducible refine (galloonlaw09_tame.calls k a0 _ _ l1 12 t239 t240 _ ?side1 ?side2 A4.out).mono ?_); (case side1 => repeat (first | exact HR1.out | (with_reducible refine Kd.C_alloc ?_ _) | (with_reducible refine Kd.C_drewN ?_ _) | (with_reducible refine Kd.C_drew ?_))); (case side2 => exact HC1.out); rintro e w27 ⟨v241, rfl, ho0, hb⟩; refine ⟨_, rfl, ?_⟩; have n0_ := Aside0.mk (Kd.R_lower ho0 (below_size (by repeat (first | (with_reducible first | exact HB.out | apply below_alloc | apply pw_below_drewN | apply below_drew1) | exact HB.out)))); have n1_ := Aside0.mk (below_step (by repeat (first | (with_reducible first | exact HB.out | apply below_alloc | apply pw_below_drewN | apply below_drew1) | exact HB.out)) hb); clear HB; have HO242 := n0_; have HB := n1_; clear n0_ n1_; (try clear hb); (try clear hb2); (try clear hk); (try clear hi); (try clear ho0); obtain ⟨Ao28, co28, eo28⟩ := Kd.R_slice HO242.out; subst eo28) | ((with_reducible refine gate_callee (f := 37) rfl ?_); refine goesL_ (some 30) rfl rfl Try.func37 (by kernel_rfl) rfl #[.int .i64 t239, .slice Ao28 t240.length co28] rfl (by (try simp only [List.map_toArray, List.map_cons, List.map_nil]); first | done | rfl | (simp only [List.length_drop, List.length_take]; rfl)) ?_; (with_reducible refine (remnant_Best.calls k t239 _ _ t240 t243 t244 t245 _ ?side1 ?side2 A5.out).mono ?_); (case side1 => repeat (first | exact (Kd.R_reads' HO242.out).2.2 | (with_reducible refine Kd.C_alloc ?_ _) | (with_reducible refine Kd.C_drewN ?_ _) | (with_reducible refine Kd.C_drew ?_))); (case side2 => exact (Kd.R_reads' HO242.out).2.1); rintro e w29 ⟨v246, rfl, ho0, hb⟩; refine ⟨_, rfl, ?_⟩; have n0_ := Aside0.mk (Kd.R_elder' (by (with_reducible repeat (first | apply Kd.R_alloc | apply Kd.R_drewN | apply Kd.R_drew)); exact HO242.out) (Kd.R_base ho0) hb); have n1_ := Aside0.mk (Kd.R_lower (Kd.R_new' ho0 (Kd.R_lt (by (with_reducible repeat (first | apply Kd.R_alloc | apply Kd.R_drewN | apply Kd.R_drew)); exact HO242.out))) (below_size (by repeat (first | (with_reducible first | exact HB.out | apply below_alloc | apply pw_below_drewN | apply below_drew1) | exact HB.out)))); have n2_ := Aside0.mk (below_step (by repeat (first | (with_reducible first | exact HB.out | apply below_alloc | apply pw_below_drewN | apply below_drew1) | exact HB.out)) hb); clear HO242; clear HB; have HO242 := n0_; have HO247 := n1_; have HB := n2_; clear n0_ n1_ n2_; (try clear hb); (try clear hb2); (try clear hk); (try clear hi); (try clear ho0)) | ((with_reducible refine gate_callee (f := 17) rfl ?_); refine goesL_ (some 37) rfl rfl Try.func17 (by kernel_rfl) rfl #[.int .i64 t239, .slice Ao28 t240.length co28] rfl (by (try simp only [List.map_toArray, List.map_cons, List.map_nil]); first | done | rfl | (simp only [List.length_drop, List.length_take]; rfl)) ?_; (with_reducible refine (remnant_Weight.calls k t239 _ _ t240 t248 t249 t250 _ ?side1 ?side2 A6.out).mono ?_); (case side1 => repeat (first | exact (Kd.R_reads' HO242.out).2.2 | (with_reducible refine Kd.C_alloc ?_ _) | (with_reducible refine Kd.C_drewN ?_ _) | (with_reducible refine Kd.C_drew ?_))); (case side2 => exact (Kd.R_reads' HO242.out).2.1); rintro e w30 ⟨rfl, hb⟩; refine ⟨_, rfl, ?_⟩; have n0_ := Aside0.mk (Kd.R_below (by (with_reducible repeat (first | apply Kd.R_alloc | apply Kd.R_drewN | apply Kd.R_drew)); exact HO242.out) hb); have n1_ := Aside0.mk (Kd.R_below (by (with_reducible repeat (first | apply Kd.R_alloc | apply Kd.R_drewN | apply Kd.R_drew)); exact HO247.out) hb); have n2_ := Aside0.mk (below_step (by repeat (first | (with_reducible first | exact HB.out | apply below_alloc | apply pw_below_drewN | apply below_drew1) | exact HB.out)) hb); clear HO242; clear HO247; clear HB; have HO242 := n0_; have HO247 := n1_; have HB := n2_; clear n0_ n1_ n2_; (try clear hb); (try clear hb2); (try clear hk); (try clear hi)) | ((with_reducible refine gate_callee (f := 29) rfl ?_); refine goesL_ (some 48) rfl rfl Try.func29 (by kernel_rfl) rfl #[.int .i64 a2, .int .i64 (wrap64 ((wrap64 (Int.tdiv t239 2)) + 1))] rfl (by (try simp only [List.map_toArray, List.map_cons, List.map_nil]); first | done | rfl | (simp only [List.length_drop, List.length_take]; rfl)) ?_; (with_reducible refine (galloonlaw09_mod.calls a2 (wrap64 ((wrap64 (Int.tdiv t239 2)) + 1)) t251 _ A7.out).mono ?_); rintro e w' ⟨rfl, ⟨nd, rfl⟩⟩; refine ⟨_, rfl, ?_⟩) | ((with_reducible refine gate_callee (f := 16) rfl ?_); refine goesL_ (some 49) rfl rfl Try.func16 (by kernel_rfl) rfl #[.int .i64 t239, .slice Ao28 t240.length co28, .int .i64 t251] rfl (by (try simp only [List.map_toArray, List.map_cons, List.map_nil]); first | done | rfl | (simp only [List.length_drop, List.length_take]; rfl)) ?_; (with_reducible refine (remnant_Weigh.calls k t239 _ _ t240 t251 t252 t253 _ ?side1 ?side2 A8.out).mono ?_); (case side1 => repeat (first | exact (Kd.R_reads' HO242.out).2.2 | (with_reducible refine Kd.C_alloc ?_ _) | (with_reducible refine Kd.C_drewN ?_ _) | (with_reducible refine Kd.C_drew ?_))); (case side2 => exact (Kd.R_reads' HO242.out).2.1); rintro e w31 ⟨rfl, hb⟩; refine ⟨_, rfl, ?_⟩; have n0_ := Aside0.mk (Kd.R_below (by (with_reducible repeat (first | apply Kd.R_alloc | apply Kd.R_drewN | apply Kd.R_drew)); exact HO242.out) hb); have n1_ := Aside0.mk (Kd.R_below (by (with_reducible repeat (first | apply Kd.R_alloc | apply Kd.R_drewN | apply Kd.R_drew)); exact HO247.out) hb); have n2_ := Aside0.mk (below_step (by repeat (first | (with_reducible first | exact HB.out | apply below_alloc | apply pw_below_drewN | apply below_drew1) | exact HB.out)) hb); clear HO242; clear HO247; clear HB; have HO242 := n0_; have HO247 := n1_; have HB := n2_; clear n0_ n1_ n2_; (try clear hb); (try clear hb2); (try clear hk); (try clear hi)) | ((with_reducible refine gate_callee (f := 16) rfl ?_); refine goesL_ (some 56) rfl rfl Try.func16 (by kernel_rfl) rfl #[.int .i64 t239, .slice Ao28 t240.length co28, .int .i64 t249] rfl (by (try simp only [List.map_toArray, List.map_cons, List.map_nil]); first | done | rfl | (simp only [List.length_drop, List.length_take]; rfl)) ?_; (with_reducible refine (remnant_Weigh.calls k t239 _ _ t240 t249 t254 t255 _ ?side1 ?side2 A9.out).mono ?_); (case side1 => repeat (first | exact (Kd.R_reads' HO242.out).2.2 | (with_reducible refine Kd.C_alloc ?_ _) | (with_reducible refine Kd.C_drewN ?_ _) | (with_reducible refine Kd.C_drew ?_))); (case side2 => exact (Kd.R_reads' HO242.out).2.1); rintro e w32 ⟨rfl, hb⟩; refine ⟨_, rfl, ?_⟩; have n0_ := Aside0.mk (Kd.R_below (by (with_reducible repeat (first | apply Kd.R_alloc | apply Kd.R_drewN | apply Kd.R_drew)); exact HO242.out) hb); have n1_ := Aside0.mk (Kd.R_below (by (with_reducible repeat (first | apply Kd.R_alloc | apply Kd.R_drewN | apply Kd.R_drew)); exact HO247.out) hb); have n2_ := Aside0.mk (below_step (by repeat (first | (with_reducible first | exact HB.out | apply below_alloc | apply pw_below_drewN | apply below_drew1) | exact HB.out)) hb); clear HO242; clear HO247; clear HB; have HO242 := n0_; have HO247 := n1_; have HB := n2_; clear n0_ n1_ n2_; (try clear hb); (try clear hb2); (try clear hk); (try clear hi)) | ((with_reducible refine gate_callee (f := 31) rfl ?_); refine goesL_ (some 62) rfl rfl Try.func31 (by kernel_rfl) rfl #[.int .i64 t239, .slice Ao28 t240.length co28] rfl (by (try simp only [List.map_toArray, List.map_cons, List.map_nil]); first | done | rfl | (simp only [List.length_drop, List.length_take]; rfl)) ?_; (with_reducible refine (remnant_Fill.calls k t239 _ _ t240 t256 t257 t258 _ ?side1 ?side2 A10.out).mono ?_); (case side1 => repeat (first | exact (Kd.R_reads' HO242.out).2.2 | (with_reducible refine Kd.C_alloc ?_ _) | (with_reducible refine Kd.C_drewN ?_ _) | (with_reducible refine Kd.C_drew ?_))); (case side2 => exact (Kd.R_reads' HO242.out).2.1); rintro e w33 ⟨v259, rfl, ho0, hb⟩; refine ⟨_, rfl, ?_⟩; have n0_ := Aside0.mk (Kd.R_elder' (by (with_reducible repeat (first | apply Kd.R_alloc | apply Kd.R_drewN | apply Kd.R_drew)); exact HO242.out) (Kd.R_base ho0) hb); have n1_ := Aside0.mk (Kd.R_elder' (by (with_reducible repeat (first | apply Kd.R_alloc | apply Kd.R_drewN | apply Kd.R_drew)); exact HO247.out) (Kd.R_base ho0) hb); have n2_ := Aside0.mk (Kd.R_lower (Kd.R_new' (Kd.R_new' ho0 (Kd.R_lt (by (with_reducible repeat (first | apply Kd.R_alloc | apply Kd.R_drewN | apply Kd.R_drew)); exact HO242.out))) (Kd.R_lt (by (with_reducible repeat (first | apply Kd.R_alloc | apply Kd.R_drewN | apply Kd.R_drew)); exact HO247.out))) (below_size (by repeat (first | (with_reducible first | exact HB.out | apply below_alloc | apply pw_below_drewN | apply below_drew1) | exact HB.out)))); have n3_ := Aside0.mk (below_step (by repeat (first | (with_reducible first | exact HB.out | apply below_alloc | apply pw_below_drewN | apply below_drew1) | exact HB.out)) hb); clear HO242; clear HO247; clear HB; have HO242 := n0_; have HO247 := n1_; have HO260 := n2_; have HB := n3_; clear n0_ n1_ n2_ n3_; (try clear hb); (try clear hb2); (try clear hk); (try clear hi); (try clear ho0)) | (go_at_call 30; (with_reducible refine (galloonlaw09_sum.calls k _ _ t240 t261 _ ?side1 ?side2 A17.out).mono ?_); (case side1 => repeat (first | exact (Kd.R_reads' HO242.out).2.2 | (with_reducible refine Kd.C_alloc ?_ _) | (with_reducible refine Kd.C_drewN ?_ _) | (with_reducible refine Kd.C_drew ?_))); (case side2 => exact (Kd.R_reads' HO242.out).2.1); rintro e w' ⟨rfl, ⟨nd, rfl⟩⟩) | (go_at_call 30; (with_reducible refine (galloonlaw09_sum.calls k _ _ t240 t262 _ ?side1 ?side2 A24.out).mono ?_); (case side1 => repeat (first | exact (Kd.R_reads' HO242.out).2.2 | (with_reducible refine Kd.C_alloc ?_ _) | (with_reducible refine Kd.C_drewN ?_ _) | (with_reducible refine Kd.C_drew ?_))); (case side2 => exact (Kd.R_reads' HO242.out).2.1); rintro e w' ⟨rfl, ⟨nd, rfl⟩⟩) | (go_at_call 19; (with_reducible refine (galloonlaw09_awake.calls k  t263 _ A26.out).mono ?_); rintro e w34 ⟨rfl, hb⟩; have n0_ := Aside0.mk (Kd.R_below (by (with_reducible repeat (first | apply Kd.R_alloc | apply Kd.R_drewN | apply Kd.R_drew)); exact HO242.out) hb); have n1_ := Aside0.mk (Kd.R_below (by (with_reducible repeat (first | apply Kd.R_alloc | apply Kd.R_drewN | apply Kd.R_drew)); exact HO247.out) hb); have n2_ := Aside0.mk (Kd.R_below (by (with_reducible repeat (first | apply Kd.R_alloc | apply Kd.R_drewN | apply Kd.R_drew)); exact HO260.out) hb); have n3_ := Aside0.mk (below_step (by repeat (first | (with_reducible first | exact HB.out | apply below_alloc | apply pw_below_drewN | apply below_drew1) | exact HB.out)) hb); clear HO242; clear HO247; clear HO260; clear HB; have HO242 := n0_; have HO247 := n1_; have HO260 := n2_; have HB := n3_; clear n0_ n1_ n2_ n3_; (try clear hb); (try clear hb2); (try clear hk); (try clear hi)))
              go_ret
              exact ⟨by first | rfl | (simp [errW_none, errW_some] <;> rfl) | (simp [*, errW_none, errW_some] <;> rfl), by repeat (first | (with_reducible first | exact HB.out | apply below_alloc | apply pw_below_drewN | apply below_drew1) | exact HB.out)⟩
             ·
              rw [if_neg c25] at H
              exact absurd H (by simp)
            ·
             rw [if_neg c23] at H
             exact absurd H (by simp)
           ·
            rw [if_neg c22] at H
            exact absurd H (by simp)
          ·
           rw [if_neg c21] at H
           exact absurd H (by simp)
         ·
          rw [if_neg c20] at H
          exact absurd H (by simp)
        ·
         rw [if_neg c19] at H
         exact absurd H (by simp)
      ·
       rw [if_neg c16] at H
       exact absurd H (by simp)
     ·
      rw [if_neg c15] at H
      exact absurd H (by simp)
    ·
     rw [if_neg c14] at H
     exact absurd H (by simp)
   ·
    rw [if_neg c13] at H
    exact absurd H (by simp)
  ·
   rw [if_neg c12] at H
   exact absurd H (by simp)
 ·
  rw [if_neg c11] at H
  exact absurd H (by simp)

/-- THE ONE PURE STATEMENT of galloonlaw09_RemnantBounds: yours. -/
def galloonlaw09_RemnantBounds.Pure : Prop := ∀ (a0 : Int) (l1 : List Int) (a2 : Int), (Lit.int .i64 a0).wf = true → l1.length ≤ maxLen → l1.length * 8 ≤ 140737488351232 → (∀ x ∈ l1, (Lit.int .i64 x).wf = true) → (Lit.int .i64 a2).wf = true → ∃ k, galloonlaw09_RemnantBounds.f k a0 l1 a2 = some true
theorem galloonlaw09_RemnantBounds.walk (P : galloonlaw09_RemnantBounds.Pure) (a0 : Int) (a1 : Option Addr) (len1 cap1 : Nat) (z1 : List Int) (a2 : Int) (w : World) (w0 : (Lit.int .i64 a0).wf = true) (w1 : (a1 = none ∧ len1 = 0 ∧ cap1 = 0 ∧ z1 = []) ∨ ∃ x, a1 = some x ∧ len1 ≤ cap1 ∧ cap1 ≤ maxLen ∧ z1.length = cap1 ∧ (∀ i, i < z1.length → w.cell? (x.add i) = some (.int .i64 (z1.getD i 0))) ∧ ∀ n ∈ z1, (Lit.int .i64 n).wf = true) (y1 : len1 * 8 ≤ 140737488351232) (w2 : (Lit.int .i64 a2).wf = true) :
  Calls Try.prog 7 #[.int .i64 a0, .slice a1 len1 cap1, .int .i64 a2] w fun e w' => e = .returned (.bool true) ∧ Below w.heap.size w w' := by
 obtain ⟨l1, rfl, hr1, hm1, hw1, hc1⟩ := ReadsInt.ofRowC w1
 obtain ⟨k, h⟩ := P a0 l1 a2 w0 hm1 y1 hw1 w2
 refine (galloonlaw09_RemnantBounds.calls k a0 _ _ l1 a2 true w (Kd.C_of_reads (d := (0 : Int)) (h1 := fun _ => rfl) hr1) hc1 h).mono ?_
 rintro e w' ⟨rfl, hd⟩
 exact ⟨rfl, hd⟩

end Go.Proofs.Ytoecbchfdgbliaa.B
