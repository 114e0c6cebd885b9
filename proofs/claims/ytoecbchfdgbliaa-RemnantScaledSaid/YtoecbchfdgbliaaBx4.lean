-- Written by a program of this session (wip/xprint.py), over the kit's print; some sections by hand.
import Derived.Test.YtoecbchfdgbliaaBx0
import Derived.Test.YtoecbchfdgbliaaBx1
import Derived.Test.YtoecbchfdgbliaaBx3
namespace Go.Proofs.Ytoecbchfdgbliaa.B
open Go.RowKit Go.Proofs.YtoecbchfdgbliaaW.PrintWords Go.Proofs.YtoecbchfdgbliaaW.PrintLast Go.Proofs.YtoecbchfdgbliaaW.PrintMore
attribute [local go_sem] max2_int min2_int max_two min_two max_three min_three max_four min_four   -- for this text's walks alone
set_option linter.unusedVariables false
set_option linter.unusedSimpArgs false

/-! ### galloonlaw09_RemnantScaled: function 14 -/
mutual
def galloonlaw09_RemnantScaled.l0 : Nat → Int → List Int → List Int → Int → Option (Bool)
 | 0, _, _, _, _ => none
 | k + 1, x0, x5, x6, x7 => if x7 < (x5.length : Int) then (if 0 ≤ x7 then (if x6.length < 17592186044416 then (galloonlaw09_RemnantScaled.l0 k x0 x5 (x6 ++ [wrap64 (2 * (rd x5 x7))]) (wrap64 (x7 + 1))) else (none)) else (none)) else ((remnant_First.f k x0 x5).bind fun bt254 => ((remnant_First.f k (wrap64 (2 * x0)) x6).bind fun bt258 => ((remnant_Tight.f k x0 x5).bind fun bt262 => ((remnant_Tight.f k (wrap64 (2 * x0)) x6).bind fun bt266 => ((remnant_Falling.f x0 x5).bind fun bt270 => ((remnant_Falling.f (wrap64 (2 * x0)) x6).bind fun bt274 => ((remnant_Ways.f x0 x5).bind fun bt278 => ((remnant_Ways.f (wrap64 (2 * x0)) x6).bind fun bt280 => (if bt254.2 = 0 then (if bt258.2 = 0 then (if bt262.2 = 0 then (if bt266.2 = 0 then (if bt270.2 = 0 then (if bt274.2 = 0 then (if bt278.2 = 0 then (if bt280.2 = 0 then ((galloonlaw09_ints.f k bt254.1 bt258.1).bind fun t282 => (if t282 = true then ((galloonlaw09_ints.f k bt262.1 bt266.1).bind fun t283 => (if t283 = true then ((galloonlaw09_ints.f k bt270.1 bt274.1).bind fun t284 => (if t284 = true then (galloonlaw09_RemnantScaled.j1 k x0 x5 x6 (bt278.1 != bt280.1)) else (galloonlaw09_RemnantScaled.j1 k x0 x5 x6 true))) else (galloonlaw09_RemnantScaled.j1 k x0 x5 x6 true))) else (galloonlaw09_RemnantScaled.j1 k x0 x5 x6 true))) else (galloonlaw09_RemnantScaled.j1 k x0 x5 x6 true)) else (galloonlaw09_RemnantScaled.j1 k x0 x5 x6 true)) else (galloonlaw09_RemnantScaled.j1 k x0 x5 x6 true)) else (galloonlaw09_RemnantScaled.j1 k x0 x5 x6 true)) else (galloonlaw09_RemnantScaled.j1 k x0 x5 x6 true)) else (galloonlaw09_RemnantScaled.j1 k x0 x5 x6 true)) else (galloonlaw09_RemnantScaled.j1 k x0 x5 x6 true)) else (galloonlaw09_RemnantScaled.j1 k x0 x5 x6 true))))))))))
def galloonlaw09_RemnantScaled.j1 : Nat → Int → List Int → List Int → Bool → Option (Bool)
 | 0, _, _, _, _ => none
 | k + 1, x0, x5, x6, x167 => if x167 = true then (none) else ((remnant_Best.f k x0 x5).bind fun bt285 => ((remnant_Best.f k (wrap64 (2 * x0)) x6).bind fun bt290 => ((remnant_Rest.f x0 x5).bind fun bt295 => ((remnant_Rest.f (wrap64 (2 * x0)) x6).bind fun bt300 => ((remnant_Split.f x5).bind fun bt305 => ((remnant_Split.f x6).bind fun bt310 => (if bt285.2.2 = 0 then (if bt290.2.2 = 0 then (if bt285.2.1 = bt290.2.1 then (if bt295.2.2 = 0 then (if bt300.2.2 = 0 then ((galloonlaw09_ints.f k bt295.1 bt300.1).bind fun t315 => (if t315 = true then (if bt300.2.1 = (wrap64 (2 * bt295.2.1)) then (if bt305.2.2 = 0 then (if bt310.2.2 = 0 then ((galloonlaw09_ints.f k bt305.1 bt310.1).bind fun t316 => (if t316 = true then (if bt310.2.1 = (wrap64 (2 * bt305.2.1)) then ((galloonlaw09_awake.f k).bind fun t317 => (some t317)) else (none)) else (none))) else (none)) else (none)) else (none)) else (none))) else (none)) else (none)) else (none)) else (none)) else (none))))))))
end
def galloonlaw09_RemnantScaled.f (k : Nat) (a0 : Int) (l1 : List Int) : Option (Bool) := (galloonlaw09_mod.f a0 50).bind fun t245 => ((galloonlaw09_tame.f k t245 l1 12).bind fun bt246 => (galloonlaw09_RemnantScaled.l0 k bt246.1 bt246.2 ([] : List Int) 0))
theorem galloonlaw09_RemnantScaled.mono_l : ∀ k, (∀ y0 y1 y2 y3, LeO (galloonlaw09_RemnantScaled.l0 k y0 y1 y2 y3) (galloonlaw09_RemnantScaled.l0 (k + 1) y0 y1 y2 y3)) ∧ (∀ y0 y1 y2 y3, LeO (galloonlaw09_RemnantScaled.j1 k y0 y1 y2 y3) (galloonlaw09_RemnantScaled.j1 (k + 1) y0 y1 y2 y3))
 | 0 => ⟨fun _ _ _ _ r h => by simp [galloonlaw09_RemnantScaled.l0] at h, fun _ _ _ _ r h => by simp [galloonlaw09_RemnantScaled.j1] at h⟩
 | k + 1 => by
  obtain ⟨ih0, ih1⟩ := galloonlaw09_RemnantScaled.mono_l k
  refine ⟨?_, ?_⟩
  ·
   intro y0 y1 y2 y3
   unfold galloonlaw09_RemnantScaled.l0
   repeat' first
   | (with_reducible exact ih0 _ _ _ _)
   | (with_reducible exact ih1 _ _ _ _)
   | (with_reducible exact galloonlaw09_awake.mono _)
   | (with_reducible exact galloonlaw09_ints.mono _ _ _)
   | (with_reducible exact galloonlaw09_tame.mono _ _ _ _)
   | (with_reducible exact remnant_Best.mono _ _ _)
   | (with_reducible exact remnant_First.mono _ _ _)
   | (with_reducible exact remnant_Tight.mono _ _ _)
   | (with_reducible exact LeO.refl _)
   | (with_reducible exact LeO.none _)
   | (with_reducible refine LeO.ite ?_ ?_)
   | (with_reducible refine LeO.bind ?_ (fun _ => ?_))
   | exact ih0 _ _ _ _
   | exact ih1 _ _ _ _
   | exact galloonlaw09_awake.mono _
   | exact galloonlaw09_ints.mono _ _ _
   | exact galloonlaw09_tame.mono _ _ _ _
   | exact remnant_Best.mono _ _ _
   | exact remnant_First.mono _ _ _
   | exact remnant_Tight.mono _ _ _
   | exact LeO.none _
   | refine LeO.ite ?_ ?_
   | refine LeO.bind ?_ (fun _ => ?_)
  ·
   intro y0 y1 y2 y3
   unfold galloonlaw09_RemnantScaled.j1
   repeat' first
   | (with_reducible exact ih0 _ _ _ _)
   | (with_reducible exact ih1 _ _ _ _)
   | (with_reducible exact galloonlaw09_awake.mono _)
   | (with_reducible exact galloonlaw09_ints.mono _ _ _)
   | (with_reducible exact galloonlaw09_tame.mono _ _ _ _)
   | (with_reducible exact remnant_Best.mono _ _ _)
   | (with_reducible exact remnant_First.mono _ _ _)
   | (with_reducible exact remnant_Tight.mono _ _ _)
   | (with_reducible exact LeO.refl _)
   | (with_reducible exact LeO.none _)
   | (with_reducible refine LeO.ite ?_ ?_)
   | (with_reducible refine LeO.bind ?_ (fun _ => ?_))
   | exact ih0 _ _ _ _
   | exact ih1 _ _ _ _
   | exact galloonlaw09_awake.mono _
   | exact galloonlaw09_ints.mono _ _ _
   | exact galloonlaw09_tame.mono _ _ _ _
   | exact remnant_Best.mono _ _ _
   | exact remnant_First.mono _ _ _
   | exact remnant_Tight.mono _ _ _
   | exact LeO.none _
   | refine LeO.ite ?_ ?_
   | refine LeO.bind ?_ (fun _ => ?_)
theorem galloonlaw09_RemnantScaled.mono : ∀ a0 a1 k, LeO (galloonlaw09_RemnantScaled.f k a0 a1) (galloonlaw09_RemnantScaled.f (k + 1) a0 a1) := by
 intro a0 a1 k
 obtain ⟨ih0, ih1⟩ := galloonlaw09_RemnantScaled.mono_l k
 unfold galloonlaw09_RemnantScaled.f
 repeat' first
   | (with_reducible exact ih0 _ _ _ _)
   | (with_reducible exact ih1 _ _ _ _)
   | (with_reducible exact galloonlaw09_awake.mono _)
   | (with_reducible exact galloonlaw09_ints.mono _ _ _)
   | (with_reducible exact galloonlaw09_tame.mono _ _ _ _)
   | (with_reducible exact remnant_Best.mono _ _ _)
   | (with_reducible exact remnant_First.mono _ _ _)
   | (with_reducible exact remnant_Tight.mono _ _ _)
   | (with_reducible exact LeO.refl _)
   | (with_reducible exact LeO.none _)
   | (with_reducible refine LeO.ite ?_ ?_)
   | (with_reducible refine LeO.bind ?_ (fun _ => ?_))
   | exact ih0 _ _ _ _
   | exact ih1 _ _ _ _
   | exact galloonlaw09_awake.mono _
   | exact galloonlaw09_ints.mono _ _ _
   | exact galloonlaw09_tame.mono _ _ _ _
   | exact remnant_Best.mono _ _ _
   | exact remnant_First.mono _ _ _
   | exact remnant_Tight.mono _ _ _
   | exact LeO.none _
   | refine LeO.ite ?_ ?_
   | refine LeO.bind ?_ (fun _ => ?_)
set_option maxHeartbeats 8000000 in
set_option maxRecDepth 100000 in
theorem galloonlaw09_RemnantScaled.calls (k : Nat) (a0 : Int) (A1 : Option Addr) (c1 : Nat) (l1 : List Int) (r : Bool) (w : World) (hr1 : Kd.C (Kd.int .i64) w A1 l1.length l1) (hc1 : l1.length ≤ c1) (h : galloonlaw09_RemnantScaled.f k a0 l1 = some r) :
  Calls Try.prog 14 #[.int .i64 a0, .slice A1 l1.length c1] w fun e w' => e = .returned (.bool r) ∧ Below w.heap.size w w' := by
 have HR1 := Aside0.mk hr1
 have HC1 := Aside0.mk hc1
 clear hr1 hc1
 have HB := Aside0.mk (Below.refl w.heap.size w)
 have H : ((galloonlaw09_mod.f a0 50).bind fun t245 => ((galloonlaw09_tame.f k t245 l1 12).bind fun bt246 => (galloonlaw09_RemnantScaled.l0 k bt246.1 bt246.2 ([] : List Int) 0))) = some r := h
 clear h
 replace H := Option.bind_eq_some_iff.mp H
 obtain ⟨t245, A30, H⟩ := H
 replace H : ((galloonlaw09_tame.f k t245 l1 12).bind fun bt246 => (galloonlaw09_RemnantScaled.l0 k bt246.1 bt246.2 ([] : List Int) 0)) = some r := H
 have A3 := Aside0.mk A30
 clear A30
 replace H := Option.bind_eq_some_iff.mp H
 obtain ⟨⟨t246, t247⟩, A40, H⟩ := H
 replace H : (galloonlaw09_RemnantScaled.l0 k t246 t247 ([] : List Int) 0) = some r := H
 have A4 := Aside0.mk A40
 clear A40
 have H' := Aside0.mk H
 clear H
 go_enter Try.func14, Try.ntmps14
 go_wp2_with (first | ((with_reducible refine gate_callee (f := 29) rfl ?_); refine goesL_ (some 44) rfl rfl Try.func29 (by kernel_rfl) rfl #[.int .i64 a0, .int .i64 50] rfl (by (try simp only [List.map_toArray, List.map_cons, List.map_nil]); first | done | rfl | (simp only [List.length_drop, List.length_take]; rfl)) ?_; (with_reducible refine (galloonlaw09_mod.calls a0 50 t245 _ A3.out).mono ?_); rintro e w' ⟨rfl, ⟨nd, rfl⟩⟩; refine ⟨_, rfl, ?_⟩) | ((with_reducible refine gate_callee (f := 27) rfl ?_); refine goesL_ (some 46) rfl rfl Try.func27 (by kernel_rfl) rfl #[.int .i64 t245, .slice A1 l1.length c1, .int .i64 12] rfl (by (try simp only [List.map_toArray, List.map_cons, List.map_nil]); first | done | rfl | (simp only [List.length_drop, List.length_take]; rfl)) ?_; (with_reducible refine (galloonlaw09_tame.calls k t245 _ _ l1 12 t246 t247 _ ?side1 ?side2 A4.out).mono ?_); (case side1 => repeat (first | exact HR1.out | (with_reducible refine Kd.C_alloc ?_ _) | (with_reducible refine Kd.C_drewN ?_ _) | (with_reducible refine Kd.C_drew ?_))); (case side2 => exact HC1.out); rintro e w5 ⟨v248, rfl, ho0, hb⟩; refine ⟨_, rfl, ?_⟩; have n0_ := Aside0.mk (Kd.R_lower ho0 (below_size (by repeat (first | (with_reducible first | exact HB.out | apply below_alloc | apply pw_below_drewN | apply below_drew1) | exact HB.out)))); have n1_ := Aside0.mk (below_step (by repeat (first | (with_reducible first | exact HB.out | apply below_alloc | apply pw_below_drewN | apply below_drew1) | exact HB.out)) hb); clear HB; have HO249 := n0_; have HB := n1_; clear n0_ n1_; (try clear hb); (try clear hb2); (try clear hk); (try clear hi); (try clear ho0)))
 go_loopg [6, 7] k (fun kq v6 v7 w' => ∃ (x6_1 : List Int) (x7_1 : Int), v7 = .int .i64 x7_1 ∧ Aside0 (galloonlaw09_RemnantScaled.l0 kq t246 t247 x6_1 x7_1 = some r) ∧ Aside0 (kq ≤ k) ∧ Aside0 (Kd.R (Kd.int .i64) 3 w' w.heap.size (fun k_ => some k_ ≠ (v6 : Value).ownBlock) v248 t247) ∧ Aside0 (Kd.R (Kd.int .i64) 3 w' w.heap.size (fun k_ => some k_ ≠ (v248 : Value).ownBlock) v6 x6_1) ∧ Aside0 (Below w.heap.size w w'))
 case atStart => exact ⟨(([] : List Int)), (0), (by first | rfl | (simp; done) | (simp [*]; done)), H', ⟨Nat.le_refl _⟩, ⟨by (with_reducible repeat (first | apply Kd.R_alloc | apply Kd.R_drewN | apply Kd.R_drew)); exact Kd.R_mono HO249.out (fun _ hk => (by simp [Value.ownBlock]))⟩, ⟨by first | exact Kd.R_nil _ _ _ _ _ | exact Kd.N_nil _ _ _ _ _ | exact Kd.V_nil _ _ _ _ _ | exact Kd.Q_nil _ _ _ _ _ | exact Kd.S_nil _ _ _ _ _⟩, ⟨by repeat (first | (with_reducible first | exact HB.out | apply below_alloc | apply pw_below_drewN | apply below_drew1) | exact HB.out)⟩⟩
 case round =>
  as_aux_lemma =>
  clear H'
  try clear c1
  try clear c2
  try clear p2
  obtain ⟨x6_1, x7_1, rfl, HA, HK1, HO_5, HO_6, HB⟩ := hrel
  cases gk with
  | zero => exact absurd HA.out (by simp [galloonlaw09_RemnantScaled.l0])
  | succ k1 =>
   have H := HA.out
   clear HA
   simp only [galloonlaw09_RemnantScaled.l0] at H
   by_cases c6 : x7_1 < (t247.length : Int)
   ·
    rw [if_pos c6] at H
    have c6b0 : decide (x7_1 < (t247.length : Int)) = true := decide_eq_true c6
    clear c6
    by_cases c7 : 0 ≤ x7_1
    ·
     rw [if_pos c7] at H
     have c7b0 : decide (0 ≤ x7_1) = true := decide_eq_true c7
     clear c7
     by_cases c8 : x6_1.length < 17592186044416
     ·
      rw [if_pos c8] at H
      have LMc8 := Aside0.mk c8
      clear c8
      obtain ⟨y251, hy251⟩ : ∃ y_ : List Int, y_ = (x6_1 ++ [wrap64 (2 * (rd t247 x7_1))]) := ⟨_, rfl⟩
      replace H : (galloonlaw09_RemnantScaled.l0 k1 t246 t247 y251 (wrap64 (x7_1 + 1))) = some r := by first | (rw [hy251]; with_reducible exact H) | (have H2_ := (Option.bind_some _ _).symm.trans H; rw [hy251]; with_reducible exact H2_) | (have H2_ := (Option.bind_some _ _).symm.trans H; with_reducible exact H2_) | with_reducible exact H | (rw [hy251]; exact H) | exact H
      have Ny251 := Aside0.mk hy251
      clear hy251
      have H' := Aside0.mk H
      clear H
      obtain ⟨Ao9, co9, eo9⟩ := Kd.R_slice HO_5.out
      subst eo9
      have p250 : 0 ≤ (x7_1 : Int) := of_decide_eq_true (by assumption)
      have q250 : x7_1 < (t247.length : Int) := of_decide_eq_true (by assumption)
      (first | (obtain ⟨Aq_, cq_, eq_⟩ := Kd.R_slice HO_5.out; subst eq_) | skip)
      obtain ⟨ad250, e250, hx250_0⟩ := Kd.at_int (Kd.R_reads' HO_5.out).2.2 x7_1 p250 q250
      cases e250
      replace p250 := eq_true p250
      replace q250 := eq_true q250
      go_wp2_with (first | ((with_reducible refine gate_builtin (b := .append) (xs := #[.tmp 55, .tmp 61]) rfl ?_); at_builtin; refine Kd.R_append (Kd.int .i64) (w0 := w) w.heap.size rfl (.tmp 55) (.tmp 61) 22 3 (.int .i64 0) 8 rfl Try.underlying22 info3 rfl (by decide) (by omega) u6 x6_1 (wrap64 (2 * (rd t247 x7_1))) [.int .i64 (wrap64 (2 * (rd t247 x7_1)))] (fun k_ => some k_ ≠ (.slice (some ad250) t247.length co9 : Value).ownBlock) (fun _ => False) rfl rfl ?aP (fun _ hk => hk.elim) ?aF ?aO ?aB ?aS ?aL ?_; (case aP => exact rfl); (case aB => exact (by repeat (first | (with_reducible first | exact HB.out | apply below_alloc | apply pw_below_drewN | apply below_drew1) | exact HB.out))); (case aF => exact (fun k_ hk => Kd.fresh' (Kd.R_lt (by (with_reducible repeat (first | apply Kd.R_alloc | apply Kd.R_drewN | apply Kd.R_drew)); exact HO_5.out)) k_ hk)); (case aO => exact (by (with_reducible repeat (first | apply Kd.R_alloc | apply Kd.R_drewN | apply Kd.R_drew)); exact HO_6.out)); (case aS => exact (below_size (by repeat (first | (with_reducible first | exact HB.out | apply below_alloc | apply pw_below_drewN | apply below_drew1) | exact HB.out)))); (case aL => have := LMc8.out; omega); intro v252 w10 ho hb hg hat; rw [← Ny251.out] at ho; have n0_ := Aside0.mk (Kd.R_after (ok := (fun _ => True)) (by (with_reducible repeat (first | apply Kd.R_alloc | apply Kd.R_drewN | apply Kd.R_drew)); exact Kd.R_mono HO_5.out (fun _ hk => ⟨trivial, hk⟩)) hg hat); have n1_ := Aside0.mk (hb); have n2_ := Aside0.mk (ho); clear HO_5; clear HB; clear HO_6; have HO_5 := n0_; have HB := n1_; have HO253 := n2_; clear n0_ n1_ n2_; clear ho hb hg hat))
      go_roundg k1
      case measure => have := HK1.out; omega
      case rel => exact ⟨(y251), (wrap64 (x7_1 + 1)), (by first | rfl | (simp; done) | (simp [*]; done)), H', ⟨by have := HK1.out; omega⟩, ⟨by (with_reducible repeat (first | apply Kd.R_alloc | apply Kd.R_drewN | apply Kd.R_drew)); exact Kd.R_mono HO_5.out (fun _ hk => hk.2)⟩, ⟨by (with_reducible repeat (first | apply Kd.R_alloc | apply Kd.R_drewN | apply Kd.R_drew)); exact HO253.out⟩, ⟨by repeat (first | (with_reducible first | exact HB.out | apply below_alloc | apply pw_below_drewN | apply below_drew1) | exact HB.out)⟩⟩
     ·
      rw [if_neg c8] at H
      exact absurd H (by simp)
    ·
     rw [if_neg c7] at H
     exact absurd H (by simp)
   ·
    rw [if_neg c6] at H
    have c6b0 : decide (x7_1 < (t247.length : Int)) = false := decide_eq_false c6
    clear c6
    replace H := Option.bind_eq_some_iff.mp H
    obtain ⟨⟨t254, t255⟩, A110, H⟩ := H
    replace H : ((remnant_First.f k1 (wrap64 (2 * t246)) x6_1).bind fun bt258 => ((remnant_Tight.f k1 t246 t247).bind fun bt262 => ((remnant_Tight.f k1 (wrap64 (2 * t246)) x6_1).bind fun bt266 => ((remnant_Falling.f t246 t247).bind fun bt270 => ((remnant_Falling.f (wrap64 (2 * t246)) x6_1).bind fun bt274 => ((remnant_Ways.f t246 t247).bind fun bt278 => ((remnant_Ways.f (wrap64 (2 * t246)) x6_1).bind fun bt280 => (if t255 = 0 then (if bt258.2 = 0 then (if bt262.2 = 0 then (if bt266.2 = 0 then (if bt270.2 = 0 then (if bt274.2 = 0 then (if bt278.2 = 0 then (if bt280.2 = 0 then ((galloonlaw09_ints.f k1 t254 bt258.1).bind fun t282 => (if t282 = true then ((galloonlaw09_ints.f k1 bt262.1 bt266.1).bind fun t283 => (if t283 = true then ((galloonlaw09_ints.f k1 bt270.1 bt274.1).bind fun t284 => (if t284 = true then (galloonlaw09_RemnantScaled.j1 k1 t246 t247 x6_1 (bt278.1 != bt280.1)) else (galloonlaw09_RemnantScaled.j1 k1 t246 t247 x6_1 true))) else (galloonlaw09_RemnantScaled.j1 k1 t246 t247 x6_1 true))) else (galloonlaw09_RemnantScaled.j1 k1 t246 t247 x6_1 true))) else (galloonlaw09_RemnantScaled.j1 k1 t246 t247 x6_1 true)) else (galloonlaw09_RemnantScaled.j1 k1 t246 t247 x6_1 true)) else (galloonlaw09_RemnantScaled.j1 k1 t246 t247 x6_1 true)) else (galloonlaw09_RemnantScaled.j1 k1 t246 t247 x6_1 true)) else (galloonlaw09_RemnantScaled.j1 k1 t246 t247 x6_1 true)) else (galloonlaw09_RemnantScaled.j1 k1 t246 t247 x6_1 true)) else (galloonlaw09_RemnantScaled.j1 k1 t246 t247 x6_1 true)) else (galloonlaw09_RemnantScaled.j1 k1 t246 t247 x6_1 true))))))))) = some r := H
    have A11 := Aside0.mk A110
    clear A110
    replace H := Option.bind_eq_some_iff.mp H
    obtain ⟨⟨t258, t259⟩, A120, H⟩ := H
    replace H : ((remnant_Tight.f k1 t246 t247).bind fun bt262 => ((remnant_Tight.f k1 (wrap64 (2 * t246)) x6_1).bind fun bt266 => ((remnant_Falling.f t246 t247).bind fun bt270 => ((remnant_Falling.f (wrap64 (2 * t246)) x6_1).bind fun bt274 => ((remnant_Ways.f t246 t247).bind fun bt278 => ((remnant_Ways.f (wrap64 (2 * t246)) x6_1).bind fun bt280 => (if t255 = 0 then (if t259 = 0 then (if bt262.2 = 0 then (if bt266.2 = 0 then (if bt270.2 = 0 then (if bt274.2 = 0 then (if bt278.2 = 0 then (if bt280.2 = 0 then ((galloonlaw09_ints.f k1 t254 t258).bind fun t282 => (if t282 = true then ((galloonlaw09_ints.f k1 bt262.1 bt266.1).bind fun t283 => (if t283 = true then ((galloonlaw09_ints.f k1 bt270.1 bt274.1).bind fun t284 => (if t284 = true then (galloonlaw09_RemnantScaled.j1 k1 t246 t247 x6_1 (bt278.1 != bt280.1)) else (galloonlaw09_RemnantScaled.j1 k1 t246 t247 x6_1 true))) else (galloonlaw09_RemnantScaled.j1 k1 t246 t247 x6_1 true))) else (galloonlaw09_RemnantScaled.j1 k1 t246 t247 x6_1 true))) else (galloonlaw09_RemnantScaled.j1 k1 t246 t247 x6_1 true)) else (galloonlaw09_RemnantScaled.j1 k1 t246 t247 x6_1 true)) else (galloonlaw09_RemnantScaled.j1 k1 t246 t247 x6_1 true)) else (galloonlaw09_RemnantScaled.j1 k1 t246 t247 x6_1 true)) else (galloonlaw09_RemnantScaled.j1 k1 t246 t247 x6_1 true)) else (galloonlaw09_RemnantScaled.j1 k1 t246 t247 x6_1 true)) else (galloonlaw09_RemnantScaled.j1 k1 t246 t247 x6_1 true)) else (galloonlaw09_RemnantScaled.j1 k1 t246 t247 x6_1 true)))))))) = some r := H
    have A12 := Aside0.mk A120
    clear A120
    replace H := Option.bind_eq_some_iff.mp H
    obtain ⟨⟨t262, t263⟩, A130, H⟩ := H
    replace H : ((remnant_Tight.f k1 (wrap64 (2 * t246)) x6_1).bind fun bt266 => ((remnant_Falling.f t246 t247).bind fun bt270 => ((remnant_Falling.f (wrap64 (2 * t246)) x6_1).bind fun bt274 => ((remnant_Ways.f t246 t247).bind fun bt278 => ((remnant_Ways.f (wrap64 (2 * t246)) x6_1).bind fun bt280 => (if t255 = 0 then (if t259 = 0 then (if t263 = 0 then (if bt266.2 = 0 then (if bt270.2 = 0 then (if bt274.2 = 0 then (if bt278.2 = 0 then (if bt280.2 = 0 then ((galloonlaw09_ints.f k1 t254 t258).bind fun t282 => (if t282 = true then ((galloonlaw09_ints.f k1 t262 bt266.1).bind fun t283 => (if t283 = true then ((galloonlaw09_ints.f k1 bt270.1 bt274.1).bind fun t284 => (if t284 = true then (galloonlaw09_RemnantScaled.j1 k1 t246 t247 x6_1 (bt278.1 != bt280.1)) else (galloonlaw09_RemnantScaled.j1 k1 t246 t247 x6_1 true))) else (galloonlaw09_RemnantScaled.j1 k1 t246 t247 x6_1 true))) else (galloonlaw09_RemnantScaled.j1 k1 t246 t247 x6_1 true))) else (galloonlaw09_RemnantScaled.j1 k1 t246 t247 x6_1 true)) else (galloonlaw09_RemnantScaled.j1 k1 t246 t247 x6_1 true)) else (galloonlaw09_RemnantScaled.j1 k1 t246 t247 x6_1 true)) else (galloonlaw09_RemnantScaled.j1 k1 t246 t247 x6_1 true)) else (galloonlaw09_RemnantScaled.j1 k1 t246 t247 x6_1 true)) else (galloonlaw09_RemnantScaled.j1 k1 t246 t247 x6_1 true)) else (galloonlaw09_RemnantScaled.j1 k1 t246 t247 x6_1 true)) else (galloonlaw09_RemnantScaled.j1 k1 t246 t247 x6_1 true))))))) = some r := H
    have A13 := Aside0.mk A130
    clear A130
    replace H := Option.bind_eq_some_iff.mp H
    obtain ⟨⟨t266, t267⟩, A140, H⟩ := H
    replace H : ((remnant_Falling.f t246 t247).bind fun bt270 => ((remnant_Falling.f (wrap64 (2 * t246)) x6_1).bind fun bt274 => ((remnant_Ways.f t246 t247).bind fun bt278 => ((remnant_Ways.f (wrap64 (2 * t246)) x6_1).bind fun bt280 => (if t255 = 0 then (if t259 = 0 then (if t263 = 0 then (if t267 = 0 then (if bt270.2 = 0 then (if bt274.2 = 0 then (if bt278.2 = 0 then (if bt280.2 = 0 then ((galloonlaw09_ints.f k1 t254 t258).bind fun t282 => (if t282 = true then ((galloonlaw09_ints.f k1 t262 t266).bind fun t283 => (if t283 = true then ((galloonlaw09_ints.f k1 bt270.1 bt274.1).bind fun t284 => (if t284 = true then (galloonlaw09_RemnantScaled.j1 k1 t246 t247 x6_1 (bt278.1 != bt280.1)) else (galloonlaw09_RemnantScaled.j1 k1 t246 t247 x6_1 true))) else (galloonlaw09_RemnantScaled.j1 k1 t246 t247 x6_1 true))) else (galloonlaw09_RemnantScaled.j1 k1 t246 t247 x6_1 true))) else (galloonlaw09_RemnantScaled.j1 k1 t246 t247 x6_1 true)) else (galloonlaw09_RemnantScaled.j1 k1 t246 t247 x6_1 true)) else (galloonlaw09_RemnantScaled.j1 k1 t246 t247 x6_1 true)) else (galloonlaw09_RemnantScaled.j1 k1 t246 t247 x6_1 true)) else (galloonlaw09_RemnantScaled.j1 k1 t246 t247 x6_1 true)) else (galloonlaw09_RemnantScaled.j1 k1 t246 t247 x6_1 true)) else (galloonlaw09_RemnantScaled.j1 k1 t246 t247 x6_1 true)) else (galloonlaw09_RemnantScaled.j1 k1 t246 t247 x6_1 true)))))) = some r := H
    have A14 := Aside0.mk A140
    clear A140
    replace H := Option.bind_eq_some_iff.mp H
    obtain ⟨⟨t270, t271⟩, A150, H⟩ := H
    replace H : ((remnant_Falling.f (wrap64 (2 * t246)) x6_1).bind fun bt274 => ((remnant_Ways.f t246 t247).bind fun bt278 => ((remnant_Ways.f (wrap64 (2 * t246)) x6_1).bind fun bt280 => (if t255 = 0 then (if t259 = 0 then (if t263 = 0 then (if t267 = 0 then (if t271 = 0 then (if bt274.2 = 0 then (if bt278.2 = 0 then (if bt280.2 = 0 then ((galloonlaw09_ints.f k1 t254 t258).bind fun t282 => (if t282 = true then ((galloonlaw09_ints.f k1 t262 t266).bind fun t283 => (if t283 = true then ((galloonlaw09_ints.f k1 t270 bt274.1).bind fun t284 => (if t284 = true then (galloonlaw09_RemnantScaled.j1 k1 t246 t247 x6_1 (bt278.1 != bt280.1)) else (galloonlaw09_RemnantScaled.j1 k1 t246 t247 x6_1 true))) else (galloonlaw09_RemnantScaled.j1 k1 t246 t247 x6_1 true))) else (galloonlaw09_RemnantScaled.j1 k1 t246 t247 x6_1 true))) else (galloonlaw09_RemnantScaled.j1 k1 t246 t247 x6_1 true)) else (galloonlaw09_RemnantScaled.j1 k1 t246 t247 x6_1 true)) else (galloonlaw09_RemnantScaled.j1 k1 t246 t247 x6_1 true)) else (galloonlaw09_RemnantScaled.j1 k1 t246 t247 x6_1 true)) else (galloonlaw09_RemnantScaled.j1 k1 t246 t247 x6_1 true)) else (galloonlaw09_RemnantScaled.j1 k1 t246 t247 x6_1 true)) else (galloonlaw09_RemnantScaled.j1 k1 t246 t247 x6_1 true)) else (galloonlaw09_RemnantScaled.j1 k1 t246 t247 x6_1 true))))) = some r := H
    have A15 := Aside0.mk A150
    clear A150
    replace H := Option.bind_eq_some_iff.mp H
    obtain ⟨⟨t274, t275⟩, A160, H⟩ := H
    replace H : ((remnant_Ways.f t246 t247).bind fun bt278 => ((remnant_Ways.f (wrap64 (2 * t246)) x6_1).bind fun bt280 => (if t255 = 0 then (if t259 = 0 then (if t263 = 0 then (if t267 = 0 then (if t271 = 0 then (if t275 = 0 then (if bt278.2 = 0 then (if bt280.2 = 0 then ((galloonlaw09_ints.f k1 t254 t258).bind fun t282 => (if t282 = true then ((galloonlaw09_ints.f k1 t262 t266).bind fun t283 => (if t283 = true then ((galloonlaw09_ints.f k1 t270 t274).bind fun t284 => (if t284 = true then (galloonlaw09_RemnantScaled.j1 k1 t246 t247 x6_1 (bt278.1 != bt280.1)) else (galloonlaw09_RemnantScaled.j1 k1 t246 t247 x6_1 true))) else (galloonlaw09_RemnantScaled.j1 k1 t246 t247 x6_1 true))) else (galloonlaw09_RemnantScaled.j1 k1 t246 t247 x6_1 true))) else (galloonlaw09_RemnantScaled.j1 k1 t246 t247 x6_1 true)) else (galloonlaw09_RemnantScaled.j1 k1 t246 t247 x6_1 true)) else (galloonlaw09_RemnantScaled.j1 k1 t246 t247 x6_1 true)) else (galloonlaw09_RemnantScaled.j1 k1 t246 t247 x6_1 true)) else (galloonlaw09_RemnantScaled.j1 k1 t246 t247 x6_1 true)) else (galloonlaw09_RemnantScaled.j1 k1 t246 t247 x6_1 true)) else (galloonlaw09_RemnantScaled.j1 k1 t246 t247 x6_1 true)) else (galloonlaw09_RemnantScaled.j1 k1 t246 t247 x6_1 true)))) = some r := H
    have A16 := Aside0.mk A160
    clear A160
    replace H := Option.bind_eq_some_iff.mp H
    obtain ⟨⟨t278, t279⟩, A170, H⟩ := H
    replace H : ((remnant_Ways.f (wrap64 (2 * t246)) x6_1).bind fun bt280 => (if t255 = 0 then (if t259 = 0 then (if t263 = 0 then (if t267 = 0 then (if t271 = 0 then (if t275 = 0 then (if t279 = 0 then (if bt280.2 = 0 then ((galloonlaw09_ints.f k1 t254 t258).bind fun t282 => (if t282 = true then ((galloonlaw09_ints.f k1 t262 t266).bind fun t283 => (if t283 = true then ((galloonlaw09_ints.f k1 t270 t274).bind fun t284 => (if t284 = true then (galloonlaw09_RemnantScaled.j1 k1 t246 t247 x6_1 (t278 != bt280.1)) else (galloonlaw09_RemnantScaled.j1 k1 t246 t247 x6_1 true))) else (galloonlaw09_RemnantScaled.j1 k1 t246 t247 x6_1 true))) else (galloonlaw09_RemnantScaled.j1 k1 t246 t247 x6_1 true))) else (galloonlaw09_RemnantScaled.j1 k1 t246 t247 x6_1 true)) else (galloonlaw09_RemnantScaled.j1 k1 t246 t247 x6_1 true)) else (galloonlaw09_RemnantScaled.j1 k1 t246 t247 x6_1 true)) else (galloonlaw09_RemnantScaled.j1 k1 t246 t247 x6_1 true)) else (galloonlaw09_RemnantScaled.j1 k1 t246 t247 x6_1 true)) else (galloonlaw09_RemnantScaled.j1 k1 t246 t247 x6_1 true)) else (galloonlaw09_RemnantScaled.j1 k1 t246 t247 x6_1 true)) else (galloonlaw09_RemnantScaled.j1 k1 t246 t247 x6_1 true))) = some r := H
    have A17 := Aside0.mk A170
    clear A170
    replace H := Option.bind_eq_some_iff.mp H
    obtain ⟨⟨t280, t281⟩, A180, H⟩ := H
    replace H : (if t255 = 0 then (if t259 = 0 then (if t263 = 0 then (if t267 = 0 then (if t271 = 0 then (if t275 = 0 then (if t279 = 0 then (if t281 = 0 then ((galloonlaw09_ints.f k1 t254 t258).bind fun t282 => (if t282 = true then ((galloonlaw09_ints.f k1 t262 t266).bind fun t283 => (if t283 = true then ((galloonlaw09_ints.f k1 t270 t274).bind fun t284 => (if t284 = true then (galloonlaw09_RemnantScaled.j1 k1 t246 t247 x6_1 (t278 != t280)) else (galloonlaw09_RemnantScaled.j1 k1 t246 t247 x6_1 true))) else (galloonlaw09_RemnantScaled.j1 k1 t246 t247 x6_1 true))) else (galloonlaw09_RemnantScaled.j1 k1 t246 t247 x6_1 true))) else (galloonlaw09_RemnantScaled.j1 k1 t246 t247 x6_1 true)) else (galloonlaw09_RemnantScaled.j1 k1 t246 t247 x6_1 true)) else (galloonlaw09_RemnantScaled.j1 k1 t246 t247 x6_1 true)) else (galloonlaw09_RemnantScaled.j1 k1 t246 t247 x6_1 true)) else (galloonlaw09_RemnantScaled.j1 k1 t246 t247 x6_1 true)) else (galloonlaw09_RemnantScaled.j1 k1 t246 t247 x6_1 true)) else (galloonlaw09_RemnantScaled.j1 k1 t246 t247 x6_1 true)) else (galloonlaw09_RemnantScaled.j1 k1 t246 t247 x6_1 true)) = some r := H
    have A18 := Aside0.mk A180
    clear A180
    have HC19 := Aside0.mk H
    clear H
    obtain ⟨Ao20, co20, eo20⟩ := Kd.R_slice HO_5.out
    subst eo20
    go_upto_region 15 with (first | ((with_reducible refine gate_callee (f := 45) rfl ?_); refine goesL_ (some 66) rfl rfl Try.func45 (by kernel_rfl) rfl #[.int .i64 t246, .slice Ao20 t247.length co20] rfl (by (try simp only [List.map_toArray, List.map_cons, List.map_nil]); first | done | rfl | (simp only [List.length_drop, List.length_take]; rfl)) ?_; (with_reducible refine (remnant_First.calls k1 t246 _ _ t247 t254 t255 _ ?side1 ?side2 A11.out).mono ?_); (case side1 => repeat (first | exact (Kd.R_reads' HO_5.out).2.2 | (with_reducible refine Kd.C_alloc ?_ _) | (with_reducible refine Kd.C_drewN ?_ _) | (with_reducible refine Kd.C_drew ?_))); (case side2 => exact (Kd.R_reads' HO_5.out).2.1); rintro e w21 ⟨v256, rfl, ho0, hb⟩; refine ⟨_, rfl, ?_⟩; have n0_ := Aside0.mk (Kd.R_elder' (by (with_reducible repeat (first | apply Kd.R_alloc | apply Kd.R_drewN | apply Kd.R_drew)); exact HO_5.out) (Kd.R_base ho0) hb); have n1_ := Aside0.mk (Kd.R_elder' (by (with_reducible repeat (first | apply Kd.R_alloc | apply Kd.R_drewN | apply Kd.R_drew)); exact HO_6.out) (Kd.R_base ho0) hb); have n2_ := Aside0.mk (Kd.R_lower (Kd.R_new' (Kd.R_new' ho0 (Kd.R_lt (by (with_reducible repeat (first | apply Kd.R_alloc | apply Kd.R_drewN | apply Kd.R_drew)); exact HO_5.out))) (Kd.R_lt (by (with_reducible repeat (first | apply Kd.R_alloc | apply Kd.R_drewN | apply Kd.R_drew)); exact HO_6.out))) (below_size (by repeat (first | (with_reducible first | exact HB.out | apply below_alloc | apply pw_below_drewN | apply below_drew1) | exact HB.out)))); have n3_ := Aside0.mk (below_step (by repeat (first | (with_reducible first | exact HB.out | apply below_alloc | apply pw_below_drewN | apply below_drew1) | exact HB.out)) hb); clear HO_5; clear HO_6; clear HB; have HO_5 := n0_; have HO_6 := n1_; have HO257 := n2_; have HB := n3_; clear n0_ n1_ n2_ n3_; (try clear hb); (try clear hb2); (try clear hk); (try clear hi); (try clear ho0); obtain ⟨Ao22, co22, eo22⟩ := Kd.R_slice HO_6.out; subst eo22) | ((with_reducible refine gate_callee (f := 45) rfl ?_); refine goesL_ (some 73) rfl rfl Try.func45 (by kernel_rfl) rfl #[.int .i64 (wrap64 (2 * t246)), .slice Ao22 x6_1.length co22] rfl (by (try simp only [List.map_toArray, List.map_cons, List.map_nil]); first | done | rfl | (simp only [List.length_drop, List.length_take]; rfl)) ?_; (with_reducible refine (remnant_First.calls k1 (wrap64 (2 * t246)) _ _ x6_1 t258 t259 _ ?side1 ?side2 A12.out).mono ?_); (case side1 => repeat (first | exact (Kd.R_reads' HO_6.out).2.2 | (with_reducible refine Kd.C_alloc ?_ _) | (with_reducible refine Kd.C_drewN ?_ _) | (with_reducible refine Kd.C_drew ?_))); (case side2 => exact (Kd.R_reads' HO_6.out).2.1); rintro e w23 ⟨v260, rfl, ho0, hb⟩; refine ⟨_, rfl, ?_⟩; have n0_ := Aside0.mk (Kd.R_elder' (by (with_reducible repeat (first | apply Kd.R_alloc | apply Kd.R_drewN | apply Kd.R_drew)); exact HO_5.out) (Kd.R_base ho0) hb); have n1_ := Aside0.mk (Kd.R_elder' (by (with_reducible repeat (first | apply Kd.R_alloc | apply Kd.R_drewN | apply Kd.R_drew)); exact HO_6.out) (Kd.R_base ho0) hb); have n2_ := Aside0.mk (Kd.R_elder' (by (with_reducible repeat (first | apply Kd.R_alloc | apply Kd.R_drewN | apply Kd.R_drew)); exact HO257.out) (Kd.R_base ho0) hb); have n3_ := Aside0.mk (Kd.R_lower (Kd.R_new' (Kd.R_new' (Kd.R_new' ho0 (Kd.R_lt (by (with_reducible repeat (first | apply Kd.R_alloc | apply Kd.R_drewN | apply Kd.R_drew)); exact HO_5.out))) (Kd.R_lt (by (with_reducible repeat (first | apply Kd.R_alloc | apply Kd.R_drewN | apply Kd.R_drew)); exact HO_6.out))) (Kd.R_lt (by (with_reducible repeat (first | apply Kd.R_alloc | apply Kd.R_drewN | apply Kd.R_drew)); exact HO257.out))) (below_size (by repeat (first | (with_reducible first | exact HB.out | apply below_alloc | apply pw_below_drewN | apply below_drew1) | exact HB.out)))); have n4_ := Aside0.mk (below_step (by repeat (first | (with_reducible first | exact HB.out | apply below_alloc | apply pw_below_drewN | apply below_drew1) | exact HB.out)) hb); clear HO_5; clear HO_6; clear HO257; clear HB; have HO_5 := n0_; have HO_6 := n1_; have HO257 := n2_; have HO261 := n3_; have HB := n4_; clear n0_ n1_ n2_ n3_ n4_; (try clear hb); (try clear hb2); (try clear hk); (try clear hi); (try clear ho0)) | ((with_reducible refine gate_callee (f := 46) rfl ?_); refine goesL_ (some 79) rfl rfl Try.func46 (by kernel_rfl) rfl #[.int .i64 t246, .slice Ao20 t247.length co20] rfl (by (try simp only [List.map_toArray, List.map_cons, List.map_nil]); first | done | rfl | (simp only [List.length_drop, List.length_take]; rfl)) ?_; (with_reducible refine (remnant_Tight.calls k1 t246 _ _ t247 t262 t263 _ ?side1 ?side2 A13.out).mono ?_); (case side1 => repeat (first | exact (Kd.R_reads' HO_5.out).2.2 | (with_reducible refine Kd.C_alloc ?_ _) | (with_reducible refine Kd.C_drewN ?_ _) | (with_reducible refine Kd.C_drew ?_))); (case side2 => exact (Kd.R_reads' HO_5.out).2.1); rintro e w24 ⟨v264, rfl, ho0, hb⟩; refine ⟨_, rfl, ?_⟩; have n0_ := Aside0.mk (Kd.R_elder' (by (with_reducible repeat (first | apply Kd.R_alloc | apply Kd.R_drewN | apply Kd.R_drew)); exact HO_5.out) (Kd.R_base ho0) hb); have n1_ := Aside0.mk (Kd.R_elder' (by (with_reducible repeat (first | apply Kd.R_alloc | apply Kd.R_drewN | apply Kd.R_drew)); exact HO_6.out) (Kd.R_base ho0) hb); have n2_ := Aside0.mk (Kd.R_elder' (by (with_reducible repeat (first | apply Kd.R_alloc | apply Kd.R_drewN | apply Kd.R_drew)); exact HO257.out) (Kd.R_base ho0) hb); have n3_ := Aside0.mk (Kd.R_elder' (by (with_reducible repeat (first | apply Kd.R_alloc | apply Kd.R_drewN | apply Kd.R_drew)); exact HO261.out) (Kd.R_base ho0) hb); have n4_ := Aside0.mk (Kd.R_lower (Kd.R_new' (Kd.R_new' (Kd.R_new' (Kd.R_new' ho0 (Kd.R_lt (by (with_reducible repeat (first | apply Kd.R_alloc | apply Kd.R_drewN | apply Kd.R_drew)); exact HO_5.out))) (Kd.R_lt (by (with_reducible repeat (first | apply Kd.R_alloc | apply Kd.R_drewN | apply Kd.R_drew)); exact HO_6.out))) (Kd.R_lt (by (with_reducible repeat (first | apply Kd.R_alloc | apply Kd.R_drewN | apply Kd.R_drew)); exact HO257.out))) (Kd.R_lt (by (with_reducible repeat (first | apply Kd.R_alloc | apply Kd.R_drewN | apply Kd.R_drew)); exact HO261.out))) (below_size (by repeat (first | (with_reducible first | exact HB.out | apply below_alloc | apply pw_below_drewN | apply below_drew1) | exact HB.out)))); have n5_ := Aside0.mk (below_step (by repeat (first | (with_reducible first | exact HB.out | apply below_alloc | apply pw_below_drewN | apply below_drew1) | exact HB.out)) hb); clear HO_5; clear HO_6; clear HO257; clear HO261; clear HB; have HO_5 := n0_; have HO_6 := n1_; have HO257 := n2_; have HO261 := n3_; have HO265 := n4_; have HB := n5_; clear n0_ n1_ n2_ n3_ n4_ n5_; (try clear hb); (try clear hb2); (try clear hk); (try clear hi); (try clear ho0)) | ((with_reducible refine gate_callee (f := 46) rfl ?_); refine goesL_ (some 86) rfl rfl Try.func46 (by kernel_rfl) rfl #[.int .i64 (wrap64 (2 * t246)), .slice Ao22 x6_1.length co22] rfl (by (try simp only [List.map_toArray, List.map_cons, List.map_nil]); first | done | rfl | (simp only [List.length_drop, List.length_take]; rfl)) ?_; (with_reducible refine (remnant_Tight.calls k1 (wrap64 (2 * t246)) _ _ x6_1 t266 t267 _ ?side1 ?side2 A14.out).mono ?_); (case side1 => repeat (first | exact (Kd.R_reads' HO_6.out).2.2 | (with_reducible refine Kd.C_alloc ?_ _) | (with_reducible refine Kd.C_drewN ?_ _) | (with_reducible refine Kd.C_drew ?_))); (case side2 => exact (Kd.R_reads' HO_6.out).2.1); rintro e w25 ⟨v268, rfl, ho0, hb⟩; refine ⟨_, rfl, ?_⟩; have n0_ := Aside0.mk (Kd.R_elder' (by (with_reducible repeat (first | apply Kd.R_alloc | apply Kd.R_drewN | apply Kd.R_drew)); exact HO_5.out) (Kd.R_base ho0) hb); have n1_ := Aside0.mk (Kd.R_elder' (by (with_reducible repeat (first | apply Kd.R_alloc | apply Kd.R_drewN | apply Kd.R_drew)); exact HO_6.out) (Kd.R_base ho0) hb); have n2_ := Aside0.mk (Kd.R_elder' (by (with_reducible repeat (first | apply Kd.R_alloc | apply Kd.R_drewN | apply Kd.R_drew)); exact HO257.out) (Kd.R_base ho0) hb); have n3_ := Aside0.mk (Kd.R_elder' (by (with_reducible repeat (first | apply Kd.R_alloc | apply Kd.R_drewN | apply Kd.R_drew)); exact HO261.out) (Kd.R_base ho0) hb); have n4_ := Aside0.mk (Kd.R_elder' (by (with_reducible repeat (first | apply Kd.R_alloc | apply Kd.R_drewN | apply Kd.R_drew)); exact HO265.out) (Kd.R_base ho0) hb); have n5_ := Aside0.mk (Kd.R_lower (Kd.R_new' (Kd.R_new' (Kd.R_new' (Kd.R_new' (Kd.R_new' ho0 (Kd.R_lt (by (with_reducible repeat (first | apply Kd.R_alloc | apply Kd.R_drewN | apply Kd.R_drew)); exact HO_5.out))) (Kd.R_lt (by (with_reducible repeat (first | apply Kd.R_alloc | apply Kd.R_drewN | apply Kd.R_drew)); exact HO_6.out))) (Kd.R_lt (by (with_reducible repeat (first | apply Kd.R_alloc | apply Kd.R_drewN | apply Kd.R_drew)); exact HO257.out))) (Kd.R_lt (by (with_reducible repeat (first | apply Kd.R_alloc | apply Kd.R_drewN | apply Kd.R_drew)); exact HO261.out))) (Kd.R_lt (by (with_reducible repeat (first | apply Kd.R_alloc | apply Kd.R_drewN | apply Kd.R_drew)); exact HO265.out))) (below_size (by repeat (first | (with_reducible first | exact HB.out | apply below_alloc | apply pw_below_drewN | apply below_drew1) | exact HB.out)))); have n6_ := Aside0.mk (below_step (by repeat (first | (with_reducible first | exact HB.out | apply below_alloc | apply pw_below_drewN | apply below_drew1) | exact HB.out)) hb); clear HO_5; clear HO_6; clear HO257; clear HO261; clear HO265; clear HB; have HO_5 := n0_; have HO_6 := n1_; have HO257 := n2_; have HO261 := n3_; have HO265 := n4_; have HO269 := n5_; have HB := n6_; clear n0_ n1_ n2_ n3_ n4_ n5_ n6_; (try clear hb); (try clear hb2); (try clear hk); (try clear hi); (try clear ho0)) | ((with_reducible refine gate_callee (f := 47) rfl ?_); refine goesL_ (some 92) rfl rfl Try.func47 (by kernel_rfl) rfl #[.int .i64 t246, .slice Ao20 t247.length co20] rfl (by (try simp only [List.map_toArray, List.map_cons, List.map_nil]); first | done | rfl | (simp only [List.length_drop, List.length_take]; rfl)) ?_; (with_reducible refine (remnant_Falling.calls t246 _ _ t247 t270 t271 _ ?side1 ?side2 A15.out).mono ?_); (case side1 => repeat (first | exact (Kd.R_reads' HO_5.out).2.2 | (with_reducible refine Kd.C_alloc ?_ _) | (with_reducible refine Kd.C_drewN ?_ _) | (with_reducible refine Kd.C_drew ?_))); (case side2 => exact (Kd.R_reads' HO_5.out).2.1); rintro e w26 ⟨v272, rfl, ho0, hb⟩; refine ⟨_, rfl, ?_⟩; have n0_ := Aside0.mk (Kd.R_elder' (by (with_reducible repeat (first | apply Kd.R_alloc | apply Kd.R_drewN | apply Kd.R_drew)); exact HO_5.out) (Kd.R_base ho0) hb); have n1_ := Aside0.mk (Kd.R_elder' (by (with_reducible repeat (first | apply Kd.R_alloc | apply Kd.R_drewN | apply Kd.R_drew)); exact HO_6.out) (Kd.R_base ho0) hb); have n2_ := Aside0.mk (Kd.R_elder' (by (with_reducible repeat (first | apply Kd.R_alloc | apply Kd.R_drewN | apply Kd.R_drew)); exact HO257.out) (Kd.R_base ho0) hb); have n3_ := Aside0.mk (Kd.R_elder' (by (with_reducible repeat (first | apply Kd.R_alloc | apply Kd.R_drewN | apply Kd.R_drew)); exact HO261.out) (Kd.R_base ho0) hb); have n4_ := Aside0.mk (Kd.R_elder' (by (with_reducible repeat (first | apply Kd.R_alloc | apply Kd.R_drewN | apply Kd.R_drew)); exact HO265.out) (Kd.R_base ho0) hb); have n5_ := Aside0.mk (Kd.R_elder' (by (with_reducible repeat (first | apply Kd.R_alloc | apply Kd.R_drewN | apply Kd.R_drew)); exact HO269.out) (Kd.R_base ho0) hb); have n6_ := Aside0.mk (Kd.R_lower (Kd.R_new' (Kd.R_new' (Kd.R_new' (Kd.R_new' (Kd.R_new' (Kd.R_new' ho0 (Kd.R_lt (by (with_reducible repeat (first | apply Kd.R_alloc | apply Kd.R_drewN | apply Kd.R_drew)); exact HO_5.out))) (Kd.R_lt (by (with_reducible repeat (first | apply Kd.R_alloc | apply Kd.R_drewN | apply Kd.R_drew)); exact HO_6.out))) (Kd.R_lt (by (with_reducible repeat (first | apply Kd.R_alloc | apply Kd.R_drewN | apply Kd.R_drew)); exact HO257.out))) (Kd.R_lt (by (with_reducible repeat (first | apply Kd.R_alloc | apply Kd.R_drewN | apply Kd.R_drew)); exact HO261.out))) (Kd.R_lt (by (with_reducible repeat (first | apply Kd.R_alloc | apply Kd.R_drewN | apply Kd.R_drew)); exact HO265.out))) (Kd.R_lt (by (with_reducible repeat (first | apply Kd.R_alloc | apply Kd.R_drewN | apply Kd.R_drew)); exact HO269.out))) (below_size (by repeat (first | (with_reducible first | exact HB.out | apply below_alloc | apply pw_below_drewN | apply below_drew1) | exact HB.out)))); have n7_ := Aside0.mk (below_step (by repeat (first | (with_reducible first | exact HB.out | apply below_alloc | apply pw_below_drewN | apply below_drew1) | exact HB.out)) hb); clear HO_5; clear HO_6; clear HO257; clear HO261; clear HO265; clear HO269; clear HB; have HO_5 := n0_; have HO_6 := n1_; have HO257 := n2_; have HO261 := n3_; have HO265 := n4_; have HO269 := n5_; have HO273 := n6_; have HB := n7_; clear n0_ n1_ n2_ n3_ n4_ n5_ n6_ n7_; (try clear hb); (try clear hb2); (try clear hk); (try clear hi); (try clear ho0)) | ((with_reducible refine gate_callee (f := 47) rfl ?_); refine goesL_ (some 99) rfl rfl Try.func47 (by kernel_rfl) rfl #[.int .i64 (wrap64 (2 * t246)), .slice Ao22 x6_1.length co22] rfl (by (try simp only [List.map_toArray, List.map_cons, List.map_nil]); first | done | rfl | (simp only [List.length_drop, List.length_take]; rfl)) ?_; (with_reducible refine (remnant_Falling.calls (wrap64 (2 * t246)) _ _ x6_1 t274 t275 _ ?side1 ?side2 A16.out).mono ?_); (case side1 => repeat (first | exact (Kd.R_reads' HO_6.out).2.2 | (with_reducible refine Kd.C_alloc ?_ _) | (with_reducible refine Kd.C_drewN ?_ _) | (with_reducible refine Kd.C_drew ?_))); (case side2 => exact (Kd.R_reads' HO_6.out).2.1); rintro e w27 ⟨v276, rfl, ho0, hb⟩; refine ⟨_, rfl, ?_⟩; have n0_ := Aside0.mk (Kd.R_elder' (by (with_reducible repeat (first | apply Kd.R_alloc | apply Kd.R_drewN | apply Kd.R_drew)); exact HO_5.out) (Kd.R_base ho0) hb); have n1_ := Aside0.mk (Kd.R_elder' (by (with_reducible repeat (first | apply Kd.R_alloc | apply Kd.R_drewN | apply Kd.R_drew)); exact HO_6.out) (Kd.R_base ho0) hb); have n2_ := Aside0.mk (Kd.R_elder' (by (with_reducible repeat (first | apply Kd.R_alloc | apply Kd.R_drewN | apply Kd.R_drew)); exact HO257.out) (Kd.R_base ho0) hb); have n3_ := Aside0.mk (Kd.R_elder' (by (with_reducible repeat (first | apply Kd.R_alloc | apply Kd.R_drewN | apply Kd.R_drew)); exact HO261.out) (Kd.R_base ho0) hb); have n4_ := Aside0.mk (Kd.R_elder' (by (with_reducible repeat (first | apply Kd.R_alloc | apply Kd.R_drewN | apply Kd.R_drew)); exact HO265.out) (Kd.R_base ho0) hb); have n5_ := Aside0.mk (Kd.R_elder' (by (with_reducible repeat (first | apply Kd.R_alloc | apply Kd.R_drewN | apply Kd.R_drew)); exact HO269.out) (Kd.R_base ho0) hb); have n6_ := Aside0.mk (Kd.R_elder' (by (with_reducible repeat (first | apply Kd.R_alloc | apply Kd.R_drewN | apply Kd.R_drew)); exact HO273.out) (Kd.R_base ho0) hb); have n7_ := Aside0.mk (Kd.R_lower (Kd.R_new' (Kd.R_new' (Kd.R_new' (Kd.R_new' (Kd.R_new' (Kd.R_new' (Kd.R_new' ho0 (Kd.R_lt (by (with_reducible repeat (first | apply Kd.R_alloc | apply Kd.R_drewN | apply Kd.R_drew)); exact HO_5.out))) (Kd.R_lt (by (with_reducible repeat (first | apply Kd.R_alloc | apply Kd.R_drewN | apply Kd.R_drew)); exact HO_6.out))) (Kd.R_lt (by (with_reducible repeat (first | apply Kd.R_alloc | apply Kd.R_drewN | apply Kd.R_drew)); exact HO257.out))) (Kd.R_lt (by (with_reducible repeat (first | apply Kd.R_alloc | apply Kd.R_drewN | apply Kd.R_drew)); exact HO261.out))) (Kd.R_lt (by (with_reducible repeat (first | apply Kd.R_alloc | apply Kd.R_drewN | apply Kd.R_drew)); exact HO265.out))) (Kd.R_lt (by (with_reducible repeat (first | apply Kd.R_alloc | apply Kd.R_drewN | apply Kd.R_drew)); exact HO269.out))) (Kd.R_lt (by (with_reducible repeat (first | apply Kd.R_alloc | apply Kd.R_drewN | apply Kd.R_drew)); exact HO273.out))) (below_size (by repeat (first | (with_reducible first | exact HB.out | apply below_alloc | apply pw_below_drewN | apply below_drew1) | exact HB.out)))); have n8_ := Aside0.mk (below_step (by repeat (first | (with_reducible first | exact HB.out | apply below_alloc | apply pw_below_drewN | apply below_drew1) | exact HB.out)) hb); clear HO_5; clear HO_6; clear HO257; clear HO261; clear HO265; clear HO269; clear HO273; clear HB; have HO_5 := n0_; have HO_6 := n1_; have HO257 := n2_; have HO261 := n3_; have HO265 := n4_; have HO269 := n5_; have HO273 := n6_; have HO277 := n7_; have HB := n8_; clear n0_ n1_ n2_ n3_ n4_ n5_ n6_ n7_ n8_; (try clear hb); (try clear hb2); (try clear hk); (try clear hi); (try clear ho0)) | ((with_reducible refine gate_callee (f := 42) rfl ?_); refine goesL_ (some 105) rfl rfl Try.func42 (by kernel_rfl) rfl #[.int .i64 t246, .slice Ao20 t247.length co20] rfl (by (try simp only [List.map_toArray, List.map_cons, List.map_nil]); first | done | rfl | (simp only [List.length_drop, List.length_take]; rfl)) ?_; (with_reducible refine (remnant_Ways.calls t246 _ _ t247 t278 t279 _ ?side1 ?side2 A17.out).mono ?_); (case side1 => repeat (first | exact (Kd.R_reads' HO_5.out).2.2 | (with_reducible refine Kd.C_alloc ?_ _) | (with_reducible refine Kd.C_drewN ?_ _) | (with_reducible refine Kd.C_drew ?_))); (case side2 => exact (Kd.R_reads' HO_5.out).2.1); rintro e w28 ⟨rfl, hb⟩; refine ⟨_, rfl, ?_⟩; have n0_ := Aside0.mk (Kd.R_below (by (with_reducible repeat (first | apply Kd.R_alloc | apply Kd.R_drewN | apply Kd.R_drew)); exact HO_5.out) hb); have n1_ := Aside0.mk (Kd.R_below (by (with_reducible repeat (first | apply Kd.R_alloc | apply Kd.R_drewN | apply Kd.R_drew)); exact HO_6.out) hb); have n2_ := Aside0.mk (Kd.R_below (by (with_reducible repeat (first | apply Kd.R_alloc | apply Kd.R_drewN | apply Kd.R_drew)); exact HO257.out) hb); have n3_ := Aside0.mk (Kd.R_below (by (with_reducible repeat (first | apply Kd.R_alloc | apply Kd.R_drewN | apply Kd.R_drew)); exact HO261.out) hb); have n4_ := Aside0.mk (Kd.R_below (by (with_reducible repeat (first | apply Kd.R_alloc | apply Kd.R_drewN | apply Kd.R_drew)); exact HO265.out) hb); have n5_ := Aside0.mk (Kd.R_below (by (with_reducible repeat (first | apply Kd.R_alloc | apply Kd.R_drewN | apply Kd.R_drew)); exact HO269.out) hb); have n6_ := Aside0.mk (Kd.R_below (by (with_reducible repeat (first | apply Kd.R_alloc | apply Kd.R_drewN | apply Kd.R_drew)); exact HO273.out) hb); have n7_ := Aside0.mk (Kd.R_below (by (with_reducible repeat (first | apply Kd.R_alloc | apply Kd.R_drewN | apply Kd.R_drew)); exact HO277.out) hb); have n8_ := Aside0.mk (below_step (by repeat (first | (with_reducible first | exact HB.out | apply below_alloc | apply pw_below_drewN | apply below_drew1) | exact HB.out)) hb); clear HO_5; clear HO_6; clear HO257; clear HO261; clear HO265; clear HO269; clear HO273; clear HO277; clear HB; have HO_5 := n0_; have HO_6 := n1_; have HO257 := n2_; have HO261 := n3_; have HO265 := n4_; have HO269 := n5_; have HO273 := n6_; have HO277 := n7_; have HB := n8_; clear n0_ n1_ n2_ n3_ n4_ n5_ n6_ n7_ n8_; (try clear hb); (try clear hb2); (try clear hk); (try clear hi)) | ((with_reducible refine gate_callee (f := 42) rfl ?_); refine goesL_ (some 112) rfl rfl Try.func42 (by kernel_rfl) rfl #[.int .i64 (wrap64 (2 * t246)), .slice Ao22 x6_1.length co22] rfl (by (try simp only [List.map_toArray, List.map_cons, List.map_nil]); first | done | rfl | (simp only [List.length_drop, List.length_take]; rfl)) ?_; (with_reducible refine (remnant_Ways.calls (wrap64 (2 * t246)) _ _ x6_1 t280 t281 _ ?side1 ?side2 A18.out).mono ?_); (case side1 => repeat (first | exact (Kd.R_reads' HO_6.out).2.2 | (with_reducible refine Kd.C_alloc ?_ _) | (with_reducible refine Kd.C_drewN ?_ _) | (with_reducible refine Kd.C_drew ?_))); (case side2 => exact (Kd.R_reads' HO_6.out).2.1); rintro e w29 ⟨rfl, hb⟩; refine ⟨_, rfl, ?_⟩; have n0_ := Aside0.mk (Kd.R_below (by (with_reducible repeat (first | apply Kd.R_alloc | apply Kd.R_drewN | apply Kd.R_drew)); exact HO_5.out) hb); have n1_ := Aside0.mk (Kd.R_below (by (with_reducible repeat (first | apply Kd.R_alloc | apply Kd.R_drewN | apply Kd.R_drew)); exact HO_6.out) hb); have n2_ := Aside0.mk (Kd.R_below (by (with_reducible repeat (first | apply Kd.R_alloc | apply Kd.R_drewN | apply Kd.R_drew)); exact HO257.out) hb); have n3_ := Aside0.mk (Kd.R_below (by (with_reducible repeat (first | apply Kd.R_alloc | apply Kd.R_drewN | apply Kd.R_drew)); exact HO261.out) hb); have n4_ := Aside0.mk (Kd.R_below (by (with_reducible repeat (first | apply Kd.R_alloc | apply Kd.R_drewN | apply Kd.R_drew)); exact HO265.out) hb); have n5_ := Aside0.mk (Kd.R_below (by (with_reducible repeat (first | apply Kd.R_alloc | apply Kd.R_drewN | apply Kd.R_drew)); exact HO269.out) hb); have n6_ := Aside0.mk (Kd.R_below (by (with_reducible repeat (first | apply Kd.R_alloc | apply Kd.R_drewN | apply Kd.R_drew)); exact HO273.out) hb); have n7_ := Aside0.mk (Kd.R_below (by (with_reducible repeat (first | apply Kd.R_alloc | apply Kd.R_drewN | apply Kd.R_drew)); exact HO277.out) hb); have n8_ := Aside0.mk (below_step (by repeat (first | (with_reducible first | exact HB.out | apply below_alloc | apply pw_below_drewN | apply below_drew1) | exact HB.out)) hb); clear HO_5; clear HO_6; clear HO257; clear HO261; clear HO265; clear HO269; clear HO273; clear HO277; clear HB; have HO_5 := n0_; have HO_6 := n1_; have HO257 := n2_; have HO261 := n3_; have HO265 := n4_; have HO269 := n5_; have HO273 := n6_; have HO277 := n7_; have HB := n8_; clear n0_ n1_ n2_ n3_ n4_ n5_ n6_ n7_ n8_; (try clear hb); (try clear hb2); (try clear hk); (try clear hi)))
    (try simp only [Act.put, List.setIfInBounds_toArray, List.set_cons_zero, List.set_cons_succ])
    go_cut [167] (fun v167 wc => ∃ (kq : Nat) (x167_18 : Bool), v167 = .bool x167_18 ∧ Aside0 (galloonlaw09_RemnantScaled.j1 kq t246 t247 x6_1 x167_18 = some r) ∧ Aside0 (kq ≤ k1) ∧ Aside0 (Kd.R (Kd.int .i64) 3 wc w.heap.size (fun k_ => some k_ ≠ ((.slice Ao22 x6_1.length co22) : Value).ownBlock) (.slice Ao20 t247.length co20) t247) ∧ Aside0 (Kd.R (Kd.int .i64) 3 wc w.heap.size (fun k_ => some k_ ≠ ((.slice Ao20 t247.length co20) : Value).ownBlock) (.slice Ao22 x6_1.length co22) x6_1) ∧ Aside0 (Below w.heap.size w wc))
    case first =>
     as_aux_lemma =>
     have H := HC19.out
     clear HC19
     by_cases c30 : t255 = 0
     ·
      rw [if_pos c30] at H
      have c30b0 : (t255 == 0) = true := beq_iff_eq.mpr c30
      have c30b1 : (t255 != 0) = false := bne_eq_false_iff_eq.mpr c30
      clear c30
      (first | rw [c30b0] | (simp only [i64_w, i32_w]; rw [c30b0]) | skip)
      by_cases c31 : t259 = 0
      ·
       rw [if_pos c31] at H
       have c31b0 : (t259 == 0) = true := beq_iff_eq.mpr c31
       have c31b1 : (t259 != 0) = false := bne_eq_false_iff_eq.mpr c31
       clear c31
       by_cases c32 : t263 = 0
       ·
        rw [if_pos c32] at H
        have c32b0 : (t263 == 0) = true := beq_iff_eq.mpr c32
        have c32b1 : (t263 != 0) = false := bne_eq_false_iff_eq.mpr c32
        clear c32
        by_cases c33 : t267 = 0
        ·
         rw [if_pos c33] at H
         have c33b0 : (t267 == 0) = true := beq_iff_eq.mpr c33
         have c33b1 : (t267 != 0) = false := bne_eq_false_iff_eq.mpr c33
         clear c33
         by_cases c34 : t271 = 0
         ·
          rw [if_pos c34] at H
          have c34b0 : (t271 == 0) = true := beq_iff_eq.mpr c34
          have c34b1 : (t271 != 0) = false := bne_eq_false_iff_eq.mpr c34
          clear c34
          by_cases c35 : t275 = 0
          ·
           rw [if_pos c35] at H
           have c35b0 : (t275 == 0) = true := beq_iff_eq.mpr c35
           have c35b1 : (t275 != 0) = false := bne_eq_false_iff_eq.mpr c35
           clear c35
           by_cases c36 : t279 = 0
           ·
            rw [if_pos c36] at H
            have c36b0 : (t279 == 0) = true := beq_iff_eq.mpr c36
            have c36b1 : (t279 != 0) = false := bne_eq_false_iff_eq.mpr c36
            clear c36
            by_cases c37 : t281 = 0
            ·
             rw [if_pos c37] at H
             have c37b0 : (t281 == 0) = true := beq_iff_eq.mpr c37
             have c37b1 : (t281 != 0) = false := bne_eq_false_iff_eq.mpr c37
             clear c37
             replace H := Option.bind_eq_some_iff.mp H
             obtain ⟨t282, A380, H⟩ := H
             replace H : (if t282 = true then ((galloonlaw09_ints.f k1 t262 t266).bind fun t283 => (if t283 = true then ((galloonlaw09_ints.f k1 t270 t274).bind fun t284 => (if t284 = true then (galloonlaw09_RemnantScaled.j1 k1 t246 t247 x6_1 (t278 != t280)) else (galloonlaw09_RemnantScaled.j1 k1 t246 t247 x6_1 true))) else (galloonlaw09_RemnantScaled.j1 k1 t246 t247 x6_1 true))) else (galloonlaw09_RemnantScaled.j1 k1 t246 t247 x6_1 true)) = some r := H
             have A38 := Aside0.mk A380
             clear A380
             by_cases c39 : t282 = true
             ·
              subst c39
              have H1 : ((galloonlaw09_ints.f k1 t262 t266).bind fun t283 => (if t283 = true then ((galloonlaw09_ints.f k1 t270 t274).bind fun t284 => (if t284 = true then (galloonlaw09_RemnantScaled.j1 k1 t246 t247 x6_1 (t278 != t280)) else (galloonlaw09_RemnantScaled.j1 k1 t246 t247 x6_1 true))) else (galloonlaw09_RemnantScaled.j1 k1 t246 t247 x6_1 true))) = some r := by rw [if_pos rfl] at H; exact H
              clear H
              have H := H1
              clear H1
              replace H := Option.bind_eq_some_iff.mp H
              obtain ⟨t283, A400, H⟩ := H
              replace H : (if t283 = true then ((galloonlaw09_ints.f k1 t270 t274).bind fun t284 => (if t284 = true then (galloonlaw09_RemnantScaled.j1 k1 t246 t247 x6_1 (t278 != t280)) else (galloonlaw09_RemnantScaled.j1 k1 t246 t247 x6_1 true))) else (galloonlaw09_RemnantScaled.j1 k1 t246 t247 x6_1 true)) = some r := H
              have A40 := Aside0.mk A400
              clear A400
              by_cases c41 : t283 = true
              ·
               subst c41
               have H1 : ((galloonlaw09_ints.f k1 t270 t274).bind fun t284 => (if t284 = true then (galloonlaw09_RemnantScaled.j1 k1 t246 t247 x6_1 (t278 != t280)) else (galloonlaw09_RemnantScaled.j1 k1 t246 t247 x6_1 true))) = some r := by rw [if_pos rfl] at H; exact H
               clear H
               have H := H1
               clear H1
               replace H := Option.bind_eq_some_iff.mp H
               obtain ⟨t284, A420, H⟩ := H
               replace H : (if t284 = true then (galloonlaw09_RemnantScaled.j1 k1 t246 t247 x6_1 (t278 != t280)) else (galloonlaw09_RemnantScaled.j1 k1 t246 t247 x6_1 true)) = some r := H
               have A42 := Aside0.mk A420
               clear A420
               by_cases c43 : t284 = true
               ·
                subst c43
                have H1 : (galloonlaw09_RemnantScaled.j1 k1 t246 t247 x6_1 (t278 != t280)) = some r := by rw [if_pos rfl] at H; exact H
                clear H
                have H := H1
                clear H1
                have H' := Aside0.mk H
                clear H
                obtain ⟨Ao44, co44, eo44⟩ := Kd.R_slice HO257.out
                subst eo44
                obtain ⟨Ao45, co45, eo45⟩ := Kd.R_slice HO261.out
                subst eo45
                go_wp2_with (first | (go_at_call 25; (with_reducible refine (galloonlaw09_ints.calls k1 _ _ t254 _ _ t258 true _ ?side1 ?side2 ?side3 ?side4 A38.out).mono ?_); (case side1 => repeat (first | exact (Kd.R_reads' HO257.out).2.2 | (with_reducible refine Kd.C_alloc ?_ _) | (with_reducible refine Kd.C_drewN ?_ _) | (with_reducible refine Kd.C_drew ?_))); (case side2 => exact (Kd.R_reads' HO257.out).2.1); (case side3 => repeat (first | exact (Kd.R_reads' HO261.out).2.2 | (with_reducible refine Kd.C_alloc ?_ _) | (with_reducible refine Kd.C_drewN ?_ _) | (with_reducible refine Kd.C_drew ?_))); (case side4 => exact (Kd.R_reads' HO261.out).2.1); rintro e w' ⟨rfl, ⟨nd, rfl⟩⟩; obtain ⟨Ao46, co46, eo46⟩ := Kd.R_slice HO265.out; subst eo46; obtain ⟨Ao47, co47, eo47⟩ := Kd.R_slice HO269.out; subst eo47) | (go_at_call 25; (with_reducible refine (galloonlaw09_ints.calls k1 _ _ t262 _ _ t266 true _ ?side1 ?side2 ?side3 ?side4 A40.out).mono ?_); (case side1 => repeat (first | exact (Kd.R_reads' HO265.out).2.2 | (with_reducible refine Kd.C_alloc ?_ _) | (with_reducible refine Kd.C_drewN ?_ _) | (with_reducible refine Kd.C_drew ?_))); (case side2 => exact (Kd.R_reads' HO265.out).2.1); (case side3 => repeat (first | exact (Kd.R_reads' HO269.out).2.2 | (with_reducible refine Kd.C_alloc ?_ _) | (with_reducible refine Kd.C_drewN ?_ _) | (with_reducible refine Kd.C_drew ?_))); (case side4 => exact (Kd.R_reads' HO269.out).2.1); rintro e w' ⟨rfl, ⟨nd, rfl⟩⟩; obtain ⟨Ao48, co48, eo48⟩ := Kd.R_slice HO273.out; subst eo48; obtain ⟨Ao49, co49, eo49⟩ := Kd.R_slice HO277.out; subst eo49) | (go_at_call 25; (with_reducible refine (galloonlaw09_ints.calls k1 _ _ t270 _ _ t274 true _ ?side1 ?side2 ?side3 ?side4 A42.out).mono ?_); (case side1 => repeat (first | exact (Kd.R_reads' HO273.out).2.2 | (with_reducible refine Kd.C_alloc ?_ _) | (with_reducible refine Kd.C_drewN ?_ _) | (with_reducible refine Kd.C_drew ?_))); (case side2 => exact (Kd.R_reads' HO273.out).2.1); (case side3 => repeat (first | exact (Kd.R_reads' HO277.out).2.2 | (with_reducible refine Kd.C_alloc ?_ _) | (with_reducible refine Kd.C_drewN ?_ _) | (with_reducible refine Kd.C_drew ?_))); (case side4 => exact (Kd.R_reads' HO277.out).2.1); rintro e w' ⟨rfl, ⟨nd, rfl⟩⟩))
                go_meet
                case rel => exact ⟨_, ((t278 != t280)), (by first | rfl | (simp; done) | (simp [*]; done)), H', ⟨by have := HK1.out; first | omega | exact Nat.le_refl _⟩, ⟨by (with_reducible repeat (first | apply Kd.R_alloc | apply Kd.R_drewN | apply Kd.R_drew)); exact Kd.R_mono HO_5.out (fun _ hk => hk.1.1.1.1.1.1)⟩, ⟨by (with_reducible repeat (first | apply Kd.R_alloc | apply Kd.R_drewN | apply Kd.R_drew)); exact Kd.R_mono HO_6.out (fun _ hk => hk.1.1.1.1.1.1)⟩, ⟨by repeat (first | (with_reducible first | exact HB.out | apply below_alloc | apply pw_below_drewN | apply below_drew1) | exact HB.out)⟩⟩
               ·
                replace c43 := Bool.eq_false_iff.mpr c43
                subst c43
                have H1 : (galloonlaw09_RemnantScaled.j1 k1 t246 t247 x6_1 true) = some r := by rw [if_neg (show ¬ (false = true) by decide)] at H; exact H
                clear H
                have H := H1
                clear H1
                have H' := Aside0.mk H
                clear H
                obtain ⟨Ao50, co50, eo50⟩ := Kd.R_slice HO257.out
                subst eo50
                obtain ⟨Ao51, co51, eo51⟩ := Kd.R_slice HO261.out
                subst eo51
                go_wp2_with (first | (go_at_call 25; (with_reducible refine (galloonlaw09_ints.calls k1 _ _ t254 _ _ t258 true _ ?side1 ?side2 ?side3 ?side4 A38.out).mono ?_); (case side1 => repeat (first | exact (Kd.R_reads' HO257.out).2.2 | (with_reducible refine Kd.C_alloc ?_ _) | (with_reducible refine Kd.C_drewN ?_ _) | (with_reducible refine Kd.C_drew ?_))); (case side2 => exact (Kd.R_reads' HO257.out).2.1); (case side3 => repeat (first | exact (Kd.R_reads' HO261.out).2.2 | (with_reducible refine Kd.C_alloc ?_ _) | (with_reducible refine Kd.C_drewN ?_ _) | (with_reducible refine Kd.C_drew ?_))); (case side4 => exact (Kd.R_reads' HO261.out).2.1); rintro e w' ⟨rfl, ⟨nd, rfl⟩⟩; obtain ⟨Ao52, co52, eo52⟩ := Kd.R_slice HO265.out; subst eo52; obtain ⟨Ao53, co53, eo53⟩ := Kd.R_slice HO269.out; subst eo53) | (go_at_call 25; (with_reducible refine (galloonlaw09_ints.calls k1 _ _ t262 _ _ t266 true _ ?side1 ?side2 ?side3 ?side4 A40.out).mono ?_); (case side1 => repeat (first | exact (Kd.R_reads' HO265.out).2.2 | (with_reducible refine Kd.C_alloc ?_ _) | (with_reducible refine Kd.C_drewN ?_ _) | (with_reducible refine Kd.C_drew ?_))); (case side2 => exact (Kd.R_reads' HO265.out).2.1); (case side3 => repeat (first | exact (Kd.R_reads' HO269.out).2.2 | (with_reducible refine Kd.C_alloc ?_ _) | (with_reducible refine Kd.C_drewN ?_ _) | (with_reducible refine Kd.C_drew ?_))); (case side4 => exact (Kd.R_reads' HO269.out).2.1); rintro e w' ⟨rfl, ⟨nd, rfl⟩⟩; obtain ⟨Ao54, co54, eo54⟩ := Kd.R_slice HO273.out; subst eo54; obtain ⟨Ao55, co55, eo55⟩ := Kd.R_slice HO277.out; subst eo55) | (go_at_call 25; (with_reducible refine (galloonlaw09_ints.calls k1 _ _ t270 _ _ t274 false _ ?side1 ?side2 ?side3 ?side4 A42.out).mono ?_); (case side1 => repeat (first | exact (Kd.R_reads' HO273.out).2.2 | (with_reducible refine Kd.C_alloc ?_ _) | (with_reducible refine Kd.C_drewN ?_ _) | (with_reducible refine Kd.C_drew ?_))); (case side2 => exact (Kd.R_reads' HO273.out).2.1); (case side3 => repeat (first | exact (Kd.R_reads' HO277.out).2.2 | (with_reducible refine Kd.C_alloc ?_ _) | (with_reducible refine Kd.C_drewN ?_ _) | (with_reducible refine Kd.C_drew ?_))); (case side4 => exact (Kd.R_reads' HO277.out).2.1); rintro e w' ⟨rfl, ⟨nd, rfl⟩⟩))
                go_meet
                case rel => exact ⟨_, (true), (by first | rfl | (simp; done) | (simp [*]; done)), H', ⟨by have := HK1.out; first | omega | exact Nat.le_refl _⟩, ⟨by (with_reducible repeat (first | apply Kd.R_alloc | apply Kd.R_drewN | apply Kd.R_drew)); exact Kd.R_mono HO_5.out (fun _ hk => hk.1.1.1.1.1.1)⟩, ⟨by (with_reducible repeat (first | apply Kd.R_alloc | apply Kd.R_drewN | apply Kd.R_drew)); exact Kd.R_mono HO_6.out (fun _ hk => hk.1.1.1.1.1.1)⟩, ⟨by repeat (first | (with_reducible first | exact HB.out | apply below_alloc | apply pw_below_drewN | apply below_drew1) | exact HB.out)⟩⟩
              ·
               replace c41 := Bool.eq_false_iff.mpr c41
               subst c41
               have H1 : (galloonlaw09_RemnantScaled.j1 k1 t246 t247 x6_1 true) = some r := by rw [if_neg (show ¬ (false = true) by decide)] at H; exact H
               clear H
               have H := H1
               clear H1
               have H' := Aside0.mk H
               clear H
               obtain ⟨Ao56, co56, eo56⟩ := Kd.R_slice HO257.out
               subst eo56
               obtain ⟨Ao57, co57, eo57⟩ := Kd.R_slice HO261.out
               subst eo57
               go_wp2_with (first | (go_at_call 25; (with_reducible refine (galloonlaw09_ints.calls k1 _ _ t254 _ _ t258 true _ ?side1 ?side2 ?side3 ?side4 A38.out).mono ?_); (case side1 => repeat (first | exact (Kd.R_reads' HO257.out).2.2 | (with_reducible refine Kd.C_alloc ?_ _) | (with_reducible refine Kd.C_drewN ?_ _) | (with_reducible refine Kd.C_drew ?_))); (case side2 => exact (Kd.R_reads' HO257.out).2.1); (case side3 => repeat (first | exact (Kd.R_reads' HO261.out).2.2 | (with_reducible refine Kd.C_alloc ?_ _) | (with_reducible refine Kd.C_drewN ?_ _) | (with_reducible refine Kd.C_drew ?_))); (case side4 => exact (Kd.R_reads' HO261.out).2.1); rintro e w' ⟨rfl, ⟨nd, rfl⟩⟩; obtain ⟨Ao58, co58, eo58⟩ := Kd.R_slice HO265.out; subst eo58; obtain ⟨Ao59, co59, eo59⟩ := Kd.R_slice HO269.out; subst eo59) | (go_at_call 25; (with_reducible refine (galloonlaw09_ints.calls k1 _ _ t262 _ _ t266 false _ ?side1 ?side2 ?side3 ?side4 A40.out).mono ?_); (case side1 => repeat (first | exact (Kd.R_reads' HO265.out).2.2 | (with_reducible refine Kd.C_alloc ?_ _) | (with_reducible refine Kd.C_drewN ?_ _) | (with_reducible refine Kd.C_drew ?_))); (case side2 => exact (Kd.R_reads' HO265.out).2.1); (case side3 => repeat (first | exact (Kd.R_reads' HO269.out).2.2 | (with_reducible refine Kd.C_alloc ?_ _) | (with_reducible refine Kd.C_drewN ?_ _) | (with_reducible refine Kd.C_drew ?_))); (case side4 => exact (Kd.R_reads' HO269.out).2.1); rintro e w' ⟨rfl, ⟨nd, rfl⟩⟩))
               go_meet
               case rel => exact ⟨_, (true), (by first | rfl | (simp; done) | (simp [*]; done)), H', ⟨by have := HK1.out; first | omega | exact Nat.le_refl _⟩, ⟨by (with_reducible repeat (first | apply Kd.R_alloc | apply Kd.R_drewN | apply Kd.R_drew)); exact Kd.R_mono HO_5.out (fun _ hk => hk.1.1.1.1.1.1)⟩, ⟨by (with_reducible repeat (first | apply Kd.R_alloc | apply Kd.R_drewN | apply Kd.R_drew)); exact Kd.R_mono HO_6.out (fun _ hk => hk.1.1.1.1.1.1)⟩, ⟨by repeat (first | (with_reducible first | exact HB.out | apply below_alloc | apply pw_below_drewN | apply below_drew1) | exact HB.out)⟩⟩
             ·
              replace c39 := Bool.eq_false_iff.mpr c39
              subst c39
              have H1 : (galloonlaw09_RemnantScaled.j1 k1 t246 t247 x6_1 true) = some r := by rw [if_neg (show ¬ (false = true) by decide)] at H; exact H
              clear H
              have H := H1
              clear H1
              have H' := Aside0.mk H
              clear H
              obtain ⟨Ao60, co60, eo60⟩ := Kd.R_slice HO257.out
              subst eo60
              obtain ⟨Ao61, co61, eo61⟩ := Kd.R_slice HO261.out
              subst eo61
              go_wp2_with (first | (go_at_call 25; (with_reducible refine (galloonlaw09_ints.calls k1 _ _ t254 _ _ t258 false _ ?side1 ?side2 ?side3 ?side4 A38.out).mono ?_); (case side1 => repeat (first | exact (Kd.R_reads' HO257.out).2.2 | (with_reducible refine Kd.C_alloc ?_ _) | (with_reducible refine Kd.C_drewN ?_ _) | (with_reducible refine Kd.C_drew ?_))); (case side2 => exact (Kd.R_reads' HO257.out).2.1); (case side3 => repeat (first | exact (Kd.R_reads' HO261.out).2.2 | (with_reducible refine Kd.C_alloc ?_ _) | (with_reducible refine Kd.C_drewN ?_ _) | (with_reducible refine Kd.C_drew ?_))); (case side4 => exact (Kd.R_reads' HO261.out).2.1); rintro e w' ⟨rfl, ⟨nd, rfl⟩⟩))
              go_meet
              case rel => exact ⟨_, (true), (by first | rfl | (simp; done) | (simp [*]; done)), H', ⟨by have := HK1.out; first | omega | exact Nat.le_refl _⟩, ⟨by (with_reducible repeat (first | apply Kd.R_alloc | apply Kd.R_drewN | apply Kd.R_drew)); exact Kd.R_mono HO_5.out (fun _ hk => hk.1.1.1.1.1.1)⟩, ⟨by (with_reducible repeat (first | apply Kd.R_alloc | apply Kd.R_drewN | apply Kd.R_drew)); exact Kd.R_mono HO_6.out (fun _ hk => hk.1.1.1.1.1.1)⟩, ⟨by repeat (first | (with_reducible first | exact HB.out | apply below_alloc | apply pw_below_drewN | apply below_drew1) | exact HB.out)⟩⟩
            ·
             rw [if_neg c37] at H
             have c37b0 : (t281 == 0) = false := beq_eq_false_iff_ne.mpr c37
             have c37b1 : (t281 != 0) = true := bne_iff_ne.mpr c37
             have H' := Aside0.mk H
             clear H
             go_wp2
             go_meet
             case rel => exact ⟨_, (true), (by first | rfl | (simp; done) | (simp [*]; done)), H', ⟨by have := HK1.out; first | omega | exact Nat.le_refl _⟩, ⟨by (with_reducible repeat (first | apply Kd.R_alloc | apply Kd.R_drewN | apply Kd.R_drew)); exact Kd.R_mono HO_5.out (fun _ hk => hk.1.1.1.1.1.1)⟩, ⟨by (with_reducible repeat (first | apply Kd.R_alloc | apply Kd.R_drewN | apply Kd.R_drew)); exact Kd.R_mono HO_6.out (fun _ hk => hk.1.1.1.1.1.1)⟩, ⟨by repeat (first | (with_reducible first | exact HB.out | apply below_alloc | apply pw_below_drewN | apply below_drew1) | exact HB.out)⟩⟩
           ·
            rw [if_neg c36] at H
            have c36b0 : (t279 == 0) = false := beq_eq_false_iff_ne.mpr c36
            have c36b1 : (t279 != 0) = true := bne_iff_ne.mpr c36
            have H' := Aside0.mk H
            clear H
            go_wp2
            go_meet
            case rel => exact ⟨_, (true), (by first | rfl | (simp; done) | (simp [*]; done)), H', ⟨by have := HK1.out; first | omega | exact Nat.le_refl _⟩, ⟨by (with_reducible repeat (first | apply Kd.R_alloc | apply Kd.R_drewN | apply Kd.R_drew)); exact Kd.R_mono HO_5.out (fun _ hk => hk.1.1.1.1.1.1)⟩, ⟨by (with_reducible repeat (first | apply Kd.R_alloc | apply Kd.R_drewN | apply Kd.R_drew)); exact Kd.R_mono HO_6.out (fun _ hk => hk.1.1.1.1.1.1)⟩, ⟨by repeat (first | (with_reducible first | exact HB.out | apply below_alloc | apply pw_below_drewN | apply below_drew1) | exact HB.out)⟩⟩
          ·
           rw [if_neg c35] at H
           have c35b0 : (t275 == 0) = false := beq_eq_false_iff_ne.mpr c35
           have c35b1 : (t275 != 0) = true := bne_iff_ne.mpr c35
           have H' := Aside0.mk H
           clear H
           go_wp2
           go_meet
           case rel => exact ⟨_, (true), (by first | rfl | (simp; done) | (simp [*]; done)), H', ⟨by have := HK1.out; first | omega | exact Nat.le_refl _⟩, ⟨by (with_reducible repeat (first | apply Kd.R_alloc | apply Kd.R_drewN | apply Kd.R_drew)); exact Kd.R_mono HO_5.out (fun _ hk => hk.1.1.1.1.1.1)⟩, ⟨by (with_reducible repeat (first | apply Kd.R_alloc | apply Kd.R_drewN | apply Kd.R_drew)); exact Kd.R_mono HO_6.out (fun _ hk => hk.1.1.1.1.1.1)⟩, ⟨by repeat (first | (with_reducible first | exact HB.out | apply below_alloc | apply pw_below_drewN | apply below_drew1) | exact HB.out)⟩⟩
         ·
          rw [if_neg c34] at H
          have c34b0 : (t271 == 0) = false := beq_eq_false_iff_ne.mpr c34
          have c34b1 : (t271 != 0) = true := bne_iff_ne.mpr c34
          have H' := Aside0.mk H
          clear H
          go_wp2
          go_meet
          case rel => exact ⟨_, (true), (by first | rfl | (simp; done) | (simp [*]; done)), H', ⟨by have := HK1.out; first | omega | exact Nat.le_refl _⟩, ⟨by (with_reducible repeat (first | apply Kd.R_alloc | apply Kd.R_drewN | apply Kd.R_drew)); exact Kd.R_mono HO_5.out (fun _ hk => hk.1.1.1.1.1.1)⟩, ⟨by (with_reducible repeat (first | apply Kd.R_alloc | apply Kd.R_drewN | apply Kd.R_drew)); exact Kd.R_mono HO_6.out (fun _ hk => hk.1.1.1.1.1.1)⟩, ⟨by repeat (first | (with_reducible first | exact HB.out | apply below_alloc | apply pw_below_drewN | apply below_drew1) | exact HB.out)⟩⟩
        ·
         rw [if_neg c33] at H
         have c33b0 : (t267 == 0) = false := beq_eq_false_iff_ne.mpr c33
         have c33b1 : (t267 != 0) = true := bne_iff_ne.mpr c33
         have H' := Aside0.mk H
         clear H
         go_wp2
         go_meet
         case rel => exact ⟨_, (true), (by first | rfl | (simp; done) | (simp [*]; done)), H', ⟨by have := HK1.out; first | omega | exact Nat.le_refl _⟩, ⟨by (with_reducible repeat (first | apply Kd.R_alloc | apply Kd.R_drewN | apply Kd.R_drew)); exact Kd.R_mono HO_5.out (fun _ hk => hk.1.1.1.1.1.1)⟩, ⟨by (with_reducible repeat (first | apply Kd.R_alloc | apply Kd.R_drewN | apply Kd.R_drew)); exact Kd.R_mono HO_6.out (fun _ hk => hk.1.1.1.1.1.1)⟩, ⟨by repeat (first | (with_reducible first | exact HB.out | apply below_alloc | apply pw_below_drewN | apply below_drew1) | exact HB.out)⟩⟩
       ·
        rw [if_neg c32] at H
        have c32b0 : (t263 == 0) = false := beq_eq_false_iff_ne.mpr c32
        have c32b1 : (t263 != 0) = true := bne_iff_ne.mpr c32
        have H' := Aside0.mk H
        clear H
        go_wp2
        go_meet
        case rel => exact ⟨_, (true), (by first | rfl | (simp; done) | (simp [*]; done)), H', ⟨by have := HK1.out; first | omega | exact Nat.le_refl _⟩, ⟨by (with_reducible repeat (first | apply Kd.R_alloc | apply Kd.R_drewN | apply Kd.R_drew)); exact Kd.R_mono HO_5.out (fun _ hk => hk.1.1.1.1.1.1)⟩, ⟨by (with_reducible repeat (first | apply Kd.R_alloc | apply Kd.R_drewN | apply Kd.R_drew)); exact Kd.R_mono HO_6.out (fun _ hk => hk.1.1.1.1.1.1)⟩, ⟨by repeat (first | (with_reducible first | exact HB.out | apply below_alloc | apply pw_below_drewN | apply below_drew1) | exact HB.out)⟩⟩
      ·
       rw [if_neg c31] at H
       have c31b0 : (t259 == 0) = false := beq_eq_false_iff_ne.mpr c31
       have c31b1 : (t259 != 0) = true := bne_iff_ne.mpr c31
       have H' := Aside0.mk H
       clear H
       go_wp2
       go_meet
       case rel => exact ⟨_, (true), (by first | rfl | (simp; done) | (simp [*]; done)), H', ⟨by have := HK1.out; first | omega | exact Nat.le_refl _⟩, ⟨by (with_reducible repeat (first | apply Kd.R_alloc | apply Kd.R_drewN | apply Kd.R_drew)); exact Kd.R_mono HO_5.out (fun _ hk => hk.1.1.1.1.1.1)⟩, ⟨by (with_reducible repeat (first | apply Kd.R_alloc | apply Kd.R_drewN | apply Kd.R_drew)); exact Kd.R_mono HO_6.out (fun _ hk => hk.1.1.1.1.1.1)⟩, ⟨by repeat (first | (with_reducible first | exact HB.out | apply below_alloc | apply pw_below_drewN | apply below_drew1) | exact HB.out)⟩⟩
     ·
      rw [if_neg c30] at H
      have c30b0 : (t255 == 0) = false := beq_eq_false_iff_ne.mpr c30
      have c30b1 : (t255 != 0) = true := bne_iff_ne.mpr c30
      (first | rw [c30b0] | (simp only [i64_w, i32_w]; rw [c30b0]) | skip)
      have H' := Aside0.mk H
      clear H
      go_wp2
      go_meet
      case rel => exact ⟨_, (true), (by first | rfl | (simp; done) | (simp [*]; done)), H', ⟨by have := HK1.out; first | omega | exact Nat.le_refl _⟩, ⟨by (with_reducible repeat (first | apply Kd.R_alloc | apply Kd.R_drewN | apply Kd.R_drew)); exact Kd.R_mono HO_5.out (fun _ hk => hk.1.1.1.1.1.1)⟩, ⟨by (with_reducible repeat (first | apply Kd.R_alloc | apply Kd.R_drewN | apply Kd.R_drew)); exact Kd.R_mono HO_6.out (fun _ hk => hk.1.1.1.1.1.1)⟩, ⟨by repeat (first | (with_reducible first | exact HB.out | apply below_alloc | apply pw_below_drewN | apply below_drew1) | exact HB.out)⟩⟩
    case rest =>
     as_aux_lemma =>
     clear HC19
     try clear c1
     try clear c2
     try clear p2
     try clear q2
     try clear hx2
     try clear c3
     try clear c4
     try clear c6
     try clear c6b0
     try clear p6
     try clear c7
     try clear c7b0
     try clear c8
     try clear c14
     try clear p25
     try clear q25
     try clear hx25
     try clear c27
     try clear c29
     try clear c30
     try clear c30b0
     try clear c30b1
     try clear c31
     try clear c31b0
     try clear c31b1
     try clear c32
     try clear c32b0
     try clear c32b1
     try clear c33
     try clear c33b0
     try clear c33b1
     try clear c34
     try clear c34b0
     try clear c34b1
     try clear c35
     try clear c35b0
     try clear c35b1
     try clear c36
     try clear c36b0
     try clear c36b1
     try clear c37
     try clear c37b0
     try clear c37b1
     try clear c39
     try clear c41
     try clear c42
     try clear c43
     try clear c45
     try clear c46
     try clear c47
     try clear hx250_0
     try clear p2
     try clear p250
     try clear q250
     obtain ⟨kq, x167_18, rfl, HA, HJ18, HO_5, HO_6, HB⟩ := hcut
     cases kq with
     | zero => exact absurd HA.out (by simp [galloonlaw09_RemnantScaled.j1])
     | succ kj18 =>
      have H := HA.out
      clear HA
      simp only [galloonlaw09_RemnantScaled.j1] at H
      by_cases c62 : x167_18 = true
      ·
       subst c62
       have H1 : (none) = some r := by rw [if_pos rfl] at H; exact H
       clear H
       have H := H1
       clear H1
       exact absurd H (by simp)
      ·
       replace c62 := Bool.eq_false_iff.mpr c62
       subst c62
       have H1 : ((remnant_Best.f kj18 t246 t247).bind fun bt285 => ((remnant_Best.f kj18 (wrap64 (2 * t246)) x6_1).bind fun bt290 => ((remnant_Rest.f t246 t247).bind fun bt295 => ((remnant_Rest.f (wrap64 (2 * t246)) x6_1).bind fun bt300 => ((remnant_Split.f t247).bind fun bt305 => ((remnant_Split.f x6_1).bind fun bt310 => (if bt285.2.2 = 0 then (if bt290.2.2 = 0 then (if bt285.2.1 = bt290.2.1 then (if bt295.2.2 = 0 then (if bt300.2.2 = 0 then ((galloonlaw09_ints.f kj18 bt295.1 bt300.1).bind fun t315 => (if t315 = true then (if bt300.2.1 = (wrap64 (2 * bt295.2.1)) then (if bt305.2.2 = 0 then (if bt310.2.2 = 0 then ((galloonlaw09_ints.f kj18 bt305.1 bt310.1).bind fun t316 => (if t316 = true then (if bt310.2.1 = (wrap64 (2 * bt305.2.1)) then ((galloonlaw09_awake.f kj18).bind fun t317 => (some t317)) else (none)) else (none))) else (none)) else (none)) else (none)) else (none))) else (none)) else (none)) else (none)) else (none)) else (none)))))))) = some r := by rw [if_neg (show ¬ (false = true) by decide)] at H; exact H
       clear H
       have H := H1
       clear H1
       replace H := Option.bind_eq_some_iff.mp H
       obtain ⟨⟨t285, t286, t287⟩, A630, H⟩ := H
       replace H : ((remnant_Best.f kj18 (wrap64 (2 * t246)) x6_1).bind fun bt290 => ((remnant_Rest.f t246 t247).bind fun bt295 => ((remnant_Rest.f (wrap64 (2 * t246)) x6_1).bind fun bt300 => ((remnant_Split.f t247).bind fun bt305 => ((remnant_Split.f x6_1).bind fun bt310 => (if t287 = 0 then (if bt290.2.2 = 0 then (if t286 = bt290.2.1 then (if bt295.2.2 = 0 then (if bt300.2.2 = 0 then ((galloonlaw09_ints.f kj18 bt295.1 bt300.1).bind fun t315 => (if t315 = true then (if bt300.2.1 = (wrap64 (2 * bt295.2.1)) then (if bt305.2.2 = 0 then (if bt310.2.2 = 0 then ((galloonlaw09_ints.f kj18 bt305.1 bt310.1).bind fun t316 => (if t316 = true then (if bt310.2.1 = (wrap64 (2 * bt305.2.1)) then ((galloonlaw09_awake.f kj18).bind fun t317 => (some t317)) else (none)) else (none))) else (none)) else (none)) else (none)) else (none))) else (none)) else (none)) else (none)) else (none)) else (none))))))) = some r := H
       have A63 := Aside0.mk A630
       clear A630
       replace H := Option.bind_eq_some_iff.mp H
       obtain ⟨⟨t290, t291, t292⟩, A640, H⟩ := H
       replace H : ((remnant_Rest.f t246 t247).bind fun bt295 => ((remnant_Rest.f (wrap64 (2 * t246)) x6_1).bind fun bt300 => ((remnant_Split.f t247).bind fun bt305 => ((remnant_Split.f x6_1).bind fun bt310 => (if t287 = 0 then (if t292 = 0 then (if t286 = t291 then (if bt295.2.2 = 0 then (if bt300.2.2 = 0 then ((galloonlaw09_ints.f kj18 bt295.1 bt300.1).bind fun t315 => (if t315 = true then (if bt300.2.1 = (wrap64 (2 * bt295.2.1)) then (if bt305.2.2 = 0 then (if bt310.2.2 = 0 then ((galloonlaw09_ints.f kj18 bt305.1 bt310.1).bind fun t316 => (if t316 = true then (if bt310.2.1 = (wrap64 (2 * bt305.2.1)) then ((galloonlaw09_awake.f kj18).bind fun t317 => (some t317)) else (none)) else (none))) else (none)) else (none)) else (none)) else (none))) else (none)) else (none)) else (none)) else (none)) else (none)))))) = some r := H
       have A64 := Aside0.mk A640
       clear A640
       replace H := Option.bind_eq_some_iff.mp H
       obtain ⟨⟨t295, t296, t297⟩, A650, H⟩ := H
       replace H : ((remnant_Rest.f (wrap64 (2 * t246)) x6_1).bind fun bt300 => ((remnant_Split.f t247).bind fun bt305 => ((remnant_Split.f x6_1).bind fun bt310 => (if t287 = 0 then (if t292 = 0 then (if t286 = t291 then (if t297 = 0 then (if bt300.2.2 = 0 then ((galloonlaw09_ints.f kj18 t295 bt300.1).bind fun t315 => (if t315 = true then (if bt300.2.1 = (wrap64 (2 * t296)) then (if bt305.2.2 = 0 then (if bt310.2.2 = 0 then ((galloonlaw09_ints.f kj18 bt305.1 bt310.1).bind fun t316 => (if t316 = true then (if bt310.2.1 = (wrap64 (2 * bt305.2.1)) then ((galloonlaw09_awake.f kj18).bind fun t317 => (some t317)) else (none)) else (none))) else (none)) else (none)) else (none)) else (none))) else (none)) else (none)) else (none)) else (none)) else (none))))) = some r := H
       have A65 := Aside0.mk A650
       clear A650
       replace H := Option.bind_eq_some_iff.mp H
       obtain ⟨⟨t300, t301, t302⟩, A660, H⟩ := H
       replace H : ((remnant_Split.f t247).bind fun bt305 => ((remnant_Split.f x6_1).bind fun bt310 => (if t287 = 0 then (if t292 = 0 then (if t286 = t291 then (if t297 = 0 then (if t302 = 0 then ((galloonlaw09_ints.f kj18 t295 t300).bind fun t315 => (if t315 = true then (if t301 = (wrap64 (2 * t296)) then (if bt305.2.2 = 0 then (if bt310.2.2 = 0 then ((galloonlaw09_ints.f kj18 bt305.1 bt310.1).bind fun t316 => (if t316 = true then (if bt310.2.1 = (wrap64 (2 * bt305.2.1)) then ((galloonlaw09_awake.f kj18).bind fun t317 => (some t317)) else (none)) else (none))) else (none)) else (none)) else (none)) else (none))) else (none)) else (none)) else (none)) else (none)) else (none)))) = some r := H
       have A66 := Aside0.mk A660
       clear A660
       replace H := Option.bind_eq_some_iff.mp H
       obtain ⟨⟨t305, t306, t307⟩, A670, H⟩ := H
       replace H : ((remnant_Split.f x6_1).bind fun bt310 => (if t287 = 0 then (if t292 = 0 then (if t286 = t291 then (if t297 = 0 then (if t302 = 0 then ((galloonlaw09_ints.f kj18 t295 t300).bind fun t315 => (if t315 = true then (if t301 = (wrap64 (2 * t296)) then (if t307 = 0 then (if bt310.2.2 = 0 then ((galloonlaw09_ints.f kj18 t305 bt310.1).bind fun t316 => (if t316 = true then (if bt310.2.1 = (wrap64 (2 * t306)) then ((galloonlaw09_awake.f kj18).bind fun t317 => (some t317)) else (none)) else (none))) else (none)) else (none)) else (none)) else (none))) else (none)) else (none)) else (none)) else (none)) else (none))) = some r := H
       have A67 := Aside0.mk A670
       clear A670
       replace H := Option.bind_eq_some_iff.mp H
       obtain ⟨⟨t310, t311, t312⟩, A680, H⟩ := H
       replace H : (if t287 = 0 then (if t292 = 0 then (if t286 = t291 then (if t297 = 0 then (if t302 = 0 then ((galloonlaw09_ints.f kj18 t295 t300).bind fun t315 => (if t315 = true then (if t301 = (wrap64 (2 * t296)) then (if t307 = 0 then (if t312 = 0 then ((galloonlaw09_ints.f kj18 t305 t310).bind fun t316 => (if t316 = true then (if t311 = (wrap64 (2 * t306)) then ((galloonlaw09_awake.f kj18).bind fun t317 => (some t317)) else (none)) else (none))) else (none)) else (none)) else (none)) else (none))) else (none)) else (none)) else (none)) else (none)) else (none)) = some r := H
       have A68 := Aside0.mk A680
       clear A680
       by_cases c69 : t287 = 0
       ·
        rw [if_pos c69] at H
        have c69b0 : (t287 == 0) = true := beq_iff_eq.mpr c69
        have c69b1 : (t287 != 0) = false := bne_eq_false_iff_eq.mpr c69
        clear c69
        by_cases c70 : t292 = 0
        ·
         rw [if_pos c70] at H
         have c70b0 : (t292 == 0) = true := beq_iff_eq.mpr c70
         have c70b1 : (t292 != 0) = false := bne_eq_false_iff_eq.mpr c70
         clear c70
         by_cases c71 : t286 = t291
         ·
          rw [if_pos c71] at H
          have c71b0 : (t286 == t291) = true := beq_iff_eq.mpr c71
          have c71b1 : (t286 != t291) = false := bne_eq_false_iff_eq.mpr c71
          clear c71
          by_cases c72 : t297 = 0
          ·
           rw [if_pos c72] at H
           have c72b0 : (t297 == 0) = true := beq_iff_eq.mpr c72
           have c72b1 : (t297 != 0) = false := bne_eq_false_iff_eq.mpr c72
           clear c72
           by_cases c73 : t302 = 0
           ·
            rw [if_pos c73] at H
            have c73b0 : (t302 == 0) = true := beq_iff_eq.mpr c73
            have c73b1 : (t302 != 0) = false := bne_eq_false_iff_eq.mpr c73
            clear c73
            replace H := Option.bind_eq_some_iff.mp H
            obtain ⟨t315, A740, H⟩ := H
            replace H : (if t315 = true then (if t301 = (wrap64 (2 * t296)) then (if t307 = 0 then (if t312 = 0 then ((galloonlaw09_ints.f kj18 t305 t310).bind fun t316 => (if t316 = true then (if t311 = (wrap64 (2 * t306)) then ((galloonlaw09_awake.f kj18).bind fun t317 => (some t317)) else (none)) else (none))) else (none)) else (none)) else (none)) else (none)) = some r := H
            have A74 := Aside0.mk A740
            clear A740
            by_cases c75 : t315 = true
            ·
             subst c75
             have H1 : (if t301 = (wrap64 (2 * t296)) then (if t307 = 0 then (if t312 = 0 then ((galloonlaw09_ints.f kj18 t305 t310).bind fun t316 => (if t316 = true then (if t311 = (wrap64 (2 * t306)) then ((galloonlaw09_awake.f kj18).bind fun t317 => (some t317)) else (none)) else (none))) else (none)) else (none)) else (none)) = some r := by rw [if_pos rfl] at H; exact H
             clear H
             have H := H1
             clear H1
             by_cases c76 : t301 = (wrap64 (2 * t296))
             ·
              rw [if_pos c76] at H
              have c76b0 : (t301 == (wrap64 (2 * t296))) = true := beq_iff_eq.mpr c76
              have c76b1 : (t301 != (wrap64 (2 * t296))) = false := bne_eq_false_iff_eq.mpr c76
              clear c76
              by_cases c77 : t307 = 0
              ·
               rw [if_pos c77] at H
               have c77b0 : (t307 == 0) = true := beq_iff_eq.mpr c77
               have c77b1 : (t307 != 0) = false := bne_eq_false_iff_eq.mpr c77
               clear c77
               by_cases c78 : t312 = 0
               ·
                rw [if_pos c78] at H
                have c78b0 : (t312 == 0) = true := beq_iff_eq.mpr c78
                have c78b1 : (t312 != 0) = false := bne_eq_false_iff_eq.mpr c78
                clear c78
                replace H := Option.bind_eq_some_iff.mp H
                obtain ⟨t316, A790, H⟩ := H
                replace H : (if t316 = true then (if t311 = (wrap64 (2 * t306)) then ((galloonlaw09_awake.f kj18).bind fun t317 => (some t317)) else (none)) else (none)) = some r := H
                have A79 := Aside0.mk A790
                clear A790
                by_cases c80 : t316 = true
                ·
                 subst c80
                 have H1 : (if t311 = (wrap64 (2 * t306)) then ((galloonlaw09_awake.f kj18).bind fun t317 => (some t317)) else (none)) = some r := by rw [if_pos rfl] at H; exact H
                 clear H
                 have H := H1
                 clear H1
                 by_cases c81 : t311 = (wrap64 (2 * t306))
                 ·
                  rw [if_pos c81] at H
                  have c81b0 : (t311 == (wrap64 (2 * t306))) = true := beq_iff_eq.mpr c81
                  have c81b1 : (t311 != (wrap64 (2 * t306))) = false := bne_eq_false_iff_eq.mpr c81
                  clear c81
                  replace H := Option.bind_eq_some_iff.mp H
                  obtain ⟨t317, A820, H⟩ := H
                  replace H : (some t317) = some r := H
                  have A82 := Aside0.mk A820
                  clear A820
                  obtain rfl := Option.some.inj H
                  go_wp2_with (first | ((with_reducible refine gate_callee (f := 37) rfl ?_); refine goesL_ (some 171) rfl rfl Try.func37 (by kernel_rfl) rfl #[.int .i64 t246, .slice Ao20 t247.length co20] rfl (by (try simp only [List.map_toArray, List.map_cons, List.map_nil]); first | done | rfl | (simp only [List.length_drop, List.length_take]; rfl)) ?_; (with_reducible refine (remnant_Best.calls kj18 t246 _ _ t247 t285 t286 t287 _ ?side1 ?side2 A63.out).mono ?_); (case side1 => repeat (first | exact (Kd.R_reads' HO_5.out).2.2 | (with_reducible refine Kd.C_alloc ?_ _) | (with_reducible refine Kd.C_drewN ?_ _) | (with_reducible refine Kd.C_drew ?_))); (case side2 => exact (Kd.R_reads' HO_5.out).2.1); rintro e w83 ⟨v288, rfl, ho0, hb⟩; refine ⟨_, rfl, ?_⟩; have n0_ := Aside0.mk (Kd.R_elder' (by (with_reducible repeat (first | apply Kd.R_alloc | apply Kd.R_drewN | apply Kd.R_drew)); exact HO_5.out) (Kd.R_base ho0) hb); have n1_ := Aside0.mk (Kd.R_elder' (by (with_reducible repeat (first | apply Kd.R_alloc | apply Kd.R_drewN | apply Kd.R_drew)); exact HO_6.out) (Kd.R_base ho0) hb); have n2_ := Aside0.mk (Kd.R_lower (Kd.R_new' (Kd.R_new' ho0 (Kd.R_lt (by (with_reducible repeat (first | apply Kd.R_alloc | apply Kd.R_drewN | apply Kd.R_drew)); exact HO_5.out))) (Kd.R_lt (by (with_reducible repeat (first | apply Kd.R_alloc | apply Kd.R_drewN | apply Kd.R_drew)); exact HO_6.out))) (below_size (by repeat (first | (with_reducible first | exact HB.out | apply below_alloc | apply pw_below_drewN | apply below_drew1) | exact HB.out)))); have n3_ := Aside0.mk (below_step (by repeat (first | (with_reducible first | exact HB.out | apply below_alloc | apply pw_below_drewN | apply below_drew1) | exact HB.out)) hb); clear HO_5; clear HO_6; clear HB; have HO_5 := n0_; have HO_6 := n1_; have HO289 := n2_; have HB := n3_; clear n0_ n1_ n2_ n3_; (try clear hb); (try clear hb2); (try clear hk); (try clear hi); (try clear ho0)) | ((with_reducible refine gate_callee (f := 37) rfl ?_); refine goesL_ (some 179) rfl rfl Try.func37 (by kernel_rfl) rfl #[.int .i64 (wrap64 (2 * t246)), .slice Ao22 x6_1.length co22] rfl (by (try simp only [List.map_toArray, List.map_cons, List.map_nil]); first | done | rfl | (simp only [List.length_drop, List.length_take]; rfl)) ?_; (with_reducible refine (remnant_Best.calls kj18 (wrap64 (2 * t246)) _ _ x6_1 t290 t291 t292 _ ?side1 ?side2 A64.out).mono ?_); (case side1 => repeat (first | exact (Kd.R_reads' HO_6.out).2.2 | (with_reducible refine Kd.C_alloc ?_ _) | (with_reducible refine Kd.C_drewN ?_ _) | (with_reducible refine Kd.C_drew ?_))); (case side2 => exact (Kd.R_reads' HO_6.out).2.1); rintro e w84 ⟨v293, rfl, ho0, hb⟩; refine ⟨_, rfl, ?_⟩; have n0_ := Aside0.mk (Kd.R_elder' (by (with_reducible repeat (first | apply Kd.R_alloc | apply Kd.R_drewN | apply Kd.R_drew)); exact HO_5.out) (Kd.R_base ho0) hb); have n1_ := Aside0.mk (Kd.R_elder' (by (with_reducible repeat (first | apply Kd.R_alloc | apply Kd.R_drewN | apply Kd.R_drew)); exact HO_6.out) (Kd.R_base ho0) hb); have n2_ := Aside0.mk (Kd.R_elder' (by (with_reducible repeat (first | apply Kd.R_alloc | apply Kd.R_drewN | apply Kd.R_drew)); exact HO289.out) (Kd.R_base ho0) hb); have n3_ := Aside0.mk (Kd.R_lower (Kd.R_new' (Kd.R_new' (Kd.R_new' ho0 (Kd.R_lt (by (with_reducible repeat (first | apply Kd.R_alloc | apply Kd.R_drewN | apply Kd.R_drew)); exact HO_5.out))) (Kd.R_lt (by (with_reducible repeat (first | apply Kd.R_alloc | apply Kd.R_drewN | apply Kd.R_drew)); exact HO_6.out))) (Kd.R_lt (by (with_reducible repeat (first | apply Kd.R_alloc | apply Kd.R_drewN | apply Kd.R_drew)); exact HO289.out))) (below_size (by repeat (first | (with_reducible first | exact HB.out | apply below_alloc | apply pw_below_drewN | apply below_drew1) | exact HB.out)))); have n4_ := Aside0.mk (below_step (by repeat (first | (with_reducible first | exact HB.out | apply below_alloc | apply pw_below_drewN | apply below_drew1) | exact HB.out)) hb); clear HO_5; clear HO_6; clear HO289; clear HB; have HO_5 := n0_; have HO_6 := n1_; have HO289 := n2_; have HO294 := n3_; have HB := n4_; clear n0_ n1_ n2_ n3_ n4_; (try clear hb); (try clear hb2); (try clear hk); (try clear hi); (try clear ho0)) | ((with_reducible refine gate_callee (f := 23) rfl ?_); refine goesL_ (some 186) rfl rfl Try.func23 (by kernel_rfl) rfl #[.int .i64 t246, .slice Ao20 t247.length co20] rfl (by (try simp only [List.map_toArray, List.map_cons, List.map_nil]); first | done | rfl | (simp only [List.length_drop, List.length_take]; rfl)) ?_; (with_reducible refine (remnant_Rest.calls t246 _ _ t247 t295 t296 t297 _ ?side1 ?side2 A65.out).mono ?_); (case side1 => repeat (first | exact (Kd.R_reads' HO_5.out).2.2 | (with_reducible refine Kd.C_alloc ?_ _) | (with_reducible refine Kd.C_drewN ?_ _) | (with_reducible refine Kd.C_drew ?_))); (case side2 => exact (Kd.R_reads' HO_5.out).2.1); rintro e w85 ⟨v298, rfl, ho0, hb⟩; refine ⟨_, rfl, ?_⟩; have n0_ := Aside0.mk (Kd.R_elder' (by (with_reducible repeat (first | apply Kd.R_alloc | apply Kd.R_drewN | apply Kd.R_drew)); exact HO_5.out) (Kd.R_base ho0) hb); have n1_ := Aside0.mk (Kd.R_elder' (by (with_reducible repeat (first | apply Kd.R_alloc | apply Kd.R_drewN | apply Kd.R_drew)); exact HO_6.out) (Kd.R_base ho0) hb); have n2_ := Aside0.mk (Kd.R_elder' (by (with_reducible repeat (first | apply Kd.R_alloc | apply Kd.R_drewN | apply Kd.R_drew)); exact HO289.out) (Kd.R_base ho0) hb); have n3_ := Aside0.mk (Kd.R_elder' (by (with_reducible repeat (first | apply Kd.R_alloc | apply Kd.R_drewN | apply Kd.R_drew)); exact HO294.out) (Kd.R_base ho0) hb); have n4_ := Aside0.mk (Kd.R_lower (Kd.R_new' (Kd.R_new' (Kd.R_new' (Kd.R_new' ho0 (Kd.R_lt (by (with_reducible repeat (first | apply Kd.R_alloc | apply Kd.R_drewN | apply Kd.R_drew)); exact HO_5.out))) (Kd.R_lt (by (with_reducible repeat (first | apply Kd.R_alloc | apply Kd.R_drewN | apply Kd.R_drew)); exact HO_6.out))) (Kd.R_lt (by (with_reducible repeat (first | apply Kd.R_alloc | apply Kd.R_drewN | apply Kd.R_drew)); exact HO289.out))) (Kd.R_lt (by (with_reducible repeat (first | apply Kd.R_alloc | apply Kd.R_drewN | apply Kd.R_drew)); exact HO294.out))) (below_size (by repeat (first | (with_reducible first | exact HB.out | apply below_alloc | apply pw_below_drewN | apply below_drew1) | exact HB.out)))); have n5_ := Aside0.mk (below_step (by repeat (first | (with_reducible first | exact HB.out | apply below_alloc | apply pw_below_drewN | apply below_drew1) | exact HB.out)) hb); clear HO_5; clear HO_6; clear HO289; clear HO294; clear HB; have HO_5 := n0_; have HO_6 := n1_; have HO289 := n2_; have HO294 := n3_; have HO299 := n4_; have HB := n5_; clear n0_ n1_ n2_ n3_ n4_ n5_; (try clear hb); (try clear hb2); (try clear hk); (try clear hi); (try clear ho0)) | ((with_reducible refine gate_callee (f := 23) rfl ?_); refine goesL_ (some 194) rfl rfl Try.func23 (by kernel_rfl) rfl #[.int .i64 (wrap64 (2 * t246)), .slice Ao22 x6_1.length co22] rfl (by (try simp only [List.map_toArray, List.map_cons, List.map_nil]); first | done | rfl | (simp only [List.length_drop, List.length_take]; rfl)) ?_; (with_reducible refine (remnant_Rest.calls (wrap64 (2 * t246)) _ _ x6_1 t300 t301 t302 _ ?side1 ?side2 A66.out).mono ?_); (case side1 => repeat (first | exact (Kd.R_reads' HO_6.out).2.2 | (with_reducible refine Kd.C_alloc ?_ _) | (with_reducible refine Kd.C_drewN ?_ _) | (with_reducible refine Kd.C_drew ?_))); (case side2 => exact (Kd.R_reads' HO_6.out).2.1); rintro e w86 ⟨v303, rfl, ho0, hb⟩; refine ⟨_, rfl, ?_⟩; have n0_ := Aside0.mk (Kd.R_elder' (by (with_reducible repeat (first | apply Kd.R_alloc | apply Kd.R_drewN | apply Kd.R_drew)); exact HO_5.out) (Kd.R_base ho0) hb); have n1_ := Aside0.mk (Kd.R_elder' (by (with_reducible repeat (first | apply Kd.R_alloc | apply Kd.R_drewN | apply Kd.R_drew)); exact HO_6.out) (Kd.R_base ho0) hb); have n2_ := Aside0.mk (Kd.R_elder' (by (with_reducible repeat (first | apply Kd.R_alloc | apply Kd.R_drewN | apply Kd.R_drew)); exact HO289.out) (Kd.R_base ho0) hb); have n3_ := Aside0.mk (Kd.R_elder' (by (with_reducible repeat (first | apply Kd.R_alloc | apply Kd.R_drewN | apply Kd.R_drew)); exact HO294.out) (Kd.R_base ho0) hb); have n4_ := Aside0.mk (Kd.R_elder' (by (with_reducible repeat (first | apply Kd.R_alloc | apply Kd.R_drewN | apply Kd.R_drew)); exact HO299.out) (Kd.R_base ho0) hb); have n5_ := Aside0.mk (Kd.R_lower (Kd.R_new' (Kd.R_new' (Kd.R_new' (Kd.R_new' (Kd.R_new' ho0 (Kd.R_lt (by (with_reducible repeat (first | apply Kd.R_alloc | apply Kd.R_drewN | apply Kd.R_drew)); exact HO_5.out))) (Kd.R_lt (by (with_reducible repeat (first | apply Kd.R_alloc | apply Kd.R_drewN | apply Kd.R_drew)); exact HO_6.out))) (Kd.R_lt (by (with_reducible repeat (first | apply Kd.R_alloc | apply Kd.R_drewN | apply Kd.R_drew)); exact HO289.out))) (Kd.R_lt (by (with_reducible repeat (first | apply Kd.R_alloc | apply Kd.R_drewN | apply Kd.R_drew)); exact HO294.out))) (Kd.R_lt (by (with_reducible repeat (first | apply Kd.R_alloc | apply Kd.R_drewN | apply Kd.R_drew)); exact HO299.out))) (below_size (by repeat (first | (with_reducible first | exact HB.out | apply below_alloc | apply pw_below_drewN | apply below_drew1) | exact HB.out)))); have n6_ := Aside0.mk (below_step (by repeat (first | (with_reducible first | exact HB.out | apply below_alloc | apply pw_below_drewN | apply below_drew1) | exact HB.out)) hb); clear HO_5; clear HO_6; clear HO289; clear HO294; clear HO299; clear HB; have HO_5 := n0_; have HO_6 := n1_; have HO289 := n2_; have HO294 := n3_; have HO299 := n4_; have HO304 := n5_; have HB := n6_; clear n0_ n1_ n2_ n3_ n4_ n5_ n6_; (try clear hb); (try clear hb2); (try clear hk); (try clear hi); (try clear ho0)) | ((with_reducible refine gate_callee (f := 22) rfl ?_); refine goesL_ (some 200) rfl rfl Try.func22 (by kernel_rfl) rfl #[.slice Ao20 t247.length co20] rfl (by (try simp only [List.map_toArray, List.map_cons, List.map_nil]); first | done | rfl | (simp only [List.length_drop, List.length_take]; rfl)) ?_; (with_reducible refine (remnant_Split.calls _ _ t247 t305 t306 t307 _ ?side1 ?side2 A67.out).mono ?_); (case side1 => repeat (first | exact (Kd.R_reads' HO_5.out).2.2 | (with_reducible refine Kd.C_alloc ?_ _) | (with_reducible refine Kd.C_drewN ?_ _) | (with_reducible refine Kd.C_drew ?_))); (case side2 => exact (Kd.R_reads' HO_5.out).2.1); rintro e w87 ⟨v308, rfl, ho0, hb⟩; refine ⟨_, rfl, ?_⟩; have n0_ := Aside0.mk (Kd.R_elder' (by (with_reducible repeat (first | apply Kd.R_alloc | apply Kd.R_drewN | apply Kd.R_drew)); exact HO_5.out) (Kd.R_base ho0) hb); have n1_ := Aside0.mk (Kd.R_elder' (by (with_reducible repeat (first | apply Kd.R_alloc | apply Kd.R_drewN | apply Kd.R_drew)); exact HO_6.out) (Kd.R_base ho0) hb); have n2_ := Aside0.mk (Kd.R_elder' (by (with_reducible repeat (first | apply Kd.R_alloc | apply Kd.R_drewN | apply Kd.R_drew)); exact HO289.out) (Kd.R_base ho0) hb); have n3_ := Aside0.mk (Kd.R_elder' (by (with_reducible repeat (first | apply Kd.R_alloc | apply Kd.R_drewN | apply Kd.R_drew)); exact HO294.out) (Kd.R_base ho0) hb); have n4_ := Aside0.mk (Kd.R_elder' (by (with_reducible repeat (first | apply Kd.R_alloc | apply Kd.R_drewN | apply Kd.R_drew)); exact HO299.out) (Kd.R_base ho0) hb); have n5_ := Aside0.mk (Kd.R_elder' (by (with_reducible repeat (first | apply Kd.R_alloc | apply Kd.R_drewN | apply Kd.R_drew)); exact HO304.out) (Kd.R_base ho0) hb); have n6_ := Aside0.mk (Kd.R_lower (Kd.R_new' (Kd.R_new' (Kd.R_new' (Kd.R_new' (Kd.R_new' (Kd.R_new' ho0 (Kd.R_lt (by (with_reducible repeat (first | apply Kd.R_alloc | apply Kd.R_drewN | apply Kd.R_drew)); exact HO_5.out))) (Kd.R_lt (by (with_reducible repeat (first | apply Kd.R_alloc | apply Kd.R_drewN | apply Kd.R_drew)); exact HO_6.out))) (Kd.R_lt (by (with_reducible repeat (first | apply Kd.R_alloc | apply Kd.R_drewN | apply Kd.R_drew)); exact HO289.out))) (Kd.R_lt (by (with_reducible repeat (first | apply Kd.R_alloc | apply Kd.R_drewN | apply Kd.R_drew)); exact HO294.out))) (Kd.R_lt (by (with_reducible repeat (first | apply Kd.R_alloc | apply Kd.R_drewN | apply Kd.R_drew)); exact HO299.out))) (Kd.R_lt (by (with_reducible repeat (first | apply Kd.R_alloc | apply Kd.R_drewN | apply Kd.R_drew)); exact HO304.out))) (below_size (by repeat (first | (with_reducible first | exact HB.out | apply below_alloc | apply pw_below_drewN | apply below_drew1) | exact HB.out)))); have n7_ := Aside0.mk (below_step (by repeat (first | (with_reducible first | exact HB.out | apply below_alloc | apply pw_below_drewN | apply below_drew1) | exact HB.out)) hb); clear HO_5; clear HO_6; clear HO289; clear HO294; clear HO299; clear HO304; clear HB; have HO_5 := n0_; have HO_6 := n1_; have HO289 := n2_; have HO294 := n3_; have HO299 := n4_; have HO304 := n5_; have HO309 := n6_; have HB := n7_; clear n0_ n1_ n2_ n3_ n4_ n5_ n6_ n7_; (try clear hb); (try clear hb2); (try clear hk); (try clear hi); (try clear ho0)) | ((with_reducible refine gate_callee (f := 22) rfl ?_); refine goesL_ (some 206) rfl rfl Try.func22 (by kernel_rfl) rfl #[.slice Ao22 x6_1.length co22] rfl (by (try simp only [List.map_toArray, List.map_cons, List.map_nil]); first | done | rfl | (simp only [List.length_drop, List.length_take]; rfl)) ?_; (with_reducible refine (remnant_Split.calls _ _ x6_1 t310 t311 t312 _ ?side1 ?side2 A68.out).mono ?_); (case side1 => repeat (first | exact (Kd.R_reads' HO_6.out).2.2 | (with_reducible refine Kd.C_alloc ?_ _) | (with_reducible refine Kd.C_drewN ?_ _) | (with_reducible refine Kd.C_drew ?_))); (case side2 => exact (Kd.R_reads' HO_6.out).2.1); rintro e w88 ⟨v313, rfl, ho0, hb⟩; refine ⟨_, rfl, ?_⟩; have n0_ := Aside0.mk (Kd.R_elder' (by (with_reducible repeat (first | apply Kd.R_alloc | apply Kd.R_drewN | apply Kd.R_drew)); exact HO_5.out) (Kd.R_base ho0) hb); have n1_ := Aside0.mk (Kd.R_elder' (by (with_reducible repeat (first | apply Kd.R_alloc | apply Kd.R_drewN | apply Kd.R_drew)); exact HO_6.out) (Kd.R_base ho0) hb); have n2_ := Aside0.mk (Kd.R_elder' (by (with_reducible repeat (first | apply Kd.R_alloc | apply Kd.R_drewN | apply Kd.R_drew)); exact HO289.out) (Kd.R_base ho0) hb); have n3_ := Aside0.mk (Kd.R_elder' (by (with_reducible repeat (first | apply Kd.R_alloc | apply Kd.R_drewN | apply Kd.R_drew)); exact HO294.out) (Kd.R_base ho0) hb); have n4_ := Aside0.mk (Kd.R_elder' (by (with_reducible repeat (first | apply Kd.R_alloc | apply Kd.R_drewN | apply Kd.R_drew)); exact HO299.out) (Kd.R_base ho0) hb); have n5_ := Aside0.mk (Kd.R_elder' (by (with_reducible repeat (first | apply Kd.R_alloc | apply Kd.R_drewN | apply Kd.R_drew)); exact HO304.out) (Kd.R_base ho0) hb); have n6_ := Aside0.mk (Kd.R_elder' (by (with_reducible repeat (first | apply Kd.R_alloc | apply Kd.R_drewN | apply Kd.R_drew)); exact HO309.out) (Kd.R_base ho0) hb); have n7_ := Aside0.mk (Kd.R_lower (Kd.R_new' (Kd.R_new' (Kd.R_new' (Kd.R_new' (Kd.R_new' (Kd.R_new' (Kd.R_new' ho0 (Kd.R_lt (by (with_reducible repeat (first | apply Kd.R_alloc | apply Kd.R_drewN | apply Kd.R_drew)); exact HO_5.out))) (Kd.R_lt (by (with_reducible repeat (first | apply Kd.R_alloc | apply Kd.R_drewN | apply Kd.R_drew)); exact HO_6.out))) (Kd.R_lt (by (with_reducible repeat (first | apply Kd.R_alloc | apply Kd.R_drewN | apply Kd.R_drew)); exact HO289.out))) (Kd.R_lt (by (with_reducible repeat (first | apply Kd.R_alloc | apply Kd.R_drewN | apply Kd.R_drew)); exact HO294.out))) (Kd.R_lt (by (with_reducible repeat (first | apply Kd.R_alloc | apply Kd.R_drewN | apply Kd.R_drew)); exact HO299.out))) (Kd.R_lt (by (with_reducible repeat (first | apply Kd.R_alloc | apply Kd.R_drewN | apply Kd.R_drew)); exact HO304.out))) (Kd.R_lt (by (with_reducible repeat (first | apply Kd.R_alloc | apply Kd.R_drewN | apply Kd.R_drew)); exact HO309.out))) (below_size (by repeat (first | (with_reducible first | exact HB.out | apply below_alloc | apply pw_below_drewN | apply below_drew1) | exact HB.out)))); have n8_ := Aside0.mk (below_step (by repeat (first | (with_reducible first | exact HB.out | apply below_alloc | apply pw_below_drewN | apply below_drew1) | exact HB.out)) hb); clear HO_5; clear HO_6; clear HO289; clear HO294; clear HO299; clear HO304; clear HO309; clear HB; have HO_5 := n0_; have HO_6 := n1_; have HO289 := n2_; have HO294 := n3_; have HO299 := n4_; have HO304 := n5_; have HO309 := n6_; have HO314 := n7_; have HB := n8_; clear n0_ n1_ n2_ n3_ n4_ n5_ n6_ n7_ n8_; (try clear hb); (try clear hb2); (try clear hk); (try clear hi); (try clear ho0); obtain ⟨Ao89, co89, eo89⟩ := Kd.R_slice HO299.out; subst eo89; obtain ⟨Ao90, co90, eo90⟩ := Kd.R_slice HO304.out; subst eo90) | (go_at_call 25; (with_reducible refine (galloonlaw09_ints.calls kj18 _ _ t295 _ _ t300 true _ ?side1 ?side2 ?side3 ?side4 A74.out).mono ?_); (case side1 => repeat (first | exact (Kd.R_reads' HO299.out).2.2 | (with_reducible refine Kd.C_alloc ?_ _) | (with_reducible refine Kd.C_drewN ?_ _) | (with_reducible refine Kd.C_drew ?_))); (case side2 => exact (Kd.R_reads' HO299.out).2.1); (case side3 => repeat (first | exact (Kd.R_reads' HO304.out).2.2 | (with_reducible refine Kd.C_alloc ?_ _) | (with_reducible refine Kd.C_drewN ?_ _) | (with_reducible refine Kd.C_drew ?_))); (case side4 => exact (Kd.R_reads' HO304.out).2.1); rintro e w' ⟨rfl, ⟨nd, rfl⟩⟩; obtain ⟨Ao91, co91, eo91⟩ := Kd.R_slice HO309.out; subst eo91; obtain ⟨Ao92, co92, eo92⟩ := Kd.R_slice HO314.out; subst eo92) | (go_at_call 25; (with_reducible refine (galloonlaw09_ints.calls kj18 _ _ t305 _ _ t310 true _ ?side1 ?side2 ?side3 ?side4 A79.out).mono ?_); (case side1 => repeat (first | exact (Kd.R_reads' HO309.out).2.2 | (with_reducible refine Kd.C_alloc ?_ _) | (with_reducible refine Kd.C_drewN ?_ _) | (with_reducible refine Kd.C_drew ?_))); (case side2 => exact (Kd.R_reads' HO309.out).2.1); (case side3 => repeat (first | exact (Kd.R_reads' HO314.out).2.2 | (with_reducible refine Kd.C_alloc ?_ _) | (with_reducible refine Kd.C_drewN ?_ _) | (with_reducible refine Kd.C_drew ?_))); (case side4 => exact (Kd.R_reads' HO314.out).2.1); rintro e w' ⟨rfl, ⟨nd, rfl⟩⟩) | (go_at_call 19; (with_reducible refine (galloonlaw09_awake.calls kj18  t317 _ A82.out).mono ?_); rintro e w93 ⟨rfl, hb⟩; have n0_ := Aside0.mk (Kd.R_below (by (with_reducible repeat (first | apply Kd.R_alloc | apply Kd.R_drewN | apply Kd.R_drew)); exact HO_5.out) hb); have n1_ := Aside0.mk (Kd.R_below (by (with_reducible repeat (first | apply Kd.R_alloc | apply Kd.R_drewN | apply Kd.R_drew)); exact HO_6.out) hb); have n2_ := Aside0.mk (Kd.R_below (by (with_reducible repeat (first | apply Kd.R_alloc | apply Kd.R_drewN | apply Kd.R_drew)); exact HO289.out) hb); have n3_ := Aside0.mk (Kd.R_below (by (with_reducible repeat (first | apply Kd.R_alloc | apply Kd.R_drewN | apply Kd.R_drew)); exact HO294.out) hb); have n4_ := Aside0.mk (Kd.R_below (by (with_reducible repeat (first | apply Kd.R_alloc | apply Kd.R_drewN | apply Kd.R_drew)); exact HO299.out) hb); have n5_ := Aside0.mk (Kd.R_below (by (with_reducible repeat (first | apply Kd.R_alloc | apply Kd.R_drewN | apply Kd.R_drew)); exact HO304.out) hb); have n6_ := Aside0.mk (Kd.R_below (by (with_reducible repeat (first | apply Kd.R_alloc | apply Kd.R_drewN | apply Kd.R_drew)); exact HO309.out) hb); have n7_ := Aside0.mk (Kd.R_below (by (with_reducible repeat (first | apply Kd.R_alloc | apply Kd.R_drewN | apply Kd.R_drew)); exact HO314.out) hb); have n8_ := Aside0.mk (below_step (by repeat (first | (with_reducible first | exact HB.out | apply below_alloc | apply pw_below_drewN | apply below_drew1) | exact HB.out)) hb); clear HO_5; clear HO_6; clear HO289; clear HO294; clear HO299; clear HO304; clear HO309; clear HO314; clear HB; have HO_5 := n0_; have HO_6 := n1_; have HO289 := n2_; have HO294 := n3_; have HO299 := n4_; have HO304 := n5_; have HO309 := n6_; have HO314 := n7_; have HB := n8_; clear n0_ n1_ n2_ n3_ n4_ n5_ n6_ n7_ n8_; (try clear hb); (try clear hb2); (try clear hk); (try clear hi)))
                  go_ret
                  exact ⟨by first | rfl | (simp [errW_none, errW_some] <;> rfl) | (simp [*, errW_none, errW_some] <;> rfl), by repeat (first | (with_reducible first | exact HB.out | apply below_alloc | apply pw_below_drewN | apply below_drew1) | exact HB.out)⟩
                 ·
                  rw [if_neg c81] at H
                  exact absurd H (by simp)
                ·
                 replace c80 := Bool.eq_false_iff.mpr c80
                 subst c80
                 have H1 : (none) = some r := by rw [if_neg (show ¬ (false = true) by decide)] at H; exact H
                 clear H
                 have H := H1
                 clear H1
                 exact absurd H (by simp)
               ·
                rw [if_neg c78] at H
                exact absurd H (by simp)
              ·
               rw [if_neg c77] at H
               exact absurd H (by simp)
             ·
              rw [if_neg c76] at H
              exact absurd H (by simp)
            ·
             replace c75 := Bool.eq_false_iff.mpr c75
             subst c75
             have H1 : (none) = some r := by rw [if_neg (show ¬ (false = true) by decide)] at H; exact H
             clear H
             have H := H1
             clear H1
             exact absurd H (by simp)
           ·
            rw [if_neg c73] at H
            exact absurd H (by simp)
          ·
           rw [if_neg c72] at H
           exact absurd H (by simp)
         ·
          rw [if_neg c71] at H
          exact absurd H (by simp)
        ·
         rw [if_neg c70] at H
         exact absurd H (by simp)
       ·
        rw [if_neg c69] at H
        exact absurd H (by simp)

/-- THE ONE PURE STATEMENT of galloonlaw09_RemnantScaled: yours. -/
def galloonlaw09_RemnantScaled.Pure : Prop := ∀ (a0 : Int) (l1 : List Int), (Lit.int .i64 a0).wf = true → l1.length ≤ maxLen → l1.length * 8 ≤ 140737488351232 → (∀ x ∈ l1, (Lit.int .i64 x).wf = true) → ∃ k, galloonlaw09_RemnantScaled.f k a0 l1 = some true
theorem galloonlaw09_RemnantScaled.walk (P : galloonlaw09_RemnantScaled.Pure) (a0 : Int) (a1 : Option Addr) (len1 cap1 : Nat) (z1 : List Int) (w : World) (w0 : (Lit.int .i64 a0).wf = true) (w1 : (a1 = none ∧ len1 = 0 ∧ cap1 = 0 ∧ z1 = []) ∨ ∃ x, a1 = some x ∧ len1 ≤ cap1 ∧ cap1 ≤ maxLen ∧ z1.length = cap1 ∧ (∀ i, i < z1.length → w.cell? (x.add i) = some (.int .i64 (z1.getD i 0))) ∧ ∀ n ∈ z1, (Lit.int .i64 n).wf = true) (y1 : len1 * 8 ≤ 140737488351232) :
  Calls Try.prog 14 #[.int .i64 a0, .slice a1 len1 cap1] w fun e w' => e = .returned (.bool true) ∧ Below w.heap.size w w' := by
 obtain ⟨l1, rfl, hr1, hm1, hw1, hc1⟩ := ReadsInt.ofRowC w1
 obtain ⟨k, h⟩ := P a0 l1 w0 hm1 y1 hw1
 refine (galloonlaw09_RemnantScaled.calls k a0 _ _ l1 true w (Kd.C_of_reads (d := (0 : Int)) (h1 := fun _ => rfl) hr1) hc1 h).mono ?_
 rintro e w' ⟨rfl, hd⟩
 exact ⟨rfl, hd⟩

end Go.Proofs.Ytoecbchfdgbliaa.B
