-- Written by a program of this session (wip/xprint.py), over the kit's print; some sections by hand.
import Derived.Test.YtcjglbipkghhnaaBx0
import Derived.Test.YtcjglbipkghhnaaBx1
import Derived.Test.YtcjglbipkghhnaaHandC
import Derived.Test.YtcjglbipkghhnaaHandW
namespace Go.Proofs.Ytcjglbipkghhnaa.B
open Go.RowKit Go.Proofs.YtcjglbipkghhnaaW.PrintWords Go.Proofs.YtcjglbipkghhnaaW.PrintLast Go.Proofs.YtcjglbipkghhnaaW.PrintMore
attribute [local go_sem low] Hand.cell_map_
attribute [local go_sem] max2_int min2_int max_two min_two max_three min_three max_four min_four   -- for this text's walks alone
set_option linter.unusedVariables false
set_option linter.unusedSimpArgs false

/-! ### remnant_Fill: function 32 -/
mutual
def remnant_Fill.l0 : Nat → Int → List Int → List (S68) → Int → Option (List Int × Int × Int)
 | 0, _, _, _, _ => none
 | k + 1, x0, x1, x7, x8 => if x8 < (x7.length : Int) then (if 0 ≤ x8 then (remnant_Fill.l1 k x0 x1 (x7.set (x8 : Int).toNat (⟨(-1), (rd_T68 x7 x8).f1, (rd_T68 x7 x8).f2⟩ : S68)) x8 x1 (x1.length : Int) 0) else (none)) else ((slices_Repeat_int_int.f (([(-1)] : List Int)) (x1.length : Int)).bind fun t142 => (if 0 ≤ (wrap64 ((x7.length : Int) - 1)) then (if (wrap64 ((x7.length : Int) - 1)) < (x7.length : Int) then (remnant_Fill.l2 k x7 t142 ((rd_T68 x7 (wrap64 ((x7.length : Int) - 1))).f0) (wrap64 ((x7.length : Int) - 1))) else (none)) else (none)))
def remnant_Fill.l1 : Nat → Int → List Int → List (S68) → Int → List Int → Int → Int → Option (List Int × Int × Int)
 | 0, _, _, _, _, _, _, _ => none
 | k + 1, x0, x1, x7, x8, x35, x36, x37 => if x37 < x36 then (if 0 ≤ x37 then (if x37 < (x35.length : Int) then (if (Go.bits .and .i64 (shr .i64 x8 x37) 1) = 0 then (remnant_Fill.l1 k x0 x1 x7 x8 x35 x36 (wrap64 (x37 + 1))) else (if 0 ≤ (Go.bits .andNot .i64 x8 (shl .i64 1 x37)) then (if (Go.bits .andNot .i64 x8 (shl .i64 1 x37)) < (x7.length : Int) then (if (wrap64 (((rd_T68 x7 (Go.bits .andNot .i64 x8 (shl .i64 1 x37))).f1) + (rd x35 x37))) ≥ x0 then (if 0 ≤ x8 then (if x8 < (x7.length : Int) then ((remnant_more.f k (([wrap64 (((rd_T68 x7 (Go.bits .andNot .i64 x8 (shl .i64 1 x37))).f0) + 1), (rd_T68 x7 x8).f0, 0, (rd_T68 x7 x8).f1] : List Int))).bind fun t130 => (if t130 = true then (remnant_Fill.l1 k x0 x1 (x7.set (x8 : Int).toNat (⟨wrap64 (((rd_T68 x7 (Go.bits .andNot .i64 x8 (shl .i64 1 x37))).f0) + 1), 0, x37⟩ : S68)) x8 x35 x36 (wrap64 (x37 + 1))) else (remnant_Fill.l1 k x0 x1 x7 x8 x35 x36 (wrap64 (x37 + 1))))) else (none)) else (none)) else (if 0 ≤ x8 then (if x8 < (x7.length : Int) then ((remnant_more.f k (([(rd_T68 x7 (Go.bits .andNot .i64 x8 (shl .i64 1 x37))).f0, (rd_T68 x7 x8).f0, wrap64 (((rd_T68 x7 (Go.bits .andNot .i64 x8 (shl .i64 1 x37))).f1) + (rd x35 x37)), (rd_T68 x7 x8).f1] : List Int))).bind fun t137 => (if t137 = true then (remnant_Fill.l1 k x0 x1 (x7.set (x8 : Int).toNat (⟨(rd_T68 x7 (Go.bits .andNot .i64 x8 (shl .i64 1 x37))).f0, wrap64 (((rd_T68 x7 (Go.bits .andNot .i64 x8 (shl .i64 1 x37))).f1) + (rd x35 x37)), x37⟩ : S68)) x8 x35 x36 (wrap64 (x37 + 1))) else (remnant_Fill.l1 k x0 x1 x7 x8 x35 x36 (wrap64 (x37 + 1))))) else (none)) else (none))) else (none)) else (none))) else (none)) else (none)) else (remnant_Fill.l0 k x0 x1 x7 (wrap64 (x8 + 1)))
def remnant_Fill.l2 : Nat → List (S68) → List Int → Int → Int → Option (List Int × Int × Int)
 | 0, _, _, _, _ => none
 | k + 1, x7, x12, x14, x15 => if x15 > 0 then (if 0 ≤ x15 then (if x15 < (x7.length : Int) then (if 0 ≤ ((rd_T68 x7 x15).f2) then (if 0 ≤ (Go.bits .andNot .i64 x15 (shl .i64 1 ((rd_T68 x7 x15).f2))) then (if (Go.bits .andNot .i64 x15 (shl .i64 1 ((rd_T68 x7 x15).f2))) < (x7.length : Int) then (if ((rd_T68 x7 (Go.bits .andNot .i64 x15 (shl .i64 1 ((rd_T68 x7 x15).f2)))).f0) < x14 then (if ((rd_T68 x7 x15).f2) < (x12.length : Int) then (remnant_Fill.l2 k x7 (x12.set (((rd_T68 x7 x15).f2) : Int).toNat ((rd_T68 x7 (Go.bits .andNot .i64 x15 (shl .i64 1 ((rd_T68 x7 x15).f2)))).f0)) x14 (Go.bits .andNot .i64 x15 (shl .i64 1 ((rd_T68 x7 x15).f2)))) else (none)) else (remnant_Fill.l2 k x7 x12 x14 (Go.bits .andNot .i64 x15 (shl .i64 1 ((rd_T68 x7 x15).f2))))) else (none)) else (none)) else (none)) else (none)) else (none)) else ((remnant_used.f x12).bind fun t152 => (some (t152, x14, 0)))
end
def remnant_Fill.f (k : Nat) (a0 : Int) (l1 : List Int) : Option (List Int × Int × Int) := (remnant_arePieces.f a0 l1).bind fun t117 => (if t117 = true then (if 0 ≤ (shl .i64 1 (l1.length : Int)) then (if (shl .i64 1 (l1.length : Int) : Int).toNat ≤ 11728124029610 then (remnant_Fill.l0 k a0 l1 (List.replicate (shl .i64 1 (l1.length : Int) : Int).toNat z68) 1) else (none)) else (none)) else (some (([] : List Int), 0, 2)))
theorem remnant_Fill.mono_l : ∀ k, (∀ y0 y1 y2 y3, LeO (remnant_Fill.l0 k y0 y1 y2 y3) (remnant_Fill.l0 (k + 1) y0 y1 y2 y3)) ∧ (∀ y0 y1 y2 y3 y4 y5 y6, LeO (remnant_Fill.l1 k y0 y1 y2 y3 y4 y5 y6) (remnant_Fill.l1 (k + 1) y0 y1 y2 y3 y4 y5 y6)) ∧ (∀ y0 y1 y2 y3, LeO (remnant_Fill.l2 k y0 y1 y2 y3) (remnant_Fill.l2 (k + 1) y0 y1 y2 y3))
 | 0 => ⟨fun _ _ _ _ r h => by simp [remnant_Fill.l0] at h, fun _ _ _ _ _ _ _ r h => by simp [remnant_Fill.l1] at h, fun _ _ _ _ r h => by simp [remnant_Fill.l2] at h⟩
 | k + 1 => by
  obtain ⟨ih0, ih1, ih2⟩ := remnant_Fill.mono_l k
  refine ⟨?_, ?_, ?_⟩
  ·
   intro y0 y1 y2 y3
   unfold remnant_Fill.l0
   repeat' first
   | (with_reducible exact ih0 _ _ _ _)
   | (with_reducible exact ih1 _ _ _ _ _ _ _)
   | (with_reducible exact ih2 _ _ _ _)
   | (with_reducible exact remnant_more.mono _ _)
   | (with_reducible exact LeO.refl _)
   | (with_reducible exact LeO.none _)
   | (with_reducible refine LeO.ite ?_ ?_)
   | (with_reducible refine LeO.bind ?_ (fun _ => ?_))
   | exact ih0 _ _ _ _
   | exact ih1 _ _ _ _ _ _ _
   | exact ih2 _ _ _ _
   | exact remnant_more.mono _ _
   | exact LeO.none _
   | refine LeO.ite ?_ ?_
   | refine LeO.bind ?_ (fun _ => ?_)
  ·
   intro y0 y1 y2 y3 y4 y5 y6
   unfold remnant_Fill.l1
   repeat' first
   | (with_reducible exact ih0 _ _ _ _)
   | (with_reducible exact ih1 _ _ _ _ _ _ _)
   | (with_reducible exact ih2 _ _ _ _)
   | (with_reducible exact remnant_more.mono _ _)
   | (with_reducible exact LeO.refl _)
   | (with_reducible exact LeO.none _)
   | (with_reducible refine LeO.ite ?_ ?_)
   | (with_reducible refine LeO.bind ?_ (fun _ => ?_))
   | exact ih0 _ _ _ _
   | exact ih1 _ _ _ _ _ _ _
   | exact ih2 _ _ _ _
   | exact remnant_more.mono _ _
   | exact LeO.none _
   | refine LeO.ite ?_ ?_
   | refine LeO.bind ?_ (fun _ => ?_)
  ·
   intro y0 y1 y2 y3
   unfold remnant_Fill.l2
   repeat' first
   | (with_reducible exact ih0 _ _ _ _)
   | (with_reducible exact ih1 _ _ _ _ _ _ _)
   | (with_reducible exact ih2 _ _ _ _)
   | (with_reducible exact remnant_more.mono _ _)
   | (with_reducible exact LeO.refl _)
   | (with_reducible exact LeO.none _)
   | (with_reducible refine LeO.ite ?_ ?_)
   | (with_reducible refine LeO.bind ?_ (fun _ => ?_))
   | exact ih0 _ _ _ _
   | exact ih1 _ _ _ _ _ _ _
   | exact ih2 _ _ _ _
   | exact remnant_more.mono _ _
   | exact LeO.none _
   | refine LeO.ite ?_ ?_
   | refine LeO.bind ?_ (fun _ => ?_)
theorem remnant_Fill.mono : ∀ a0 a1 k, LeO (remnant_Fill.f k a0 a1) (remnant_Fill.f (k + 1) a0 a1) := by
 intro a0 a1 k
 obtain ⟨ih0, ih1, ih2⟩ := remnant_Fill.mono_l k
 unfold remnant_Fill.f
 repeat' first
   | (with_reducible exact ih0 _ _ _ _)
   | (with_reducible exact ih1 _ _ _ _ _ _ _)
   | (with_reducible exact ih2 _ _ _ _)
   | (with_reducible exact remnant_more.mono _ _)
   | (with_reducible exact LeO.refl _)
   | (with_reducible exact LeO.none _)
   | (with_reducible refine LeO.ite ?_ ?_)
   | (with_reducible refine LeO.bind ?_ (fun _ => ?_))
   | exact ih0 _ _ _ _
   | exact ih1 _ _ _ _ _ _ _
   | exact ih2 _ _ _ _
   | exact remnant_more.mono _ _
   | exact LeO.none _
   | refine LeO.ite ?_ ?_
   | refine LeO.bind ?_ (fun _ => ?_)
def remnant_Fill.T17 : Bool × List (List Nat × List Nat) := (true, [([], []), ([0], [0]), ([], []), ([], []), ([2, 3], [2, 3]), ([4], [4]), ([5], [5]), ([], []), ([7], [7]), ([], []), ([], []), ([9, 10], [9, 10]), ([11], [11]), ([12], [12]), ([1, 6, 8, 13], [1, 6, 8, 13]), ([14], [14])])
def remnant_Fill.B17 : List Nat := [0, 1, 0, 0, 12, 28, 60, 0, 128, 0, 0, 1536, 3584, 7680, 16383, 32767]
theorem remnant_Fill.tab17 : rtab .any (opsOf Try.f32 17) = remnant_Fill.T17 := by kernel_rfl
theorem remnant_Fill.bits17 : waitsOk remnant_Fill.T17.2 remnant_Fill.B17 = true := by kernel_rfl
set_option maxHeartbeats 80000000 in
set_option maxRecDepth 100000 in
theorem remnant_Fill.calls (k : Nat) (a0 : Int) (A1 : Option Addr) (c1 : Nat) (l1 : List Int) (r1 : List Int) (r2 : Int) (r3 : Int) (w : World) (hr1 : Kd.C (Kd.int .i64) w A1 l1.length l1) (hc1 : l1.length ≤ c1) (h : remnant_Fill.f k a0 l1 = some (r1, r2, r3)) :
  Calls Try.prog 32 #[.int .i64 a0, .slice A1 l1.length c1] w fun e w' => ∃ v0_ : Value, e = .returned (.tuple #[v0_, .int .i64 r2, .int .i64 r3]) ∧ Kd.R (Kd.int .i64) 3 w' w.heap.size (fun _ => True) v0_ r1 ∧ Below w.heap.size w w' := by
 have hu68 := Try.underlying68
 have HR1 := Aside0.mk hr1
 have HC1 := Aside0.mk hc1
 clear hr1 hc1
 have HB := Aside0.mk (Below.refl w.heap.size w)
 have H : ((remnant_arePieces.f a0 l1).bind fun t117 => (if t117 = true then (if 0 ≤ (shl .i64 1 (l1.length : Int)) then (if (shl .i64 1 (l1.length : Int) : Int).toNat ≤ 11728124029610 then (remnant_Fill.l0 k a0 l1 (List.replicate (shl .i64 1 (l1.length : Int) : Int).toNat z68) 1) else (none)) else (none)) else (some (([] : List Int), 0, 2)))) = some (r1, r2, r3) := h
 clear h
 replace H := Option.bind_eq_some_iff.mp H
 obtain ⟨t117, A30, H⟩ := H
 replace H : (if t117 = true then (if 0 ≤ (shl .i64 1 (l1.length : Int)) then (if (shl .i64 1 (l1.length : Int) : Int).toNat ≤ 11728124029610 then (remnant_Fill.l0 k a0 l1 (List.replicate (shl .i64 1 (l1.length : Int) : Int).toNat z68) 1) else (none)) else (none)) else (some (([] : List Int), 0, 2))) = some (r1, r2, r3) := H
 have A3 := Aside0.mk A30
 clear A30
 by_cases c4 : t117 = true
 ·
  subst c4
  have H1 : (if 0 ≤ (shl .i64 1 (l1.length : Int)) then (if (shl .i64 1 (l1.length : Int) : Int).toNat ≤ 11728124029610 then (remnant_Fill.l0 k a0 l1 (List.replicate (shl .i64 1 (l1.length : Int) : Int).toNat z68) 1) else (none)) else (none)) = some (r1, r2, r3) := by rw [if_pos rfl] at H; exact H
  clear H
  have H := H1
  clear H1
  obtain ⟨ji5, hji5⟩ : ∃ j_ : Int, (shl .i64 1 (l1.length : Int)) = j_ := ⟨_, rfl⟩
  replace H : (if 0 ≤ (ji5) then (if (ji5 : Int).toNat ≤ 11728124029610 then (remnant_Fill.l0 k a0 l1 (List.replicate (ji5 : Int).toNat z68) 1) else (none)) else (none)) = some (r1, r2, r3) := by first | (rw [hji5] at H; exact H) | (simp only [hji5] at H ⊢; exact H)
  (try rw [hji5] at A3)
  have hji5_ : (IntKind.i64.wrap (1 * 2 ^ min (l1.length : Int).toNat 64)) = ji5 := hji5
  have hji5z : (l1.length : Int) ≤ 64 → (IntKind.i64.wrap (1 * 2 ^ (l1.length : Int).toNat)) = ji5 := shl_small hji5
  have hji5p : (IntKind.i64.wrap (1 * 2 ^ min l1.length 64)) = ji5 := hji5_
  have hji5q : (l1.length : Int) ≤ 64 → (IntKind.i64.wrap (1 * 2 ^ l1.length)) = ji5 := hji5z
  have hji5r : (IntKind.i64.wrap (2 ^ min l1.length 64)) = ji5 := by have h_ := hji5p; rw [Int.one_mul] at h_; exact h_
  have hji5s : (l1.length : Int) ≤ 64 → (IntKind.i64.wrap (2 ^ l1.length)) = ji5 := fun hle_ => by have h_ := hji5q hle_; rw [Int.one_mul] at h_; exact h_
  have hji5u : (IntKind.i64.wrap (2 ^ min (l1.length : Int).toNat 64)) = ji5 := by have h_ := hji5_; rw [Int.one_mul] at h_; exact h_
  have hji5v : (l1.length : Int) ≤ 64 → (IntKind.i64.wrap (2 ^ (l1.length : Int).toNat)) = ji5 := fun hle_ => by have h_ := hji5z hle_; rw [Int.one_mul] at h_; exact h_
  have hji5y : (wrap64 (1 * 2 ^ min (l1.length : Int).toNat 64)) = ji5 := (i64_w _).symm.trans hji5_
  have hji5x : (l1.length : Int) ≤ 64 → (wrap64 (1 * 2 ^ (l1.length : Int).toNat)) = ji5 := fun h_ => (i64_w _).symm.trans (hji5z h_)
  by_cases c6 : 0 ≤ (ji5)
  ·
   rw [if_pos c6] at H
   have c6b0 := eq_true c6
   have c6b1 : decide (0 ≤ (ji5)) = true := decide_eq_true c6
   clear c6
   by_cases c7 : (ji5 : Int).toNat ≤ 11728124029610
   ·
    rw [if_pos c7] at H
    have c7b0 := eq_true c7
    have c7b1 : decide ((ji5 : Int).toNat ≤ 11728124029610) = true := decide_eq_true c7
    clear c7
    obtain ⟨y118, hy118⟩ : ∃ y_ : List (S68), y_ = (List.replicate (ji5 : Int).toNat z68) := ⟨_, rfl⟩
    replace H : (remnant_Fill.l0 k a0 l1 y118 1) = some (r1, r2, r3) := by first | (rw [hy118]; with_reducible exact H) | (have H2_ := (Option.bind_some _ _).symm.trans H; rw [hy118]; with_reducible exact H2_) | (have H2_ := (Option.bind_some _ _).symm.trans H; with_reducible exact H2_) | with_reducible exact H | (rw [hy118]; exact H) | exact H
    have Ny118 := Aside0.mk hy118
    clear hy118
    have H' := Aside0.mk H
    clear H
    go_enter Try.func32, Try.ntmps32
    go_wp2_with (first | ((with_reducible refine gate_callee (f := 54) rfl ?_); refine goesL_ (some 19) rfl rfl Try.func54 (by kernel_rfl) rfl #[.int .i64 a0, .slice A1 l1.length c1] rfl (by (try simp only [List.map_toArray, List.map_cons, List.map_nil]); first | done | rfl | (simp only [List.length_drop, List.length_take]; rfl)) ?_; (with_reducible refine (remnant_arePieces.calls a0 _ _ l1 true _ ?side1 ?side2 A3.out).mono ?_); (case side1 => repeat (first | exact HR1.out | (with_reducible refine Kd.C_alloc ?_ _) | (with_reducible refine Kd.C_drewN ?_ _) | (with_reducible refine Kd.C_drew ?_))); (case side2 => exact HC1.out); rintro e w8 ⟨rfl, hb⟩; refine ⟨_, rfl, ?_⟩; have n0_ := Aside0.mk (below_step (by repeat (first | (with_reducible first | exact HB.out | apply below_alloc | apply pw_below_drewN | apply below_drew1) | exact HB.out)) hb); clear HB; have HB := n0_; clear n0_; (try clear hb); (try clear hb2); (try clear hk); (try clear hi)) | ((with_reducible refine gate_dst (N := 24) rfl ?_); refine Kd.R_make k68 _ 68 rfl (N := 24) rfl 66 _ _ rfl ji5 rfl rfl Try.underlying66 (.agg #[(.int .i64 0), (.int .i64 0), (.int .i64 0)]) 24 info68 rfl (by decide) (by omega) z68 (ok := fun _ => True) (okp := fun _ => True) (k68_mkM _ _ _ z68 ) (fun _ hk => hk) trivial (of_decide_eq_true (by assumption)) (Nat.le_trans (Nat.mul_le_mul_right _ (of_decide_eq_true (by assumption) : ji5.toNat ≤ 11728124029610)) (by omega)) (Below.refl _ _) (Nat.le_refl _) ?_; intro v119 w9 ho10 hb hg_ hnew_; clear hg_ hnew_; (first | rw [← Ny118.out] at ho10 | (simp only [Int.reduceToNat] at ho10; rw [← Ny118.out] at ho10)); have n0_ := Aside0.mk (Kd.R_lower ho10 (below_size (by repeat (first | (with_reducible first | exact HB.out | apply below_alloc | apply pw_below_drewN | apply below_drew1) | exact HB.out)))); have n1_ := Aside0.mk (below_step (by repeat (first | (with_reducible first | exact HB.out | apply below_alloc | apply pw_below_drewN | apply below_drew1) | exact HB.out)) hb); clear HB; have HO120 := n0_; have HB := n1_; clear n0_ n1_; clear hb ho10))
    go_loopg [8] k (fun kq v8 w' => ∃ (x7_1 : List (S68)) (x8_1 : Int), v8 = .int .i64 x8_1 ∧ Aside0 (remnant_Fill.l0 kq a0 l1 x7_1 x8_1 = some (r1, r2, r3)) ∧ Aside0 (kq ≤ k) ∧ Aside0 (Kd.R k68 68 w' w.heap.size (fun _ => True) v119 x7_1) ∧ Aside0 (Below w.heap.size w w'))
    case atStart => exact ⟨(y118), (1), (by first | rfl | (simp; done) | (simp [*]; done)), H', ⟨Nat.le_refl _⟩, ⟨by (with_reducible repeat (first | apply Kd.R_alloc | apply Kd.R_drewN | apply Kd.R_drew)); exact HO120.out⟩, ⟨by repeat (first | (with_reducible first | exact HB.out | apply below_alloc | apply pw_below_drewN | apply below_drew1) | exact HB.out)⟩⟩
    case round =>
     as_aux_lemma =>
     clear H'
     try clear c1
     try clear p2
     try clear c3
     try clear c4
     try clear c5
     try clear c6
     try clear c6b0
     try clear c6b1
     try clear p6
     try clear c7
     try clear c7b0
     try clear c7b1
     obtain ⟨x7_1, x8_1, rfl, HA, HK1, HO_7, HB⟩ := hrel
     cases gk with
     | zero => exact absurd HA.out (by simp [remnant_Fill.l0])
     | succ k1 =>
      have H := HA.out
      clear HA
      simp only [remnant_Fill.l0] at H
      by_cases c11 : x8_1 < (x7_1.length : Int)
      ·
       rw [if_pos c11] at H
       have c11b0 : decide (x8_1 < (x7_1.length : Int)) = true := decide_eq_true c11
       clear c11
       by_cases c12 : 0 ≤ x8_1
       ·
        rw [if_pos c12] at H
        have c12b0 : decide (0 ≤ x8_1) = true := decide_eq_true c12
        clear c12
        obtain ⟨y121, hy121⟩ : ∃ y_ : List (S68), y_ = (x7_1.set (x8_1 : Int).toNat (⟨(-1), (rd_T68 x7_1 x8_1).f1, (rd_T68 x7_1 x8_1).f2⟩ : S68)) := ⟨_, rfl⟩
        replace H : (remnant_Fill.l1 k1 a0 l1 y121 x8_1 l1 (l1.length : Int) 0) = some (r1, r2, r3) := by first | (rw [hy121]; with_reducible exact H) | (have H2_ := (Option.bind_some _ _).symm.trans H; rw [hy121]; with_reducible exact H2_) | (have H2_ := (Option.bind_some _ _).symm.trans H; with_reducible exact H2_) | with_reducible exact H | (rw [hy121]; exact H) | exact H
        have Ny121 := Aside0.mk hy121
        clear hy121
        have H' := Aside0.mk H
        clear H
        obtain ⟨Ao14, co14, eo14⟩ := Kd.R_slice HO_7.out
        subst eo14
        have p13 : 0 ≤ (x8_1 : Int) := of_decide_eq_true (by assumption)
        have q13 : (x8_1 : Int) < ((x7_1.length : Int) : Int) := of_decide_eq_true (by assumption)
        obtain ⟨go13, co13, eo13, gb13, gl13, cl13, HG13⟩ := Kd.R_form HO_7.out (by omega)
        (first | cases eo13 | (injection eo13 with ea_ en_ ec_; (first | subst ea_ | (injection ea_ with ea_; subst ea_)); subst ec_; clear en_))
        have GB13 := Aside0.mk gb13
        have GG13 := Aside0.mk HG13
        clear gb13 gl13 HG13
        obtain ⟨ce13, hcl13, hM13, hcc13, hfr13⟩ := Kd.R_elem HO_7.out z68 (x8_1 : Int) p13 q13
        obtain rfl := k68_openM hM13
        have hx13_0 : wr.cell? ⟨go13, (x8_1 : Int).toNat * 3, none⟩ = some (.int .i64 ((rd_T68 x7_1 x8_1).f0)) := hcc13 0 _ rfl
        have hx13_1 : wr.cell? ⟨go13, (x8_1 : Int).toNat * 3 + 1, none⟩ = some (.int .i64 ((rd_T68 x7_1 x8_1).f1)) := hcc13 1 _ rfl
        have hx13_2 : wr.cell? ⟨go13, (x8_1 : Int).toNat * 3 + 2, none⟩ = some (.int .i64 ((rd_T68 x7_1 x8_1).f2)) := hcc13 2 _ rfl
        have hf13_0 : wr.frozen? ⟨go13, (x8_1 : Int).toNat * 3, none⟩ = false := hfr13 0
        have hf13_1 : wr.frozen? ⟨go13, (x8_1 : Int).toNat * 3 + 1, none⟩ = false := hfr13 1
        have hf13_2 : wr.frozen? ⟨go13, (x8_1 : Int).toNat * 3 + 2, none⟩ = false := hfr13 2
        clear hcl13 hcc13 hfr13 hM13
        replace p13 := eq_true p13
        replace q13 := eq_true q13
        have HX15 := Aside0.mk (show Kd.R k68 68 wr w.heap.size (fun _ => True) (.slice (some ⟨go13, 0, none⟩) x7_1.length co14) x7_1 from (by (with_reducible repeat (first | apply Kd.R_alloc | apply Kd.R_drewN | apply Kd.R_drew)); exact HO_7.out))
        obtain ⟨ce15, hcl15, hM15, hcc15, hfr15⟩ := Kd.R_elem HX15.out z68 (x8_1 : Int) (of_decide_eq_true (by assumption)) (by have h_ : (x8_1 : Int) < ((x7_1.length : Int) : Int) := of_decide_eq_true (by assumption); first | exact h_ | (have e_ := (Kd.R_reads' HO_7.out).1; omega) | simpa using h_)
        obtain rfl := k68_openM hM15
        have HP15 := Kd.R_seg HX15.out (x8_1 : Int) (of_decide_eq_true (by assumption)) (by have h_ : (x8_1 : Int) < ((x7_1.length : Int) : Int) := of_decide_eq_true (by assumption); first | exact h_ | (have e_ := (Kd.R_reads' HO_7.out).1; omega) | simpa using h_) (seg := [.int .i64 (-1)]) (j := 0) hcl15 hcc15 (show 1 ≤ 3 from by decide) (x' := (⟨(-1), (rd_T68 x7_1 x8_1).f1, (rd_T68 x7_1 x8_1).f2⟩ : S68)) (k68_mkM _ _ _ (⟨(-1), (rd_T68 x7_1 x8_1).f1, (rd_T68 x7_1 x8_1).f2⟩ : S68) ) (fun _ hk => hk)
        have hx15_0 := hcc15 0 _ rfl
        (try simp only [show (k68).sz = 3 from rfl, Nat.mul_one, Nat.add_zero] at hx15_0)
        have hf15_0 := hfr15 0
        (try simp only [show (k68).sz = 3 from rfl, Nat.mul_one, Nat.add_zero] at hf15_0)
        clear hcl15 hcc15 hfr15 hM15
        go_wp2_with (first | ((with_reducible refine gate_store (t := 3) (p := 34) rfl ?_); refine store_event (t := 3) (p := 34) (v := ?vo_w16) (w1 := (wr.setCell ⟨go13, (x8_1 : Int).toNat * 3, none⟩ (.int .i64 (-1)))) ?hg ?ho ?hn ?hr ?_; (case ho => rfl); (case hg => rfl); (case hn => rfl); (case hr => first | (go_simp; done) | (go_simp; rfl)); intro w16 hw; have hg : wr.grownBy w16 (some go13) := (by rw [hw]; exact HP15.2); have hp_ : Kd.R k68 68 w16 w.heap.size (fun _ => True) (.slice (some ⟨go13, 0, none⟩) x7_1.length co14) y121 := (by rw [hw, Ny121.out]; exact HP15.1); clear HP15; have n0_ := Aside0.mk (hp_); have n1_ := Aside0.mk ((by rw [hw]; exact below_set (HB.out) GB13.out : Below w.heap.size w w16)); clear HO_7; clear HB; have HO_7 := n0_; have HB := n1_; clear n0_ n1_; clear hg hw hp_))
        go_loopg [37] k1 (fun kq v37 w' => ∃ (x7_2 : List (S68)) (x37_2 : Int), v37 = .int .i64 x37_2 ∧ Aside0 (remnant_Fill.l1 kq a0 l1 x7_2 x8_1 l1 (l1.length : Int) x37_2 = some (r1, r2, r3)) ∧ Aside0 (kq ≤ k1) ∧ Aside0 (Kd.R k68 68 w' w.heap.size (fun _ => True) (.slice (some ⟨go13, 0, none⟩) x7_1.length co14) x7_2) ∧ Aside0 (Below w.heap.size w w'))
        case atStart => exact ⟨(y121), (0), (by first | rfl | (simp; done) | (simp [*]; done)), H', ⟨Nat.le_refl _⟩, ⟨by (with_reducible repeat (first | apply Kd.R_alloc | apply Kd.R_drewN | apply Kd.R_drew)); exact HO_7.out⟩, ⟨by repeat (first | (with_reducible first | exact HB.out | apply below_alloc | apply pw_below_drewN | apply below_drew1) | exact HB.out)⟩⟩
        case round =>
         as_aux_lemma =>
         clear H'
         try clear c1
         try clear p1
         try clear q1
         try clear hx1
         try clear p2
         try clear c3
         try clear c4
         try clear c5
         try clear c6
         try clear c6b0
         try clear c6b1
         try clear p6
         try clear c7
         try clear c7b0
         try clear c7b1
         try clear c11
         try clear c11b0
         try clear c12
         try clear c12b0
         try clear c13
         try clear p13
         try clear q13
         try clear hx13
         try clear hf13
         try clear c15
         try clear hx15
         try clear hf15
         try clear hx13_0
         try clear hx13_1
         try clear hx13_2
         try clear hx15_0
         try clear p13
         try clear p2
         try clear p6
         try clear q13
         obtain ⟨x7_2, x37_2, rfl, HA, HK2, HO_7, HB⟩ := hrel
         have hl7_2 := (Kd.R_reads' HO_7.out).1
         rw [hl7_2] at HO_7
         (try simp only [hl7_2])
         cases gk with
         | zero => exact absurd HA.out (by simp [remnant_Fill.l1])
         | succ k2 =>
          have H := HA.out
          clear HA
          simp only [remnant_Fill.l1] at H
          by_cases c17 : x37_2 < (l1.length : Int)
          ·
           rw [if_pos c17] at H
           have c17b0 : decide (x37_2 < (l1.length : Int)) = true := decide_eq_true c17
           clear c17
           by_cases c18 : 0 ≤ x37_2
           ·
            rw [if_pos c18] at H
            have c18b0 : decide (0 ≤ x37_2) = true := decide_eq_true c18
            clear c18
            by_cases c19 : x37_2 < (l1.length : Int)
            ·
             rw [if_pos c19] at H
             have c19b0 : decide (x37_2 < (l1.length : Int)) = true := decide_eq_true c19
             clear c19
             have c20b0 := eq_true (of_decide_eq_true (by assumption) : 0 ≤ x37_2)
             obtain ⟨ji21, hji21⟩ : ∃ j_ : Int, (shr .i64 x8_1 x37_2) = j_ := ⟨_, rfl⟩
             replace H : (if (Go.bits .and .i64 (ji21) 1) = 0 then (remnant_Fill.l1 k2 a0 l1 x7_2 x8_1 l1 (l1.length : Int) (wrap64 (x37_2 + 1))) else (if 0 ≤ (Go.bits .andNot .i64 x8_1 (shl .i64 1 x37_2)) then (if (Go.bits .andNot .i64 x8_1 (shl .i64 1 x37_2)) < (x7_2.length : Int) then (if (wrap64 (((rd_T68 x7_2 (Go.bits .andNot .i64 x8_1 (shl .i64 1 x37_2))).f1) + (rd l1 x37_2))) ≥ a0 then (if 0 ≤ x8_1 then (if x8_1 < (x7_2.length : Int) then ((remnant_more.f k2 (([wrap64 (((rd_T68 x7_2 (Go.bits .andNot .i64 x8_1 (shl .i64 1 x37_2))).f0) + 1), (rd_T68 x7_2 x8_1).f0, 0, (rd_T68 x7_2 x8_1).f1] : List Int))).bind fun t130 => (if t130 = true then (remnant_Fill.l1 k2 a0 l1 (x7_2.set (x8_1 : Int).toNat (⟨wrap64 (((rd_T68 x7_2 (Go.bits .andNot .i64 x8_1 (shl .i64 1 x37_2))).f0) + 1), 0, x37_2⟩ : S68)) x8_1 l1 (l1.length : Int) (wrap64 (x37_2 + 1))) else (remnant_Fill.l1 k2 a0 l1 x7_2 x8_1 l1 (l1.length : Int) (wrap64 (x37_2 + 1))))) else (none)) else (none)) else (if 0 ≤ x8_1 then (if x8_1 < (x7_2.length : Int) then ((remnant_more.f k2 (([(rd_T68 x7_2 (Go.bits .andNot .i64 x8_1 (shl .i64 1 x37_2))).f0, (rd_T68 x7_2 x8_1).f0, wrap64 (((rd_T68 x7_2 (Go.bits .andNot .i64 x8_1 (shl .i64 1 x37_2))).f1) + (rd l1 x37_2)), (rd_T68 x7_2 x8_1).f1] : List Int))).bind fun t137 => (if t137 = true then (remnant_Fill.l1 k2 a0 l1 (x7_2.set (x8_1 : Int).toNat (⟨(rd_T68 x7_2 (Go.bits .andNot .i64 x8_1 (shl .i64 1 x37_2))).f0, wrap64 (((rd_T68 x7_2 (Go.bits .andNot .i64 x8_1 (shl .i64 1 x37_2))).f1) + (rd l1 x37_2)), x37_2⟩ : S68)) x8_1 l1 (l1.length : Int) (wrap64 (x37_2 + 1))) else (remnant_Fill.l1 k2 a0 l1 x7_2 x8_1 l1 (l1.length : Int) (wrap64 (x37_2 + 1))))) else (none)) else (none))) else (none)) else (none))) = some (r1, r2, r3) := by first | (rw [hji21] at H; exact H) | (simp only [hji21] at H ⊢; exact H)
             have hji21_ : (x8_1 / 2 ^ min x37_2.toNat 64) = ji21 := hji21
             have hji21z : x37_2 ≤ 64 → (x8_1 / 2 ^ x37_2.toNat) = ji21 := shr_small hji21
             by_cases c22 : (Go.bits .and .i64 (ji21) 1) = 0
             ·
              rw [if_pos c22] at H
              have c22b0 : ((Go.bits .and .i64 (ji21) 1) == 0) = true := beq_iff_eq.mpr c22
              have c22b1 : ((Go.bits .and .i64 (ji21) 1) != 0) = false := bne_eq_false_iff_eq.mpr c22
              clear c22
              have H' := Aside0.mk H
              clear H
              have p122 : 0 ≤ (x37_2 : Int) := of_decide_eq_true (by assumption)
              have q122 : x37_2 < (l1.length : Int) := of_decide_eq_true (by assumption)
              obtain ⟨ad122, e122, hx122_0⟩ := Kd.at_int HR1.out x37_2 p122 q122
              cases e122
              replace hx122_0 := (HB.out.cell (World.block_lt_of_cell? w _ hx122_0)).trans hx122_0
              replace p122 := eq_true p122
              replace q122 := eq_true q122
              go_wp2
              (try simp only [← hl7_2])
              go_roundg k2
              case measure => have := HK1.out; have := HK2.out; omega
              case rel => exact ⟨(x7_2), (wrap64 (x37_2 + 1)), (by first | rfl | (simp; done) | (simp [*]; done)), H', ⟨by have := HK1.out; have := HK2.out; omega⟩, ⟨by (try simp only [hl7_2]); (with_reducible repeat (first | apply Kd.R_alloc | apply Kd.R_drewN | apply Kd.R_drew)); exact HO_7.out⟩, ⟨by repeat (first | (with_reducible first | exact HB.out | apply below_alloc | apply pw_below_drewN | apply below_drew1) | exact HB.out)⟩⟩
             ·
              rw [if_neg c22] at H
              have c22b0 : ((Go.bits .and .i64 (ji21) 1) == 0) = false := beq_eq_false_iff_ne.mpr c22
              have c22b1 : ((Go.bits .and .i64 (ji21) 1) != 0) = true := bne_iff_ne.mpr c22
              have c23b0 := eq_true (of_decide_eq_true (by assumption) : 0 ≤ x37_2)
              obtain ⟨ji24, hji24⟩ : ∃ j_ : Int, (shl .i64 1 x37_2) = j_ := ⟨_, rfl⟩
              replace H : (if 0 ≤ (Go.bits .andNot .i64 x8_1 (ji24)) then (if (Go.bits .andNot .i64 x8_1 (ji24)) < (x7_2.length : Int) then (if (wrap64 (((rd_T68 x7_2 (Go.bits .andNot .i64 x8_1 (ji24))).f1) + (rd l1 x37_2))) ≥ a0 then (if 0 ≤ x8_1 then (if x8_1 < (x7_2.length : Int) then ((remnant_more.f k2 (([wrap64 (((rd_T68 x7_2 (Go.bits .andNot .i64 x8_1 (ji24))).f0) + 1), (rd_T68 x7_2 x8_1).f0, 0, (rd_T68 x7_2 x8_1).f1] : List Int))).bind fun t130 => (if t130 = true then (remnant_Fill.l1 k2 a0 l1 (x7_2.set (x8_1 : Int).toNat (⟨wrap64 (((rd_T68 x7_2 (Go.bits .andNot .i64 x8_1 (ji24))).f0) + 1), 0, x37_2⟩ : S68)) x8_1 l1 (l1.length : Int) (wrap64 (x37_2 + 1))) else (remnant_Fill.l1 k2 a0 l1 x7_2 x8_1 l1 (l1.length : Int) (wrap64 (x37_2 + 1))))) else (none)) else (none)) else (if 0 ≤ x8_1 then (if x8_1 < (x7_2.length : Int) then ((remnant_more.f k2 (([(rd_T68 x7_2 (Go.bits .andNot .i64 x8_1 (ji24))).f0, (rd_T68 x7_2 x8_1).f0, wrap64 (((rd_T68 x7_2 (Go.bits .andNot .i64 x8_1 (ji24))).f1) + (rd l1 x37_2)), (rd_T68 x7_2 x8_1).f1] : List Int))).bind fun t137 => (if t137 = true then (remnant_Fill.l1 k2 a0 l1 (x7_2.set (x8_1 : Int).toNat (⟨(rd_T68 x7_2 (Go.bits .andNot .i64 x8_1 (ji24))).f0, wrap64 (((rd_T68 x7_2 (Go.bits .andNot .i64 x8_1 (ji24))).f1) + (rd l1 x37_2)), x37_2⟩ : S68)) x8_1 l1 (l1.length : Int) (wrap64 (x37_2 + 1))) else (remnant_Fill.l1 k2 a0 l1 x7_2 x8_1 l1 (l1.length : Int) (wrap64 (x37_2 + 1))))) else (none)) else (none))) else (none)) else (none)) = some (r1, r2, r3) := by first | (rw [hji24] at H; exact H) | (simp only [hji24] at H ⊢; exact H)
              have hji24_ : (IntKind.i64.wrap (1 * 2 ^ min x37_2.toNat 64)) = ji24 := hji24
              have hji24z : x37_2 ≤ 64 → (IntKind.i64.wrap (1 * 2 ^ x37_2.toNat)) = ji24 := shl_small hji24
              have hji24u : (IntKind.i64.wrap (2 ^ min x37_2.toNat 64)) = ji24 := by have h_ := hji24_; rw [Int.one_mul] at h_; exact h_
              have hji24v : x37_2 ≤ 64 → (IntKind.i64.wrap (2 ^ x37_2.toNat)) = ji24 := fun hle_ => by have h_ := hji24z hle_; rw [Int.one_mul] at h_; exact h_
              have hji24y : (wrap64 (1 * 2 ^ min x37_2.toNat 64)) = ji24 := (i64_w _).symm.trans hji24_
              have hji24x : x37_2 ≤ 64 → (wrap64 (1 * 2 ^ x37_2.toNat)) = ji24 := fun h_ => (i64_w _).symm.trans (hji24z h_)
              by_cases c25 : 0 ≤ (Go.bits .andNot .i64 x8_1 (ji24))
              ·
               rw [if_pos c25] at H
               have c25b0 : decide (0 ≤ (Go.bits .andNot .i64 x8_1 (ji24))) = true := decide_eq_true c25
               clear c25
               by_cases c26 : (Go.bits .andNot .i64 x8_1 (ji24)) < (x7_2.length : Int)
               ·
                rw [if_pos c26] at H
                have c26b0 : decide ((Go.bits .andNot .i64 x8_1 (ji24)) < (x7_2.length : Int)) = true := decide_eq_true c26
                clear c26
                by_cases c27 : (wrap64 (((rd_T68 x7_2 (Go.bits .andNot .i64 x8_1 (ji24))).f1) + (rd l1 x37_2))) ≥ a0
                ·
                 rw [if_pos c27] at H
                 have c27b0 : decide (a0 ≤ (wrap64 (((rd_T68 x7_2 (Go.bits .andNot .i64 x8_1 (ji24))).f1) + (rd l1 x37_2)))) = true := decide_eq_true c27
                 clear c27
                 by_cases c28 : 0 ≤ x8_1
                 ·
                  rw [if_pos c28] at H
                  have c28b0 : decide (0 ≤ x8_1) = true := decide_eq_true c28
                  clear c28
                  by_cases c29 : x8_1 < (x7_2.length : Int)
                  ·
                   rw [if_pos c29] at H
                   have c29b0 : decide (x8_1 < (x7_2.length : Int)) = true := decide_eq_true c29
                   clear c29
                   obtain ⟨y127, hy127⟩ : ∃ y_ : List Int, y_ = (([wrap64 (((rd_T68 x7_2 (Go.bits .andNot .i64 x8_1 (ji24))).f0) + 1), (rd_T68 x7_2 x8_1).f0, 0, (rd_T68 x7_2 x8_1).f1] : List Int)) := ⟨_, rfl⟩
                   replace H : ((remnant_more.f k2 y127).bind fun t130 => (if t130 = true then (remnant_Fill.l1 k2 a0 l1 (x7_2.set (x8_1 : Int).toNat (⟨wrap64 (((rd_T68 x7_2 (Go.bits .andNot .i64 x8_1 (ji24))).f0) + 1), 0, x37_2⟩ : S68)) x8_1 l1 (l1.length : Int) (wrap64 (x37_2 + 1))) else (remnant_Fill.l1 k2 a0 l1 x7_2 x8_1 l1 (l1.length : Int) (wrap64 (x37_2 + 1))))) = some (r1, r2, r3) := by first | (rw [hy127]; with_reducible exact H) | (have H2_ := (Option.bind_some _ _).symm.trans H; rw [hy127]; with_reducible exact H2_) | (have H2_ := (Option.bind_some _ _).symm.trans H; with_reducible exact H2_) | with_reducible exact H | (rw [hy127]; exact H) | exact H
                   have Ny127 := Aside0.mk hy127
                   clear hy127
                   replace H := Option.bind_eq_some_iff.mp H
                   obtain ⟨t130, A300, H⟩ := H
                   replace H : (if t130 = true then (remnant_Fill.l1 k2 a0 l1 (x7_2.set (x8_1 : Int).toNat (⟨wrap64 (((rd_T68 x7_2 (Go.bits .andNot .i64 x8_1 (ji24))).f0) + 1), 0, x37_2⟩ : S68)) x8_1 l1 (l1.length : Int) (wrap64 (x37_2 + 1))) else (remnant_Fill.l1 k2 a0 l1 x7_2 x8_1 l1 (l1.length : Int) (wrap64 (x37_2 + 1)))) = some (r1, r2, r3) := H
                   have A30 := Aside0.mk A300
                   clear A300
                   by_cases c31 : t130 = true
                   ·
                    subst c31
                    have H1 : (remnant_Fill.l1 k2 a0 l1 (x7_2.set (x8_1 : Int).toNat (⟨wrap64 (((rd_T68 x7_2 (Go.bits .andNot .i64 x8_1 (ji24))).f0) + 1), 0, x37_2⟩ : S68)) x8_1 l1 (l1.length : Int) (wrap64 (x37_2 + 1))) = some (r1, r2, r3) := by rw [if_pos rfl] at H; exact H
                    clear H
                    have H := H1
                    clear H1
                    obtain ⟨y131, hy131⟩ : ∃ y_ : List (S68), y_ = (x7_2.set (x8_1 : Int).toNat (⟨wrap64 (((rd_T68 x7_2 (Go.bits .andNot .i64 x8_1 (ji24))).f0) + 1), 0, x37_2⟩ : S68)) := ⟨_, rfl⟩
                    replace H : (remnant_Fill.l1 k2 a0 l1 y131 x8_1 l1 (l1.length : Int) (wrap64 (x37_2 + 1))) = some (r1, r2, r3) := by first | (rw [hy131]; with_reducible exact H) | (have H2_ := (Option.bind_some _ _).symm.trans H; rw [hy131]; with_reducible exact H2_) | (have H2_ := (Option.bind_some _ _).symm.trans H; with_reducible exact H2_) | with_reducible exact H | (rw [hy131]; exact H) | exact H
                    have Ny131 := Aside0.mk hy131
                    clear hy131
                    have H' := Aside0.mk H
                    clear H
                    have p122 : 0 ≤ (x37_2 : Int) := of_decide_eq_true (by assumption)
                    have q122 : x37_2 < (l1.length : Int) := of_decide_eq_true (by assumption)
                    obtain ⟨ad122, e122, hx122_0⟩ := Kd.at_int HR1.out x37_2 p122 q122
                    cases e122
                    replace hx122_0 := (HB.out.cell (World.block_lt_of_cell? w _ hx122_0)).trans hx122_0
                    replace p122 := eq_true p122
                    replace q122 := eq_true q122
                    have p123 : 0 ≤ ((Go.bits .andNot .i64 x8_1 (ji24)) : Int) := of_decide_eq_true (by assumption)
                    have q123 : (Go.bits .andNot .i64 x8_1 (ji24)) < (x7_2.length : Int) := of_decide_eq_true (by assumption)
                    obtain ⟨ad123, e123, hx123_0, hx123_1, hx123_2⟩ := at_T68 (Kd.R_reads' HO_7.out).2.2 (Go.bits .andNot .i64 x8_1 (ji24)) p123 q123
                    obtain rfl : (⟨go13, 0, none⟩ : Addr) = ad123 := (by injection e123)
                    (first | simp only [add_plain] at hx123_0 | simp only [add_at] at hx123_0 | simp only [Addr.add, Nat.zero_add] at hx123_0 | skip)
                    (first | simp only [add_plain] at hx123_1 | simp only [add_at] at hx123_1 | simp only [Addr.add, Nat.zero_add] at hx123_1 | skip)
                    (first | simp only [add_plain] at hx123_2 | simp only [add_at] at hx123_2 | simp only [Addr.add, Nat.zero_add] at hx123_2 | skip)
                    replace p123 := eq_true p123
                    replace q123 := eq_true q123
                    try go_wp2_with (first | ((with_reducible refine gate_dst (N := 11) rfl ?_); refine box_event ?hg (N := 11) ?hd (cs := #[.int .i64 0, .int .i64 0, .int .i64 0]) (t := 68) ?hr ?_; (case hd => rfl); (case hg => rfl); (case hr => first | (go_simp; done) | (go_simp; rfl)); intro gb124 hg w33 hbox hb; have n0_ := Aside0.mk (Kd.R_below (Kd.R_elderB (by (with_reducible repeat (first | apply Kd.R_alloc | apply Kd.R_drewN | apply Kd.R_drew)); exact HO_7.out) gb124 (Nat.le_of_eq hg.symm)) hb); have n1_ := Aside0.mk (below_step (by repeat (first | (with_reducible first | exact HB.out | apply below_alloc | apply pw_below_drewN | apply below_drew1) | exact HB.out)) hb); have n2_ := Aside0.mk (hbox); have n3_ := Aside0.mk ((by rw [hg]; exact (below_size (by repeat (first | (with_reducible first | exact HB.out | apply below_alloc | apply pw_below_drewN | apply below_drew1) | exact HB.out))) : w.heap.size ≤ gb124)); have n4_ := Aside0.mk ((by rw [hg]; exact (below_size (by repeat (first | (with_reducible first | exact HB.out | apply below_alloc | apply pw_below_drewN | apply below_drew1) | exact HB.out))) : w.heap.size ≤ gb124)); clear HO_7; clear HB; have HO_7 := n0_; have HB := n1_; have BK124 := n2_; have GW124 := n3_; have GE124 := n4_; clear n0_ n1_ n2_ n3_ n4_; clear hb hbox hg; have hcz34_0 : w33.cell? ⟨gb124, 0, none⟩ = some (.int .i64 0) := (blk_cell BK124.out 0).trans rfl; have hcz34_1 : w33.cell? ⟨gb124, 1, none⟩ = some (.int .i64 0) := (blk_cell BK124.out 1).trans rfl; have hcz34_2 : w33.cell? ⟨gb124, 2, none⟩ = some (.int .i64 0) := (blk_cell BK124.out 2).trans rfl; have hfz34_0 := blk_frozen BK124.out 0; have hfz34_1 := blk_frozen BK124.out 1; have hfz34_2 := blk_frozen BK124.out 2))
                    have n0_ : Aside0 (Kd.R k68 68 (((((((w33.setCell ⟨gb124, 0, none⟩ (.int .i64 ((rd_T68 x7_2 (Go.bits .andNot .i64 x8_1 (ji24))).f0))).setCell ⟨gb124, 1, none⟩ (.int .i64 ((rd_T68 x7_2 (Go.bits .andNot .i64 x8_1 (ji24))).f1))).setCell ⟨gb124, 2, none⟩ (.int .i64 ((rd_T68 x7_2 (Go.bits .andNot .i64 x8_1 (ji24))).f2))).setCell ⟨gb124, 1, none⟩ (.int .i64 (wrap64 (((rd_T68 x7_2 (Go.bits .andNot .i64 x8_1 (ji24))).f1) + (rd l1 x37_2))))).setCell ⟨gb124, 0, none⟩ (.int .i64 (wrap64 (((rd_T68 x7_2 (Go.bits .andNot .i64 x8_1 (ji24))).f0) + 1)))).setCell ⟨gb124, 1, none⟩ (.int .i64 0)).setCell ⟨gb124, 2, none⟩ (.int .i64 x37_2)) w.heap.size (fun k_ => k_ ≠ gb124) (.slice (some ⟨go13, 0, none⟩) x7_2.length co14) x7_2) := ⟨by (with_reducible repeat (first | apply Kd.R_alloc | apply Kd.R_drewN | apply Kd.R_drew)); exact Kd.R_mono (Kd.R_far (p := ⟨gb124, 2, none⟩) (Kd.R_far (p := ⟨gb124, 1, none⟩) (Kd.R_far (p := ⟨gb124, 0, none⟩) (Kd.R_far (p := ⟨gb124, 1, none⟩) (Kd.R_far (p := ⟨gb124, 2, none⟩) (Kd.R_far (p := ⟨gb124, 1, none⟩) (Kd.R_far (p := ⟨gb124, 0, none⟩) (Kd.R_mono HO_7.out (fun k_ hk => (⟨hk, hk.2⟩ : _ ∧ k_ ≠ gb124))) (fun _ hk => hk.2) (.int .i64 ((rd_T68 x7_2 (Go.bits .andNot .i64 x8_1 (ji24))).f0))) (fun _ hk => hk.2) (.int .i64 ((rd_T68 x7_2 (Go.bits .andNot .i64 x8_1 (ji24))).f1))) (fun _ hk => hk.2) (.int .i64 ((rd_T68 x7_2 (Go.bits .andNot .i64 x8_1 (ji24))).f2))) (fun _ hk => hk.2) (.int .i64 (wrap64 (((rd_T68 x7_2 (Go.bits .andNot .i64 x8_1 (ji24))).f1) + (rd l1 x37_2))))) (fun _ hk => hk.2) (.int .i64 (wrap64 (((rd_T68 x7_2 (Go.bits .andNot .i64 x8_1 (ji24))).f0) + 1)))) (fun _ hk => hk.2) (.int .i64 0)) (fun _ hk => hk.2) (.int .i64 x37_2)) (fun _ hk => hk.1.2)⟩
                    have n1_ : Aside0 ((((((((w33.setCell ⟨gb124, 0, none⟩ (.int .i64 ((rd_T68 x7_2 (Go.bits .andNot .i64 x8_1 (ji24))).f0))).setCell ⟨gb124, 1, none⟩ (.int .i64 ((rd_T68 x7_2 (Go.bits .andNot .i64 x8_1 (ji24))).f1))).setCell ⟨gb124, 2, none⟩ (.int .i64 ((rd_T68 x7_2 (Go.bits .andNot .i64 x8_1 (ji24))).f2))).setCell ⟨gb124, 1, none⟩ (.int .i64 (wrap64 (((rd_T68 x7_2 (Go.bits .andNot .i64 x8_1 (ji24))).f1) + (rd l1 x37_2))))).setCell ⟨gb124, 0, none⟩ (.int .i64 (wrap64 (((rd_T68 x7_2 (Go.bits .andNot .i64 x8_1 (ji24))).f0) + 1)))).setCell ⟨gb124, 1, none⟩ (.int .i64 0)).setCell ⟨gb124, 2, none⟩ (.int .i64 x37_2)).heap[gb124]? = some (.cells #[.int .i64 (wrap64 (((rd_T68 x7_2 (Go.bits .andNot .i64 x8_1 (ji24))).f0) + 1)), .int .i64 0, .int .i64 x37_2] 68 (0, 0))) := ⟨by (with_reducible repeat (first | refine blk_drewN ?_ _ | refine blk_drew ?_ | refine blk_alloc ?_ _)); refine blk_put (cs := #[.int .i64 (wrap64 (((rd_T68 x7_2 (Go.bits .andNot .i64 x8_1 (ji24))).f0) + 1)), .int .i64 0, .int .i64 ((rd_T68 x7_2 (Go.bits .andNot .i64 x8_1 (ji24))).f2)]) ?_ 2 _ rfl; (with_reducible repeat (first | refine blk_drewN ?_ _ | refine blk_drew ?_ | refine blk_alloc ?_ _)); refine blk_put (cs := #[.int .i64 (wrap64 (((rd_T68 x7_2 (Go.bits .andNot .i64 x8_1 (ji24))).f0) + 1)), .int .i64 (wrap64 (((rd_T68 x7_2 (Go.bits .andNot .i64 x8_1 (ji24))).f1) + (rd l1 x37_2))), .int .i64 ((rd_T68 x7_2 (Go.bits .andNot .i64 x8_1 (ji24))).f2)]) ?_ 1 _ rfl; (with_reducible repeat (first | refine blk_drewN ?_ _ | refine blk_drew ?_ | refine blk_alloc ?_ _)); refine blk_put (cs := #[.int .i64 ((rd_T68 x7_2 (Go.bits .andNot .i64 x8_1 (ji24))).f0), .int .i64 (wrap64 (((rd_T68 x7_2 (Go.bits .andNot .i64 x8_1 (ji24))).f1) + (rd l1 x37_2))), .int .i64 ((rd_T68 x7_2 (Go.bits .andNot .i64 x8_1 (ji24))).f2)]) ?_ 0 _ rfl; (with_reducible repeat (first | refine blk_drewN ?_ _ | refine blk_drew ?_ | refine blk_alloc ?_ _)); refine blk_put (cs := #[.int .i64 ((rd_T68 x7_2 (Go.bits .andNot .i64 x8_1 (ji24))).f0), .int .i64 ((rd_T68 x7_2 (Go.bits .andNot .i64 x8_1 (ji24))).f1), .int .i64 ((rd_T68 x7_2 (Go.bits .andNot .i64 x8_1 (ji24))).f2)]) ?_ 1 _ rfl; (with_reducible repeat (first | refine blk_drewN ?_ _ | refine blk_drew ?_ | refine blk_alloc ?_ _)); refine blk_put (cs := #[.int .i64 ((rd_T68 x7_2 (Go.bits .andNot .i64 x8_1 (ji24))).f0), .int .i64 ((rd_T68 x7_2 (Go.bits .andNot .i64 x8_1 (ji24))).f1), .int .i64 0]) ?_ 2 _ rfl; (with_reducible repeat (first | refine blk_drewN ?_ _ | refine blk_drew ?_ | refine blk_alloc ?_ _)); refine blk_put (cs := #[.int .i64 ((rd_T68 x7_2 (Go.bits .andNot .i64 x8_1 (ji24))).f0), .int .i64 0, .int .i64 0]) ?_ 1 _ rfl; (with_reducible repeat (first | refine blk_drewN ?_ _ | refine blk_drew ?_ | refine blk_alloc ?_ _)); refine blk_put (cs := #[.int .i64 0, .int .i64 0, .int .i64 0]) ?_ 0 _ rfl; (with_reducible repeat (first | refine blk_drewN ?_ _ | refine blk_drew ?_ | refine blk_alloc ?_ _)); exact BK124.out⟩
                    have n2_ : Aside0 (Below w.heap.size w (((((((w33.setCell ⟨gb124, 0, none⟩ (.int .i64 ((rd_T68 x7_2 (Go.bits .andNot .i64 x8_1 (ji24))).f0))).setCell ⟨gb124, 1, none⟩ (.int .i64 ((rd_T68 x7_2 (Go.bits .andNot .i64 x8_1 (ji24))).f1))).setCell ⟨gb124, 2, none⟩ (.int .i64 ((rd_T68 x7_2 (Go.bits .andNot .i64 x8_1 (ji24))).f2))).setCell ⟨gb124, 1, none⟩ (.int .i64 (wrap64 (((rd_T68 x7_2 (Go.bits .andNot .i64 x8_1 (ji24))).f1) + (rd l1 x37_2))))).setCell ⟨gb124, 0, none⟩ (.int .i64 (wrap64 (((rd_T68 x7_2 (Go.bits .andNot .i64 x8_1 (ji24))).f0) + 1)))).setCell ⟨gb124, 1, none⟩ (.int .i64 0)).setCell ⟨gb124, 2, none⟩ (.int .i64 x37_2))) := ⟨by repeat (first | (with_reducible first | exact HB.out | apply below_alloc | apply pw_below_drewN | apply below_drew1 | refine below_set ?_ GE124.out) | exact HB.out)⟩
                    (try clear HO_7)
                    (try clear BK124)
                    (try clear HB)
                    generalize (((((((w33.setCell ⟨gb124, 0, none⟩ (.int .i64 ((rd_T68 x7_2 (Go.bits .andNot .i64 x8_1 (ji24))).f0))).setCell ⟨gb124, 1, none⟩ (.int .i64 ((rd_T68 x7_2 (Go.bits .andNot .i64 x8_1 (ji24))).f1))).setCell ⟨gb124, 2, none⟩ (.int .i64 ((rd_T68 x7_2 (Go.bits .andNot .i64 x8_1 (ji24))).f2))).setCell ⟨gb124, 1, none⟩ (.int .i64 (wrap64 (((rd_T68 x7_2 (Go.bits .andNot .i64 x8_1 (ji24))).f1) + (rd l1 x37_2))))).setCell ⟨gb124, 0, none⟩ (.int .i64 (wrap64 (((rd_T68 x7_2 (Go.bits .andNot .i64 x8_1 (ji24))).f0) + 1)))).setCell ⟨gb124, 1, none⟩ (.int .i64 0)).setCell ⟨gb124, 2, none⟩ (.int .i64 x37_2)) = w35 at n0_ n1_ n2_ ⊢
                    have HO_7 := n0_
                    have BK124 := n1_
                    have HB := n2_
                    clear n0_ n1_ n2_
                    have n0_ := Aside0.mk (Kd.R_drew HO_7.out)
                    have n1_ := Aside0.mk (blk_drew BK124.out)
                    have n2_ := Aside0.mk (below_drew1 HB.out)
                    clear HO_7
                    clear BK124
                    clear HB
                    have HO_7 := n0_
                    have BK124 := n1_
                    have HB := n2_
                    clear n0_ n1_ n2_
                    have p125 : 0 ≤ (x8_1 : Int) := of_decide_eq_true (by assumption)
                    have q125 : x8_1 < (x7_2.length : Int) := of_decide_eq_true (by assumption)
                    obtain ⟨ad125, e125, hx125_0, hx125_1, hx125_2⟩ := at_T68 (Kd.R_reads' HO_7.out).2.2 x8_1 p125 q125
                    obtain rfl : (⟨go13, 0, none⟩ : Addr) = ad125 := (by injection e125)
                    (first | simp only [add_plain] at hx125_0 | simp only [add_at] at hx125_0 | simp only [Addr.add, Nat.zero_add] at hx125_0 | skip)
                    (first | simp only [add_plain] at hx125_1 | simp only [add_at] at hx125_1 | simp only [Addr.add, Nat.zero_add] at hx125_1 | skip)
                    (first | simp only [add_plain] at hx125_2 | simp only [add_at] at hx125_2 | simp only [Addr.add, Nat.zero_add] at hx125_2 | skip)
                    replace p125 := eq_true p125
                    replace q125 := eq_true q125
                    have p126 : 0 ≤ (x8_1 : Int) := of_decide_eq_true (by assumption)
                    have q126 : x8_1 < (x7_2.length : Int) := of_decide_eq_true (by assumption)
                    obtain ⟨ad126, e126, hx126_0, hx126_1, hx126_2⟩ := at_T68 (Kd.R_reads' HO_7.out).2.2 x8_1 p126 q126
                    obtain rfl : (⟨go13, 0, none⟩ : Addr) = ad126 := (by injection e126)
                    (first | simp only [add_plain] at hx126_0 | simp only [add_at] at hx126_0 | simp only [Addr.add, Nat.zero_add] at hx126_0 | skip)
                    (first | simp only [add_plain] at hx126_1 | simp only [add_at] at hx126_1 | simp only [Addr.add, Nat.zero_add] at hx126_1 | skip)
                    (first | simp only [add_plain] at hx126_2 | simp only [add_at] at hx126_2 | simp only [Addr.add, Nat.zero_add] at hx126_2 | skip)
                    replace p126 := eq_true p126
                    replace q126 := eq_true q126
                    as_aux_lemma =>
                    refine start_ (n := 16) (S := fun w' => w'.cell? ⟨gb124, 0, none⟩ = some (.int .i64 (wrap64 (((rd_T68 x7_2 (Go.bits .andNot .i64 x8_1 (ji24))).f0) + 1))) ∧ w'.cell? ⟨gb124, 1, none⟩ = some (.int .i64 0) ∧ w'.cell? ⟨gb124, 2, none⟩ = some (.int .i64 x37_2) ∧ w'.cell? ⟨go13, (x8_1).toNat * 3, none⟩ = some (.int .i64 ((rd_T68 x7_2 x8_1).f0)) ∧ w'.cell? ⟨go13, (x8_1).toNat * 3 + 1, none⟩ = some (.int .i64 ((rd_T68 x7_2 x8_1).f1)) ∧ w'.cell? ⟨go13, (x8_1).toNat * 3 + 2, none⟩ = some (.int .i64 ((rd_T68 x7_2 x8_1).f2)) ∧ w'.cell? ⟨go13, (x8_1).toNat * 3, none⟩ = some (.int .i64 ((rd_T68 x7_2 x8_1).f0)) ∧ w'.cell? ⟨go13, (x8_1).toNat * 3 + 1, none⟩ = some (.int .i64 ((rd_T68 x7_2 x8_1).f1)) ∧ w'.cell? ⟨go13, (x8_1).toNat * 3 + 2, none⟩ = some (.int .i64 ((rd_T68 x7_2 x8_1).f2))) (ds := []) #[false,false,false,false,false,false,false,false,false,false,false,false,false,false,false,false] (by kernel_rfl) rfl rfl ⟨(blk_cell BK124.out 0).trans rfl, (blk_cell BK124.out 1).trans rfl, (blk_cell BK124.out 2).trans rfl, hx125_0, hx125_1, hx125_2, hx126_0, hx126_1, hx126_2⟩ (fun hHeld => ?_); refine with_tabW remnant_Fill.tab17 remnant_Fill.bits17 (fun HT_ HW_ => ?_)
                    generalize w35.drew = w36 at HO_7 BK124 HB hx125_0 hx125_1 hx125_2 hx126_0 hx126_1 hx126_2 hHeld ⊢
                    refine pure_ (i := 0) (N := some 70) (v := ?_) (a' := ?_) #[true,false,false,false,false,false,false,false,false,false,false,false,false,false,false,false] rfl rfl (any_of HT_.out (by kernel_rfl)) (fun _ _ _ h => h) (Or.inl ⟨by rfl, ?_⟩) ?_ ?_
                    rotate_left
                    ·
                     intro w'
                     go_simp
                     with_reducible rfl
                    rotate_left
                    ·
                     simp only [Act.put, Hand.s0_, List.set_cons_zero, Hand.s1_, i64_w, i32_w]
                     rfl
                    refine pure_ (i := 2) (N := some 72) (v := ?_) (a' := ?_) #[true,false,true,false,false,false,false,false,false,false,false,false,false,false,false,false] rfl rfl (any_of HT_.out (by kernel_rfl)) (fun _ _ _ h => h) (Or.inl ⟨by rfl, ?_⟩) ?_ ?_
                    rotate_left
                    ·
                     intro w'
                     go_simp
                     with_reducible rfl
                    rotate_left
                    ·
                     simp only [Act.put, Hand.s0_, List.set_cons_zero, Hand.s1_, i64_w, i32_w]
                     rfl
                    refine pure_ (i := 3) (N := some 73) (v := ?_) (a' := ?_) #[true,false,true,true,false,false,false,false,false,false,false,false,false,false,false,false] rfl rfl (any_of HT_.out (by kernel_rfl)) (fun _ _ _ h => h) (Or.inl ⟨by rfl, ?_⟩) ?_ ?_
                    rotate_left
                    ·
                     intro w'
                     go_simp
                     with_reducible rfl
                    rotate_left
                    ·
                     simp only [Act.put, Hand.s0_, List.set_cons_zero, Hand.s1_, i64_w, i32_w]
                     rfl
                    refine pure_ (i := 4) (N := some 74) (v := ?_) (a' := ?_) #[true,false,true,true,true,false,false,false,false,false,false,false,false,false,false,false] rfl rfl (any_of HT_.out (by kernel_rfl)) (fun _ _ _ h => h) (Or.inl ⟨by rfl, ?_⟩) ?_ ?_
                    rotate_left
                    ·
                     intro w'
                     go_simp
                     with_reducible rfl
                    rotate_left
                    ·
                     simp only [Act.put, Hand.s0_, List.set_cons_zero, Hand.s1_, i64_w, i32_w]
                     rfl
                    refine pure_ (i := 5) (N := some 75) (v := ?_) (a' := ?_) #[true,false,true,true,true,true,false,false,false,false,false,false,false,false,false,false] rfl rfl (any_of HT_.out (by kernel_rfl)) (fun _ _ _ h => h) (Or.inl ⟨by rfl, ?_⟩) ?_ ?_
                    rotate_left
                    ·
                     intro w'
                     go_simp
                     with_reducible rfl
                    rotate_left
                    ·
                     simp only [Act.put, Hand.s0_, List.set_cons_zero, Hand.s1_, i64_w, i32_w]
                     rfl
                    refine pure_ (i := 7) (N := some 77) (v := ?_) (a' := ?_) #[true,false,true,true,true,true,false,true,false,false,false,false,false,false,false,false] rfl rfl (any_of HT_.out (by kernel_rfl)) (fun _ _ _ h => h) (Or.inl ⟨by rfl, ?_⟩) ?_ ?_
                    rotate_left
                    ·
                     intro w'
                     go_simp
                     with_reducible rfl
                    rotate_left
                    ·
                     simp only [Act.put, Hand.s0_, List.set_cons_zero, Hand.s1_, i64_w, i32_w]
                     rfl
                    refine pure_ (i := 9) (N := some 79) (v := ?_) (a' := ?_) #[true,false,true,true,true,true,false,true,false,true,false,false,false,false,false,false] rfl rfl (any_of HT_.out (by kernel_rfl)) (fun _ _ _ h => h) (Or.inl ⟨by rfl, ?_⟩) ?_ ?_
                    rotate_left
                    ·
                     intro w'
                     go_simp
                     with_reducible rfl
                    rotate_left
                    ·
                     simp only [Act.put, Hand.s0_, List.set_cons_zero, Hand.s1_, i64_w, i32_w]
                     rfl
                    refine pure_ (i := 10) (N := some 80) (v := ?_) (a' := ?_) #[true,false,true,true,true,true,false,true,false,true,true,false,false,false,false,false] rfl rfl (any_of HT_.out (by kernel_rfl)) (fun _ _ _ h => h) (Or.inl ⟨by rfl, ?_⟩) ?_ ?_
                    rotate_left
                    ·
                     intro w'
                     go_simp
                     with_reducible rfl
                    rotate_left
                    ·
                     simp only [Act.put, Hand.s0_, List.set_cons_zero, Hand.s1_, i64_w, i32_w]
                     rfl
                    refine pure_ (i := 11) (N := some 81) (v := ?_) (a' := ?_) #[true,false,true,true,true,true,false,true,false,true,true,true,false,false,false,false] rfl rfl (any_of HT_.out (by kernel_rfl)) (fun _ _ _ h => h) (Or.inl ⟨by rfl, ?_⟩) ?_ ?_
                    rotate_left
                    ·
                     intro w'
                     go_simp
                     with_reducible rfl
                    rotate_left
                    ·
                     simp only [Act.put, Hand.s0_, List.set_cons_zero, Hand.s1_, i64_w, i32_w]
                     rfl
                    refine pure_ (i := 12) (N := some 82) (v := ?_) (a' := ?_) #[true,false,true,true,true,true,false,true,false,true,true,true,true,false,false,false] rfl rfl (any_of HT_.out (by kernel_rfl)) (fun _ _ _ h => h) (Or.inl ⟨by rfl, ?_⟩) ?_ ?_
                    rotate_left
                    ·
                     intro w'
                     go_simp
                     with_reducible rfl
                    rotate_left
                    ·
                     simp only [Act.put, Hand.s0_, List.set_cons_zero, Hand.s1_, i64_w, i32_w]
                     rfl
                    refine take_ (i := 1) (N := some 71) (v := ?_) (a' := ?_) #[true,true,true,true,true,true,false,true,false,true,true,true,true,false,false,false] rfl rfl (take_ofW HT_.out HW_.out (by kernel_rfl)) (fun _ _ _ h => h) (Or.inl ⟨by rfl, ?_⟩) hHeld ?_ ?_
                    rotate_left
                    ·
                     rintro w' ⟨s0, s1, s2, s3, s4, s5, s6, s7, s8⟩
                     go_simp
                     with_reducible rfl
                    rotate_left
                    ·
                     simp only [Act.put, Hand.s0_, List.set_cons_zero, Hand.s1_, i64_w, i32_w]
                     rfl
                    refine take_ (i := 6) (N := some 76) (v := ?_) (a' := ?_) #[true,true,true,true,true,true,true,true,false,true,true,true,true,false,false,false] rfl rfl (take_ofW HT_.out HW_.out (by kernel_rfl)) (fun _ _ _ h => h) (Or.inl ⟨by rfl, ?_⟩) hHeld ?_ ?_
                    rotate_left
                    ·
                     rintro w' ⟨s0, s1, s2, s3, s4, s5, s6, s7, s8⟩
                     go_simp
                     with_reducible rfl
                    rotate_left
                    ·
                     simp only [Act.put, Hand.s0_, List.set_cons_zero, Hand.s1_, i64_w, i32_w]
                     rfl
                    refine take_ (i := 8) (N := some 78) (v := ?_) (a' := ?_) #[true,true,true,true,true,true,true,true,true,true,true,true,true,false,false,false] rfl rfl (take_ofW HT_.out HW_.out (by kernel_rfl)) (fun _ _ _ h => h) (Or.inl ⟨by rfl, ?_⟩) hHeld ?_ ?_
                    rotate_left
                    ·
                     rintro w' ⟨s0, s1, s2, s3, s4, s5, s6, s7, s8⟩
                     go_simp
                     with_reducible rfl
                    rotate_left
                    ·
                     simp only [Act.put, Hand.s0_, List.set_cons_zero, Hand.s1_, i64_w, i32_w]
                     rfl
                    refine take_ (i := 13) (N := some 83) (v := ?_) (a' := ?_) #[true,true,true,true,true,true,true,true,true,true,true,true,true,true,false,false] rfl rfl (take_ofW HT_.out HW_.out (by kernel_rfl)) (fun _ _ _ h => h) (Or.inl ⟨by rfl, ?_⟩) hHeld ?_ ?_
                    rotate_left
                    ·
                     rintro w' ⟨s0, s1, s2, s3, s4, s5, s6, s7, s8⟩
                     go_simp
                     with_reducible rfl
                    rotate_left
                    ·
                     simp only [Act.put, Hand.s0_, List.set_cons_zero, Hand.s1_, i64_w, i32_w]
                     rfl
                    refine one_ (i := 14) (N := some 84) #[true,true,true,true,true,true,true,true,true,true,true,true,true,true,true,false] rfl rfl (one_of HT_.out (by kernel_rfl)) (by decide) (fun K hK => ?_)
                    refine Kd.R_lit_step (Kd.int .i64) _ 3 ?hg (N := 84) ?hd (xs := ([wrap64 (((rd_T68 x7_2 (Go.bits .andNot .i64 x8_1 (ji24))).f0) + 1), (rd_T68 x7_2 x8_1).f0, 0, (rd_T68 x7_2 x8_1).f1] : List Int)) (inner := [.int .i64 (wrap64 (((rd_T68 x7_2 (Go.bits .andNot .i64 x8_1 (ji24))).f0) + 1)), .int .i64 ((rd_T68 x7_2 x8_1).f0), .int .i64 0, .int .i64 ((rd_T68 x7_2 x8_1).f1)]) (ok := fun _ => True) (okp := fun _ => True) ?hr ?hp (fun _ hk => hk) trivial (Below.refl _ _) (Nat.le_refl _) (by simp) ?_; (case hd => rfl); (case hg => rfl); (case hr => first | (go_simp; done) | (go_simp; rfl)); (case hp => exact (Reps.one (show Kd.M (Kd.int .i64) _ _ _ (wrap64 (((rd_T68 x7_2 (Go.bits .andNot .i64 x8_1 (ji24))).f0) + 1)) [.int .i64 (wrap64 (((rd_T68 x7_2 (Go.bits .andNot .i64 x8_1 (ji24))).f0) + 1))] from rfl) (Reps.one (show Kd.M (Kd.int .i64) _ _ _ ((rd_T68 x7_2 x8_1).f0) [.int .i64 ((rd_T68 x7_2 x8_1).f0)] from rfl) (Reps.one (show Kd.M (Kd.int .i64) _ _ _ 0 [.int .i64 0] from rfl) (Reps.one (show Kd.M (Kd.int .i64) _ _ _ ((rd_T68 x7_2 x8_1).f1) [.int .i64 ((rd_T68 x7_2 x8_1).f1)] from rfl) (Reps.none _ _))))))
                    intro v128 w37 ho38 hb hg_ hnew_
                    have HS3_ := (hb.cell (World.block_lt_of_cell? _ _ (hHeld.2.2.2.1))).trans (hHeld.2.2.2.1)
                    have HS4_ := (hb.cell (World.block_lt_of_cell? _ _ (hHeld.2.2.2.2.1))).trans (hHeld.2.2.2.2.1)
                    have HS5_ := (hb.cell (World.block_lt_of_cell? _ _ (hHeld.2.2.2.2.2.1))).trans (hHeld.2.2.2.2.2.1)
                    have HS6_ := (hb.cell (World.block_lt_of_cell? _ _ (hHeld.2.2.2.2.2.2.1))).trans (hHeld.2.2.2.2.2.2.1)
                    have HS7_ := (hb.cell (World.block_lt_of_cell? _ _ (hHeld.2.2.2.2.2.2.2.1))).trans (hHeld.2.2.2.2.2.2.2.1)
                    have HS8_ := (hb.cell (World.block_lt_of_cell? _ _ (hHeld.2.2.2.2.2.2.2.2))).trans (hHeld.2.2.2.2.2.2.2.2)
                    clear hg_ hnew_
                    (first | rw [← Ny127.out] at ho38 | (simp only [Int.reduceToNat] at ho38; rw [← Ny127.out] at ho38))
                    have n0_ := Aside0.mk (Kd.R_below (by (with_reducible repeat (first | apply Kd.R_alloc | apply Kd.R_drewN | apply Kd.R_drew)); exact HO_7.out) hb)
                    have n1_ := Aside0.mk (Kd.R_lower ho38 (below_size (by repeat (first | (with_reducible first | exact HB.out | apply below_alloc | apply pw_below_drewN | apply below_drew1 | refine below_set ?_ GE124.out) | exact HB.out))))
                    have n2_ := Aside0.mk (blk_below (g := gb124) (o := .cells #[.int .i64 (wrap64 (((rd_T68 x7_2 (Go.bits .andNot .i64 x8_1 (ji24))).f0) + 1)), .int .i64 0, .int .i64 x37_2] 68 (0, 0)) (by (with_reducible repeat (first | refine blk_drewN ?_ _ | refine blk_drew ?_ | refine blk_alloc ?_ _)); exact BK124.out) hb)
                    have n3_ := Aside0.mk (below_step (by repeat (first | (with_reducible first | exact HB.out | apply below_alloc | apply pw_below_drewN | apply below_drew1 | refine below_set ?_ GE124.out) | exact HB.out)) hb)
                    clear HO_7
                    clear BK124
                    clear HB
                    have HO_7 := n0_
                    have HO129 := n1_
                    have BK124 := n2_
                    have HB := n3_
                    clear n0_ n1_ n2_ n3_
                    clear hb ho38
                    obtain ⟨Ao39, co39, eo39⟩ := Kd.R_slice HO129.out
                    (first | subst eo39 | (injection eo39 with f1_ f2_ f3_; have f4_ := f1_.symm; have f5_ := f3_.symm; clear f1_ f2_ f3_; subst f4_; subst f5_))
                    refine hK.out _ _ ⟨(blk_cell BK124.out 0).trans rfl, (blk_cell BK124.out 1).trans rfl, (blk_cell BK124.out 2).trans rfl, HS3_, HS4_, HS5_, HS6_, HS7_, HS8_⟩ (fun hHeld => ?_)
                    clear hK K
                    refine norm_ (a' := ?_) ?_ ?_
                    rotate_left
                    ·
                     show Act.put _ (some 84) _ = _
                     simp only [Act.put, Hand.s0_, List.set_cons_zero, Hand.s1_, i64_w, i32_w]
                     rfl
                    refine one_ (i := 15) (N := some 85) #[true,true,true,true,true,true,true,true,true,true,true,true,true,true,true,true] rfl rfl (one_of HT_.out (by kernel_rfl)) (by decide) (fun K hK => ?_)
                    refine goes_ Try.func63 (by kernel_rfl) rfl #[.slice Ao39 y127.length co39] (by rfl) rfl rfl (by (try simp only [List.map_toArray, List.map_cons, List.map_nil]); first | done | rfl | (simp only [List.length_drop, List.length_take]; rfl)) ?_
                    with_reducible refine (remnant_more.calls k2 _ _ y127 true _ ?side1 ?side2 A30.out).mono ?_
                    (case side1 => repeat (first | exact (Kd.R_reads' HO129.out).2.2 | (with_reducible refine Kd.C_alloc ?_ _) | (with_reducible refine Kd.C_drewN ?_ _) | (with_reducible refine Kd.C_drew ?_)))
                    (case side2 => exact (Kd.R_reads' HO129.out).2.1)
                    rintro e w' ⟨rfl, ⟨nd, rfl⟩⟩
                    refine ⟨_, rfl, ?_⟩
                    refine hK.out _ _ ⟨(blk_cell BK124.out 0).trans rfl, (blk_cell BK124.out 1).trans rfl, (blk_cell BK124.out 2).trans rfl, hHeld.2.2.2.1, hHeld.2.2.2.2.1, hHeld.2.2.2.2.2.1, hHeld.2.2.2.2.2.2.1, hHeld.2.2.2.2.2.2.2.1, hHeld.2.2.2.2.2.2.2.2⟩ (fun hHeld => ?_)
                    clear hK K
                    refine norm_ (a' := ?_) ?_ ?_
                    rotate_left
                    ·
                     show Act.put _ (some 85) _ = _
                     simp only [Act.put, Hand.s0_, List.set_cons_zero, Hand.s1_, i64_w, i32_w]
                     rfl
                    refine done_ (done_of HT_.out (by kernel_rfl)) ?_
                    obtain ⟨w37, hq_⟩ : ∃ w_ : World, World.drewN w37 nd = w_ := ⟨_, rfl⟩
                    rw [hq_]
                    have n0_ := Aside0.mk (Kd.R_at hq_ HO_7.out)
                    have n1_ := Aside0.mk (Kd.R_at hq_ HO129.out)
                    have n2_ := Aside0.mk (below_at hq_ HB.out)
                    have n3_ := BK124.out
                    replace n3_ := (congrArg (fun w_ : World => w_.heap[gb124]?) hq_).symm.trans n3_
                    clear hq_ HO_7 HO129 HB BK124
                    have HO_7 := n0_
                    have HO129 := n1_
                    have HB := n2_
                    have BK124 := Aside0.mk n3_
                    clear n0_ n1_ n2_ n3_
                    have hcz40_0 : w37.cell? ⟨gb124, 0, none⟩ = some (.int .i64 (wrap64 (((rd_T68 x7_2 (Go.bits .andNot .i64 x8_1 (ji24))).f0) + 1))) := (blk_cell BK124.out 0).trans rfl
                    have hcz40_1 : w37.cell? ⟨gb124, 1, none⟩ = some (.int .i64 0) := (blk_cell BK124.out 1).trans rfl
                    have hcz40_2 : w37.cell? ⟨gb124, 2, none⟩ = some (.int .i64 x37_2) := (blk_cell BK124.out 2).trans rfl
                    have hfz40_0 := blk_frozen BK124.out 0
                    have hfz40_1 := blk_frozen BK124.out 1
                    have hfz40_2 := blk_frozen BK124.out 2
                    have p32 : 0 ≤ (x8_1 : Int) := of_decide_eq_true (by assumption)
                    have q32 : (x8_1 : Int) < ((x7_2.length : Int) : Int) := of_decide_eq_true (by assumption)
                    obtain ⟨ce32, hcl32, hM32, hcc32, hfr32⟩ := Kd.R_elem HO_7.out z68 (x8_1 : Int) p32 q32
                    obtain rfl := k68_openM hM32
                    have hx32_0 : w37.cell? ⟨go13, (x8_1 : Int).toNat * 3, none⟩ = some (.int .i64 ((rd_T68 x7_2 x8_1).f0)) := hcc32 0 _ rfl
                    have hx32_1 : w37.cell? ⟨go13, (x8_1 : Int).toNat * 3 + 1, none⟩ = some (.int .i64 ((rd_T68 x7_2 x8_1).f1)) := hcc32 1 _ rfl
                    have hx32_2 : w37.cell? ⟨go13, (x8_1 : Int).toNat * 3 + 2, none⟩ = some (.int .i64 ((rd_T68 x7_2 x8_1).f2)) := hcc32 2 _ rfl
                    have hf32_0 : w37.frozen? ⟨go13, (x8_1 : Int).toNat * 3, none⟩ = false := hfr32 0
                    have hf32_1 : w37.frozen? ⟨go13, (x8_1 : Int).toNat * 3 + 1, none⟩ = false := hfr32 1
                    have hf32_2 : w37.frozen? ⟨go13, (x8_1 : Int).toNat * 3 + 2, none⟩ = false := hfr32 2
                    clear hcl32 hcc32 hfr32 hM32
                    replace p32 := eq_true p32
                    replace q32 := eq_true q32
                    have HX41 := Aside0.mk (show Kd.R k68 68 w37 w.heap.size (fun k_ => k_ ≠ gb124) (.slice (some ⟨go13, 0, none⟩) x7_2.length co14) x7_2 from (by (with_reducible repeat (first | apply Kd.R_alloc | apply Kd.R_drewN | apply Kd.R_drew)); exact HO_7.out))
                    obtain ⟨ce41, hcl41, hM41, hcc41, hfr41⟩ := Kd.R_elem HX41.out z68 (x8_1 : Int) (of_decide_eq_true (by assumption)) (by have h_ : (x8_1 : Int) < ((x7_2.length : Int) : Int) := of_decide_eq_true (by assumption); first | exact h_ | (have e_ := (Kd.R_reads' HO_7.out).1; omega) | simpa using h_)
                    obtain rfl := k68_openM hM41
                    have HP41 := Kd.R_seg HX41.out (x8_1 : Int) (of_decide_eq_true (by assumption)) (by have h_ : (x8_1 : Int) < ((x7_2.length : Int) : Int) := of_decide_eq_true (by assumption); first | exact h_ | (have e_ := (Kd.R_reads' HO_7.out).1; omega) | simpa using h_) (seg := [.int .i64 (wrap64 (((rd_T68 x7_2 (Go.bits .andNot .i64 x8_1 (ji24))).f0) + 1)), .int .i64 0, .int .i64 x37_2]) (j := 0) hcl41 hcc41 (show 3 ≤ 3 from by decide) (x' := (⟨wrap64 (((rd_T68 x7_2 (Go.bits .andNot .i64 x8_1 (ji24))).f0) + 1), 0, x37_2⟩ : S68)) (k68_mkM _ _ _ (⟨wrap64 (((rd_T68 x7_2 (Go.bits .andNot .i64 x8_1 (ji24))).f0) + 1), 0, x37_2⟩ : S68) ) (fun _ hk => hk)
                    have hx41_0 := hcc41 0 _ rfl
                    (try simp only [show (k68).sz = 3 from rfl, Nat.mul_one, Nat.add_zero] at hx41_0)
                    have hf41_0 := hfr41 0
                    (try simp only [show (k68).sz = 3 from rfl, Nat.mul_one, Nat.add_zero] at hf41_0)
                    have hx41_1 := hcc41 1 _ rfl
                    (try simp only [show (k68).sz = 3 from rfl, Nat.mul_one, Nat.add_zero] at hx41_1)
                    have hf41_1 := hfr41 1
                    (try simp only [show (k68).sz = 3 from rfl, Nat.mul_one, Nat.add_zero] at hf41_1)
                    have hx41_2 := hcc41 2 _ rfl
                    (try simp only [show (k68).sz = 3 from rfl, Nat.mul_one, Nat.add_zero] at hx41_2)
                    have hf41_2 := hfr41 2
                    (try simp only [show (k68).sz = 3 from rfl, Nat.mul_one, Nat.add_zero] at hf41_2)
                    clear hcl41 hcc41 hfr41 hM41
                    try go_wp2_with (first | ((with_reducible refine gate_store (t := 68) (p := 89) rfl ?_); refine store_event (t := 68) (p := 89) (v := ?vo_w42) (w1 := (((w37.setCell ⟨go13, (x8_1 : Int).toNat * 3, none⟩ (.int .i64 (wrap64 (((rd_T68 x7_2 (Go.bits .andNot .i64 x8_1 (ji24))).f0) + 1)))).setCell ⟨go13, (x8_1 : Int).toNat * 3 + 1, none⟩ (.int .i64 0)).setCell ⟨go13, (x8_1 : Int).toNat * 3 + 2, none⟩ (.int .i64 x37_2))) ?hg ?ho ?hn ?hr ?_; (case ho => rfl); (case hg => rfl); (case hn => rfl); (case hr => first | (go_simp; done) | (go_simp; rfl)); intro w42 hw; have hg : w37.grownBy w42 (some go13) := (by rw [hw]; exact HP41.2); have hp_ : Kd.R k68 68 w42 w.heap.size (fun k_ => k_ ≠ gb124) (.slice (some ⟨go13, 0, none⟩) x7_2.length co14) y131 := (by rw [hw, Ny131.out]; exact HP41.1); clear HP41; have n0_ := Aside0.mk (hp_); have n1_ := Aside0.mk (blk_grown (g := gb124) (o := .cells #[.int .i64 (wrap64 (((rd_T68 x7_2 (Go.bits .andNot .i64 x8_1 (ji24))).f0) + 1)), .int .i64 0, .int .i64 x37_2] 68 (0, 0)) (by (with_reducible repeat (first | refine blk_drewN ?_ _ | refine blk_drew ?_ | refine blk_alloc ?_ _)); exact BK124.out) hg (Kd.R_away HO_7.out (fun _ hk => hk))); have n2_ := Aside0.mk (Kd.R_over' (v := (.slice (some ⟨go13, 0, none⟩) x7_2.length co14)) (by (with_reducible repeat (first | apply Kd.R_alloc | apply Kd.R_drewN | apply Kd.R_drew)); exact HO129.out) (Kd.R_typed HO_7.out) (by decide) hg); have n3_ := Aside0.mk ((by rw [hw]; exact below_set (below_set (below_set (HB.out) GB13.out) GB13.out) GB13.out : Below w.heap.size w w42)); clear HO_7; clear BK124; clear HO129; clear HB; have HO_7 := n0_; have BK124 := n1_; have HO129 := n2_; have HB := n3_; clear n0_ n1_ n2_ n3_; clear hg hw hp_))
                    (try simp only [← hl7_2])
                    go_roundg k2
                    case measure => have := HK1.out; have := HK2.out; omega
                    case rel => exact ⟨(y131), (wrap64 (x37_2 + 1)), (by first | rfl | (simp; done) | (simp [*]; done)), H', ⟨by have := HK1.out; have := HK2.out; omega⟩, ⟨by (try simp only [hl7_2]); (with_reducible repeat (first | apply Kd.R_alloc | apply Kd.R_drewN | apply Kd.R_drew)); exact Kd.R_mono HO_7.out (fun _ hk => trivial)⟩, ⟨by repeat (first | (with_reducible first | exact HB.out | apply below_alloc | apply pw_below_drewN | apply below_drew1 | refine below_set ?_ GE124.out) | exact HB.out)⟩⟩
                   ·
                    replace c31 := Bool.eq_false_iff.mpr c31
                    subst c31
                    have H1 : (remnant_Fill.l1 k2 a0 l1 x7_2 x8_1 l1 (l1.length : Int) (wrap64 (x37_2 + 1))) = some (r1, r2, r3) := by rw [if_neg (show ¬ (false = true) by decide)] at H; exact H
                    clear H
                    have H := H1
                    clear H1
                    have H' := Aside0.mk H
                    clear H
                    have p122 : 0 ≤ (x37_2 : Int) := of_decide_eq_true (by assumption)
                    have q122 : x37_2 < (l1.length : Int) := of_decide_eq_true (by assumption)
                    obtain ⟨ad122, e122, hx122_0⟩ := Kd.at_int HR1.out x37_2 p122 q122
                    cases e122
                    replace hx122_0 := (HB.out.cell (World.block_lt_of_cell? w _ hx122_0)).trans hx122_0
                    replace p122 := eq_true p122
                    replace q122 := eq_true q122
                    have p123 : 0 ≤ ((Go.bits .andNot .i64 x8_1 (ji24)) : Int) := of_decide_eq_true (by assumption)
                    have q123 : (Go.bits .andNot .i64 x8_1 (ji24)) < (x7_2.length : Int) := of_decide_eq_true (by assumption)
                    obtain ⟨ad123, e123, hx123_0, hx123_1, hx123_2⟩ := at_T68 (Kd.R_reads' HO_7.out).2.2 (Go.bits .andNot .i64 x8_1 (ji24)) p123 q123
                    obtain rfl : (⟨go13, 0, none⟩ : Addr) = ad123 := (by injection e123)
                    (first | simp only [add_plain] at hx123_0 | simp only [add_at] at hx123_0 | simp only [Addr.add, Nat.zero_add] at hx123_0 | skip)
                    (first | simp only [add_plain] at hx123_1 | simp only [add_at] at hx123_1 | simp only [Addr.add, Nat.zero_add] at hx123_1 | skip)
                    (first | simp only [add_plain] at hx123_2 | simp only [add_at] at hx123_2 | simp only [Addr.add, Nat.zero_add] at hx123_2 | skip)
                    replace p123 := eq_true p123
                    replace q123 := eq_true q123
                    try go_wp2_with (first | ((with_reducible refine gate_dst (N := 11) rfl ?_); refine box_event ?hg (N := 11) ?hd (cs := #[.int .i64 0, .int .i64 0, .int .i64 0]) (t := 68) ?hr ?_; (case hd => rfl); (case hg => rfl); (case hr => first | (go_simp; done) | (go_simp; rfl)); intro gb124 hg w43 hbox hb; have n0_ := Aside0.mk (Kd.R_below (Kd.R_elderB (by (with_reducible repeat (first | apply Kd.R_alloc | apply Kd.R_drewN | apply Kd.R_drew)); exact HO_7.out) gb124 (Nat.le_of_eq hg.symm)) hb); have n1_ := Aside0.mk (below_step (by repeat (first | (with_reducible first | exact HB.out | apply below_alloc | apply pw_below_drewN | apply below_drew1) | exact HB.out)) hb); have n2_ := Aside0.mk (hbox); have n3_ := Aside0.mk ((by rw [hg]; exact (below_size (by repeat (first | (with_reducible first | exact HB.out | apply below_alloc | apply pw_below_drewN | apply below_drew1) | exact HB.out))) : w.heap.size ≤ gb124)); have n4_ := Aside0.mk ((by rw [hg]; exact (below_size (by repeat (first | (with_reducible first | exact HB.out | apply below_alloc | apply pw_below_drewN | apply below_drew1) | exact HB.out))) : w.heap.size ≤ gb124)); clear HO_7; clear HB; have HO_7 := n0_; have HB := n1_; have BK124 := n2_; have GW124 := n3_; have GE124 := n4_; clear n0_ n1_ n2_ n3_ n4_; clear hb hbox hg; have hcz44_0 : w43.cell? ⟨gb124, 0, none⟩ = some (.int .i64 0) := (blk_cell BK124.out 0).trans rfl; have hcz44_1 : w43.cell? ⟨gb124, 1, none⟩ = some (.int .i64 0) := (blk_cell BK124.out 1).trans rfl; have hcz44_2 : w43.cell? ⟨gb124, 2, none⟩ = some (.int .i64 0) := (blk_cell BK124.out 2).trans rfl; have hfz44_0 := blk_frozen BK124.out 0; have hfz44_1 := blk_frozen BK124.out 1; have hfz44_2 := blk_frozen BK124.out 2))
                    have n0_ : Aside0 (Kd.R k68 68 (((((((w43.setCell ⟨gb124, 0, none⟩ (.int .i64 ((rd_T68 x7_2 (Go.bits .andNot .i64 x8_1 (ji24))).f0))).setCell ⟨gb124, 1, none⟩ (.int .i64 ((rd_T68 x7_2 (Go.bits .andNot .i64 x8_1 (ji24))).f1))).setCell ⟨gb124, 2, none⟩ (.int .i64 ((rd_T68 x7_2 (Go.bits .andNot .i64 x8_1 (ji24))).f2))).setCell ⟨gb124, 1, none⟩ (.int .i64 (wrap64 (((rd_T68 x7_2 (Go.bits .andNot .i64 x8_1 (ji24))).f1) + (rd l1 x37_2))))).setCell ⟨gb124, 0, none⟩ (.int .i64 (wrap64 (((rd_T68 x7_2 (Go.bits .andNot .i64 x8_1 (ji24))).f0) + 1)))).setCell ⟨gb124, 1, none⟩ (.int .i64 0)).setCell ⟨gb124, 2, none⟩ (.int .i64 x37_2)) w.heap.size (fun k_ => k_ ≠ gb124) (.slice (some ⟨go13, 0, none⟩) x7_2.length co14) x7_2) := ⟨by (with_reducible repeat (first | apply Kd.R_alloc | apply Kd.R_drewN | apply Kd.R_drew)); exact Kd.R_mono (Kd.R_far (p := ⟨gb124, 2, none⟩) (Kd.R_far (p := ⟨gb124, 1, none⟩) (Kd.R_far (p := ⟨gb124, 0, none⟩) (Kd.R_far (p := ⟨gb124, 1, none⟩) (Kd.R_far (p := ⟨gb124, 2, none⟩) (Kd.R_far (p := ⟨gb124, 1, none⟩) (Kd.R_far (p := ⟨gb124, 0, none⟩) (Kd.R_mono HO_7.out (fun k_ hk => (⟨hk, hk.2⟩ : _ ∧ k_ ≠ gb124))) (fun _ hk => hk.2) (.int .i64 ((rd_T68 x7_2 (Go.bits .andNot .i64 x8_1 (ji24))).f0))) (fun _ hk => hk.2) (.int .i64 ((rd_T68 x7_2 (Go.bits .andNot .i64 x8_1 (ji24))).f1))) (fun _ hk => hk.2) (.int .i64 ((rd_T68 x7_2 (Go.bits .andNot .i64 x8_1 (ji24))).f2))) (fun _ hk => hk.2) (.int .i64 (wrap64 (((rd_T68 x7_2 (Go.bits .andNot .i64 x8_1 (ji24))).f1) + (rd l1 x37_2))))) (fun _ hk => hk.2) (.int .i64 (wrap64 (((rd_T68 x7_2 (Go.bits .andNot .i64 x8_1 (ji24))).f0) + 1)))) (fun _ hk => hk.2) (.int .i64 0)) (fun _ hk => hk.2) (.int .i64 x37_2)) (fun _ hk => hk.1.2)⟩
                    have n1_ : Aside0 ((((((((w43.setCell ⟨gb124, 0, none⟩ (.int .i64 ((rd_T68 x7_2 (Go.bits .andNot .i64 x8_1 (ji24))).f0))).setCell ⟨gb124, 1, none⟩ (.int .i64 ((rd_T68 x7_2 (Go.bits .andNot .i64 x8_1 (ji24))).f1))).setCell ⟨gb124, 2, none⟩ (.int .i64 ((rd_T68 x7_2 (Go.bits .andNot .i64 x8_1 (ji24))).f2))).setCell ⟨gb124, 1, none⟩ (.int .i64 (wrap64 (((rd_T68 x7_2 (Go.bits .andNot .i64 x8_1 (ji24))).f1) + (rd l1 x37_2))))).setCell ⟨gb124, 0, none⟩ (.int .i64 (wrap64 (((rd_T68 x7_2 (Go.bits .andNot .i64 x8_1 (ji24))).f0) + 1)))).setCell ⟨gb124, 1, none⟩ (.int .i64 0)).setCell ⟨gb124, 2, none⟩ (.int .i64 x37_2)).heap[gb124]? = some (.cells #[.int .i64 (wrap64 (((rd_T68 x7_2 (Go.bits .andNot .i64 x8_1 (ji24))).f0) + 1)), .int .i64 0, .int .i64 x37_2] 68 (0, 0))) := ⟨by (with_reducible repeat (first | refine blk_drewN ?_ _ | refine blk_drew ?_ | refine blk_alloc ?_ _)); refine blk_put (cs := #[.int .i64 (wrap64 (((rd_T68 x7_2 (Go.bits .andNot .i64 x8_1 (ji24))).f0) + 1)), .int .i64 0, .int .i64 ((rd_T68 x7_2 (Go.bits .andNot .i64 x8_1 (ji24))).f2)]) ?_ 2 _ rfl; (with_reducible repeat (first | refine blk_drewN ?_ _ | refine blk_drew ?_ | refine blk_alloc ?_ _)); refine blk_put (cs := #[.int .i64 (wrap64 (((rd_T68 x7_2 (Go.bits .andNot .i64 x8_1 (ji24))).f0) + 1)), .int .i64 (wrap64 (((rd_T68 x7_2 (Go.bits .andNot .i64 x8_1 (ji24))).f1) + (rd l1 x37_2))), .int .i64 ((rd_T68 x7_2 (Go.bits .andNot .i64 x8_1 (ji24))).f2)]) ?_ 1 _ rfl; (with_reducible repeat (first | refine blk_drewN ?_ _ | refine blk_drew ?_ | refine blk_alloc ?_ _)); refine blk_put (cs := #[.int .i64 ((rd_T68 x7_2 (Go.bits .andNot .i64 x8_1 (ji24))).f0), .int .i64 (wrap64 (((rd_T68 x7_2 (Go.bits .andNot .i64 x8_1 (ji24))).f1) + (rd l1 x37_2))), .int .i64 ((rd_T68 x7_2 (Go.bits .andNot .i64 x8_1 (ji24))).f2)]) ?_ 0 _ rfl; (with_reducible repeat (first | refine blk_drewN ?_ _ | refine blk_drew ?_ | refine blk_alloc ?_ _)); refine blk_put (cs := #[.int .i64 ((rd_T68 x7_2 (Go.bits .andNot .i64 x8_1 (ji24))).f0), .int .i64 ((rd_T68 x7_2 (Go.bits .andNot .i64 x8_1 (ji24))).f1), .int .i64 ((rd_T68 x7_2 (Go.bits .andNot .i64 x8_1 (ji24))).f2)]) ?_ 1 _ rfl; (with_reducible repeat (first | refine blk_drewN ?_ _ | refine blk_drew ?_ | refine blk_alloc ?_ _)); refine blk_put (cs := #[.int .i64 ((rd_T68 x7_2 (Go.bits .andNot .i64 x8_1 (ji24))).f0), .int .i64 ((rd_T68 x7_2 (Go.bits .andNot .i64 x8_1 (ji24))).f1), .int .i64 0]) ?_ 2 _ rfl; (with_reducible repeat (first | refine blk_drewN ?_ _ | refine blk_drew ?_ | refine blk_alloc ?_ _)); refine blk_put (cs := #[.int .i64 ((rd_T68 x7_2 (Go.bits .andNot .i64 x8_1 (ji24))).f0), .int .i64 0, .int .i64 0]) ?_ 1 _ rfl; (with_reducible repeat (first | refine blk_drewN ?_ _ | refine blk_drew ?_ | refine blk_alloc ?_ _)); refine blk_put (cs := #[.int .i64 0, .int .i64 0, .int .i64 0]) ?_ 0 _ rfl; (with_reducible repeat (first | refine blk_drewN ?_ _ | refine blk_drew ?_ | refine blk_alloc ?_ _)); exact BK124.out⟩
                    have n2_ : Aside0 (Below w.heap.size w (((((((w43.setCell ⟨gb124, 0, none⟩ (.int .i64 ((rd_T68 x7_2 (Go.bits .andNot .i64 x8_1 (ji24))).f0))).setCell ⟨gb124, 1, none⟩ (.int .i64 ((rd_T68 x7_2 (Go.bits .andNot .i64 x8_1 (ji24))).f1))).setCell ⟨gb124, 2, none⟩ (.int .i64 ((rd_T68 x7_2 (Go.bits .andNot .i64 x8_1 (ji24))).f2))).setCell ⟨gb124, 1, none⟩ (.int .i64 (wrap64 (((rd_T68 x7_2 (Go.bits .andNot .i64 x8_1 (ji24))).f1) + (rd l1 x37_2))))).setCell ⟨gb124, 0, none⟩ (.int .i64 (wrap64 (((rd_T68 x7_2 (Go.bits .andNot .i64 x8_1 (ji24))).f0) + 1)))).setCell ⟨gb124, 1, none⟩ (.int .i64 0)).setCell ⟨gb124, 2, none⟩ (.int .i64 x37_2))) := ⟨by repeat (first | (with_reducible first | exact HB.out | apply below_alloc | apply pw_below_drewN | apply below_drew1 | refine below_set ?_ GE124.out) | exact HB.out)⟩
                    (try clear HO_7)
                    (try clear BK124)
                    (try clear HB)
                    generalize (((((((w43.setCell ⟨gb124, 0, none⟩ (.int .i64 ((rd_T68 x7_2 (Go.bits .andNot .i64 x8_1 (ji24))).f0))).setCell ⟨gb124, 1, none⟩ (.int .i64 ((rd_T68 x7_2 (Go.bits .andNot .i64 x8_1 (ji24))).f1))).setCell ⟨gb124, 2, none⟩ (.int .i64 ((rd_T68 x7_2 (Go.bits .andNot .i64 x8_1 (ji24))).f2))).setCell ⟨gb124, 1, none⟩ (.int .i64 (wrap64 (((rd_T68 x7_2 (Go.bits .andNot .i64 x8_1 (ji24))).f1) + (rd l1 x37_2))))).setCell ⟨gb124, 0, none⟩ (.int .i64 (wrap64 (((rd_T68 x7_2 (Go.bits .andNot .i64 x8_1 (ji24))).f0) + 1)))).setCell ⟨gb124, 1, none⟩ (.int .i64 0)).setCell ⟨gb124, 2, none⟩ (.int .i64 x37_2)) = w45 at n0_ n1_ n2_ ⊢
                    have HO_7 := n0_
                    have BK124 := n1_
                    have HB := n2_
                    clear n0_ n1_ n2_
                    have n0_ := Aside0.mk (Kd.R_drew HO_7.out)
                    have n1_ := Aside0.mk (blk_drew BK124.out)
                    have n2_ := Aside0.mk (below_drew1 HB.out)
                    clear HO_7
                    clear BK124
                    clear HB
                    have HO_7 := n0_
                    have BK124 := n1_
                    have HB := n2_
                    clear n0_ n1_ n2_
                    have p125 : 0 ≤ (x8_1 : Int) := of_decide_eq_true (by assumption)
                    have q125 : x8_1 < (x7_2.length : Int) := of_decide_eq_true (by assumption)
                    obtain ⟨ad125, e125, hx125_0, hx125_1, hx125_2⟩ := at_T68 (Kd.R_reads' HO_7.out).2.2 x8_1 p125 q125
                    obtain rfl : (⟨go13, 0, none⟩ : Addr) = ad125 := (by injection e125)
                    (first | simp only [add_plain] at hx125_0 | simp only [add_at] at hx125_0 | simp only [Addr.add, Nat.zero_add] at hx125_0 | skip)
                    (first | simp only [add_plain] at hx125_1 | simp only [add_at] at hx125_1 | simp only [Addr.add, Nat.zero_add] at hx125_1 | skip)
                    (first | simp only [add_plain] at hx125_2 | simp only [add_at] at hx125_2 | simp only [Addr.add, Nat.zero_add] at hx125_2 | skip)
                    replace p125 := eq_true p125
                    replace q125 := eq_true q125
                    have p126 : 0 ≤ (x8_1 : Int) := of_decide_eq_true (by assumption)
                    have q126 : x8_1 < (x7_2.length : Int) := of_decide_eq_true (by assumption)
                    obtain ⟨ad126, e126, hx126_0, hx126_1, hx126_2⟩ := at_T68 (Kd.R_reads' HO_7.out).2.2 x8_1 p126 q126
                    obtain rfl : (⟨go13, 0, none⟩ : Addr) = ad126 := (by injection e126)
                    (first | simp only [add_plain] at hx126_0 | simp only [add_at] at hx126_0 | simp only [Addr.add, Nat.zero_add] at hx126_0 | skip)
                    (first | simp only [add_plain] at hx126_1 | simp only [add_at] at hx126_1 | simp only [Addr.add, Nat.zero_add] at hx126_1 | skip)
                    (first | simp only [add_plain] at hx126_2 | simp only [add_at] at hx126_2 | simp only [Addr.add, Nat.zero_add] at hx126_2 | skip)
                    replace p126 := eq_true p126
                    replace q126 := eq_true q126
                    as_aux_lemma =>
                    refine start_ (n := 16) (S := fun w' => w'.cell? ⟨gb124, 0, none⟩ = some (.int .i64 (wrap64 (((rd_T68 x7_2 (Go.bits .andNot .i64 x8_1 (ji24))).f0) + 1))) ∧ w'.cell? ⟨gb124, 1, none⟩ = some (.int .i64 0) ∧ w'.cell? ⟨gb124, 2, none⟩ = some (.int .i64 x37_2) ∧ w'.cell? ⟨go13, (x8_1).toNat * 3, none⟩ = some (.int .i64 ((rd_T68 x7_2 x8_1).f0)) ∧ w'.cell? ⟨go13, (x8_1).toNat * 3 + 1, none⟩ = some (.int .i64 ((rd_T68 x7_2 x8_1).f1)) ∧ w'.cell? ⟨go13, (x8_1).toNat * 3 + 2, none⟩ = some (.int .i64 ((rd_T68 x7_2 x8_1).f2)) ∧ w'.cell? ⟨go13, (x8_1).toNat * 3, none⟩ = some (.int .i64 ((rd_T68 x7_2 x8_1).f0)) ∧ w'.cell? ⟨go13, (x8_1).toNat * 3 + 1, none⟩ = some (.int .i64 ((rd_T68 x7_2 x8_1).f1)) ∧ w'.cell? ⟨go13, (x8_1).toNat * 3 + 2, none⟩ = some (.int .i64 ((rd_T68 x7_2 x8_1).f2))) (ds := []) #[false,false,false,false,false,false,false,false,false,false,false,false,false,false,false,false] (by kernel_rfl) rfl rfl ⟨(blk_cell BK124.out 0).trans rfl, (blk_cell BK124.out 1).trans rfl, (blk_cell BK124.out 2).trans rfl, hx125_0, hx125_1, hx125_2, hx126_0, hx126_1, hx126_2⟩ (fun hHeld => ?_); refine with_tabW remnant_Fill.tab17 remnant_Fill.bits17 (fun HT_ HW_ => ?_)
                    generalize w45.drew = w46 at HO_7 BK124 HB hx125_0 hx125_1 hx125_2 hx126_0 hx126_1 hx126_2 hHeld ⊢
                    refine pure_ (i := 0) (N := some 70) (v := ?_) (a' := ?_) #[true,false,false,false,false,false,false,false,false,false,false,false,false,false,false,false] rfl rfl (any_of HT_.out (by kernel_rfl)) (fun _ _ _ h => h) (Or.inl ⟨by rfl, ?_⟩) ?_ ?_
                    rotate_left
                    ·
                     intro w'
                     go_simp
                     with_reducible rfl
                    rotate_left
                    ·
                     simp only [Act.put, Hand.s0_, List.set_cons_zero, Hand.s1_, i64_w, i32_w]
                     rfl
                    refine pure_ (i := 2) (N := some 72) (v := ?_) (a' := ?_) #[true,false,true,false,false,false,false,false,false,false,false,false,false,false,false,false] rfl rfl (any_of HT_.out (by kernel_rfl)) (fun _ _ _ h => h) (Or.inl ⟨by rfl, ?_⟩) ?_ ?_
                    rotate_left
                    ·
                     intro w'
                     go_simp
                     with_reducible rfl
                    rotate_left
                    ·
                     simp only [Act.put, Hand.s0_, List.set_cons_zero, Hand.s1_, i64_w, i32_w]
                     rfl
                    refine pure_ (i := 3) (N := some 73) (v := ?_) (a' := ?_) #[true,false,true,true,false,false,false,false,false,false,false,false,false,false,false,false] rfl rfl (any_of HT_.out (by kernel_rfl)) (fun _ _ _ h => h) (Or.inl ⟨by rfl, ?_⟩) ?_ ?_
                    rotate_left
                    ·
                     intro w'
                     go_simp
                     with_reducible rfl
                    rotate_left
                    ·
                     simp only [Act.put, Hand.s0_, List.set_cons_zero, Hand.s1_, i64_w, i32_w]
                     rfl
                    refine pure_ (i := 4) (N := some 74) (v := ?_) (a' := ?_) #[true,false,true,true,true,false,false,false,false,false,false,false,false,false,false,false] rfl rfl (any_of HT_.out (by kernel_rfl)) (fun _ _ _ h => h) (Or.inl ⟨by rfl, ?_⟩) ?_ ?_
                    rotate_left
                    ·
                     intro w'
                     go_simp
                     with_reducible rfl
                    rotate_left
                    ·
                     simp only [Act.put, Hand.s0_, List.set_cons_zero, Hand.s1_, i64_w, i32_w]
                     rfl
                    refine pure_ (i := 5) (N := some 75) (v := ?_) (a' := ?_) #[true,false,true,true,true,true,false,false,false,false,false,false,false,false,false,false] rfl rfl (any_of HT_.out (by kernel_rfl)) (fun _ _ _ h => h) (Or.inl ⟨by rfl, ?_⟩) ?_ ?_
                    rotate_left
                    ·
                     intro w'
                     go_simp
                     with_reducible rfl
                    rotate_left
                    ·
                     simp only [Act.put, Hand.s0_, List.set_cons_zero, Hand.s1_, i64_w, i32_w]
                     rfl
                    refine pure_ (i := 7) (N := some 77) (v := ?_) (a' := ?_) #[true,false,true,true,true,true,false,true,false,false,false,false,false,false,false,false] rfl rfl (any_of HT_.out (by kernel_rfl)) (fun _ _ _ h => h) (Or.inl ⟨by rfl, ?_⟩) ?_ ?_
                    rotate_left
                    ·
                     intro w'
                     go_simp
                     with_reducible rfl
                    rotate_left
                    ·
                     simp only [Act.put, Hand.s0_, List.set_cons_zero, Hand.s1_, i64_w, i32_w]
                     rfl
                    refine pure_ (i := 9) (N := some 79) (v := ?_) (a' := ?_) #[true,false,true,true,true,true,false,true,false,true,false,false,false,false,false,false] rfl rfl (any_of HT_.out (by kernel_rfl)) (fun _ _ _ h => h) (Or.inl ⟨by rfl, ?_⟩) ?_ ?_
                    rotate_left
                    ·
                     intro w'
                     go_simp
                     with_reducible rfl
                    rotate_left
                    ·
                     simp only [Act.put, Hand.s0_, List.set_cons_zero, Hand.s1_, i64_w, i32_w]
                     rfl
                    refine pure_ (i := 10) (N := some 80) (v := ?_) (a' := ?_) #[true,false,true,true,true,true,false,true,false,true,true,false,false,false,false,false] rfl rfl (any_of HT_.out (by kernel_rfl)) (fun _ _ _ h => h) (Or.inl ⟨by rfl, ?_⟩) ?_ ?_
                    rotate_left
                    ·
                     intro w'
                     go_simp
                     with_reducible rfl
                    rotate_left
                    ·
                     simp only [Act.put, Hand.s0_, List.set_cons_zero, Hand.s1_, i64_w, i32_w]
                     rfl
                    refine pure_ (i := 11) (N := some 81) (v := ?_) (a' := ?_) #[true,false,true,true,true,true,false,true,false,true,true,true,false,false,false,false] rfl rfl (any_of HT_.out (by kernel_rfl)) (fun _ _ _ h => h) (Or.inl ⟨by rfl, ?_⟩) ?_ ?_
                    rotate_left
                    ·
                     intro w'
                     go_simp
                     with_reducible rfl
                    rotate_left
                    ·
                     simp only [Act.put, Hand.s0_, List.set_cons_zero, Hand.s1_, i64_w, i32_w]
                     rfl
                    refine pure_ (i := 12) (N := some 82) (v := ?_) (a' := ?_) #[true,false,true,true,true,true,false,true,false,true,true,true,true,false,false,false] rfl rfl (any_of HT_.out (by kernel_rfl)) (fun _ _ _ h => h) (Or.inl ⟨by rfl, ?_⟩) ?_ ?_
                    rotate_left
                    ·
                     intro w'
                     go_simp
                     with_reducible rfl
                    rotate_left
                    ·
                     simp only [Act.put, Hand.s0_, List.set_cons_zero, Hand.s1_, i64_w, i32_w]
                     rfl
                    refine take_ (i := 1) (N := some 71) (v := ?_) (a' := ?_) #[true,true,true,true,true,true,false,true,false,true,true,true,true,false,false,false] rfl rfl (take_ofW HT_.out HW_.out (by kernel_rfl)) (fun _ _ _ h => h) (Or.inl ⟨by rfl, ?_⟩) hHeld ?_ ?_
                    rotate_left
                    ·
                     rintro w' ⟨s0, s1, s2, s3, s4, s5, s6, s7, s8⟩
                     go_simp
                     with_reducible rfl
                    rotate_left
                    ·
                     simp only [Act.put, Hand.s0_, List.set_cons_zero, Hand.s1_, i64_w, i32_w]
                     rfl
                    refine take_ (i := 6) (N := some 76) (v := ?_) (a' := ?_) #[true,true,true,true,true,true,true,true,false,true,true,true,true,false,false,false] rfl rfl (take_ofW HT_.out HW_.out (by kernel_rfl)) (fun _ _ _ h => h) (Or.inl ⟨by rfl, ?_⟩) hHeld ?_ ?_
                    rotate_left
                    ·
                     rintro w' ⟨s0, s1, s2, s3, s4, s5, s6, s7, s8⟩
                     go_simp
                     with_reducible rfl
                    rotate_left
                    ·
                     simp only [Act.put, Hand.s0_, List.set_cons_zero, Hand.s1_, i64_w, i32_w]
                     rfl
                    refine take_ (i := 8) (N := some 78) (v := ?_) (a' := ?_) #[true,true,true,true,true,true,true,true,true,true,true,true,true,false,false,false] rfl rfl (take_ofW HT_.out HW_.out (by kernel_rfl)) (fun _ _ _ h => h) (Or.inl ⟨by rfl, ?_⟩) hHeld ?_ ?_
                    rotate_left
                    ·
                     rintro w' ⟨s0, s1, s2, s3, s4, s5, s6, s7, s8⟩
                     go_simp
                     with_reducible rfl
                    rotate_left
                    ·
                     simp only [Act.put, Hand.s0_, List.set_cons_zero, Hand.s1_, i64_w, i32_w]
                     rfl
                    refine take_ (i := 13) (N := some 83) (v := ?_) (a' := ?_) #[true,true,true,true,true,true,true,true,true,true,true,true,true,true,false,false] rfl rfl (take_ofW HT_.out HW_.out (by kernel_rfl)) (fun _ _ _ h => h) (Or.inl ⟨by rfl, ?_⟩) hHeld ?_ ?_
                    rotate_left
                    ·
                     rintro w' ⟨s0, s1, s2, s3, s4, s5, s6, s7, s8⟩
                     go_simp
                     with_reducible rfl
                    rotate_left
                    ·
                     simp only [Act.put, Hand.s0_, List.set_cons_zero, Hand.s1_, i64_w, i32_w]
                     rfl
                    refine one_ (i := 14) (N := some 84) #[true,true,true,true,true,true,true,true,true,true,true,true,true,true,true,false] rfl rfl (one_of HT_.out (by kernel_rfl)) (by decide) (fun K hK => ?_)
                    refine Kd.R_lit_step (Kd.int .i64) _ 3 ?hg (N := 84) ?hd (xs := ([wrap64 (((rd_T68 x7_2 (Go.bits .andNot .i64 x8_1 (ji24))).f0) + 1), (rd_T68 x7_2 x8_1).f0, 0, (rd_T68 x7_2 x8_1).f1] : List Int)) (inner := [.int .i64 (wrap64 (((rd_T68 x7_2 (Go.bits .andNot .i64 x8_1 (ji24))).f0) + 1)), .int .i64 ((rd_T68 x7_2 x8_1).f0), .int .i64 0, .int .i64 ((rd_T68 x7_2 x8_1).f1)]) (ok := fun _ => True) (okp := fun _ => True) ?hr ?hp (fun _ hk => hk) trivial (Below.refl _ _) (Nat.le_refl _) (by simp) ?_; (case hd => rfl); (case hg => rfl); (case hr => first | (go_simp; done) | (go_simp; rfl)); (case hp => exact (Reps.one (show Kd.M (Kd.int .i64) _ _ _ (wrap64 (((rd_T68 x7_2 (Go.bits .andNot .i64 x8_1 (ji24))).f0) + 1)) [.int .i64 (wrap64 (((rd_T68 x7_2 (Go.bits .andNot .i64 x8_1 (ji24))).f0) + 1))] from rfl) (Reps.one (show Kd.M (Kd.int .i64) _ _ _ ((rd_T68 x7_2 x8_1).f0) [.int .i64 ((rd_T68 x7_2 x8_1).f0)] from rfl) (Reps.one (show Kd.M (Kd.int .i64) _ _ _ 0 [.int .i64 0] from rfl) (Reps.one (show Kd.M (Kd.int .i64) _ _ _ ((rd_T68 x7_2 x8_1).f1) [.int .i64 ((rd_T68 x7_2 x8_1).f1)] from rfl) (Reps.none _ _))))))
                    intro v128 w47 ho48 hb hg_ hnew_
                    have HS3_ := (hb.cell (World.block_lt_of_cell? _ _ (hHeld.2.2.2.1))).trans (hHeld.2.2.2.1)
                    have HS4_ := (hb.cell (World.block_lt_of_cell? _ _ (hHeld.2.2.2.2.1))).trans (hHeld.2.2.2.2.1)
                    have HS5_ := (hb.cell (World.block_lt_of_cell? _ _ (hHeld.2.2.2.2.2.1))).trans (hHeld.2.2.2.2.2.1)
                    have HS6_ := (hb.cell (World.block_lt_of_cell? _ _ (hHeld.2.2.2.2.2.2.1))).trans (hHeld.2.2.2.2.2.2.1)
                    have HS7_ := (hb.cell (World.block_lt_of_cell? _ _ (hHeld.2.2.2.2.2.2.2.1))).trans (hHeld.2.2.2.2.2.2.2.1)
                    have HS8_ := (hb.cell (World.block_lt_of_cell? _ _ (hHeld.2.2.2.2.2.2.2.2))).trans (hHeld.2.2.2.2.2.2.2.2)
                    clear hg_ hnew_
                    (first | rw [← Ny127.out] at ho48 | (simp only [Int.reduceToNat] at ho48; rw [← Ny127.out] at ho48))
                    have n0_ := Aside0.mk (Kd.R_below (by (with_reducible repeat (first | apply Kd.R_alloc | apply Kd.R_drewN | apply Kd.R_drew)); exact HO_7.out) hb)
                    have n1_ := Aside0.mk (Kd.R_lower ho48 (below_size (by repeat (first | (with_reducible first | exact HB.out | apply below_alloc | apply pw_below_drewN | apply below_drew1 | refine below_set ?_ GE124.out) | exact HB.out))))
                    have n2_ := Aside0.mk (blk_below (g := gb124) (o := .cells #[.int .i64 (wrap64 (((rd_T68 x7_2 (Go.bits .andNot .i64 x8_1 (ji24))).f0) + 1)), .int .i64 0, .int .i64 x37_2] 68 (0, 0)) (by (with_reducible repeat (first | refine blk_drewN ?_ _ | refine blk_drew ?_ | refine blk_alloc ?_ _)); exact BK124.out) hb)
                    have n3_ := Aside0.mk (below_step (by repeat (first | (with_reducible first | exact HB.out | apply below_alloc | apply pw_below_drewN | apply below_drew1 | refine below_set ?_ GE124.out) | exact HB.out)) hb)
                    clear HO_7
                    clear BK124
                    clear HB
                    have HO_7 := n0_
                    have HO129 := n1_
                    have BK124 := n2_
                    have HB := n3_
                    clear n0_ n1_ n2_ n3_
                    clear hb ho48
                    obtain ⟨Ao49, co49, eo49⟩ := Kd.R_slice HO129.out
                    (first | subst eo49 | (injection eo49 with f1_ f2_ f3_; have f4_ := f1_.symm; have f5_ := f3_.symm; clear f1_ f2_ f3_; subst f4_; subst f5_))
                    refine hK.out _ _ ⟨(blk_cell BK124.out 0).trans rfl, (blk_cell BK124.out 1).trans rfl, (blk_cell BK124.out 2).trans rfl, HS3_, HS4_, HS5_, HS6_, HS7_, HS8_⟩ (fun hHeld => ?_)
                    clear hK K
                    refine norm_ (a' := ?_) ?_ ?_
                    rotate_left
                    ·
                     show Act.put _ (some 84) _ = _
                     simp only [Act.put, Hand.s0_, List.set_cons_zero, Hand.s1_, i64_w, i32_w]
                     rfl
                    refine one_ (i := 15) (N := some 85) #[true,true,true,true,true,true,true,true,true,true,true,true,true,true,true,true] rfl rfl (one_of HT_.out (by kernel_rfl)) (by decide) (fun K hK => ?_)
                    refine goes_ Try.func63 (by kernel_rfl) rfl #[.slice Ao49 y127.length co49] (by rfl) rfl rfl (by (try simp only [List.map_toArray, List.map_cons, List.map_nil]); first | done | rfl | (simp only [List.length_drop, List.length_take]; rfl)) ?_
                    with_reducible refine (remnant_more.calls k2 _ _ y127 false _ ?side1 ?side2 A30.out).mono ?_
                    (case side1 => repeat (first | exact (Kd.R_reads' HO129.out).2.2 | (with_reducible refine Kd.C_alloc ?_ _) | (with_reducible refine Kd.C_drewN ?_ _) | (with_reducible refine Kd.C_drew ?_)))
                    (case side2 => exact (Kd.R_reads' HO129.out).2.1)
                    rintro e w' ⟨rfl, ⟨nd, rfl⟩⟩
                    refine ⟨_, rfl, ?_⟩
                    refine hK.out _ _ ⟨(blk_cell BK124.out 0).trans rfl, (blk_cell BK124.out 1).trans rfl, (blk_cell BK124.out 2).trans rfl, hHeld.2.2.2.1, hHeld.2.2.2.2.1, hHeld.2.2.2.2.2.1, hHeld.2.2.2.2.2.2.1, hHeld.2.2.2.2.2.2.2.1, hHeld.2.2.2.2.2.2.2.2⟩ (fun hHeld => ?_)
                    clear hK K
                    refine norm_ (a' := ?_) ?_ ?_
                    rotate_left
                    ·
                     show Act.put _ (some 85) _ = _
                     simp only [Act.put, Hand.s0_, List.set_cons_zero, Hand.s1_, i64_w, i32_w]
                     rfl
                    refine done_ (done_of HT_.out (by kernel_rfl)) ?_
                    try go_wp2
                    (try simp only [← hl7_2])
                    go_roundg k2
                    case measure => have := HK1.out; have := HK2.out; omega
                    case rel => exact ⟨(x7_2), (wrap64 (x37_2 + 1)), (by first | rfl | (simp; done) | (simp [*]; done)), H', ⟨by have := HK1.out; have := HK2.out; omega⟩, ⟨by (try simp only [hl7_2]); (with_reducible repeat (first | apply Kd.R_alloc | apply Kd.R_drewN | apply Kd.R_drew)); exact Kd.R_mono HO_7.out (fun _ hk => trivial)⟩, ⟨by repeat (first | (with_reducible first | exact HB.out | apply below_alloc | apply pw_below_drewN | apply below_drew1 | refine below_set ?_ GE124.out) | exact HB.out)⟩⟩
                  ·
                   rw [if_neg c29] at H
                   exact absurd H (by simp)
                 ·
                  rw [if_neg c28] at H
                  exact absurd H (by simp)
                ·
                 rw [if_neg c27] at H
                 have c27b0 : decide (a0 ≤ (wrap64 (((rd_T68 x7_2 (Go.bits .andNot .i64 x8_1 (ji24))).f1) + (rd l1 x37_2)))) = false := decide_eq_false c27
                 (first | (simp only [hl7_2] at c27b0) | skip)
                 clear c27
                 by_cases c50 : 0 ≤ x8_1
                 ·
                  rw [if_pos c50] at H
                  have c50b0 : decide (0 ≤ x8_1) = true := decide_eq_true c50
                  clear c50
                  by_cases c51 : x8_1 < (x7_2.length : Int)
                  ·
                   rw [if_pos c51] at H
                   have c51b0 : decide (x8_1 < (x7_2.length : Int)) = true := decide_eq_true c51
                   clear c51
                   obtain ⟨y134, hy134⟩ : ∃ y_ : List Int, y_ = (([(rd_T68 x7_2 (Go.bits .andNot .i64 x8_1 (ji24))).f0, (rd_T68 x7_2 x8_1).f0, wrap64 (((rd_T68 x7_2 (Go.bits .andNot .i64 x8_1 (ji24))).f1) + (rd l1 x37_2)), (rd_T68 x7_2 x8_1).f1] : List Int)) := ⟨_, rfl⟩
                   replace H : ((remnant_more.f k2 y134).bind fun t137 => (if t137 = true then (remnant_Fill.l1 k2 a0 l1 (x7_2.set (x8_1 : Int).toNat (⟨(rd_T68 x7_2 (Go.bits .andNot .i64 x8_1 (ji24))).f0, wrap64 (((rd_T68 x7_2 (Go.bits .andNot .i64 x8_1 (ji24))).f1) + (rd l1 x37_2)), x37_2⟩ : S68)) x8_1 l1 (l1.length : Int) (wrap64 (x37_2 + 1))) else (remnant_Fill.l1 k2 a0 l1 x7_2 x8_1 l1 (l1.length : Int) (wrap64 (x37_2 + 1))))) = some (r1, r2, r3) := by first | (rw [hy134]; with_reducible exact H) | (have H2_ := (Option.bind_some _ _).symm.trans H; rw [hy134]; with_reducible exact H2_) | (have H2_ := (Option.bind_some _ _).symm.trans H; with_reducible exact H2_) | with_reducible exact H | (rw [hy134]; exact H) | exact H
                   have Ny134 := Aside0.mk hy134
                   clear hy134
                   replace H := Option.bind_eq_some_iff.mp H
                   obtain ⟨t137, A520, H⟩ := H
                   replace H : (if t137 = true then (remnant_Fill.l1 k2 a0 l1 (x7_2.set (x8_1 : Int).toNat (⟨(rd_T68 x7_2 (Go.bits .andNot .i64 x8_1 (ji24))).f0, wrap64 (((rd_T68 x7_2 (Go.bits .andNot .i64 x8_1 (ji24))).f1) + (rd l1 x37_2)), x37_2⟩ : S68)) x8_1 l1 (l1.length : Int) (wrap64 (x37_2 + 1))) else (remnant_Fill.l1 k2 a0 l1 x7_2 x8_1 l1 (l1.length : Int) (wrap64 (x37_2 + 1)))) = some (r1, r2, r3) := H
                   have A52 := Aside0.mk A520
                   clear A520
                   by_cases c53 : t137 = true
                   ·
                    subst c53
                    have H1 : (remnant_Fill.l1 k2 a0 l1 (x7_2.set (x8_1 : Int).toNat (⟨(rd_T68 x7_2 (Go.bits .andNot .i64 x8_1 (ji24))).f0, wrap64 (((rd_T68 x7_2 (Go.bits .andNot .i64 x8_1 (ji24))).f1) + (rd l1 x37_2)), x37_2⟩ : S68)) x8_1 l1 (l1.length : Int) (wrap64 (x37_2 + 1))) = some (r1, r2, r3) := by rw [if_pos rfl] at H; exact H
                    clear H
                    have H := H1
                    clear H1
                    obtain ⟨y138, hy138⟩ : ∃ y_ : List (S68), y_ = (x7_2.set (x8_1 : Int).toNat (⟨(rd_T68 x7_2 (Go.bits .andNot .i64 x8_1 (ji24))).f0, wrap64 (((rd_T68 x7_2 (Go.bits .andNot .i64 x8_1 (ji24))).f1) + (rd l1 x37_2)), x37_2⟩ : S68)) := ⟨_, rfl⟩
                    replace H : (remnant_Fill.l1 k2 a0 l1 y138 x8_1 l1 (l1.length : Int) (wrap64 (x37_2 + 1))) = some (r1, r2, r3) := by first | (rw [hy138]; with_reducible exact H) | (have H2_ := (Option.bind_some _ _).symm.trans H; rw [hy138]; with_reducible exact H2_) | (have H2_ := (Option.bind_some _ _).symm.trans H; with_reducible exact H2_) | with_reducible exact H | (rw [hy138]; exact H) | exact H
                    have Ny138 := Aside0.mk hy138
                    clear hy138
                    have H' := Aside0.mk H
                    clear H
                    have p122 : 0 ≤ (x37_2 : Int) := of_decide_eq_true (by assumption)
                    have q122 : x37_2 < (l1.length : Int) := of_decide_eq_true (by assumption)
                    obtain ⟨ad122, e122, hx122_0⟩ := Kd.at_int HR1.out x37_2 p122 q122
                    cases e122
                    replace hx122_0 := (HB.out.cell (World.block_lt_of_cell? w _ hx122_0)).trans hx122_0
                    replace p122 := eq_true p122
                    replace q122 := eq_true q122
                    have p123 : 0 ≤ ((Go.bits .andNot .i64 x8_1 (ji24)) : Int) := of_decide_eq_true (by assumption)
                    have q123 : (Go.bits .andNot .i64 x8_1 (ji24)) < (x7_2.length : Int) := of_decide_eq_true (by assumption)
                    obtain ⟨ad123, e123, hx123_0, hx123_1, hx123_2⟩ := at_T68 (Kd.R_reads' HO_7.out).2.2 (Go.bits .andNot .i64 x8_1 (ji24)) p123 q123
                    obtain rfl : (⟨go13, 0, none⟩ : Addr) = ad123 := (by injection e123)
                    (first | simp only [add_plain] at hx123_0 | simp only [add_at] at hx123_0 | simp only [Addr.add, Nat.zero_add] at hx123_0 | skip)
                    (first | simp only [add_plain] at hx123_1 | simp only [add_at] at hx123_1 | simp only [Addr.add, Nat.zero_add] at hx123_1 | skip)
                    (first | simp only [add_plain] at hx123_2 | simp only [add_at] at hx123_2 | simp only [Addr.add, Nat.zero_add] at hx123_2 | skip)
                    replace p123 := eq_true p123
                    replace q123 := eq_true q123
                    try go_wp2_with (first | ((with_reducible refine gate_dst (N := 11) rfl ?_); refine box_event ?hg (N := 11) ?hd (cs := #[.int .i64 0, .int .i64 0, .int .i64 0]) (t := 68) ?hr ?_; (case hd => rfl); (case hg => rfl); (case hr => first | (go_simp; done) | (go_simp; rfl)); intro gb124 hg w55 hbox hb; have n0_ := Aside0.mk (Kd.R_below (Kd.R_elderB (by (with_reducible repeat (first | apply Kd.R_alloc | apply Kd.R_drewN | apply Kd.R_drew)); exact HO_7.out) gb124 (Nat.le_of_eq hg.symm)) hb); have n1_ := Aside0.mk (below_step (by repeat (first | (with_reducible first | exact HB.out | apply below_alloc | apply pw_below_drewN | apply below_drew1) | exact HB.out)) hb); have n2_ := Aside0.mk (hbox); have n3_ := Aside0.mk ((by rw [hg]; exact (below_size (by repeat (first | (with_reducible first | exact HB.out | apply below_alloc | apply pw_below_drewN | apply below_drew1) | exact HB.out))) : w.heap.size ≤ gb124)); have n4_ := Aside0.mk ((by rw [hg]; exact (below_size (by repeat (first | (with_reducible first | exact HB.out | apply below_alloc | apply pw_below_drewN | apply below_drew1) | exact HB.out))) : w.heap.size ≤ gb124)); clear HO_7; clear HB; have HO_7 := n0_; have HB := n1_; have BK124 := n2_; have GW124 := n3_; have GE124 := n4_; clear n0_ n1_ n2_ n3_ n4_; clear hb hbox hg; have hcz56_0 : w55.cell? ⟨gb124, 0, none⟩ = some (.int .i64 0) := (blk_cell BK124.out 0).trans rfl; have hcz56_1 : w55.cell? ⟨gb124, 1, none⟩ = some (.int .i64 0) := (blk_cell BK124.out 1).trans rfl; have hcz56_2 : w55.cell? ⟨gb124, 2, none⟩ = some (.int .i64 0) := (blk_cell BK124.out 2).trans rfl; have hfz56_0 := blk_frozen BK124.out 0; have hfz56_1 := blk_frozen BK124.out 1; have hfz56_2 := blk_frozen BK124.out 2))
                    have n0_ : Aside0 (Kd.R k68 68 (((((w55.setCell ⟨gb124, 0, none⟩ (.int .i64 ((rd_T68 x7_2 (Go.bits .andNot .i64 x8_1 (ji24))).f0))).setCell ⟨gb124, 1, none⟩ (.int .i64 ((rd_T68 x7_2 (Go.bits .andNot .i64 x8_1 (ji24))).f1))).setCell ⟨gb124, 2, none⟩ (.int .i64 ((rd_T68 x7_2 (Go.bits .andNot .i64 x8_1 (ji24))).f2))).setCell ⟨gb124, 1, none⟩ (.int .i64 (wrap64 (((rd_T68 x7_2 (Go.bits .andNot .i64 x8_1 (ji24))).f1) + (rd l1 x37_2))))).setCell ⟨gb124, 2, none⟩ (.int .i64 x37_2)) w.heap.size (fun k_ => k_ ≠ gb124) (.slice (some ⟨go13, 0, none⟩) x7_2.length co14) x7_2) := ⟨by (with_reducible repeat (first | apply Kd.R_alloc | apply Kd.R_drewN | apply Kd.R_drew)); exact Kd.R_mono (Kd.R_far (p := ⟨gb124, 2, none⟩) (Kd.R_far (p := ⟨gb124, 1, none⟩) (Kd.R_far (p := ⟨gb124, 2, none⟩) (Kd.R_far (p := ⟨gb124, 1, none⟩) (Kd.R_far (p := ⟨gb124, 0, none⟩) (Kd.R_mono HO_7.out (fun k_ hk => (⟨hk, hk.2⟩ : _ ∧ k_ ≠ gb124))) (fun _ hk => hk.2) (.int .i64 ((rd_T68 x7_2 (Go.bits .andNot .i64 x8_1 (ji24))).f0))) (fun _ hk => hk.2) (.int .i64 ((rd_T68 x7_2 (Go.bits .andNot .i64 x8_1 (ji24))).f1))) (fun _ hk => hk.2) (.int .i64 ((rd_T68 x7_2 (Go.bits .andNot .i64 x8_1 (ji24))).f2))) (fun _ hk => hk.2) (.int .i64 (wrap64 (((rd_T68 x7_2 (Go.bits .andNot .i64 x8_1 (ji24))).f1) + (rd l1 x37_2))))) (fun _ hk => hk.2) (.int .i64 x37_2)) (fun _ hk => hk.1.2)⟩
                    have n1_ : Aside0 ((((((w55.setCell ⟨gb124, 0, none⟩ (.int .i64 ((rd_T68 x7_2 (Go.bits .andNot .i64 x8_1 (ji24))).f0))).setCell ⟨gb124, 1, none⟩ (.int .i64 ((rd_T68 x7_2 (Go.bits .andNot .i64 x8_1 (ji24))).f1))).setCell ⟨gb124, 2, none⟩ (.int .i64 ((rd_T68 x7_2 (Go.bits .andNot .i64 x8_1 (ji24))).f2))).setCell ⟨gb124, 1, none⟩ (.int .i64 (wrap64 (((rd_T68 x7_2 (Go.bits .andNot .i64 x8_1 (ji24))).f1) + (rd l1 x37_2))))).setCell ⟨gb124, 2, none⟩ (.int .i64 x37_2)).heap[gb124]? = some (.cells #[.int .i64 ((rd_T68 x7_2 (Go.bits .andNot .i64 x8_1 (ji24))).f0), .int .i64 (wrap64 (((rd_T68 x7_2 (Go.bits .andNot .i64 x8_1 (ji24))).f1) + (rd l1 x37_2))), .int .i64 x37_2] 68 (0, 0))) := ⟨by (with_reducible repeat (first | refine blk_drewN ?_ _ | refine blk_drew ?_ | refine blk_alloc ?_ _)); refine blk_put (cs := #[.int .i64 ((rd_T68 x7_2 (Go.bits .andNot .i64 x8_1 (ji24))).f0), .int .i64 (wrap64 (((rd_T68 x7_2 (Go.bits .andNot .i64 x8_1 (ji24))).f1) + (rd l1 x37_2))), .int .i64 ((rd_T68 x7_2 (Go.bits .andNot .i64 x8_1 (ji24))).f2)]) ?_ 2 _ rfl; (with_reducible repeat (first | refine blk_drewN ?_ _ | refine blk_drew ?_ | refine blk_alloc ?_ _)); refine blk_put (cs := #[.int .i64 ((rd_T68 x7_2 (Go.bits .andNot .i64 x8_1 (ji24))).f0), .int .i64 ((rd_T68 x7_2 (Go.bits .andNot .i64 x8_1 (ji24))).f1), .int .i64 ((rd_T68 x7_2 (Go.bits .andNot .i64 x8_1 (ji24))).f2)]) ?_ 1 _ rfl; (with_reducible repeat (first | refine blk_drewN ?_ _ | refine blk_drew ?_ | refine blk_alloc ?_ _)); refine blk_put (cs := #[.int .i64 ((rd_T68 x7_2 (Go.bits .andNot .i64 x8_1 (ji24))).f0), .int .i64 ((rd_T68 x7_2 (Go.bits .andNot .i64 x8_1 (ji24))).f1), .int .i64 0]) ?_ 2 _ rfl; (with_reducible repeat (first | refine blk_drewN ?_ _ | refine blk_drew ?_ | refine blk_alloc ?_ _)); refine blk_put (cs := #[.int .i64 ((rd_T68 x7_2 (Go.bits .andNot .i64 x8_1 (ji24))).f0), .int .i64 0, .int .i64 0]) ?_ 1 _ rfl; (with_reducible repeat (first | refine blk_drewN ?_ _ | refine blk_drew ?_ | refine blk_alloc ?_ _)); refine blk_put (cs := #[.int .i64 0, .int .i64 0, .int .i64 0]) ?_ 0 _ rfl; (with_reducible repeat (first | refine blk_drewN ?_ _ | refine blk_drew ?_ | refine blk_alloc ?_ _)); exact BK124.out⟩
                    have n2_ : Aside0 (Below w.heap.size w (((((w55.setCell ⟨gb124, 0, none⟩ (.int .i64 ((rd_T68 x7_2 (Go.bits .andNot .i64 x8_1 (ji24))).f0))).setCell ⟨gb124, 1, none⟩ (.int .i64 ((rd_T68 x7_2 (Go.bits .andNot .i64 x8_1 (ji24))).f1))).setCell ⟨gb124, 2, none⟩ (.int .i64 ((rd_T68 x7_2 (Go.bits .andNot .i64 x8_1 (ji24))).f2))).setCell ⟨gb124, 1, none⟩ (.int .i64 (wrap64 (((rd_T68 x7_2 (Go.bits .andNot .i64 x8_1 (ji24))).f1) + (rd l1 x37_2))))).setCell ⟨gb124, 2, none⟩ (.int .i64 x37_2))) := ⟨by repeat (first | (with_reducible first | exact HB.out | apply below_alloc | apply pw_below_drewN | apply below_drew1 | refine below_set ?_ GE124.out) | exact HB.out)⟩
                    (try clear HO_7)
                    (try clear BK124)
                    (try clear HB)
                    generalize (((((w55.setCell ⟨gb124, 0, none⟩ (.int .i64 ((rd_T68 x7_2 (Go.bits .andNot .i64 x8_1 (ji24))).f0))).setCell ⟨gb124, 1, none⟩ (.int .i64 ((rd_T68 x7_2 (Go.bits .andNot .i64 x8_1 (ji24))).f1))).setCell ⟨gb124, 2, none⟩ (.int .i64 ((rd_T68 x7_2 (Go.bits .andNot .i64 x8_1 (ji24))).f2))).setCell ⟨gb124, 1, none⟩ (.int .i64 (wrap64 (((rd_T68 x7_2 (Go.bits .andNot .i64 x8_1 (ji24))).f1) + (rd l1 x37_2))))).setCell ⟨gb124, 2, none⟩ (.int .i64 x37_2)) = w57 at n0_ n1_ n2_ ⊢
                    have HO_7 := n0_
                    have BK124 := n1_
                    have HB := n2_
                    clear n0_ n1_ n2_
                    have n0_ := Aside0.mk (Kd.R_drew HO_7.out)
                    have n1_ := Aside0.mk (blk_drew BK124.out)
                    have n2_ := Aside0.mk (below_drew1 HB.out)
                    clear HO_7
                    clear BK124
                    clear HB
                    have HO_7 := n0_
                    have BK124 := n1_
                    have HB := n2_
                    clear n0_ n1_ n2_
                    have p132 : 0 ≤ (x8_1 : Int) := of_decide_eq_true (by assumption)
                    have q132 : x8_1 < (x7_2.length : Int) := of_decide_eq_true (by assumption)
                    obtain ⟨ad132, e132, hx132_0, hx132_1, hx132_2⟩ := at_T68 (Kd.R_reads' HO_7.out).2.2 x8_1 p132 q132
                    obtain rfl : (⟨go13, 0, none⟩ : Addr) = ad132 := (by injection e132)
                    (first | simp only [add_plain] at hx132_0 | simp only [add_at] at hx132_0 | simp only [Addr.add, Nat.zero_add] at hx132_0 | skip)
                    (first | simp only [add_plain] at hx132_1 | simp only [add_at] at hx132_1 | simp only [Addr.add, Nat.zero_add] at hx132_1 | skip)
                    (first | simp only [add_plain] at hx132_2 | simp only [add_at] at hx132_2 | simp only [Addr.add, Nat.zero_add] at hx132_2 | skip)
                    replace p132 := eq_true p132
                    replace q132 := eq_true q132
                    have p133 : 0 ≤ (x8_1 : Int) := of_decide_eq_true (by assumption)
                    have q133 : x8_1 < (x7_2.length : Int) := of_decide_eq_true (by assumption)
                    obtain ⟨ad133, e133, hx133_0, hx133_1, hx133_2⟩ := at_T68 (Kd.R_reads' HO_7.out).2.2 x8_1 p133 q133
                    obtain rfl : (⟨go13, 0, none⟩ : Addr) = ad133 := (by injection e133)
                    (first | simp only [add_plain] at hx133_0 | simp only [add_at] at hx133_0 | simp only [Addr.add, Nat.zero_add] at hx133_0 | skip)
                    (first | simp only [add_plain] at hx133_1 | simp only [add_at] at hx133_1 | simp only [Addr.add, Nat.zero_add] at hx133_1 | skip)
                    (first | simp only [add_plain] at hx133_2 | simp only [add_at] at hx133_2 | simp only [Addr.add, Nat.zero_add] at hx133_2 | skip)
                    replace p133 := eq_true p133
                    replace q133 := eq_true q133
                    as_aux_lemma =>
                    refine start_ (n := 16) (S := fun w' => w'.cell? ⟨gb124, 0, none⟩ = some (.int .i64 ((rd_T68 x7_2 (Go.bits .andNot .i64 x8_1 (ji24))).f0)) ∧ w'.cell? ⟨gb124, 1, none⟩ = some (.int .i64 (wrap64 (((rd_T68 x7_2 (Go.bits .andNot .i64 x8_1 (ji24))).f1) + (rd l1 x37_2)))) ∧ w'.cell? ⟨gb124, 2, none⟩ = some (.int .i64 x37_2) ∧ w'.cell? ⟨go13, (x8_1).toNat * 3, none⟩ = some (.int .i64 ((rd_T68 x7_2 x8_1).f0)) ∧ w'.cell? ⟨go13, (x8_1).toNat * 3 + 1, none⟩ = some (.int .i64 ((rd_T68 x7_2 x8_1).f1)) ∧ w'.cell? ⟨go13, (x8_1).toNat * 3 + 2, none⟩ = some (.int .i64 ((rd_T68 x7_2 x8_1).f2)) ∧ w'.cell? ⟨go13, (x8_1).toNat * 3, none⟩ = some (.int .i64 ((rd_T68 x7_2 x8_1).f0)) ∧ w'.cell? ⟨go13, (x8_1).toNat * 3 + 1, none⟩ = some (.int .i64 ((rd_T68 x7_2 x8_1).f1)) ∧ w'.cell? ⟨go13, (x8_1).toNat * 3 + 2, none⟩ = some (.int .i64 ((rd_T68 x7_2 x8_1).f2))) (ds := []) #[false,false,false,false,false,false,false,false,false,false,false,false,false,false,false,false] (by kernel_rfl) rfl rfl ⟨(blk_cell BK124.out 0).trans rfl, (blk_cell BK124.out 1).trans rfl, (blk_cell BK124.out 2).trans rfl, hx132_0, hx132_1, hx132_2, hx133_0, hx133_1, hx133_2⟩ (fun hHeld => ?_); refine with_tabW remnant_Fill.tab17 remnant_Fill.bits17 (fun HT_ HW_ => ?_)
                    generalize w57.drew = w58 at HO_7 BK124 HB hx132_0 hx132_1 hx132_2 hx133_0 hx133_1 hx133_2 hHeld ⊢
                    refine pure_ (i := 0) (N := some 70) (v := ?_) (a' := ?_) #[true,false,false,false,false,false,false,false,false,false,false,false,false,false,false,false] rfl rfl (any_of HT_.out (by kernel_rfl)) (fun _ _ _ h => h) (Or.inl ⟨by rfl, ?_⟩) ?_ ?_
                    rotate_left
                    ·
                     intro w'
                     go_simp
                     with_reducible rfl
                    rotate_left
                    ·
                     simp only [Act.put, Hand.s0_, List.set_cons_zero, Hand.s1_, i64_w, i32_w]
                     rfl
                    refine pure_ (i := 2) (N := some 72) (v := ?_) (a' := ?_) #[true,false,true,false,false,false,false,false,false,false,false,false,false,false,false,false] rfl rfl (any_of HT_.out (by kernel_rfl)) (fun _ _ _ h => h) (Or.inl ⟨by rfl, ?_⟩) ?_ ?_
                    rotate_left
                    ·
                     intro w'
                     go_simp
                     with_reducible rfl
                    rotate_left
                    ·
                     simp only [Act.put, Hand.s0_, List.set_cons_zero, Hand.s1_, i64_w, i32_w]
                     rfl
                    refine pure_ (i := 3) (N := some 73) (v := ?_) (a' := ?_) #[true,false,true,true,false,false,false,false,false,false,false,false,false,false,false,false] rfl rfl (any_of HT_.out (by kernel_rfl)) (fun _ _ _ h => h) (Or.inl ⟨by rfl, ?_⟩) ?_ ?_
                    rotate_left
                    ·
                     intro w'
                     go_simp
                     with_reducible rfl
                    rotate_left
                    ·
                     simp only [Act.put, Hand.s0_, List.set_cons_zero, Hand.s1_, i64_w, i32_w]
                     rfl
                    refine pure_ (i := 4) (N := some 74) (v := ?_) (a' := ?_) #[true,false,true,true,true,false,false,false,false,false,false,false,false,false,false,false] rfl rfl (any_of HT_.out (by kernel_rfl)) (fun _ _ _ h => h) (Or.inl ⟨by rfl, ?_⟩) ?_ ?_
                    rotate_left
                    ·
                     intro w'
                     go_simp
                     with_reducible rfl
                    rotate_left
                    ·
                     simp only [Act.put, Hand.s0_, List.set_cons_zero, Hand.s1_, i64_w, i32_w]
                     rfl
                    refine pure_ (i := 5) (N := some 75) (v := ?_) (a' := ?_) #[true,false,true,true,true,true,false,false,false,false,false,false,false,false,false,false] rfl rfl (any_of HT_.out (by kernel_rfl)) (fun _ _ _ h => h) (Or.inl ⟨by rfl, ?_⟩) ?_ ?_
                    rotate_left
                    ·
                     intro w'
                     go_simp
                     with_reducible rfl
                    rotate_left
                    ·
                     simp only [Act.put, Hand.s0_, List.set_cons_zero, Hand.s1_, i64_w, i32_w]
                     rfl
                    refine pure_ (i := 7) (N := some 77) (v := ?_) (a' := ?_) #[true,false,true,true,true,true,false,true,false,false,false,false,false,false,false,false] rfl rfl (any_of HT_.out (by kernel_rfl)) (fun _ _ _ h => h) (Or.inl ⟨by rfl, ?_⟩) ?_ ?_
                    rotate_left
                    ·
                     intro w'
                     go_simp
                     with_reducible rfl
                    rotate_left
                    ·
                     simp only [Act.put, Hand.s0_, List.set_cons_zero, Hand.s1_, i64_w, i32_w]
                     rfl
                    refine pure_ (i := 9) (N := some 79) (v := ?_) (a' := ?_) #[true,false,true,true,true,true,false,true,false,true,false,false,false,false,false,false] rfl rfl (any_of HT_.out (by kernel_rfl)) (fun _ _ _ h => h) (Or.inl ⟨by rfl, ?_⟩) ?_ ?_
                    rotate_left
                    ·
                     intro w'
                     go_simp
                     with_reducible rfl
                    rotate_left
                    ·
                     simp only [Act.put, Hand.s0_, List.set_cons_zero, Hand.s1_, i64_w, i32_w]
                     rfl
                    refine pure_ (i := 10) (N := some 80) (v := ?_) (a' := ?_) #[true,false,true,true,true,true,false,true,false,true,true,false,false,false,false,false] rfl rfl (any_of HT_.out (by kernel_rfl)) (fun _ _ _ h => h) (Or.inl ⟨by rfl, ?_⟩) ?_ ?_
                    rotate_left
                    ·
                     intro w'
                     go_simp
                     with_reducible rfl
                    rotate_left
                    ·
                     simp only [Act.put, Hand.s0_, List.set_cons_zero, Hand.s1_, i64_w, i32_w]
                     rfl
                    refine pure_ (i := 11) (N := some 81) (v := ?_) (a' := ?_) #[true,false,true,true,true,true,false,true,false,true,true,true,false,false,false,false] rfl rfl (any_of HT_.out (by kernel_rfl)) (fun _ _ _ h => h) (Or.inl ⟨by rfl, ?_⟩) ?_ ?_
                    rotate_left
                    ·
                     intro w'
                     go_simp
                     with_reducible rfl
                    rotate_left
                    ·
                     simp only [Act.put, Hand.s0_, List.set_cons_zero, Hand.s1_, i64_w, i32_w]
                     rfl
                    refine pure_ (i := 12) (N := some 82) (v := ?_) (a' := ?_) #[true,false,true,true,true,true,false,true,false,true,true,true,true,false,false,false] rfl rfl (any_of HT_.out (by kernel_rfl)) (fun _ _ _ h => h) (Or.inl ⟨by rfl, ?_⟩) ?_ ?_
                    rotate_left
                    ·
                     intro w'
                     go_simp
                     with_reducible rfl
                    rotate_left
                    ·
                     simp only [Act.put, Hand.s0_, List.set_cons_zero, Hand.s1_, i64_w, i32_w]
                     rfl
                    refine take_ (i := 1) (N := some 71) (v := ?_) (a' := ?_) #[true,true,true,true,true,true,false,true,false,true,true,true,true,false,false,false] rfl rfl (take_ofW HT_.out HW_.out (by kernel_rfl)) (fun _ _ _ h => h) (Or.inl ⟨by rfl, ?_⟩) hHeld ?_ ?_
                    rotate_left
                    ·
                     rintro w' ⟨s0, s1, s2, s3, s4, s5, s6, s7, s8⟩
                     go_simp
                     with_reducible rfl
                    rotate_left
                    ·
                     simp only [Act.put, Hand.s0_, List.set_cons_zero, Hand.s1_, i64_w, i32_w]
                     rfl
                    refine take_ (i := 6) (N := some 76) (v := ?_) (a' := ?_) #[true,true,true,true,true,true,true,true,false,true,true,true,true,false,false,false] rfl rfl (take_ofW HT_.out HW_.out (by kernel_rfl)) (fun _ _ _ h => h) (Or.inl ⟨by rfl, ?_⟩) hHeld ?_ ?_
                    rotate_left
                    ·
                     rintro w' ⟨s0, s1, s2, s3, s4, s5, s6, s7, s8⟩
                     go_simp
                     with_reducible rfl
                    rotate_left
                    ·
                     simp only [Act.put, Hand.s0_, List.set_cons_zero, Hand.s1_, i64_w, i32_w]
                     rfl
                    refine take_ (i := 8) (N := some 78) (v := ?_) (a' := ?_) #[true,true,true,true,true,true,true,true,true,true,true,true,true,false,false,false] rfl rfl (take_ofW HT_.out HW_.out (by kernel_rfl)) (fun _ _ _ h => h) (Or.inl ⟨by rfl, ?_⟩) hHeld ?_ ?_
                    rotate_left
                    ·
                     rintro w' ⟨s0, s1, s2, s3, s4, s5, s6, s7, s8⟩
                     go_simp
                     with_reducible rfl
                    rotate_left
                    ·
                     simp only [Act.put, Hand.s0_, List.set_cons_zero, Hand.s1_, i64_w, i32_w]
                     rfl
                    refine take_ (i := 13) (N := some 83) (v := ?_) (a' := ?_) #[true,true,true,true,true,true,true,true,true,true,true,true,true,true,false,false] rfl rfl (take_ofW HT_.out HW_.out (by kernel_rfl)) (fun _ _ _ h => h) (Or.inl ⟨by rfl, ?_⟩) hHeld ?_ ?_
                    rotate_left
                    ·
                     rintro w' ⟨s0, s1, s2, s3, s4, s5, s6, s7, s8⟩
                     go_simp
                     with_reducible rfl
                    rotate_left
                    ·
                     simp only [Act.put, Hand.s0_, List.set_cons_zero, Hand.s1_, i64_w, i32_w]
                     rfl
                    refine one_ (i := 14) (N := some 84) #[true,true,true,true,true,true,true,true,true,true,true,true,true,true,true,false] rfl rfl (one_of HT_.out (by kernel_rfl)) (by decide) (fun K hK => ?_)
                    refine Kd.R_lit_step (Kd.int .i64) _ 3 ?hg (N := 84) ?hd (xs := ([(rd_T68 x7_2 (Go.bits .andNot .i64 x8_1 (ji24))).f0, (rd_T68 x7_2 x8_1).f0, wrap64 (((rd_T68 x7_2 (Go.bits .andNot .i64 x8_1 (ji24))).f1) + (rd l1 x37_2)), (rd_T68 x7_2 x8_1).f1] : List Int)) (inner := [.int .i64 ((rd_T68 x7_2 (Go.bits .andNot .i64 x8_1 (ji24))).f0), .int .i64 ((rd_T68 x7_2 x8_1).f0), .int .i64 (wrap64 (((rd_T68 x7_2 (Go.bits .andNot .i64 x8_1 (ji24))).f1) + (rd l1 x37_2))), .int .i64 ((rd_T68 x7_2 x8_1).f1)]) (ok := fun _ => True) (okp := fun _ => True) ?hr ?hp (fun _ hk => hk) trivial (Below.refl _ _) (Nat.le_refl _) (by simp) ?_; (case hd => rfl); (case hg => rfl); (case hr => first | (go_simp; done) | (go_simp; rfl)); (case hp => exact (Reps.one (show Kd.M (Kd.int .i64) _ _ _ ((rd_T68 x7_2 (Go.bits .andNot .i64 x8_1 (ji24))).f0) [.int .i64 ((rd_T68 x7_2 (Go.bits .andNot .i64 x8_1 (ji24))).f0)] from rfl) (Reps.one (show Kd.M (Kd.int .i64) _ _ _ ((rd_T68 x7_2 x8_1).f0) [.int .i64 ((rd_T68 x7_2 x8_1).f0)] from rfl) (Reps.one (show Kd.M (Kd.int .i64) _ _ _ (wrap64 (((rd_T68 x7_2 (Go.bits .andNot .i64 x8_1 (ji24))).f1) + (rd l1 x37_2))) [.int .i64 (wrap64 (((rd_T68 x7_2 (Go.bits .andNot .i64 x8_1 (ji24))).f1) + (rd l1 x37_2)))] from rfl) (Reps.one (show Kd.M (Kd.int .i64) _ _ _ ((rd_T68 x7_2 x8_1).f1) [.int .i64 ((rd_T68 x7_2 x8_1).f1)] from rfl) (Reps.none _ _))))))
                    intro v135 w59 ho60 hb hg_ hnew_
                    have HS3_ := (hb.cell (World.block_lt_of_cell? _ _ (hHeld.2.2.2.1))).trans (hHeld.2.2.2.1)
                    have HS4_ := (hb.cell (World.block_lt_of_cell? _ _ (hHeld.2.2.2.2.1))).trans (hHeld.2.2.2.2.1)
                    have HS5_ := (hb.cell (World.block_lt_of_cell? _ _ (hHeld.2.2.2.2.2.1))).trans (hHeld.2.2.2.2.2.1)
                    have HS6_ := (hb.cell (World.block_lt_of_cell? _ _ (hHeld.2.2.2.2.2.2.1))).trans (hHeld.2.2.2.2.2.2.1)
                    have HS7_ := (hb.cell (World.block_lt_of_cell? _ _ (hHeld.2.2.2.2.2.2.2.1))).trans (hHeld.2.2.2.2.2.2.2.1)
                    have HS8_ := (hb.cell (World.block_lt_of_cell? _ _ (hHeld.2.2.2.2.2.2.2.2))).trans (hHeld.2.2.2.2.2.2.2.2)
                    clear hg_ hnew_
                    (first | rw [← Ny134.out] at ho60 | (simp only [Int.reduceToNat] at ho60; rw [← Ny134.out] at ho60))
                    have n0_ := Aside0.mk (Kd.R_below (by (with_reducible repeat (first | apply Kd.R_alloc | apply Kd.R_drewN | apply Kd.R_drew)); exact HO_7.out) hb)
                    have n1_ := Aside0.mk (Kd.R_lower ho60 (below_size (by repeat (first | (with_reducible first | exact HB.out | apply below_alloc | apply pw_below_drewN | apply below_drew1 | refine below_set ?_ GE124.out) | exact HB.out))))
                    have n2_ := Aside0.mk (blk_below (g := gb124) (o := .cells #[.int .i64 ((rd_T68 x7_2 (Go.bits .andNot .i64 x8_1 (ji24))).f0), .int .i64 (wrap64 (((rd_T68 x7_2 (Go.bits .andNot .i64 x8_1 (ji24))).f1) + (rd l1 x37_2))), .int .i64 x37_2] 68 (0, 0)) (by (with_reducible repeat (first | refine blk_drewN ?_ _ | refine blk_drew ?_ | refine blk_alloc ?_ _)); exact BK124.out) hb)
                    have n3_ := Aside0.mk (below_step (by repeat (first | (with_reducible first | exact HB.out | apply below_alloc | apply pw_below_drewN | apply below_drew1 | refine below_set ?_ GE124.out) | exact HB.out)) hb)
                    clear HO_7
                    clear BK124
                    clear HB
                    have HO_7 := n0_
                    have HO136 := n1_
                    have BK124 := n2_
                    have HB := n3_
                    clear n0_ n1_ n2_ n3_
                    clear hb ho60
                    obtain ⟨Ao61, co61, eo61⟩ := Kd.R_slice HO136.out
                    (first | subst eo61 | (injection eo61 with f1_ f2_ f3_; have f4_ := f1_.symm; have f5_ := f3_.symm; clear f1_ f2_ f3_; subst f4_; subst f5_))
                    refine hK.out _ _ ⟨(blk_cell BK124.out 0).trans rfl, (blk_cell BK124.out 1).trans rfl, (blk_cell BK124.out 2).trans rfl, HS3_, HS4_, HS5_, HS6_, HS7_, HS8_⟩ (fun hHeld => ?_)
                    clear hK K
                    refine norm_ (a' := ?_) ?_ ?_
                    rotate_left
                    ·
                     show Act.put _ (some 84) _ = _
                     simp only [Act.put, Hand.s0_, List.set_cons_zero, Hand.s1_, i64_w, i32_w]
                     rfl
                    refine one_ (i := 15) (N := some 85) #[true,true,true,true,true,true,true,true,true,true,true,true,true,true,true,true] rfl rfl (one_of HT_.out (by kernel_rfl)) (by decide) (fun K hK => ?_)
                    refine goes_ Try.func63 (by kernel_rfl) rfl #[.slice Ao61 y134.length co61] (by rfl) rfl rfl (by (try simp only [List.map_toArray, List.map_cons, List.map_nil]); first | done | rfl | (simp only [List.length_drop, List.length_take]; rfl)) ?_
                    with_reducible refine (remnant_more.calls k2 _ _ y134 true _ ?side1 ?side2 A52.out).mono ?_
                    (case side1 => repeat (first | exact (Kd.R_reads' HO136.out).2.2 | (with_reducible refine Kd.C_alloc ?_ _) | (with_reducible refine Kd.C_drewN ?_ _) | (with_reducible refine Kd.C_drew ?_)))
                    (case side2 => exact (Kd.R_reads' HO136.out).2.1)
                    rintro e w' ⟨rfl, ⟨nd, rfl⟩⟩
                    refine ⟨_, rfl, ?_⟩
                    refine hK.out _ _ ⟨(blk_cell BK124.out 0).trans rfl, (blk_cell BK124.out 1).trans rfl, (blk_cell BK124.out 2).trans rfl, hHeld.2.2.2.1, hHeld.2.2.2.2.1, hHeld.2.2.2.2.2.1, hHeld.2.2.2.2.2.2.1, hHeld.2.2.2.2.2.2.2.1, hHeld.2.2.2.2.2.2.2.2⟩ (fun hHeld => ?_)
                    clear hK K
                    refine norm_ (a' := ?_) ?_ ?_
                    rotate_left
                    ·
                     show Act.put _ (some 85) _ = _
                     simp only [Act.put, Hand.s0_, List.set_cons_zero, Hand.s1_, i64_w, i32_w]
                     rfl
                    refine done_ (done_of HT_.out (by kernel_rfl)) ?_
                    obtain ⟨w59, hq_⟩ : ∃ w_ : World, World.drewN w59 nd = w_ := ⟨_, rfl⟩
                    rw [hq_]
                    have n0_ := Aside0.mk (Kd.R_at hq_ HO_7.out)
                    have n1_ := Aside0.mk (Kd.R_at hq_ HO136.out)
                    have n2_ := Aside0.mk (below_at hq_ HB.out)
                    have n3_ := BK124.out
                    replace n3_ := (congrArg (fun w_ : World => w_.heap[gb124]?) hq_).symm.trans n3_
                    clear hq_ HO_7 HO136 HB BK124
                    have HO_7 := n0_
                    have HO136 := n1_
                    have HB := n2_
                    have BK124 := Aside0.mk n3_
                    clear n0_ n1_ n2_ n3_
                    have hcz62_0 : w59.cell? ⟨gb124, 0, none⟩ = some (.int .i64 ((rd_T68 x7_2 (Go.bits .andNot .i64 x8_1 (ji24))).f0)) := (blk_cell BK124.out 0).trans rfl
                    have hcz62_1 : w59.cell? ⟨gb124, 1, none⟩ = some (.int .i64 (wrap64 (((rd_T68 x7_2 (Go.bits .andNot .i64 x8_1 (ji24))).f1) + (rd l1 x37_2)))) := (blk_cell BK124.out 1).trans rfl
                    have hcz62_2 : w59.cell? ⟨gb124, 2, none⟩ = some (.int .i64 x37_2) := (blk_cell BK124.out 2).trans rfl
                    have hfz62_0 := blk_frozen BK124.out 0
                    have hfz62_1 := blk_frozen BK124.out 1
                    have hfz62_2 := blk_frozen BK124.out 2
                    have p54 : 0 ≤ (x8_1 : Int) := of_decide_eq_true (by assumption)
                    have q54 : (x8_1 : Int) < ((x7_2.length : Int) : Int) := of_decide_eq_true (by assumption)
                    obtain ⟨ce54, hcl54, hM54, hcc54, hfr54⟩ := Kd.R_elem HO_7.out z68 (x8_1 : Int) p54 q54
                    obtain rfl := k68_openM hM54
                    have hx54_0 : w59.cell? ⟨go13, (x8_1 : Int).toNat * 3, none⟩ = some (.int .i64 ((rd_T68 x7_2 x8_1).f0)) := hcc54 0 _ rfl
                    have hx54_1 : w59.cell? ⟨go13, (x8_1 : Int).toNat * 3 + 1, none⟩ = some (.int .i64 ((rd_T68 x7_2 x8_1).f1)) := hcc54 1 _ rfl
                    have hx54_2 : w59.cell? ⟨go13, (x8_1 : Int).toNat * 3 + 2, none⟩ = some (.int .i64 ((rd_T68 x7_2 x8_1).f2)) := hcc54 2 _ rfl
                    have hf54_0 : w59.frozen? ⟨go13, (x8_1 : Int).toNat * 3, none⟩ = false := hfr54 0
                    have hf54_1 : w59.frozen? ⟨go13, (x8_1 : Int).toNat * 3 + 1, none⟩ = false := hfr54 1
                    have hf54_2 : w59.frozen? ⟨go13, (x8_1 : Int).toNat * 3 + 2, none⟩ = false := hfr54 2
                    clear hcl54 hcc54 hfr54 hM54
                    replace p54 := eq_true p54
                    replace q54 := eq_true q54
                    have HX63 := Aside0.mk (show Kd.R k68 68 w59 w.heap.size (fun k_ => k_ ≠ gb124) (.slice (some ⟨go13, 0, none⟩) x7_2.length co14) x7_2 from (by (with_reducible repeat (first | apply Kd.R_alloc | apply Kd.R_drewN | apply Kd.R_drew)); exact HO_7.out))
                    obtain ⟨ce63, hcl63, hM63, hcc63, hfr63⟩ := Kd.R_elem HX63.out z68 (x8_1 : Int) (of_decide_eq_true (by assumption)) (by have h_ : (x8_1 : Int) < ((x7_2.length : Int) : Int) := of_decide_eq_true (by assumption); first | exact h_ | (have e_ := (Kd.R_reads' HO_7.out).1; omega) | simpa using h_)
                    obtain rfl := k68_openM hM63
                    have HP63 := Kd.R_seg HX63.out (x8_1 : Int) (of_decide_eq_true (by assumption)) (by have h_ : (x8_1 : Int) < ((x7_2.length : Int) : Int) := of_decide_eq_true (by assumption); first | exact h_ | (have e_ := (Kd.R_reads' HO_7.out).1; omega) | simpa using h_) (seg := [.int .i64 ((rd_T68 x7_2 (Go.bits .andNot .i64 x8_1 (ji24))).f0), .int .i64 (wrap64 (((rd_T68 x7_2 (Go.bits .andNot .i64 x8_1 (ji24))).f1) + (rd l1 x37_2))), .int .i64 x37_2]) (j := 0) hcl63 hcc63 (show 3 ≤ 3 from by decide) (x' := (⟨(rd_T68 x7_2 (Go.bits .andNot .i64 x8_1 (ji24))).f0, wrap64 (((rd_T68 x7_2 (Go.bits .andNot .i64 x8_1 (ji24))).f1) + (rd l1 x37_2)), x37_2⟩ : S68)) (k68_mkM _ _ _ (⟨(rd_T68 x7_2 (Go.bits .andNot .i64 x8_1 (ji24))).f0, wrap64 (((rd_T68 x7_2 (Go.bits .andNot .i64 x8_1 (ji24))).f1) + (rd l1 x37_2)), x37_2⟩ : S68) ) (fun _ hk => hk)
                    have hx63_0 := hcc63 0 _ rfl
                    (try simp only [show (k68).sz = 3 from rfl, Nat.mul_one, Nat.add_zero] at hx63_0)
                    have hf63_0 := hfr63 0
                    (try simp only [show (k68).sz = 3 from rfl, Nat.mul_one, Nat.add_zero] at hf63_0)
                    have hx63_1 := hcc63 1 _ rfl
                    (try simp only [show (k68).sz = 3 from rfl, Nat.mul_one, Nat.add_zero] at hx63_1)
                    have hf63_1 := hfr63 1
                    (try simp only [show (k68).sz = 3 from rfl, Nat.mul_one, Nat.add_zero] at hf63_1)
                    have hx63_2 := hcc63 2 _ rfl
                    (try simp only [show (k68).sz = 3 from rfl, Nat.mul_one, Nat.add_zero] at hx63_2)
                    have hf63_2 := hfr63 2
                    (try simp only [show (k68).sz = 3 from rfl, Nat.mul_one, Nat.add_zero] at hf63_2)
                    clear hcl63 hcc63 hfr63 hM63
                    try go_wp2_with (first | ((with_reducible refine gate_store (t := 68) (p := 89) rfl ?_); refine store_event (t := 68) (p := 89) (v := ?vo_w64) (w1 := (((w59.setCell ⟨go13, (x8_1 : Int).toNat * 3, none⟩ (.int .i64 ((rd_T68 x7_2 (Go.bits .andNot .i64 x8_1 (ji24))).f0))).setCell ⟨go13, (x8_1 : Int).toNat * 3 + 1, none⟩ (.int .i64 (wrap64 (((rd_T68 x7_2 (Go.bits .andNot .i64 x8_1 (ji24))).f1) + (rd l1 x37_2))))).setCell ⟨go13, (x8_1 : Int).toNat * 3 + 2, none⟩ (.int .i64 x37_2))) ?hg ?ho ?hn ?hr ?_; (case ho => rfl); (case hg => rfl); (case hn => rfl); (case hr => first | (go_simp; done) | (go_simp; rfl)); intro w64 hw; have hg : w59.grownBy w64 (some go13) := (by rw [hw]; exact HP63.2); have hp_ : Kd.R k68 68 w64 w.heap.size (fun k_ => k_ ≠ gb124) (.slice (some ⟨go13, 0, none⟩) x7_2.length co14) y138 := (by rw [hw, Ny138.out]; exact HP63.1); clear HP63; have n0_ := Aside0.mk (hp_); have n1_ := Aside0.mk (blk_grown (g := gb124) (o := .cells #[.int .i64 ((rd_T68 x7_2 (Go.bits .andNot .i64 x8_1 (ji24))).f0), .int .i64 (wrap64 (((rd_T68 x7_2 (Go.bits .andNot .i64 x8_1 (ji24))).f1) + (rd l1 x37_2))), .int .i64 x37_2] 68 (0, 0)) (by (with_reducible repeat (first | refine blk_drewN ?_ _ | refine blk_drew ?_ | refine blk_alloc ?_ _)); exact BK124.out) hg (Kd.R_away HO_7.out (fun _ hk => hk))); have n2_ := Aside0.mk (Kd.R_over' (v := (.slice (some ⟨go13, 0, none⟩) x7_2.length co14)) (by (with_reducible repeat (first | apply Kd.R_alloc | apply Kd.R_drewN | apply Kd.R_drew)); exact HO136.out) (Kd.R_typed HO_7.out) (by decide) hg); have n3_ := Aside0.mk ((by rw [hw]; exact below_set (below_set (below_set (HB.out) GB13.out) GB13.out) GB13.out : Below w.heap.size w w64)); clear HO_7; clear BK124; clear HO136; clear HB; have HO_7 := n0_; have BK124 := n1_; have HO136 := n2_; have HB := n3_; clear n0_ n1_ n2_ n3_; clear hg hw hp_))
                    (try simp only [← hl7_2])
                    go_roundg k2
                    case measure => have := HK1.out; have := HK2.out; omega
                    case rel => exact ⟨(y138), (wrap64 (x37_2 + 1)), (by first | rfl | (simp; done) | (simp [*]; done)), H', ⟨by have := HK1.out; have := HK2.out; omega⟩, ⟨by (try simp only [hl7_2]); (with_reducible repeat (first | apply Kd.R_alloc | apply Kd.R_drewN | apply Kd.R_drew)); exact Kd.R_mono HO_7.out (fun _ hk => trivial)⟩, ⟨by repeat (first | (with_reducible first | exact HB.out | apply below_alloc | apply pw_below_drewN | apply below_drew1 | refine below_set ?_ GE124.out) | exact HB.out)⟩⟩
                   ·
                    replace c53 := Bool.eq_false_iff.mpr c53
                    subst c53
                    have H1 : (remnant_Fill.l1 k2 a0 l1 x7_2 x8_1 l1 (l1.length : Int) (wrap64 (x37_2 + 1))) = some (r1, r2, r3) := by rw [if_neg (show ¬ (false = true) by decide)] at H; exact H
                    clear H
                    have H := H1
                    clear H1
                    have H' := Aside0.mk H
                    clear H
                    have p122 : 0 ≤ (x37_2 : Int) := of_decide_eq_true (by assumption)
                    have q122 : x37_2 < (l1.length : Int) := of_decide_eq_true (by assumption)
                    obtain ⟨ad122, e122, hx122_0⟩ := Kd.at_int HR1.out x37_2 p122 q122
                    cases e122
                    replace hx122_0 := (HB.out.cell (World.block_lt_of_cell? w _ hx122_0)).trans hx122_0
                    replace p122 := eq_true p122
                    replace q122 := eq_true q122
                    have p123 : 0 ≤ ((Go.bits .andNot .i64 x8_1 (ji24)) : Int) := of_decide_eq_true (by assumption)
                    have q123 : (Go.bits .andNot .i64 x8_1 (ji24)) < (x7_2.length : Int) := of_decide_eq_true (by assumption)
                    obtain ⟨ad123, e123, hx123_0, hx123_1, hx123_2⟩ := at_T68 (Kd.R_reads' HO_7.out).2.2 (Go.bits .andNot .i64 x8_1 (ji24)) p123 q123
                    obtain rfl : (⟨go13, 0, none⟩ : Addr) = ad123 := (by injection e123)
                    (first | simp only [add_plain] at hx123_0 | simp only [add_at] at hx123_0 | simp only [Addr.add, Nat.zero_add] at hx123_0 | skip)
                    (first | simp only [add_plain] at hx123_1 | simp only [add_at] at hx123_1 | simp only [Addr.add, Nat.zero_add] at hx123_1 | skip)
                    (first | simp only [add_plain] at hx123_2 | simp only [add_at] at hx123_2 | simp only [Addr.add, Nat.zero_add] at hx123_2 | skip)
                    replace p123 := eq_true p123
                    replace q123 := eq_true q123
                    try go_wp2_with (first | ((with_reducible refine gate_dst (N := 11) rfl ?_); refine box_event ?hg (N := 11) ?hd (cs := #[.int .i64 0, .int .i64 0, .int .i64 0]) (t := 68) ?hr ?_; (case hd => rfl); (case hg => rfl); (case hr => first | (go_simp; done) | (go_simp; rfl)); intro gb124 hg w65 hbox hb; have n0_ := Aside0.mk (Kd.R_below (Kd.R_elderB (by (with_reducible repeat (first | apply Kd.R_alloc | apply Kd.R_drewN | apply Kd.R_drew)); exact HO_7.out) gb124 (Nat.le_of_eq hg.symm)) hb); have n1_ := Aside0.mk (below_step (by repeat (first | (with_reducible first | exact HB.out | apply below_alloc | apply pw_below_drewN | apply below_drew1) | exact HB.out)) hb); have n2_ := Aside0.mk (hbox); have n3_ := Aside0.mk ((by rw [hg]; exact (below_size (by repeat (first | (with_reducible first | exact HB.out | apply below_alloc | apply pw_below_drewN | apply below_drew1) | exact HB.out))) : w.heap.size ≤ gb124)); have n4_ := Aside0.mk ((by rw [hg]; exact (below_size (by repeat (first | (with_reducible first | exact HB.out | apply below_alloc | apply pw_below_drewN | apply below_drew1) | exact HB.out))) : w.heap.size ≤ gb124)); clear HO_7; clear HB; have HO_7 := n0_; have HB := n1_; have BK124 := n2_; have GW124 := n3_; have GE124 := n4_; clear n0_ n1_ n2_ n3_ n4_; clear hb hbox hg; have hcz66_0 : w65.cell? ⟨gb124, 0, none⟩ = some (.int .i64 0) := (blk_cell BK124.out 0).trans rfl; have hcz66_1 : w65.cell? ⟨gb124, 1, none⟩ = some (.int .i64 0) := (blk_cell BK124.out 1).trans rfl; have hcz66_2 : w65.cell? ⟨gb124, 2, none⟩ = some (.int .i64 0) := (blk_cell BK124.out 2).trans rfl; have hfz66_0 := blk_frozen BK124.out 0; have hfz66_1 := blk_frozen BK124.out 1; have hfz66_2 := blk_frozen BK124.out 2))
                    have n0_ : Aside0 (Kd.R k68 68 (((((w65.setCell ⟨gb124, 0, none⟩ (.int .i64 ((rd_T68 x7_2 (Go.bits .andNot .i64 x8_1 (ji24))).f0))).setCell ⟨gb124, 1, none⟩ (.int .i64 ((rd_T68 x7_2 (Go.bits .andNot .i64 x8_1 (ji24))).f1))).setCell ⟨gb124, 2, none⟩ (.int .i64 ((rd_T68 x7_2 (Go.bits .andNot .i64 x8_1 (ji24))).f2))).setCell ⟨gb124, 1, none⟩ (.int .i64 (wrap64 (((rd_T68 x7_2 (Go.bits .andNot .i64 x8_1 (ji24))).f1) + (rd l1 x37_2))))).setCell ⟨gb124, 2, none⟩ (.int .i64 x37_2)) w.heap.size (fun k_ => k_ ≠ gb124) (.slice (some ⟨go13, 0, none⟩) x7_2.length co14) x7_2) := ⟨by (with_reducible repeat (first | apply Kd.R_alloc | apply Kd.R_drewN | apply Kd.R_drew)); exact Kd.R_mono (Kd.R_far (p := ⟨gb124, 2, none⟩) (Kd.R_far (p := ⟨gb124, 1, none⟩) (Kd.R_far (p := ⟨gb124, 2, none⟩) (Kd.R_far (p := ⟨gb124, 1, none⟩) (Kd.R_far (p := ⟨gb124, 0, none⟩) (Kd.R_mono HO_7.out (fun k_ hk => (⟨hk, hk.2⟩ : _ ∧ k_ ≠ gb124))) (fun _ hk => hk.2) (.int .i64 ((rd_T68 x7_2 (Go.bits .andNot .i64 x8_1 (ji24))).f0))) (fun _ hk => hk.2) (.int .i64 ((rd_T68 x7_2 (Go.bits .andNot .i64 x8_1 (ji24))).f1))) (fun _ hk => hk.2) (.int .i64 ((rd_T68 x7_2 (Go.bits .andNot .i64 x8_1 (ji24))).f2))) (fun _ hk => hk.2) (.int .i64 (wrap64 (((rd_T68 x7_2 (Go.bits .andNot .i64 x8_1 (ji24))).f1) + (rd l1 x37_2))))) (fun _ hk => hk.2) (.int .i64 x37_2)) (fun _ hk => hk.1.2)⟩
                    have n1_ : Aside0 ((((((w65.setCell ⟨gb124, 0, none⟩ (.int .i64 ((rd_T68 x7_2 (Go.bits .andNot .i64 x8_1 (ji24))).f0))).setCell ⟨gb124, 1, none⟩ (.int .i64 ((rd_T68 x7_2 (Go.bits .andNot .i64 x8_1 (ji24))).f1))).setCell ⟨gb124, 2, none⟩ (.int .i64 ((rd_T68 x7_2 (Go.bits .andNot .i64 x8_1 (ji24))).f2))).setCell ⟨gb124, 1, none⟩ (.int .i64 (wrap64 (((rd_T68 x7_2 (Go.bits .andNot .i64 x8_1 (ji24))).f1) + (rd l1 x37_2))))).setCell ⟨gb124, 2, none⟩ (.int .i64 x37_2)).heap[gb124]? = some (.cells #[.int .i64 ((rd_T68 x7_2 (Go.bits .andNot .i64 x8_1 (ji24))).f0), .int .i64 (wrap64 (((rd_T68 x7_2 (Go.bits .andNot .i64 x8_1 (ji24))).f1) + (rd l1 x37_2))), .int .i64 x37_2] 68 (0, 0))) := ⟨by (with_reducible repeat (first | refine blk_drewN ?_ _ | refine blk_drew ?_ | refine blk_alloc ?_ _)); refine blk_put (cs := #[.int .i64 ((rd_T68 x7_2 (Go.bits .andNot .i64 x8_1 (ji24))).f0), .int .i64 (wrap64 (((rd_T68 x7_2 (Go.bits .andNot .i64 x8_1 (ji24))).f1) + (rd l1 x37_2))), .int .i64 ((rd_T68 x7_2 (Go.bits .andNot .i64 x8_1 (ji24))).f2)]) ?_ 2 _ rfl; (with_reducible repeat (first | refine blk_drewN ?_ _ | refine blk_drew ?_ | refine blk_alloc ?_ _)); refine blk_put (cs := #[.int .i64 ((rd_T68 x7_2 (Go.bits .andNot .i64 x8_1 (ji24))).f0), .int .i64 ((rd_T68 x7_2 (Go.bits .andNot .i64 x8_1 (ji24))).f1), .int .i64 ((rd_T68 x7_2 (Go.bits .andNot .i64 x8_1 (ji24))).f2)]) ?_ 1 _ rfl; (with_reducible repeat (first | refine blk_drewN ?_ _ | refine blk_drew ?_ | refine blk_alloc ?_ _)); refine blk_put (cs := #[.int .i64 ((rd_T68 x7_2 (Go.bits .andNot .i64 x8_1 (ji24))).f0), .int .i64 ((rd_T68 x7_2 (Go.bits .andNot .i64 x8_1 (ji24))).f1), .int .i64 0]) ?_ 2 _ rfl; (with_reducible repeat (first | refine blk_drewN ?_ _ | refine blk_drew ?_ | refine blk_alloc ?_ _)); refine blk_put (cs := #[.int .i64 ((rd_T68 x7_2 (Go.bits .andNot .i64 x8_1 (ji24))).f0), .int .i64 0, .int .i64 0]) ?_ 1 _ rfl; (with_reducible repeat (first | refine blk_drewN ?_ _ | refine blk_drew ?_ | refine blk_alloc ?_ _)); refine blk_put (cs := #[.int .i64 0, .int .i64 0, .int .i64 0]) ?_ 0 _ rfl; (with_reducible repeat (first | refine blk_drewN ?_ _ | refine blk_drew ?_ | refine blk_alloc ?_ _)); exact BK124.out⟩
                    have n2_ : Aside0 (Below w.heap.size w (((((w65.setCell ⟨gb124, 0, none⟩ (.int .i64 ((rd_T68 x7_2 (Go.bits .andNot .i64 x8_1 (ji24))).f0))).setCell ⟨gb124, 1, none⟩ (.int .i64 ((rd_T68 x7_2 (Go.bits .andNot .i64 x8_1 (ji24))).f1))).setCell ⟨gb124, 2, none⟩ (.int .i64 ((rd_T68 x7_2 (Go.bits .andNot .i64 x8_1 (ji24))).f2))).setCell ⟨gb124, 1, none⟩ (.int .i64 (wrap64 (((rd_T68 x7_2 (Go.bits .andNot .i64 x8_1 (ji24))).f1) + (rd l1 x37_2))))).setCell ⟨gb124, 2, none⟩ (.int .i64 x37_2))) := ⟨by repeat (first | (with_reducible first | exact HB.out | apply below_alloc | apply pw_below_drewN | apply below_drew1 | refine below_set ?_ GE124.out) | exact HB.out)⟩
                    (try clear HO_7)
                    (try clear BK124)
                    (try clear HB)
                    generalize (((((w65.setCell ⟨gb124, 0, none⟩ (.int .i64 ((rd_T68 x7_2 (Go.bits .andNot .i64 x8_1 (ji24))).f0))).setCell ⟨gb124, 1, none⟩ (.int .i64 ((rd_T68 x7_2 (Go.bits .andNot .i64 x8_1 (ji24))).f1))).setCell ⟨gb124, 2, none⟩ (.int .i64 ((rd_T68 x7_2 (Go.bits .andNot .i64 x8_1 (ji24))).f2))).setCell ⟨gb124, 1, none⟩ (.int .i64 (wrap64 (((rd_T68 x7_2 (Go.bits .andNot .i64 x8_1 (ji24))).f1) + (rd l1 x37_2))))).setCell ⟨gb124, 2, none⟩ (.int .i64 x37_2)) = w67 at n0_ n1_ n2_ ⊢
                    have HO_7 := n0_
                    have BK124 := n1_
                    have HB := n2_
                    clear n0_ n1_ n2_
                    have n0_ := Aside0.mk (Kd.R_drew HO_7.out)
                    have n1_ := Aside0.mk (blk_drew BK124.out)
                    have n2_ := Aside0.mk (below_drew1 HB.out)
                    clear HO_7
                    clear BK124
                    clear HB
                    have HO_7 := n0_
                    have BK124 := n1_
                    have HB := n2_
                    clear n0_ n1_ n2_
                    have p132 : 0 ≤ (x8_1 : Int) := of_decide_eq_true (by assumption)
                    have q132 : x8_1 < (x7_2.length : Int) := of_decide_eq_true (by assumption)
                    obtain ⟨ad132, e132, hx132_0, hx132_1, hx132_2⟩ := at_T68 (Kd.R_reads' HO_7.out).2.2 x8_1 p132 q132
                    obtain rfl : (⟨go13, 0, none⟩ : Addr) = ad132 := (by injection e132)
                    (first | simp only [add_plain] at hx132_0 | simp only [add_at] at hx132_0 | simp only [Addr.add, Nat.zero_add] at hx132_0 | skip)
                    (first | simp only [add_plain] at hx132_1 | simp only [add_at] at hx132_1 | simp only [Addr.add, Nat.zero_add] at hx132_1 | skip)
                    (first | simp only [add_plain] at hx132_2 | simp only [add_at] at hx132_2 | simp only [Addr.add, Nat.zero_add] at hx132_2 | skip)
                    replace p132 := eq_true p132
                    replace q132 := eq_true q132
                    have p133 : 0 ≤ (x8_1 : Int) := of_decide_eq_true (by assumption)
                    have q133 : x8_1 < (x7_2.length : Int) := of_decide_eq_true (by assumption)
                    obtain ⟨ad133, e133, hx133_0, hx133_1, hx133_2⟩ := at_T68 (Kd.R_reads' HO_7.out).2.2 x8_1 p133 q133
                    obtain rfl : (⟨go13, 0, none⟩ : Addr) = ad133 := (by injection e133)
                    (first | simp only [add_plain] at hx133_0 | simp only [add_at] at hx133_0 | simp only [Addr.add, Nat.zero_add] at hx133_0 | skip)
                    (first | simp only [add_plain] at hx133_1 | simp only [add_at] at hx133_1 | simp only [Addr.add, Nat.zero_add] at hx133_1 | skip)
                    (first | simp only [add_plain] at hx133_2 | simp only [add_at] at hx133_2 | simp only [Addr.add, Nat.zero_add] at hx133_2 | skip)
                    replace p133 := eq_true p133
                    replace q133 := eq_true q133
                    as_aux_lemma =>
                    refine start_ (n := 16) (S := fun w' => w'.cell? ⟨gb124, 0, none⟩ = some (.int .i64 ((rd_T68 x7_2 (Go.bits .andNot .i64 x8_1 (ji24))).f0)) ∧ w'.cell? ⟨gb124, 1, none⟩ = some (.int .i64 (wrap64 (((rd_T68 x7_2 (Go.bits .andNot .i64 x8_1 (ji24))).f1) + (rd l1 x37_2)))) ∧ w'.cell? ⟨gb124, 2, none⟩ = some (.int .i64 x37_2) ∧ w'.cell? ⟨go13, (x8_1).toNat * 3, none⟩ = some (.int .i64 ((rd_T68 x7_2 x8_1).f0)) ∧ w'.cell? ⟨go13, (x8_1).toNat * 3 + 1, none⟩ = some (.int .i64 ((rd_T68 x7_2 x8_1).f1)) ∧ w'.cell? ⟨go13, (x8_1).toNat * 3 + 2, none⟩ = some (.int .i64 ((rd_T68 x7_2 x8_1).f2)) ∧ w'.cell? ⟨go13, (x8_1).toNat * 3, none⟩ = some (.int .i64 ((rd_T68 x7_2 x8_1).f0)) ∧ w'.cell? ⟨go13, (x8_1).toNat * 3 + 1, none⟩ = some (.int .i64 ((rd_T68 x7_2 x8_1).f1)) ∧ w'.cell? ⟨go13, (x8_1).toNat * 3 + 2, none⟩ = some (.int .i64 ((rd_T68 x7_2 x8_1).f2))) (ds := []) #[false,false,false,false,false,false,false,false,false,false,false,false,false,false,false,false] (by kernel_rfl) rfl rfl ⟨(blk_cell BK124.out 0).trans rfl, (blk_cell BK124.out 1).trans rfl, (blk_cell BK124.out 2).trans rfl, hx132_0, hx132_1, hx132_2, hx133_0, hx133_1, hx133_2⟩ (fun hHeld => ?_); refine with_tabW remnant_Fill.tab17 remnant_Fill.bits17 (fun HT_ HW_ => ?_)
                    generalize w67.drew = w68 at HO_7 BK124 HB hx132_0 hx132_1 hx132_2 hx133_0 hx133_1 hx133_2 hHeld ⊢
                    refine pure_ (i := 0) (N := some 70) (v := ?_) (a' := ?_) #[true,false,false,false,false,false,false,false,false,false,false,false,false,false,false,false] rfl rfl (any_of HT_.out (by kernel_rfl)) (fun _ _ _ h => h) (Or.inl ⟨by rfl, ?_⟩) ?_ ?_
                    rotate_left
                    ·
                     intro w'
                     go_simp
                     with_reducible rfl
                    rotate_left
                    ·
                     simp only [Act.put, Hand.s0_, List.set_cons_zero, Hand.s1_, i64_w, i32_w]
                     rfl
                    refine pure_ (i := 2) (N := some 72) (v := ?_) (a' := ?_) #[true,false,true,false,false,false,false,false,false,false,false,false,false,false,false,false] rfl rfl (any_of HT_.out (by kernel_rfl)) (fun _ _ _ h => h) (Or.inl ⟨by rfl, ?_⟩) ?_ ?_
                    rotate_left
                    ·
                     intro w'
                     go_simp
                     with_reducible rfl
                    rotate_left
                    ·
                     simp only [Act.put, Hand.s0_, List.set_cons_zero, Hand.s1_, i64_w, i32_w]
                     rfl
                    refine pure_ (i := 3) (N := some 73) (v := ?_) (a' := ?_) #[true,false,true,true,false,false,false,false,false,false,false,false,false,false,false,false] rfl rfl (any_of HT_.out (by kernel_rfl)) (fun _ _ _ h => h) (Or.inl ⟨by rfl, ?_⟩) ?_ ?_
                    rotate_left
                    ·
                     intro w'
                     go_simp
                     with_reducible rfl
                    rotate_left
                    ·
                     simp only [Act.put, Hand.s0_, List.set_cons_zero, Hand.s1_, i64_w, i32_w]
                     rfl
                    refine pure_ (i := 4) (N := some 74) (v := ?_) (a' := ?_) #[true,false,true,true,true,false,false,false,false,false,false,false,false,false,false,false] rfl rfl (any_of HT_.out (by kernel_rfl)) (fun _ _ _ h => h) (Or.inl ⟨by rfl, ?_⟩) ?_ ?_
                    rotate_left
                    ·
                     intro w'
                     go_simp
                     with_reducible rfl
                    rotate_left
                    ·
                     simp only [Act.put, Hand.s0_, List.set_cons_zero, Hand.s1_, i64_w, i32_w]
                     rfl
                    refine pure_ (i := 5) (N := some 75) (v := ?_) (a' := ?_) #[true,false,true,true,true,true,false,false,false,false,false,false,false,false,false,false] rfl rfl (any_of HT_.out (by kernel_rfl)) (fun _ _ _ h => h) (Or.inl ⟨by rfl, ?_⟩) ?_ ?_
                    rotate_left
                    ·
                     intro w'
                     go_simp
                     with_reducible rfl
                    rotate_left
                    ·
                     simp only [Act.put, Hand.s0_, List.set_cons_zero, Hand.s1_, i64_w, i32_w]
                     rfl
                    refine pure_ (i := 7) (N := some 77) (v := ?_) (a' := ?_) #[true,false,true,true,true,true,false,true,false,false,false,false,false,false,false,false] rfl rfl (any_of HT_.out (by kernel_rfl)) (fun _ _ _ h => h) (Or.inl ⟨by rfl, ?_⟩) ?_ ?_
                    rotate_left
                    ·
                     intro w'
                     go_simp
                     with_reducible rfl
                    rotate_left
                    ·
                     simp only [Act.put, Hand.s0_, List.set_cons_zero, Hand.s1_, i64_w, i32_w]
                     rfl
                    refine pure_ (i := 9) (N := some 79) (v := ?_) (a' := ?_) #[true,false,true,true,true,true,false,true,false,true,false,false,false,false,false,false] rfl rfl (any_of HT_.out (by kernel_rfl)) (fun _ _ _ h => h) (Or.inl ⟨by rfl, ?_⟩) ?_ ?_
                    rotate_left
                    ·
                     intro w'
                     go_simp
                     with_reducible rfl
                    rotate_left
                    ·
                     simp only [Act.put, Hand.s0_, List.set_cons_zero, Hand.s1_, i64_w, i32_w]
                     rfl
                    refine pure_ (i := 10) (N := some 80) (v := ?_) (a' := ?_) #[true,false,true,true,true,true,false,true,false,true,true,false,false,false,false,false] rfl rfl (any_of HT_.out (by kernel_rfl)) (fun _ _ _ h => h) (Or.inl ⟨by rfl, ?_⟩) ?_ ?_
                    rotate_left
                    ·
                     intro w'
                     go_simp
                     with_reducible rfl
                    rotate_left
                    ·
                     simp only [Act.put, Hand.s0_, List.set_cons_zero, Hand.s1_, i64_w, i32_w]
                     rfl
                    refine pure_ (i := 11) (N := some 81) (v := ?_) (a' := ?_) #[true,false,true,true,true,true,false,true,false,true,true,true,false,false,false,false] rfl rfl (any_of HT_.out (by kernel_rfl)) (fun _ _ _ h => h) (Or.inl ⟨by rfl, ?_⟩) ?_ ?_
                    rotate_left
                    ·
                     intro w'
                     go_simp
                     with_reducible rfl
                    rotate_left
                    ·
                     simp only [Act.put, Hand.s0_, List.set_cons_zero, Hand.s1_, i64_w, i32_w]
                     rfl
                    refine pure_ (i := 12) (N := some 82) (v := ?_) (a' := ?_) #[true,false,true,true,true,true,false,true,false,true,true,true,true,false,false,false] rfl rfl (any_of HT_.out (by kernel_rfl)) (fun _ _ _ h => h) (Or.inl ⟨by rfl, ?_⟩) ?_ ?_
                    rotate_left
                    ·
                     intro w'
                     go_simp
                     with_reducible rfl
                    rotate_left
                    ·
                     simp only [Act.put, Hand.s0_, List.set_cons_zero, Hand.s1_, i64_w, i32_w]
                     rfl
                    refine take_ (i := 1) (N := some 71) (v := ?_) (a' := ?_) #[true,true,true,true,true,true,false,true,false,true,true,true,true,false,false,false] rfl rfl (take_ofW HT_.out HW_.out (by kernel_rfl)) (fun _ _ _ h => h) (Or.inl ⟨by rfl, ?_⟩) hHeld ?_ ?_
                    rotate_left
                    ·
                     rintro w' ⟨s0, s1, s2, s3, s4, s5, s6, s7, s8⟩
                     go_simp
                     with_reducible rfl
                    rotate_left
                    ·
                     simp only [Act.put, Hand.s0_, List.set_cons_zero, Hand.s1_, i64_w, i32_w]
                     rfl
                    refine take_ (i := 6) (N := some 76) (v := ?_) (a' := ?_) #[true,true,true,true,true,true,true,true,false,true,true,true,true,false,false,false] rfl rfl (take_ofW HT_.out HW_.out (by kernel_rfl)) (fun _ _ _ h => h) (Or.inl ⟨by rfl, ?_⟩) hHeld ?_ ?_
                    rotate_left
                    ·
                     rintro w' ⟨s0, s1, s2, s3, s4, s5, s6, s7, s8⟩
                     go_simp
                     with_reducible rfl
                    rotate_left
                    ·
                     simp only [Act.put, Hand.s0_, List.set_cons_zero, Hand.s1_, i64_w, i32_w]
                     rfl
                    refine take_ (i := 8) (N := some 78) (v := ?_) (a' := ?_) #[true,true,true,true,true,true,true,true,true,true,true,true,true,false,false,false] rfl rfl (take_ofW HT_.out HW_.out (by kernel_rfl)) (fun _ _ _ h => h) (Or.inl ⟨by rfl, ?_⟩) hHeld ?_ ?_
                    rotate_left
                    ·
                     rintro w' ⟨s0, s1, s2, s3, s4, s5, s6, s7, s8⟩
                     go_simp
                     with_reducible rfl
                    rotate_left
                    ·
                     simp only [Act.put, Hand.s0_, List.set_cons_zero, Hand.s1_, i64_w, i32_w]
                     rfl
                    refine take_ (i := 13) (N := some 83) (v := ?_) (a' := ?_) #[true,true,true,true,true,true,true,true,true,true,true,true,true,true,false,false] rfl rfl (take_ofW HT_.out HW_.out (by kernel_rfl)) (fun _ _ _ h => h) (Or.inl ⟨by rfl, ?_⟩) hHeld ?_ ?_
                    rotate_left
                    ·
                     rintro w' ⟨s0, s1, s2, s3, s4, s5, s6, s7, s8⟩
                     go_simp
                     with_reducible rfl
                    rotate_left
                    ·
                     simp only [Act.put, Hand.s0_, List.set_cons_zero, Hand.s1_, i64_w, i32_w]
                     rfl
                    refine one_ (i := 14) (N := some 84) #[true,true,true,true,true,true,true,true,true,true,true,true,true,true,true,false] rfl rfl (one_of HT_.out (by kernel_rfl)) (by decide) (fun K hK => ?_)
                    refine Kd.R_lit_step (Kd.int .i64) _ 3 ?hg (N := 84) ?hd (xs := ([(rd_T68 x7_2 (Go.bits .andNot .i64 x8_1 (ji24))).f0, (rd_T68 x7_2 x8_1).f0, wrap64 (((rd_T68 x7_2 (Go.bits .andNot .i64 x8_1 (ji24))).f1) + (rd l1 x37_2)), (rd_T68 x7_2 x8_1).f1] : List Int)) (inner := [.int .i64 ((rd_T68 x7_2 (Go.bits .andNot .i64 x8_1 (ji24))).f0), .int .i64 ((rd_T68 x7_2 x8_1).f0), .int .i64 (wrap64 (((rd_T68 x7_2 (Go.bits .andNot .i64 x8_1 (ji24))).f1) + (rd l1 x37_2))), .int .i64 ((rd_T68 x7_2 x8_1).f1)]) (ok := fun _ => True) (okp := fun _ => True) ?hr ?hp (fun _ hk => hk) trivial (Below.refl _ _) (Nat.le_refl _) (by simp) ?_; (case hd => rfl); (case hg => rfl); (case hr => first | (go_simp; done) | (go_simp; rfl)); (case hp => exact (Reps.one (show Kd.M (Kd.int .i64) _ _ _ ((rd_T68 x7_2 (Go.bits .andNot .i64 x8_1 (ji24))).f0) [.int .i64 ((rd_T68 x7_2 (Go.bits .andNot .i64 x8_1 (ji24))).f0)] from rfl) (Reps.one (show Kd.M (Kd.int .i64) _ _ _ ((rd_T68 x7_2 x8_1).f0) [.int .i64 ((rd_T68 x7_2 x8_1).f0)] from rfl) (Reps.one (show Kd.M (Kd.int .i64) _ _ _ (wrap64 (((rd_T68 x7_2 (Go.bits .andNot .i64 x8_1 (ji24))).f1) + (rd l1 x37_2))) [.int .i64 (wrap64 (((rd_T68 x7_2 (Go.bits .andNot .i64 x8_1 (ji24))).f1) + (rd l1 x37_2)))] from rfl) (Reps.one (show Kd.M (Kd.int .i64) _ _ _ ((rd_T68 x7_2 x8_1).f1) [.int .i64 ((rd_T68 x7_2 x8_1).f1)] from rfl) (Reps.none _ _))))))
                    intro v135 w69 ho70 hb hg_ hnew_
                    have HS3_ := (hb.cell (World.block_lt_of_cell? _ _ (hHeld.2.2.2.1))).trans (hHeld.2.2.2.1)
                    have HS4_ := (hb.cell (World.block_lt_of_cell? _ _ (hHeld.2.2.2.2.1))).trans (hHeld.2.2.2.2.1)
                    have HS5_ := (hb.cell (World.block_lt_of_cell? _ _ (hHeld.2.2.2.2.2.1))).trans (hHeld.2.2.2.2.2.1)
                    have HS6_ := (hb.cell (World.block_lt_of_cell? _ _ (hHeld.2.2.2.2.2.2.1))).trans (hHeld.2.2.2.2.2.2.1)
                    have HS7_ := (hb.cell (World.block_lt_of_cell? _ _ (hHeld.2.2.2.2.2.2.2.1))).trans (hHeld.2.2.2.2.2.2.2.1)
                    have HS8_ := (hb.cell (World.block_lt_of_cell? _ _ (hHeld.2.2.2.2.2.2.2.2))).trans (hHeld.2.2.2.2.2.2.2.2)
                    clear hg_ hnew_
                    (first | rw [← Ny134.out] at ho70 | (simp only [Int.reduceToNat] at ho70; rw [← Ny134.out] at ho70))
                    have n0_ := Aside0.mk (Kd.R_below (by (with_reducible repeat (first | apply Kd.R_alloc | apply Kd.R_drewN | apply Kd.R_drew)); exact HO_7.out) hb)
                    have n1_ := Aside0.mk (Kd.R_lower ho70 (below_size (by repeat (first | (with_reducible first | exact HB.out | apply below_alloc | apply pw_below_drewN | apply below_drew1 | refine below_set ?_ GE124.out) | exact HB.out))))
                    have n2_ := Aside0.mk (blk_below (g := gb124) (o := .cells #[.int .i64 ((rd_T68 x7_2 (Go.bits .andNot .i64 x8_1 (ji24))).f0), .int .i64 (wrap64 (((rd_T68 x7_2 (Go.bits .andNot .i64 x8_1 (ji24))).f1) + (rd l1 x37_2))), .int .i64 x37_2] 68 (0, 0)) (by (with_reducible repeat (first | refine blk_drewN ?_ _ | refine blk_drew ?_ | refine blk_alloc ?_ _)); exact BK124.out) hb)
                    have n3_ := Aside0.mk (below_step (by repeat (first | (with_reducible first | exact HB.out | apply below_alloc | apply pw_below_drewN | apply below_drew1 | refine below_set ?_ GE124.out) | exact HB.out)) hb)
                    clear HO_7
                    clear BK124
                    clear HB
                    have HO_7 := n0_
                    have HO136 := n1_
                    have BK124 := n2_
                    have HB := n3_
                    clear n0_ n1_ n2_ n3_
                    clear hb ho70
                    obtain ⟨Ao71, co71, eo71⟩ := Kd.R_slice HO136.out
                    (first | subst eo71 | (injection eo71 with f1_ f2_ f3_; have f4_ := f1_.symm; have f5_ := f3_.symm; clear f1_ f2_ f3_; subst f4_; subst f5_))
                    refine hK.out _ _ ⟨(blk_cell BK124.out 0).trans rfl, (blk_cell BK124.out 1).trans rfl, (blk_cell BK124.out 2).trans rfl, HS3_, HS4_, HS5_, HS6_, HS7_, HS8_⟩ (fun hHeld => ?_)
                    clear hK K
                    refine norm_ (a' := ?_) ?_ ?_
                    rotate_left
                    ·
                     show Act.put _ (some 84) _ = _
                     simp only [Act.put, Hand.s0_, List.set_cons_zero, Hand.s1_, i64_w, i32_w]
                     rfl
                    refine one_ (i := 15) (N := some 85) #[true,true,true,true,true,true,true,true,true,true,true,true,true,true,true,true] rfl rfl (one_of HT_.out (by kernel_rfl)) (by decide) (fun K hK => ?_)
                    refine goes_ Try.func63 (by kernel_rfl) rfl #[.slice Ao71 y134.length co71] (by rfl) rfl rfl (by (try simp only [List.map_toArray, List.map_cons, List.map_nil]); first | done | rfl | (simp only [List.length_drop, List.length_take]; rfl)) ?_
                    with_reducible refine (remnant_more.calls k2 _ _ y134 false _ ?side1 ?side2 A52.out).mono ?_
                    (case side1 => repeat (first | exact (Kd.R_reads' HO136.out).2.2 | (with_reducible refine Kd.C_alloc ?_ _) | (with_reducible refine Kd.C_drewN ?_ _) | (with_reducible refine Kd.C_drew ?_)))
                    (case side2 => exact (Kd.R_reads' HO136.out).2.1)
                    rintro e w' ⟨rfl, ⟨nd, rfl⟩⟩
                    refine ⟨_, rfl, ?_⟩
                    refine hK.out _ _ ⟨(blk_cell BK124.out 0).trans rfl, (blk_cell BK124.out 1).trans rfl, (blk_cell BK124.out 2).trans rfl, hHeld.2.2.2.1, hHeld.2.2.2.2.1, hHeld.2.2.2.2.2.1, hHeld.2.2.2.2.2.2.1, hHeld.2.2.2.2.2.2.2.1, hHeld.2.2.2.2.2.2.2.2⟩ (fun hHeld => ?_)
                    clear hK K
                    refine norm_ (a' := ?_) ?_ ?_
                    rotate_left
                    ·
                     show Act.put _ (some 85) _ = _
                     simp only [Act.put, Hand.s0_, List.set_cons_zero, Hand.s1_, i64_w, i32_w]
                     rfl
                    refine done_ (done_of HT_.out (by kernel_rfl)) ?_
                    try go_wp2
                    (try simp only [← hl7_2])
                    go_roundg k2
                    case measure => have := HK1.out; have := HK2.out; omega
                    case rel => exact ⟨(x7_2), (wrap64 (x37_2 + 1)), (by first | rfl | (simp; done) | (simp [*]; done)), H', ⟨by have := HK1.out; have := HK2.out; omega⟩, ⟨by (try simp only [hl7_2]); (with_reducible repeat (first | apply Kd.R_alloc | apply Kd.R_drewN | apply Kd.R_drew)); exact Kd.R_mono HO_7.out (fun _ hk => trivial)⟩, ⟨by repeat (first | (with_reducible first | exact HB.out | apply below_alloc | apply pw_below_drewN | apply below_drew1 | refine below_set ?_ GE124.out) | exact HB.out)⟩⟩
                  ·
                   rw [if_neg c51] at H
                   exact absurd H (by simp)
                 ·
                  rw [if_neg c50] at H
                  exact absurd H (by simp)
               ·
                rw [if_neg c26] at H
                exact absurd H (by simp)
              ·
               rw [if_neg c25] at H
               exact absurd H (by simp)
            ·
             rw [if_neg c19] at H
             exact absurd H (by simp)
           ·
            rw [if_neg c18] at H
            exact absurd H (by simp)
          ·
           rw [if_neg c17] at H
           have c17b0 : decide (x37_2 < (l1.length : Int)) = false := decide_eq_false c17
           (first | (simp only [hl7_2] at c17b0) | skip)
           clear c17
           have H' := Aside0.mk H
           clear H
           go_wp2
           (try simp only [← hl7_2])
           go_roundg k2
           case measure => have := HK1.out; have := HK2.out; omega
           case rel => exact ⟨(x7_2), (wrap64 (x8_1 + 1)), (by first | rfl | (simp; done) | (simp [*]; done)), H', ⟨by have := HK1.out; have := HK2.out; omega⟩, ⟨by (try simp only [hl7_2]); (with_reducible repeat (first | apply Kd.R_alloc | apply Kd.R_drewN | apply Kd.R_drew)); exact HO_7.out⟩, ⟨by repeat (first | (with_reducible first | exact HB.out | apply below_alloc | apply pw_below_drewN | apply below_drew1) | exact HB.out)⟩⟩
       ·
        rw [if_neg c12] at H
        exact absurd H (by simp)
      ·
       rw [if_neg c11] at H
       have c11b0 : decide (x8_1 < (x7_1.length : Int)) = false := decide_eq_false c11
       (first | (simp only [hl7_2] at c11b0) | skip)
       clear c11
       obtain ⟨y139, hy139⟩ : ∃ y_ : List Int, y_ = (([(-1)] : List Int)) := ⟨_, rfl⟩
       replace H : ((slices_Repeat_int_int.f y139 (l1.length : Int)).bind fun t142 => (if 0 ≤ (wrap64 ((x7_1.length : Int) - 1)) then (if (wrap64 ((x7_1.length : Int) - 1)) < (x7_1.length : Int) then (remnant_Fill.l2 k1 x7_1 t142 ((rd_T68 x7_1 (wrap64 ((x7_1.length : Int) - 1))).f0) (wrap64 ((x7_1.length : Int) - 1))) else (none)) else (none))) = some (r1, r2, r3) := by first | (rw [hy139]; with_reducible exact H) | (have H2_ := (Option.bind_some _ _).symm.trans H; rw [hy139]; with_reducible exact H2_) | (have H2_ := (Option.bind_some _ _).symm.trans H; with_reducible exact H2_) | with_reducible exact H | (rw [hy139]; exact H) | exact H
       have Ny139 := Aside0.mk hy139
       clear hy139
       replace H := Option.bind_eq_some_iff.mp H
       obtain ⟨t142, A720, H⟩ := H
       replace H : (if 0 ≤ (wrap64 ((x7_1.length : Int) - 1)) then (if (wrap64 ((x7_1.length : Int) - 1)) < (x7_1.length : Int) then (remnant_Fill.l2 k1 x7_1 t142 ((rd_T68 x7_1 (wrap64 ((x7_1.length : Int) - 1))).f0) (wrap64 ((x7_1.length : Int) - 1))) else (none)) else (none)) = some (r1, r2, r3) := H
       have A72 := Aside0.mk A720
       clear A720
       obtain ⟨ji73, hji73⟩ : ∃ j_ : Int, (wrap64 ((x7_1.length : Int) - 1)) = j_ := ⟨_, rfl⟩
       replace H : (if 0 ≤ (ji73) then (if (ji73) < (x7_1.length : Int) then (remnant_Fill.l2 k1 x7_1 t142 ((rd_T68 x7_1 (ji73)).f0) ji73) else (none)) else (none)) = some (r1, r2, r3) := by first | (rw [hji73] at H; exact H) | (simp only [hji73] at H ⊢; exact H)
       (try rw [hji73] at A72)
       have hji73w : (IntKind.i64.wrap ((x7_1.length : Int) - 1)) = ji73 := (i64_w _).trans hji73
       by_cases c74 : 0 ≤ (ji73)
       ·
        rw [if_pos c74] at H
        have c74b0 : decide (0 ≤ (ji73)) = true := decide_eq_true c74
        clear c74
        by_cases c75 : (ji73) < (x7_1.length : Int)
        ·
         rw [if_pos c75] at H
         have c75b0 : decide ((ji73) < (x7_1.length : Int)) = true := decide_eq_true c75
         clear c75
         have H' := Aside0.mk H
         clear H
         obtain ⟨Ao76, co76, eo76⟩ := Kd.R_slice HO_7.out
         subst eo76
         go_wp2_with (first | ((with_reducible refine gate_dst (N := 91) rfl ?_); refine Kd.R_lit (Kd.int .i64) _ 3 ?hg (N := 91) ?hd (xs := ([(-1)] : List Int)) (inner := [.int .i64 (-1)]) (ok := fun _ => True) (okp := fun _ => True) ?hr ?hp (fun _ hk => hk) trivial (Below.refl _ _) (Nat.le_refl _) (by simp) ?_; (case hd => rfl); (case hg => rfl); (case hr => first | (go_simp; done) | (go_simp; rfl)); (case hp => exact (Reps.one (show Kd.M (Kd.int .i64) _ _ _ (-1) [.int .i64 (-1)] from rfl) (Reps.none _ _))); intro v140 w77 ho78 hb hg_ hnew_; clear hg_ hnew_; (first | rw [← Ny139.out] at ho78 | (simp only [Int.reduceToNat] at ho78; rw [← Ny139.out] at ho78)); have n0_ := Aside0.mk (Kd.R_below (by (with_reducible repeat (first | apply Kd.R_alloc | apply Kd.R_drewN | apply Kd.R_drew)); exact HO_7.out) hb); have n1_ := Aside0.mk (Kd.R_lower ho78 (below_size (by repeat (first | (with_reducible first | exact HB.out | apply below_alloc | apply pw_below_drewN | apply below_drew1) | exact HB.out)))); have n2_ := Aside0.mk (below_step (by repeat (first | (with_reducible first | exact HB.out | apply below_alloc | apply pw_below_drewN | apply below_drew1) | exact HB.out)) hb); clear HO_7; clear HB; have HO_7 := n0_; have HO141 := n1_; have HB := n2_; clear n0_ n1_ n2_; clear hb ho78; obtain ⟨Ao79, co79, eo79⟩ := Kd.R_slice HO141.out; subst eo79) | ((with_reducible refine gate_callee (f := 64) rfl ?_); refine goesL_ (some 94) rfl rfl Try.func64 (by kernel_rfl) rfl #[.slice Ao79 y139.length co79, .int .i64 (l1.length : Int)] rfl (by (try simp only [List.map_toArray, List.map_cons, List.map_nil]); first | done | rfl | (simp only [List.length_drop, List.length_take]; rfl)) ?_; (with_reducible refine (slices_Repeat_int_int.calls _ _ y139 (l1.length : Int) t142 _ ?side1 ?side2 A72.out).mono ?_); (case side1 => repeat (first | exact (Kd.R_reads' HO141.out).2.2 | (with_reducible refine Kd.C_alloc ?_ _) | (with_reducible refine Kd.C_drewN ?_ _) | (with_reducible refine Kd.C_drew ?_))); (case side2 => exact (Kd.R_reads' HO141.out).2.1); rintro e w80 ⟨v143, rfl, ho0, hb⟩; refine ⟨_, rfl, ?_⟩; have n0_ := Aside0.mk (Kd.R_below (by (with_reducible repeat (first | apply Kd.R_alloc | apply Kd.R_drewN | apply Kd.R_drew)); exact HO_7.out) hb); have n1_ := Aside0.mk (Kd.R_elder' (by (with_reducible repeat (first | apply Kd.R_alloc | apply Kd.R_drewN | apply Kd.R_drew)); exact HO141.out) (Kd.R_base ho0) hb); have n2_ := Aside0.mk (Kd.R_lower (Kd.R_new' ho0 (Kd.R_lt (by (with_reducible repeat (first | apply Kd.R_alloc | apply Kd.R_drewN | apply Kd.R_drew)); exact HO141.out))) (below_size (by repeat (first | (with_reducible first | exact HB.out | apply below_alloc | apply pw_below_drewN | apply below_drew1) | exact HB.out)))); have n3_ := Aside0.mk (below_step (by repeat (first | (with_reducible first | exact HB.out | apply below_alloc | apply pw_below_drewN | apply below_drew1) | exact HB.out)) hb); clear HO_7; clear HO141; clear HB; have HO_7 := n0_; have HO141 := n1_; have HO144 := n2_; have HB := n3_; clear n0_ n1_ n2_ n3_; (try clear hb); (try clear hb2); (try clear hk); (try clear hi); (try clear ho0); have p145 : 0 ≤ ((ji73) : Int) := of_decide_eq_true (by assumption); have q145 : (ji73) < (x7_1.length : Int) := of_decide_eq_true (by assumption); obtain ⟨ad145, e145, hx145_0, hx145_1, hx145_2⟩ := at_T68 (Kd.R_reads' HO_7.out).2.2 (ji73) p145 q145; cases e145; replace p145 := eq_true p145; replace q145 := eq_true q145))
         go_loopg [15] k1 (fun kq v15 w' => ∃ (x12_2 : List Int) (x15_2 : Int), v15 = .int .i64 x15_2 ∧ Aside0 (remnant_Fill.l2 kq x7_1 x12_2 ((rd_T68 x7_1 (ji73)).f0) x15_2 = some (r1, r2, r3)) ∧ Aside0 (kq ≤ k1) ∧ Aside0 (Kd.R k68 68 w' w.heap.size (fun _ => True) (.slice (some ad145) x7_1.length co76) x7_1) ∧ Aside0 (Kd.R (Kd.int .i64) 3 w' w.heap.size (fun _ => True) v143 x12_2) ∧ Aside0 (Below w.heap.size w w'))
         case atStart => exact ⟨(t142), (ji73), (by first | rfl | (simp; done) | (simp only [← hji73] <;> (first | rfl | simp)) | (simp [*]; done)), H', ⟨Nat.le_refl _⟩, ⟨by (with_reducible repeat (first | apply Kd.R_alloc | apply Kd.R_drewN | apply Kd.R_drew)); exact HO_7.out⟩, ⟨by (with_reducible repeat (first | apply Kd.R_alloc | apply Kd.R_drewN | apply Kd.R_drew)); exact Kd.R_mono HO144.out (fun _ hk => trivial)⟩, ⟨by repeat (first | (with_reducible first | exact HB.out | apply below_alloc | apply pw_below_drewN | apply below_drew1) | exact HB.out)⟩⟩
         case round =>
          as_aux_lemma =>
          clear H'
          try clear c1
          try clear p1
          try clear q1
          try clear hx1
          try clear c2
          try clear p2
          try clear c5
          try clear p5
          try clear q5
          try clear hx5
          try clear hf5
          try clear c6
          try clear p6
          try clear hx6
          try clear hf6
          try clear c7
          try clear c11
          try clear c11b0
          try clear c12
          try clear p12
          try clear q12
          try clear hx12
          try clear p13
          try clear q13
          try clear hx13
          try clear p14
          try clear q14
          try clear hx14
          try clear c17
          try clear c17b0
          try clear c18
          try clear c19
          try clear c25
          try clear c26
          try clear c27
          try clear c27b0
          try clear c28
          try clear c29
          try clear c50
          try clear c50b0
          try clear c51
          try clear c51b0
          try clear c53
          try clear c54
          try clear p54
          try clear q54
          try clear hx54
          try clear hf54
          try clear c63
          try clear hx63
          try clear hf63
          try clear c64
          try clear p64
          try clear c74
          try clear c74b0
          try clear c75
          try clear c75b0
          try clear hcz56_0
          try clear hcz56_1
          try clear hcz56_2
          try clear hcz62_0
          try clear hcz62_1
          try clear hcz62_2
          try clear hcz66_0
          try clear hcz66_1
          try clear hcz66_2
          try clear hfz56_0
          try clear hfz56_1
          try clear hfz56_2
          try clear hfz62_0
          try clear hfz62_1
          try clear hfz62_2
          try clear hfz66_0
          try clear hfz66_1
          try clear hfz66_2
          try clear hx122_0
          try clear hx123_0
          try clear hx123_1
          try clear hx123_2
          try clear hx132_0
          try clear hx132_1
          try clear hx132_2
          try clear hx133_0
          try clear hx133_1
          try clear hx133_2
          try clear hx145_0
          try clear hx145_1
          try clear hx145_2
          try clear hx54_0
          try clear hx54_1
          try clear hx54_2
          try clear hx63_0
          try clear hx63_1
          try clear hx63_2
          try clear p122
          try clear p123
          try clear p132
          try clear p133
          try clear p145
          try clear p54
          try clear q122
          try clear q123
          try clear q132
          try clear q133
          try clear q145
          try clear q54
          obtain ⟨x12_2, x15_2, rfl, HA, HK2, HO_7, HO_12, HB⟩ := hrel
          cases gk with
          | zero => exact absurd HA.out (by simp [remnant_Fill.l2])
          | succ k2 =>
           have H := HA.out
           clear HA
           simp only [remnant_Fill.l2] at H
           by_cases c81 : x15_2 > 0
           ·
            rw [if_pos c81] at H
            have c81b0 : decide (0 < x15_2) = true := decide_eq_true c81
            clear c81
            by_cases c82 : 0 ≤ x15_2
            ·
             rw [if_pos c82] at H
             have c82b0 : decide (0 ≤ x15_2) = true := decide_eq_true c82
             clear c82
             by_cases c83 : x15_2 < (x7_1.length : Int)
             ·
              rw [if_pos c83] at H
              have c83b0 : decide (x15_2 < (x7_1.length : Int)) = true := decide_eq_true c83
              clear c83
              by_cases c84 : 0 ≤ ((rd_T68 x7_1 x15_2).f2)
              ·
               rw [if_pos c84] at H
               have c84b0 := eq_true c84
               have c84b1 : decide (0 ≤ ((rd_T68 x7_1 x15_2).f2)) = true := decide_eq_true c84
               clear c84
               obtain ⟨ji85, hji85⟩ : ∃ j_ : Int, (shl .i64 1 ((rd_T68 x7_1 x15_2).f2)) = j_ := ⟨_, rfl⟩
               replace H : (if 0 ≤ (Go.bits .andNot .i64 x15_2 (ji85)) then (if (Go.bits .andNot .i64 x15_2 (ji85)) < (x7_1.length : Int) then (if ((rd_T68 x7_1 (Go.bits .andNot .i64 x15_2 (ji85))).f0) < ((rd_T68 x7_1 (ji73)).f0) then (if ((rd_T68 x7_1 x15_2).f2) < (x12_2.length : Int) then (remnant_Fill.l2 k2 x7_1 (x12_2.set (((rd_T68 x7_1 x15_2).f2) : Int).toNat ((rd_T68 x7_1 (Go.bits .andNot .i64 x15_2 (ji85))).f0)) ((rd_T68 x7_1 (ji73)).f0) (Go.bits .andNot .i64 x15_2 (ji85))) else (none)) else (remnant_Fill.l2 k2 x7_1 x12_2 ((rd_T68 x7_1 (ji73)).f0) (Go.bits .andNot .i64 x15_2 (ji85)))) else (none)) else (none)) = some (r1, r2, r3) := by first | (rw [hji85] at H; exact H) | (simp only [hji85] at H ⊢; exact H)
               have hji85_ : (IntKind.i64.wrap (1 * 2 ^ min ((rd_T68 x7_1 x15_2).f2).toNat 64)) = ji85 := hji85
               have hji85z : ((rd_T68 x7_1 x15_2).f2) ≤ 64 → (IntKind.i64.wrap (1 * 2 ^ ((rd_T68 x7_1 x15_2).f2).toNat)) = ji85 := shl_small hji85
               have hji85u : (IntKind.i64.wrap (2 ^ min ((rd_T68 x7_1 x15_2).f2).toNat 64)) = ji85 := by have h_ := hji85_; rw [Int.one_mul] at h_; exact h_
               have hji85v : ((rd_T68 x7_1 x15_2).f2) ≤ 64 → (IntKind.i64.wrap (2 ^ ((rd_T68 x7_1 x15_2).f2).toNat)) = ji85 := fun hle_ => by have h_ := hji85z hle_; rw [Int.one_mul] at h_; exact h_
               have hji85y : (wrap64 (1 * 2 ^ min ((rd_T68 x7_1 x15_2).f2).toNat 64)) = ji85 := (i64_w _).symm.trans hji85_
               have hji85x : ((rd_T68 x7_1 x15_2).f2) ≤ 64 → (wrap64 (1 * 2 ^ ((rd_T68 x7_1 x15_2).f2).toNat)) = ji85 := fun h_ => (i64_w _).symm.trans (hji85z h_)
               by_cases c86 : 0 ≤ (Go.bits .andNot .i64 x15_2 (ji85))
               ·
                rw [if_pos c86] at H
                have c86b0 : decide (0 ≤ (Go.bits .andNot .i64 x15_2 (ji85))) = true := decide_eq_true c86
                clear c86
                by_cases c87 : (Go.bits .andNot .i64 x15_2 (ji85)) < (x7_1.length : Int)
                ·
                 rw [if_pos c87] at H
                 have c87b0 : decide ((Go.bits .andNot .i64 x15_2 (ji85)) < (x7_1.length : Int)) = true := decide_eq_true c87
                 clear c87
                 by_cases c88 : ((rd_T68 x7_1 (Go.bits .andNot .i64 x15_2 (ji85))).f0) < ((rd_T68 x7_1 (ji73)).f0)
                 ·
                  rw [if_pos c88] at H
                  have c88b0 : decide (((rd_T68 x7_1 (Go.bits .andNot .i64 x15_2 (ji85))).f0) < ((rd_T68 x7_1 (ji73)).f0)) = true := decide_eq_true c88
                  clear c88
                  by_cases c89 : ((rd_T68 x7_1 x15_2).f2) < (x12_2.length : Int)
                  ·
                   rw [if_pos c89] at H
                   have c89b0 : decide (((rd_T68 x7_1 x15_2).f2) < (x12_2.length : Int)) = true := decide_eq_true c89
                   clear c89
                   obtain ⟨y149, hy149⟩ : ∃ y_ : List Int, y_ = (x12_2.set (((rd_T68 x7_1 x15_2).f2) : Int).toNat ((rd_T68 x7_1 (Go.bits .andNot .i64 x15_2 (ji85))).f0)) := ⟨_, rfl⟩
                   replace H : (remnant_Fill.l2 k2 x7_1 y149 ((rd_T68 x7_1 (ji73)).f0) (Go.bits .andNot .i64 x15_2 (ji85))) = some (r1, r2, r3) := by first | (rw [hy149]; with_reducible exact H) | (have H2_ := (Option.bind_some _ _).symm.trans H; rw [hy149]; with_reducible exact H2_) | (have H2_ := (Option.bind_some _ _).symm.trans H; with_reducible exact H2_) | with_reducible exact H | (rw [hy149]; exact H) | exact H
                   have Ny149 := Aside0.mk hy149
                   clear hy149
                   have c91b0 := eq_true (of_decide_eq_true (by assumption) : 0 ≤ ((rd_T68 x7_1 x15_2).f2))
                   have H' := Aside0.mk H
                   clear H
                   have p146 : 0 ≤ (x15_2 : Int) := of_decide_eq_true (by assumption)
                   have q146 : x15_2 < (x7_1.length : Int) := of_decide_eq_true (by assumption)
                   obtain ⟨ad146, e146, hx146_0, hx146_1, hx146_2⟩ := at_T68 (Kd.R_reads' HO_7.out).2.2 x15_2 p146 q146
                   obtain rfl : ad145 = ad146 := (by injection e146)
                   replace p146 := eq_true p146
                   replace q146 := eq_true q146
                   have p147 : 0 ≤ ((Go.bits .andNot .i64 x15_2 (ji85)) : Int) := of_decide_eq_true (by assumption)
                   have q147 : (Go.bits .andNot .i64 x15_2 (ji85)) < (x7_1.length : Int) := of_decide_eq_true (by assumption)
                   obtain ⟨ad147, e147, hx147_0, hx147_1, hx147_2⟩ := at_T68 (Kd.R_reads' HO_7.out).2.2 (Go.bits .andNot .i64 x15_2 (ji85)) p147 q147
                   obtain rfl : ad145 = ad147 := (by injection e147)
                   replace p147 := eq_true p147
                   replace q147 := eq_true q147
                   have p148 : 0 ≤ (x15_2 : Int) := of_decide_eq_true (by assumption)
                   have q148 : x15_2 < (x7_1.length : Int) := of_decide_eq_true (by assumption)
                   obtain ⟨ad148, e148, hx148_0, hx148_1, hx148_2⟩ := at_T68 (Kd.R_reads' HO_7.out).2.2 x15_2 p148 q148
                   obtain rfl : ad145 = ad148 := (by injection e148)
                   replace p148 := eq_true p148
                   replace q148 := eq_true q148
                   have p90 : 0 ≤ (((rd_T68 x7_1 x15_2).f2) : Int) := of_decide_eq_true (by assumption)
                   have q90 : (((rd_T68 x7_1 x15_2).f2) : Int) < ((x12_2.length : Int) : Int) := of_decide_eq_true (by assumption)
                   obtain ⟨go90, co90, eo90, gb90, gl90, cl90, HG90⟩ := Kd.R_form HO_12.out (by omega)
                   (first | cases eo90 | (injection eo90 with ea_ en_ ec_; (first | subst ea_ | (injection ea_ with ea_; subst ea_)); subst ec_; clear en_))
                   have GB90 := Aside0.mk gb90
                   have GG90 := Aside0.mk HG90
                   clear gb90 gl90 HG90
                   obtain ⟨hx90_0, hf90_0⟩ := Kd.R_celln 0 HO_12.out (((rd_T68 x7_1 x15_2).f2) : Int) p90 q90
                   replace p90 := eq_true p90
                   replace q90 := eq_true q90
                   have HP92 := Kd.R_putg HO_12.out (((rd_T68 x7_1 x15_2).f2) : Int) ((rd_T68 x7_1 (Go.bits .andNot .i64 x15_2 (ji85))).f0)
                   go_wp2_with (first | ((with_reducible refine gate_store (t := 3) (p := 136) rfl ?_); refine store_event (t := 3) (p := 136) (v := ?vo_w93) (w1 := (wr.setCell ⟨go90, (((rd_T68 x7_1 x15_2).f2) : Int).toNat, none⟩ (.int .i64 ((rd_T68 x7_1 (Go.bits .andNot .i64 x15_2 (ji85))).f0)))) ?hg ?ho ?hn ?hr ?_; (case ho => rfl); (case hg => rfl); (case hn => rfl); (case hr => first | (go_simp; done) | (go_simp; rfl)); intro w93 hw; have hg : wr.grownBy w93 (some go90) := (by rw [hw]; exact HP92.2); have hp_ : Kd.R (Kd.int .i64) 3 w93 w.heap.size (fun _ => True) (.slice (some ⟨go90, 0, none⟩) x12_2.length co90) y149 := (by rw [hw, Ny149.out]; exact HP92.1); clear HP92; have n0_ := Aside0.mk (Kd.R_over' (v := (.slice (some ⟨go90, 0, none⟩) x12_2.length co90)) (by (with_reducible repeat (first | apply Kd.R_alloc | apply Kd.R_drewN | apply Kd.R_drew)); exact HO_7.out) (Kd.R_typed HO_12.out) (by decide) hg); have n1_ := Aside0.mk (hp_); have n2_ := Aside0.mk ((by rw [hw]; exact below_set (HB.out) GB90.out : Below w.heap.size w w93)); clear HO_7; clear HO_12; clear HB; have HO_7 := n0_; have HO_12 := n1_; have HB := n2_; clear n0_ n1_ n2_; clear hg hw hp_; have p150 : 0 ≤ (x15_2 : Int) := of_decide_eq_true (by assumption); have q150 : x15_2 < (x7_1.length : Int) := of_decide_eq_true (by assumption); obtain ⟨ad150, e150, hx150_0, hx150_1, hx150_2⟩ := at_T68 (Kd.R_reads' HO_7.out).2.2 x15_2 p150 q150; obtain rfl : ad145 = ad150 := (by injection e150); replace p150 := eq_true p150; replace q150 := eq_true q150))
                   go_roundg k2
                   case measure => have := HK1.out; have := HK2.out; omega
                   case rel => exact ⟨(y149), (Go.bits .andNot .i64 x15_2 (ji85)), (by first | rfl | (simp; done) | (simp only [← hji85] <;> (first | rfl | simp)) | (simp [*]; done)), H', ⟨by have := HK1.out; have := HK2.out; omega⟩, ⟨by (with_reducible repeat (first | apply Kd.R_alloc | apply Kd.R_drewN | apply Kd.R_drew)); exact HO_7.out⟩, ⟨by (with_reducible repeat (first | apply Kd.R_alloc | apply Kd.R_drewN | apply Kd.R_drew)); exact HO_12.out⟩, ⟨by repeat (first | (with_reducible first | exact HB.out | apply below_alloc | apply pw_below_drewN | apply below_drew1) | exact HB.out)⟩⟩
                  ·
                   rw [if_neg c89] at H
                   exact absurd H (by simp)
                 ·
                  rw [if_neg c88] at H
                  have c88b0 : decide (((rd_T68 x7_1 (Go.bits .andNot .i64 x15_2 (ji85))).f0) < ((rd_T68 x7_1 (ji73)).f0)) = false := decide_eq_false c88
                  (first | (simp only [hl7_2] at c88b0) | skip)
                  clear c88
                  have c94b0 := eq_true (of_decide_eq_true (by assumption) : 0 ≤ ((rd_T68 x7_1 x15_2).f2))
                  have H' := Aside0.mk H
                  clear H
                  have p146 : 0 ≤ (x15_2 : Int) := of_decide_eq_true (by assumption)
                  have q146 : x15_2 < (x7_1.length : Int) := of_decide_eq_true (by assumption)
                  obtain ⟨ad146, e146, hx146_0, hx146_1, hx146_2⟩ := at_T68 (Kd.R_reads' HO_7.out).2.2 x15_2 p146 q146
                  obtain rfl : ad145 = ad146 := (by injection e146)
                  replace p146 := eq_true p146
                  replace q146 := eq_true q146
                  have p147 : 0 ≤ ((Go.bits .andNot .i64 x15_2 (ji85)) : Int) := of_decide_eq_true (by assumption)
                  have q147 : (Go.bits .andNot .i64 x15_2 (ji85)) < (x7_1.length : Int) := of_decide_eq_true (by assumption)
                  obtain ⟨ad147, e147, hx147_0, hx147_1, hx147_2⟩ := at_T68 (Kd.R_reads' HO_7.out).2.2 (Go.bits .andNot .i64 x15_2 (ji85)) p147 q147
                  obtain rfl : ad145 = ad147 := (by injection e147)
                  replace p147 := eq_true p147
                  replace q147 := eq_true q147
                  have p151 : 0 ≤ (x15_2 : Int) := of_decide_eq_true (by assumption)
                  have q151 : x15_2 < (x7_1.length : Int) := of_decide_eq_true (by assumption)
                  obtain ⟨ad151, e151, hx151_0, hx151_1, hx151_2⟩ := at_T68 (Kd.R_reads' HO_7.out).2.2 x15_2 p151 q151
                  obtain rfl : ad145 = ad151 := (by injection e151)
                  replace p151 := eq_true p151
                  replace q151 := eq_true q151
                  go_wp2
                  go_roundg k2
                  case measure => have := HK1.out; have := HK2.out; omega
                  case rel => exact ⟨(x12_2), (Go.bits .andNot .i64 x15_2 (ji85)), (by first | rfl | (simp; done) | (simp only [← hji85] <;> (first | rfl | simp)) | (simp [*]; done)), H', ⟨by have := HK1.out; have := HK2.out; omega⟩, ⟨by (with_reducible repeat (first | apply Kd.R_alloc | apply Kd.R_drewN | apply Kd.R_drew)); exact HO_7.out⟩, ⟨by (with_reducible repeat (first | apply Kd.R_alloc | apply Kd.R_drewN | apply Kd.R_drew)); exact HO_12.out⟩, ⟨by repeat (first | (with_reducible first | exact HB.out | apply below_alloc | apply pw_below_drewN | apply below_drew1) | exact HB.out)⟩⟩
                ·
                 rw [if_neg c87] at H
                 exact absurd H (by simp)
               ·
                rw [if_neg c86] at H
                exact absurd H (by simp)
              ·
               rw [if_neg c84] at H
               exact absurd H (by simp)
             ·
              rw [if_neg c83] at H
              exact absurd H (by simp)
            ·
             rw [if_neg c82] at H
             exact absurd H (by simp)
           ·
            rw [if_neg c81] at H
            have c81b0 : decide (0 < x15_2) = false := decide_eq_false c81
            (first | (simp only [hl7_2] at c81b0) | skip)
            clear c81
            replace H := Option.bind_eq_some_iff.mp H
            obtain ⟨t152, A950, H⟩ := H
            replace H : (some (t152, ((rd_T68 x7_1 (ji73)).f0), 0)) = some (r1, r2, r3) := H
            have A95 := Aside0.mk A950
            clear A950
            simp only [Option.some.injEq, Prod.mk.injEq] at H
            obtain ⟨rfl, rfl, rfl⟩ := H
            obtain ⟨Ao96, co96, eo96⟩ := Kd.R_slice HO_12.out
            subst eo96
            go_wp2_with (first | ((with_reducible refine gate_callee (f := 65) rfl ?_); refine goesL_ (some 138) rfl rfl Try.func65 (by kernel_rfl) rfl #[.slice Ao96 x12_2.length co96] rfl (by (try simp only [List.map_toArray, List.map_cons, List.map_nil]); first | done | rfl | (simp only [List.length_drop, List.length_take]; rfl)) ?_; (with_reducible refine (remnant_used.calls _ _ x12_2 t152 _ ?side1 ?side2 A95.out).mono ?_); (case side1 => repeat (first | exact (Kd.R_reads' HO_12.out).2.2 | (with_reducible refine Kd.C_alloc ?_ _) | (with_reducible refine Kd.C_drewN ?_ _) | (with_reducible refine Kd.C_drew ?_))); (case side2 => exact (Kd.R_reads' HO_12.out).2.1); rintro e w97 ⟨v153, rfl, ho0, hb⟩; refine ⟨_, rfl, ?_⟩; have n0_ := Aside0.mk (Kd.R_below (by (with_reducible repeat (first | apply Kd.R_alloc | apply Kd.R_drewN | apply Kd.R_drew)); exact HO_7.out) hb); have n1_ := Aside0.mk (Kd.R_elder' (by (with_reducible repeat (first | apply Kd.R_alloc | apply Kd.R_drewN | apply Kd.R_drew)); exact HO_12.out) (Kd.R_base ho0) hb); have n2_ := Aside0.mk (Kd.R_lower (Kd.R_new' ho0 (Kd.R_lt (by (with_reducible repeat (first | apply Kd.R_alloc | apply Kd.R_drewN | apply Kd.R_drew)); exact HO_12.out))) (below_size (by repeat (first | (with_reducible first | exact HB.out | apply below_alloc | apply pw_below_drewN | apply below_drew1) | exact HB.out)))); have n3_ := Aside0.mk (below_step (by repeat (first | (with_reducible first | exact HB.out | apply below_alloc | apply pw_below_drewN | apply below_drew1) | exact HB.out)) hb); clear HO_7; clear HO_12; clear HB; have HO_7 := n0_; have HO_12 := n1_; have HO154 := n2_; have HB := n3_; clear n0_ n1_ n2_ n3_; (try clear hb); (try clear hb2); (try clear hk); (try clear hi); (try clear ho0)))
            go_ret3
            exact ⟨_, by first | rfl | (simp [errW_none, errW_some] <;> rfl) | (simp only [← hji5, ← hji73]; first | rfl | (simp [errW_none, errW_some] <;> rfl)) | (simp [*, errW_none, errW_some] <;> rfl), by (with_reducible repeat (first | apply Kd.R_alloc | apply Kd.R_drewN | apply Kd.R_drew)); exact Kd.R_mono HO154.out (fun _ hk => trivial), by repeat (first | (with_reducible first | exact HB.out | apply below_alloc | apply pw_below_drewN | apply below_drew1) | exact HB.out)⟩
        ·
         rw [if_neg c75] at H
         exact absurd H (by simp)
       ·
        rw [if_neg c74] at H
        exact absurd H (by simp)
   ·
    rw [if_neg c7] at H
    exact absurd H (by simp)
  ·
   rw [if_neg c6] at H
   exact absurd H (by simp)
 ·
  replace c4 := Bool.eq_false_iff.mpr c4
  subst c4
  have H1 : (some (([] : List Int), 0, 2)) = some (r1, r2, r3) := by rw [if_neg (show ¬ (false = true) by decide)] at H; exact H
  clear H
  have H := H1
  clear H1
  simp only [Option.some.injEq, Prod.mk.injEq] at H
  obtain ⟨rfl, rfl, rfl⟩ := H
  go_enter Try.func32, Try.ntmps32
  go_wp2_with (first | ((with_reducible refine gate_callee (f := 54) rfl ?_); refine goesL_ (some 19) rfl rfl Try.func54 (by kernel_rfl) rfl #[.int .i64 a0, .slice A1 l1.length c1] rfl (by (try simp only [List.map_toArray, List.map_cons, List.map_nil]); first | done | rfl | (simp only [List.length_drop, List.length_take]; rfl)) ?_; (with_reducible refine (remnant_arePieces.calls a0 _ _ l1 false _ ?side1 ?side2 A3.out).mono ?_); (case side1 => repeat (first | exact HR1.out | (with_reducible refine Kd.C_alloc ?_ _) | (with_reducible refine Kd.C_drewN ?_ _) | (with_reducible refine Kd.C_drew ?_))); (case side2 => exact HC1.out); rintro e w98 ⟨rfl, hb⟩; refine ⟨_, rfl, ?_⟩; have n0_ := Aside0.mk (below_step (by repeat (first | (with_reducible first | exact HB.out | apply below_alloc | apply pw_below_drewN | apply below_drew1) | exact HB.out)) hb); clear HB; have HB := n0_; clear n0_; (try clear hb); (try clear hb2); (try clear hk); (try clear hi)))
  go_ret3
  exact ⟨_, by first | rfl | (simp [errW_none, errW_some] <;> rfl) | (simp [*, errW_none, errW_some] <;> rfl), by first | exact Kd.R_nil _ _ _ _ _ | exact Kd.N_nil _ _ _ _ _ | exact Kd.V_nil _ _ _ _ _ | exact Kd.Q_nil _ _ _ _ _ | exact Kd.S_nil _ _ _ _ _, by repeat (first | (with_reducible first | exact HB.out | apply below_alloc | apply pw_below_drewN | apply below_drew1) | exact HB.out)⟩

end Go.Proofs.Ytcjglbipkghhnaa.B
