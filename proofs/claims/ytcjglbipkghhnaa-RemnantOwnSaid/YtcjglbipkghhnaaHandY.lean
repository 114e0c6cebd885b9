-- Rest's contract (function 23): the first set with the greatest sum that fits. Printed by wip/r09/handy.py.
import Derived.Test.YtcjglbipkghhnaaHandX
namespace Go.Proofs.Ytcjglbipkghhnaa.Hand
open Go.RowKit Go.Shelf Go.Proofs.Ytcjglbipkghhnaa.P Go.Proofs.YtcjglbipkghhnaaW.PrintWords Go.Proofs.YtcjglbipkghhnaaW.PrintLast Go.Proofs.YtcjglbipkghhnaaW.PrintMore
attribute [local go_sem] Oper.semAt_some
set_option linter.unusedVariables false
set_option linter.unusedSimpArgs false

/-- One set more is looked at. -/
def restStep (room : Int) (ps : List Int) (st : List Int × Int) (l : List Int) : List Int × Int :=
  let n := wrap64 (room - sumF ps l)
  if 0 ≤ n ∧ n < st.2 then (l, n) else st
def restF (room : Int) (ps : List Int) : List Int × Int × Int :=
  if pieF room ps = true then let st := (setsF ps.length).foldl (restStep room ps) ([], room); (st.1, st.2, 0) else ([], 0, 2)

set_option maxHeartbeats 4000000 in
set_option maxRecDepth 100000 in
theorem rest_calls (a0 : Int) (A0 : Option Addr) (c0 : Nat) (l0 : List Int) (w : World) (hr0 : Kd.C (Kd.int .i64) w A0 l0.length l0) (hc0 : l0.length ≤ c0) :
    Calls Try.prog 24 #[.int .i64 a0, .slice A0 l0.length c0] w fun e w' => ∃ v0_ : Value, e = .returned (.tuple #[v0_, .int .i64 (restF a0 l0).2.1, .int .i64 (restF a0 l0).2.2]) ∧ Kd.R (Kd.int .i64) 3 w' w.heap.size (fun _ => True) v0_ (restF a0 l0).1 ∧ Below w.heap.size w w' := by
  have hmix : Try.prog.follows .mixedOrders = true := by kernel_rfl
  have HR := Aside0.mk hr0
  have bR0 := (Boxed.new w 3 (.int .i64 a0)).alloc (.cells #[.slice A0 l0.length c0] 22)
  have bP0 := Boxed.new (w.alloc (.cells #[.int .i64 a0] 3)) 22 (.slice A0 l0.length c0)
  rw [World.size_alloc] at bP0
  have hcP := bP0.cell
  have hcR := bR0.cell
  have HbP := Aside0.mk bP0
  have HbR := Aside0.mk bR0
  clear hr0 bP0 bR0
  refine (callsIn_wide (n := 5)).1 ?_
  refine callsIn_of_wp_marks Try.func24 rfl trivial ?_ rfl
  simp only [Try.ntmps24, List.size_toArray, List.length_cons, List.length_nil, Nat.reduceAdd, Nat.reduceSub, Array.replicate_succ, Array.replicate_zero, List.push_toArray, List.append_toArray, List.nil_append, List.cons_append]
  gi_wp2
  refine ⟨trivial, ((callsIn_wide (n := 5 - 1)).2 (pie_calls a0 A0 c0 l0 _ (Kd.C_alloc (Kd.C_alloc HR.out _) _))).mono ?_⟩
  rintro e w1 ⟨rfl, hb1⟩
  have hb0 : Below w.heap.size w ((w.alloc (.cells #[.int .i64 a0] 3)).alloc (.cells #[.slice A0 l0.length c0] 22)) := ((Below.refl w.heap.size w).alloc (Nat.le_refl _) _).alloc (by simp) _
  by_cases hp : pieF a0 l0 = true
  · rw [hp]
    have bP1 : Boxed w1 (w.heap.size + 1) 22 (.slice A0 l0.length c0) := (hb1.block _ HbP.out.lt).trans HbP.out
    have bR1 : Boxed w1 w.heap.size 3 (.int .i64 a0) := (hb1.block _ HbR.out.lt).trans HbR.out
    have hcP1 := ((bP1.alloc (.cells #[.slice none 0 0] 22)).alloc (.cells #[.int .i64 a0] 3)).cell
    have hcR1 := (bR1.alloc (.cells #[.slice none 0 0] 22)).cell
    have hs1 : w.heap.size + 1 + 1 ≤ w1.heap.size := by have := hb1.size; simpa using this
    have hb01 := below_step hb0 hb1
    have hlen : l0.length ≤ 12 := by
      unfold pieF at hp
      simp only [Bool.and_eq_true, decide_eq_true_eq] at hp
      omega
    have bB4 := ((Boxed.new w1 22 (.slice none 0 0)).alloc (.cells #[.int .i64 a0] 3)).alloc (.cells #[.int .i64 (l0.length : Int)] 3)
    have bL4 := (Boxed.new (w1.alloc (.cells #[.slice none 0 0] 22)) 3 (.int .i64 a0)).alloc (.cells #[.int .i64 (l0.length : Int)] 3)
    have bN4 := Boxed.new ((w1.alloc (.cells #[.slice none 0 0] 22)).alloc (.cells #[.int .i64 a0] 3)) 3 (.int .i64 (l0.length : Int))
    simp only [World.size_alloc] at bL4 bN4
    have hb24 : Below w1.heap.size w1 (((w1.alloc (.cells #[.slice none 0 0] 22)).alloc (.cells #[.int .i64 a0] 3)).alloc (.cells #[.int .i64 (l0.length : Int)] 3)) := (((Below.refl _ w1).alloc (Nat.le_refl _) _).alloc (by simp) _).alloc (by simp; omega) _
    have hI0 : SplitI w (w.heap.size + 1) w.heap.size w1.heap.size (w1.heap.size + 1) (w1.heap.size + 1 + 1) (.slice A0 l0.length c0) a0 ([], a0) (((w1.alloc (.cells #[.slice none 0 0] 22)).alloc (.cells #[.int .i64 a0] 3)).alloc (.cells #[.int .i64 (l0.length : Int)] 3)) := ⟨belowB hb24 bP1, belowB hb24 bR1, ⟨_, bB4, Kd.R_nil _ _ _ _ _⟩, bL4, below_step hb01 hb24⟩
    have HI0 := Aside0.mk hI0
    have HBN := Aside0.mk bN4
    clear hI0 bN4 bL4 bB4 hb24 hb01 bP1 bR1 hb1 hb0
    gi_wp2
    refine ⟨trivial, (sets_in Fence.wide _ trivial rfl _ _).mono ?_⟩
    rintro e w3 ⟨rfl, rfl⟩
    gi_wp2
    refine wpIn_rangeFunc_V rfl (by decide) (gf := 83) (lb := #[.pointer (some ⟨w1.heap.size + 1 + 1, 0, none⟩)]) rfl trivial (enters_of Try.func83 (by kernel_rfl) rfl)
      (sets_seq (5 - 1) (w1.heap.size + 1 + 1) l0.length (by omega) _ HBN.out (by simp)) (fun h k => h.trans k) (fun W l o o' _ h h1 _ => Kp.putObj o' h h1) (Below.refl _ _) (fun _ => rfl)
      (fun (pre : List Elem) W => SplitI w (w.heap.size + 1) w.heap.size w1.heap.size (w1.heap.size + 1) (w1.heap.size + 1 + 1) (.slice A0 l0.length c0) a0 ((pre.map (fun y : Elem => y.2.2)).foldl (restStep a0 l0) ([], a0)) W)
      (fun _ _ => False)
      (fun s W W' row hs hg hr => hs.kp (kp_own hg (fun r e => (hr r e).2)) (hs.hB.grown hg hs.hB.size (fun k e => by have := (hr k e).1; simp at this; omega)))
      (fun _ _ _ _ hs _ _ => hs)
      (fun s W W' row hs hg hr => hs.kp (kp_own hg (fun r e => (hr r e).2)))
      HI0.out
      (fun (x : Elem) => { tmps := #[.int .i64 a0, .slice A0 l0.length c0, .pointer (some ⟨w.heap.size, 0, none⟩), .pointer (some ⟨w.heap.size + 1, 0, none⟩), .slice none 0 0, .int .i64 0, .int .i64 0, .pointer (some ⟨w1.heap.size, 0, none⟩), .pointer (some ⟨w1.heap.size + 1, 0, none⟩), x.val, undef, .int .i64 a0, .slice A0 l0.length c0, .bool true, .bool false, .int .i64 a0, .slice A0 l0.length c0, .int .i64 (l0.length : Int), .func (.func 83) #[] #[.pointer (some ⟨w1.heap.size + 1 + 1, 0, none⟩)], x.val, undef, undef, undef, undef, undef, undef, undef, undef, undef, undef, undef, undef, undef, undef, undef, undef], defers := [] }) ?assign ?body ?done ?stop
    case assign =>
      intro l x W K hK
      gi_wp2
      exact hK
    case body =>
      rintro l pre ⟨A, c, xl⟩ W hI ⟨hvR, hvl, hvi⟩
      have hst : ((pre ++ [((A, c, xl) : Elem)]).map (fun y : Elem => y.2.2)).foldl (restStep a0 l0) ([], a0) = restStep a0 l0 ((pre.map (fun y : Elem => y.2.2)).foldl (restStep a0 l0) ([], a0)) xl := by simp [List.foldl_append]
      generalize (pre.map (fun y : Elem => y.2.2)).foldl (restStep a0 l0) ([], a0) = st at hI hst
      obtain ⟨sb, sl⟩ := st
      obtain ⟨bP, bA, ⟨bv, bB, hRb⟩, bL, hB⟩ := id hI
      have hcP5 := bP.cell
      have hcA := bA.cell
      have hcL := bL.cell
      have hxc : xl.length ≤ c := (Kd.R_reads' hvR).2.1
      have hxl100 : xl.length ≤ 1000 := by dsimp only at hvl; omega
      have HCx : Aside0 (Kd.C (Kd.int .i64) W A xl.length xl) := ⟨(Kd.R_reads' hvR).2.2⟩
      have HVR : Aside0 (Kd.R (Kd.int .i64) 3 W (w1.heap.size + 1 + 1) (fun _ => True) (.slice A xl.length c) xl) := ⟨hvR⟩
      have HXI : Aside0 (∀ i ∈ xl, 0 ≤ i ∧ i < (l0.length : Int)) := ⟨hvi⟩
      have HI := Aside0.mk hI
      have HST : Aside0 (∀ W', SplitI w (w.heap.size + 1) w.heap.size w1.heap.size (w1.heap.size + 1) (w1.heap.size + 1 + 1) (.slice A0 l0.length c0) a0 (restStep a0 l0 (sb, sl) xl) W' → SplitI w (w.heap.size + 1) w.heap.size w1.heap.size (w1.heap.size + 1) (w1.heap.size + 1 + 1) (.slice A0 l0.length c0) a0 (((pre ++ [((A, c, xl) : Elem)]).map (fun y : Elem => y.2.2)).foldl (restStep a0 l0) ([], a0)) W') := ⟨fun W' h => by rw [hst]; exact h⟩
      have HC0 := Aside0.mk (Kd.C_below HR.out hB)
      have HBB : Aside0 (Boxed W w1.heap.size 22 bv) := ⟨bB⟩
      have HBL : Aside0 (Boxed W (w1.heap.size + 1) 3 (.int .i64 sl)) := ⟨bL⟩
      have hb1w : w.heap.size + 1 < w1.heap.size := by omega
      have hb5w : w.heap.size < w1.heap.size := by omega
      have hww : w.heap.size ≤ w1.heap.size := by omega
      dsimp only [Elem.val]
      clear hvR hvi hI hst bP bA bB hRb bL hB
      obtain ⟨d0, hd0⟩ : ∃ d0, d0 = IntKind.i64.wrap (a0 - sumF l0 xl) := ⟨_, rfl⟩
      gi_wp2
      refine wpIn_mono (Q := fun e a' w' => e = .normal ∧ a' = { tmps := #[.int .i64 a0, .slice A0 l0.length c0, .pointer (some ⟨w.heap.size, 0, none⟩), .pointer (some ⟨w.heap.size + 1, 0, none⟩), .slice none 0 0, .int .i64 0, .int .i64 0, .pointer (some ⟨w1.heap.size, 0, none⟩), .pointer (some ⟨w1.heap.size + 1, 0, none⟩), .slice A xl.length c, .int .i64 d0, .int .i64 a0, .slice A0 l0.length c0, .bool true, .bool false, .int .i64 a0, .slice A0 l0.length c0, .int .i64 (l0.length : Int), .func (.func 83) #[] #[.pointer (some ⟨w1.heap.size + 1 + 1, 0, none⟩)], .slice A xl.length c, .int .i64 a0, .slice A0 l0.length c0, .slice A xl.length c, .int .i64 (sumF l0 xl), .int .i64 d0, undef, undef, undef, undef, undef, undef, undef, undef, undef, undef, undef], defers := [] } ∧ Below W.heap.size W w') ?_ ?_
      · gi_region_with_o (refine ⟨trivial, ?_⟩; gi_at_call 57; refine (CallsIn.inRound l ((callsIn_wide (n := _)).2 (sum_calls A0 c0 l0 A c xl _ (Kd.C_below HC0.out (below_drew (Below.refl _ W))) hc0 (Kd.C_below HCx.out (below_drew (Below.refl _ W))) hxc hxl100 HXI.out))).mono ?_; rintro e w5 ⟨rfl, hd5⟩; have hb5 := below_step (below_drew (Below.refl W.heap.size W)) hd5.below; have hcA5 := pw_cell_below hb5 hcA; have HB5 := Aside0.mk hb5; clear hb5 hd5)
        all_goals exact ⟨rfl, by subst hd0; rfl, HB5.out⟩
      rintro e a5 w5 ⟨rfl, rfl, hb5⟩
      have hdw : d0 = wrap64 (a0 - sumF l0 xl) := by rw [hd0]; simp only [i64_w]
      have hcL5 := pw_cell_below hb5 hcL
      have HI5 := Aside0.mk (HI.out.kp (Kp.of_below hb5) (below_step HI.out.hB hb5))
      have hR5 := Kd.R_below HVR.out hb5
      have HR5 := Aside0.mk hR5
      have bB5 := belowB hb5 HBB.out
      have bL5 := belowB hb5 HBL.out
      have hcB5 := bB5.cell
      have hfB5 := bB5.frozen
      have hfL5 := bL5.frozen
      have bL6 : Boxed (w5.setCell ⟨w1.heap.size, 0, none⟩ (.slice A xl.length c)) (w1.heap.size + 1) 3 (.int .i64 sl) := (Below.heap_setCell w5 ⟨w1.heap.size, 0, none⟩ _ _ (show w1.heap.size + 1 ≠ w1.heap.size by omega)).trans bL5
      have hcL6 := bL6.cell
      have hfL6 := bL6.frozen
      have HB5 := Aside0.mk hb5
      have HDW := Aside0.mk hdw
      have hKF : ∀ B, KeepsFrom B W w5 := fun B => KeepsFrom.of_grownBy (grown_of_below hb5 none) (by simp)
      have HKF := Aside0.mk hKF
      clear hb5 hR5 bB5 bL5 bL6 hdw hd0 hKF hcA hcL hcP5
      by_cases hs : 0 ≤ d0
      · have ds := decide_eq_true hs
        by_cases hs2 : d0 < sl
        · have ds2 := decide_eq_true hs2
          gi_wp2
          refine ⟨(HKF.out _).trans (((KeepsOthers.setCell _ _ _).from _).trans ((KeepsOthers.setCell _ _ _).from _)), ((Kp.of_below HB5.out).trans ((Kp.setCell (p := ⟨w1.heap.size, 0, none⟩) (show w1.heap.size < w1.heap.size + 1 + 1 by omega) _).trans (Kp.setCell (p := ⟨w1.heap.size + 1, 0, none⟩) (show w1.heap.size + 1 < w1.heap.size + 1 + 1 by omega) _))), ?_⟩
          refine HST.out _ ?_
          rw [restStep, ← HDW.out, if_pos (by dsimp only; omega)]
          exact setTwo HI5.out rfl hb1w hb5w hww (Nat.lt_succ_self _) HR5.out
        · have ds2 := decide_eq_false hs2
          gi_wp2
          refine ⟨HKF.out _, Kp.of_below HB5.out, ?_⟩
          refine HST.out _ ?_
          rw [restStep, ← HDW.out, if_neg (fun h => by dsimp only at h; omega)]
          exact HI5.out
      · have ds := decide_eq_false hs
        gi_wp2
        refine ⟨HKF.out _, Kp.of_below HB5.out, ?_⟩
        refine HST.out _ ?_
        rw [restStep, ← HDW.out, if_neg (fun h => by dsimp only at h; omega)]
        exact HI5.out
    case done =>
      rintro D xs W hD hS hI hK
      rw [hS] at hI
      obtain ⟨bP, bA, ⟨bv, bB, hRb⟩, bL, hB⟩ := id hI
      have hcB := bB.cell
      have hcL := bL.cell
      have e0 : restF a0 l0 = (((setsF l0.length).foldl (restStep a0 l0) ([], a0)).1, ((setsF l0.length).foldl (restStep a0 l0) ([], a0)).2, 0) := by rw [restF, if_pos hp]
      have HE := Aside0.mk e0
      have HRB := Aside0.mk hRb
      have HB := Aside0.mk hB
      clear e0 hRb hB hI bP bA bB bL
      gi_wp2
      gi_big_quiet_th_o (fail)
      gi_wp2
      have hK' : (W.drewN nq).heap[D]? = some (.deferred (some [])) := by simpa using hK
      refine ⟨by simp, .inl ⟨_, _, rfl, run_takeDeferred hK', ?_⟩⟩
      refine ⟨_, results_tmp3 rfl _ _ _, bv, by rw [HE.out]; rfl, ?_, ?_⟩
      · rw [HE.out]
        exact Kd.R_lower ((Kp.putObj _ hK' rfl).R (Kd.R_drewN HRB.out nq)) (by omega)
      · have hb := pw_below_drewN HB.out nq
        exact hb.grown (grownBy_putObj' _ D _) hb.size (fun k e => by cases e; simp at hD; omega)
    case stop =>
      intro D pre W _ _ h _
      exact h.elim
  · replace hp : pieF a0 l0 = false := by simpa using hp
    have e0 : restF a0 l0 = ([], 0, 2) := by rw [restF, if_neg (by rw [hp]; decide)]
    rw [hp]
    gi_wp2
    rw [e0]
    exact ⟨_, results_tmp3 rfl _ _ _, _, rfl, Kd.R_nil _ _ _ _ _, below_step hb0 hb1⟩

end Go.Proofs.Ytcjglbipkghhnaa.Hand
