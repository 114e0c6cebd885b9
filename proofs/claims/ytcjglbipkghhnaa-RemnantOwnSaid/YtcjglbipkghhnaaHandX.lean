import Derived.Test.YtcjglbipkghhnaaHandR
namespace Go.Proofs.Ytcjglbipkghhnaa.Hand
open Go.RowKit Go.Shelf Go.Proofs.Ytcjglbipkghhnaa.P Go.Proofs.YtcjglbipkghhnaaW.PrintWords Go.Proofs.YtcjglbipkghhnaaW.PrintLast Go.Proofs.YtcjglbipkghhnaaW.PrintMore
attribute [local go_sem] Oper.semAt_some
attribute [local go_sem] max2_int min2_int max_two min_two
set_option linter.unusedVariables false
set_option linter.unusedSimpArgs false

theorem belowB {W W' : World} {b : Nat} {t : TypeId} {v : Value} (hb : Below W.heap.size W W') (h : Boxed W b t v) : Boxed W' b t v := (hb.block b h.lt).trans h

theorem boxed_drew {W : World} {b : Nat} {t : TypeId} {v : Value} (h : Boxed W b t v) : Boxed W.drew b t v := h

/-- The greater of a number and its negative. -/
def absF (d : Int) : Int := if d < wrap64 (-d) then wrap64 (-d) else d
theorem kp_own {n₀ : Nat} {W W' : World} {row : Option Nat} (hg : W.grownBy W' row) (hr : ∀ r, row = some r → ∃ o : Obj, W.heap[r]? = some o ∧ o.isCells = false) : Kp n₀ W W' :=
  ⟨hg.size, fun b cs t s _ hc => blk_grown hc hg (fun e => by
    obtain ⟨o, ho, hn⟩ := hr b e.symm
    rw [hc] at ho
    injection ho with ho
    subst ho
    simp [Obj.isCells] at hn)⟩
/-- The loop's state in memory: the boxes of what is read, of the best set, of its difference. -/
structure SplitI (w : World) (b1 b5 b6 b7 n₀ : Nat) (pv : Value) (all : Int) (st : List Int × Int) (W : World) : Prop where
  bP : Boxed W b1 22 pv
  bA : Boxed W b5 3 (.int .i64 all)
  bB : ∃ bv, Boxed W b6 22 bv ∧ Kd.R (Kd.int .i64) 3 W n₀ (fun _ => True) bv st.1
  bL : Boxed W b7 3 (.int .i64 st.2)
  hB : Below w.heap.size w W
theorem SplitI.kp {w : World} {b1 b5 b6 b7 n₀ : Nat} {pv : Value} {all : Int} {st : List Int × Int} {W W' : World} (h : SplitI w b1 b5 b6 b7 n₀ pv all st W) (k : Kp 0 W W') (hB : Below w.heap.size w W') : SplitI w b1 b5 b6 b7 n₀ pv all st W' := by
  obtain ⟨bP, bA, ⟨bv, bB, hR⟩, bL, _⟩ := h
  exact ⟨k.boxed (Nat.zero_le _) bP, k.boxed (Nat.zero_le _) bA, ⟨bv, k.boxed (Nat.zero_le _) bB, Kp.R (n₀ := n₀) ⟨k.1, fun b cs t s _ hc => k.2 b cs t s (Nat.zero_le _) hc⟩ hR⟩, k.boxed (Nat.zero_le _) bL, hB⟩
theorem setTwo {w W : World} {b1 b5 b6 b7 n₀ : Nat} {pv : Value} {all : Int} {st : List Int × Int} (h : SplitI w b1 b5 b6 b7 n₀ pv all st W) (h67 : b7 = b6 + 1) (h1 : b1 < b6) (h5 : b5 < b6) (h0 : w.heap.size ≤ b6) (hn : b7 < n₀) {v : Value} {l : List Int} {d : Int}
    (hR : Kd.R (Kd.int .i64) 3 W n₀ (fun _ => True) v l) : SplitI w b1 b5 b6 b7 n₀ pv all (l, d) ((W.setCell ⟨b6, 0, none⟩ v).setCell ⟨b7, 0, none⟩ (.int .i64 d)) := by
  obtain ⟨bP, bA, ⟨bv, bB, _⟩, bL, hB⟩ := h
  have far : ∀ {b t u}, Boxed W b t u → b ≠ b6 → b ≠ b7 → Boxed ((W.setCell ⟨b6, 0, none⟩ v).setCell ⟨b7, 0, none⟩ (.int .i64 d)) b t u := fun hb h6 h7 =>
    ((Below.heap_setCell _ ⟨b7, 0, none⟩ _ _ h7).trans (Below.heap_setCell _ ⟨b6, 0, none⟩ _ _ h6)).trans hb
  refine ⟨far bP (by omega) (by omega), far bA (by omega) (by omega), ⟨v, ?_, Kp.R ((Kp.setCell (p := ⟨b6, 0, none⟩) (show b6 < n₀ by omega) _).trans (Kp.setCell (p := ⟨b7, 0, none⟩) hn _)) hR⟩, ?_, (hB.setCell (p := ⟨b6, 0, none⟩) h0 _).setCell (p := ⟨b7, 0, none⟩) (show w.heap.size ≤ b7 by omega) _⟩
  · exact (Below.heap_setCell _ ⟨b7, 0, none⟩ _ _ (show b6 ≠ b7 by omega)).trans (bB.set v)
  · exact Boxed.set (.int .i64 d) (show Boxed (W.setCell ⟨b6, 0, none⟩ v) b7 3 (.int .i64 st.2) from (Below.heap_setCell _ ⟨b6, 0, none⟩ _ _ (show b7 ≠ b6 by omega)).trans bL)

/-- One set more is looked at. -/
def splitStep (ps : List Int) (all : Int) (st : List Int × Int) (l : List Int) : List Int × Int :=
  if 0 < ps.length ∧ (l = [] ∨ rd l 0 ≠ 0) then st else
  let d := absF (wrap64 (wrap64 (2 * sumF ps l) - all))
  if st.2 < 0 ∨ d < st.2 then (l, d) else st
def splitF (ps : List Int) : List Int × Int × Int :=
  if pieF 100 ps = true then let st := (setsF ps.length).foldl (splitStep ps (sumF ps (places ps.length))) ([], -1); (st.1, st.2, 0) else ([], 0, 2)

set_option maxHeartbeats 4000000 in
set_option maxRecDepth 100000 in
theorem split_calls (A0 : Option Addr) (c0 : Nat) (l0 : List Int) (w : World) (hr0 : Kd.C (Kd.int .i64) w A0 l0.length l0) (hc0 : l0.length ≤ c0) :
    Calls Try.prog 23 #[.slice A0 l0.length c0] w fun e w' => ∃ v0_ : Value, e = .returned (.tuple #[v0_, .int .i64 (splitF l0).2.1, .int .i64 (splitF l0).2.2]) ∧ Kd.R (Kd.int .i64) 3 w' w.heap.size (fun _ => True) v0_ (splitF l0).1 ∧ Below w.heap.size w w' := by
  have hmix : Try.prog.follows .mixedOrders = true := by kernel_rfl
  have HR := Aside0.mk hr0
  have bP0 := Boxed.new w 22 (.slice A0 l0.length c0)
  have hcP := bP0.cell
  have HbP := Aside0.mk bP0
  clear hr0 bP0
  refine (callsIn_wide (n := 5)).1 ?_
  refine callsIn_of_wp_marks Try.func23 rfl trivial ?_ rfl
  simp only [Try.ntmps23, List.size_toArray, List.length_cons, List.length_nil, Nat.reduceAdd, Nat.reduceSub, Array.replicate_succ, Array.replicate_zero, List.push_toArray, List.append_toArray, List.nil_append, List.cons_append]
  gi_wp2
  refine ⟨trivial, ((callsIn_wide (n := 5 - 1)).2 (pie_calls 100 A0 c0 l0 _ (Kd.C_alloc HR.out _))).mono ?_⟩
  rintro e w1 ⟨rfl, hb1⟩
  by_cases hp : pieF 100 l0 = true
  · rw [hp]
    have bP1 : Boxed w1 w.heap.size 22 (.slice A0 l0.length c0) := (hb1.block _ HbP.out.lt).trans HbP.out
    have HbP1 := Aside0.mk bP1
    have hcP1 := bP1.cell
    have HB1 := Aside0.mk hb1
    clear bP1 hb1
    have hlen : l0.length ≤ 12 := by
      unfold pieF at hp
      simp only [Bool.and_eq_true, decide_eq_true_eq] at hp
      omega
    have HC1 := Aside0.mk (Kd.C_below (Kd.C_alloc HR.out (.cells #[.slice A0 l0.length c0] 22)) HB1.out)
    have hcP1a : ((w1.alloc (.cells #[.int .i64 0] 3)).drew).cell? ⟨w.heap.size, 0, none⟩ = some (.slice A0 l0.length c0) := pw_cell_below (below_alloc (Below.refl w1.heap.size w1) (.cells #[.int .i64 0] 3)) hcP1
    gi_wp2
    refine wpIn_wide.2 (wp_mono (Q := fun e a' w' => e = .normal ∧ ∃ b5 v15, a' = { tmps := #[.slice A0 l0.length c0, .pointer (some ⟨w.heap.size, 0, none⟩), .slice none 0 0, .int .i64 0, .int .i64 0, .pointer (some ⟨b5, 0, none⟩), undef, undef, undef, undef, .slice A0 l0.length c0, .bool true, .bool false, .slice A0 l0.length c0, .slice A0 l0.length c0, v15, .int .i64 (sumF l0 (places l0.length)), undef, undef, undef, undef, undef, undef, undef, undef, undef, undef, undef, undef, undef, undef, undef, undef, undef, undef, undef, undef, undef, undef, undef, undef, undef, undef, undef, undef, undef, undef, undef, undef, undef, undef, undef, undef, undef, undef, undef], defers := [] } ∧ Boxed w' b5 3 (.int .i64 (sumF l0 (places l0.length))) ∧ w1.heap.size ≤ b5 ∧ Below w1.heap.size w1 w') ?reg ?rest)
    case reg =>
      go_region_law (first | (go_simp; go_at_call 58; with_reducible refine (ord_calls A0 c0 l0 _ (Kd.C_below HC1.out (by repeat (first | exact Below.refl _ _ | apply below_alloc | apply below_drew))) hc0 (by omega)).mono ?_; rintro e w2 ⟨v15, rfl, hR2, hb2⟩; obtain ⟨A2, c2, rfl⟩ := Kd.R_slice hR2; have hb12 := below_step (show Below w1.heap.size w1 _ from (by repeat (first | exact Below.refl _ _ | apply below_alloc | apply below_drew))) hb2; have hcP2 := pw_cell_below hb12 hcP1; have hcP2a := pw_cell_below (below_alloc (Below.refl w2.heap.size w2) (.cells #[.int .i64 0] 3)) hcP2; have HR2 := Aside0.mk hR2; have HB12 := Aside0.mk hb12; (try (have hbx2 : Boxed w2 w1.heap.size 3 (.int .i64 0) := belowB hb2 (boxed_drew (Boxed.new w1 3 (.int .i64 0))); have hcx2 := hbx2.cell; have hfx2 := hbx2.frozen; have HBX := Aside0.mk hbx2; clear hbx2)); clear hR2 hb12 hb2) | (go_simp; go_at_call 57; with_reducible refine (sum_calls A0 c0 l0 A2 c2 (places l0.length) _ (Kd.C_below HC1.out (by repeat (first | exact HB12.out | apply below_alloc | apply below_drew))) hc0 (Kd.C_below (Kd.R_reads' HR2.out).2.2 (by repeat (first | exact Below.refl _ _ | apply below_alloc | apply below_drew))) (Kd.R_reads' HR2.out).2.1 (by rw [places_length]; omega) places_in).mono ?_; rintro e w3 ⟨rfl, hd3⟩; have hb23 := hd3.below; have hb13 := below_step (show Below w1.heap.size w1 _ from (by repeat (first | exact HB12.out | apply below_alloc | apply below_drew))) hb23; have HB13 := Aside0.mk hb13; (try (have hbx3 : Boxed w3 w1.heap.size 3 (.int .i64 0) := belowB hb23 HBX.out; have hcx3 := hbx3.cell; have hfx3 := hbx3.frozen; have HBX3 := Aside0.mk hbx3; clear hbx3)); (try (have hbx4 : Boxed w3 w2.heap.size 3 (.int .i64 0) := belowB hb23 (Boxed.new w2 3 (.int .i64 0)); have hcx4 := hbx4.cell; have hfx4 := hbx4.frozen; have HBX4 := Aside0.mk hbx4; clear hbx4)); clear hb13 hb23 hd3))
      all_goals refine ⟨rfl, _, _, rfl, ?_, ?_, ?_⟩
      all_goals first
        | exact HBX3.out.set _
        | exact HBX4.out.set _
        | exact Boxed.new _ _ _
        | exact Nat.le_refl _
        | exact HB12.out.size
        | exact HB13.out.size
        | exact HB13.out.setCell (p := ⟨_, 0, none⟩) (Nat.le_refl _) _
        | exact HB13.out.setCell (p := ⟨_, 0, none⟩) HB12.out.size _
        | exact below_alloc HB13.out _
    case rest =>
      rintro e a2 w2 ⟨rfl, b5, v15, rfl, bA, hb5, hb12⟩
      have bP2 := belowB hb12 HbP1.out
      have hcP2 := ((bP2.alloc (.cells #[.slice none 0 0] 22)).alloc (.cells #[.int .i64 (-1)] 3)).cell
      have HbP2 := Aside0.mk bP2
      have HbA := Aside0.mk bA
      have HB12 := Aside0.mk hb12
      clear bP2 bA hb12
      gi_wp2
      refine ⟨trivial, (sets_in Fence.wide _ trivial rfl _ _).mono ?_⟩
      rintro e w3 ⟨rfl, rfl⟩
      gi_wp2
      have bB4 := ((Boxed.new w2 22 (.slice none 0 0)).alloc (.cells #[.int .i64 (-1)] 3)).alloc (.cells #[.int .i64 (l0.length : Int)] 3)
      have bL4 := (Boxed.new (w2.alloc (.cells #[.slice none 0 0] 22)) 3 (.int .i64 (-1))).alloc (.cells #[.int .i64 (l0.length : Int)] 3)
      have bN4 := Boxed.new ((w2.alloc (.cells #[.slice none 0 0] 22)).alloc (.cells #[.int .i64 (-1)] 3)) 3 (.int .i64 (l0.length : Int))
      simp only [World.size_alloc] at bL4 bN4
      have hb24 : Below w2.heap.size w2 (((w2.alloc (.cells #[.slice none 0 0] 22)).alloc (.cells #[.int .i64 (-1)] 3)).alloc (.cells #[.int .i64 (l0.length : Int)] 3)) := (((Below.refl _ w2).alloc (Nat.le_refl _) _).alloc (by simp) _).alloc (by simp; omega) _
      have hb1' : Below w.heap.size w w1 := below_step ((Below.refl w.heap.size w).alloc (Nat.le_refl _) _) HB1.out
      have hb4 : Below w.heap.size w (((w2.alloc (.cells #[.slice none 0 0] 22)).alloc (.cells #[.int .i64 (-1)] 3)).alloc (.cells #[.int .i64 (l0.length : Int)] 3)) := below_step (below_step hb1' HB12.out) hb24
      have hs12 := HB12.out.size
      have hs1 : w.heap.size + 1 ≤ w1.heap.size := by have := HB1.out.size; simpa using this
      have hb5' := HbA.out.lt
      have hI0 : SplitI w w.heap.size b5 w2.heap.size (w2.heap.size + 1) (w2.heap.size + 1 + 1) (.slice A0 l0.length c0) (sumF l0 (places l0.length)) ([], -1) (((w2.alloc (.cells #[.slice none 0 0] 22)).alloc (.cells #[.int .i64 (-1)] 3)).alloc (.cells #[.int .i64 (l0.length : Int)] 3)) :=
        ⟨belowB hb24 HbP2.out, belowB hb24 HbA.out, ⟨_, bB4, Kd.R_nil _ _ _ _ _⟩, bL4, hb4⟩
      refine wpIn_rangeFunc_V rfl (by decide) (gf := 83) (lb := #[.pointer (some ⟨w2.heap.size + 1 + 1, 0, none⟩)]) rfl trivial (enters_of Try.func83 (by kernel_rfl) rfl)
        (sets_seq (5 - 1) (w2.heap.size + 1 + 1) l0.length (by omega) _ bN4 (by simp)) (fun h k => h.trans k) (fun W l o o' _ h h1 _ => Kp.putObj o' h h1) (Below.refl _ _) (fun _ => rfl)
        (fun pre W => SplitI w w.heap.size b5 w2.heap.size (w2.heap.size + 1) (w2.heap.size + 1 + 1) (.slice A0 l0.length c0) (sumF l0 (places l0.length)) ((pre.map (·.2.2)).foldl (splitStep l0 (sumF l0 (places l0.length))) ([], -1)) W)
        (fun _ _ => False)
        (fun s W W' row hs hg hr => hs.kp (kp_own hg (fun r e => (hr r e).2)) (hs.hB.grown hg hs.hB.size (fun k e => by have := (hr k e).1; simp at this; omega)))
        (fun _ _ _ _ hs _ _ => hs)
        (fun s W W' row hs hg hr => hs.kp (kp_own hg (fun r e => (hr r e).2)))
        hI0
        (fun x => { tmps := #[.slice A0 l0.length c0, .pointer (some ⟨w.heap.size, 0, none⟩), .slice none 0 0, .int .i64 0, .int .i64 0, .pointer (some ⟨b5, 0, none⟩), .pointer (some ⟨w2.heap.size, 0, none⟩), .pointer (some ⟨w2.heap.size + 1, 0, none⟩), x.val, undef, .slice A0 l0.length c0, .bool true, .bool false, .slice A0 l0.length c0, .slice A0 l0.length c0, v15, .int .i64 (sumF l0 (places l0.length)), .slice A0 l0.length c0, .int .i64 (l0.length : Int), .func (.func 83) #[] #[.pointer (some ⟨w2.heap.size + 1 + 1, 0, none⟩)], x.val, undef, undef, undef, undef, undef, undef, undef, undef, undef, undef, undef, undef, undef, undef, undef, undef, undef, undef, undef, undef, undef, undef, undef, undef, undef, undef, undef, undef, undef, undef, undef, undef, undef, undef, undef], defers := [] }) ?assign ?body ?done ?stop
      case assign =>
        intro l x W K hK
        gi_wp2
        exact hK
      case body =>
        rintro l pre ⟨A, c, xl⟩ W hI ⟨hvR, hvl, hvi⟩
        have hst : ((pre ++ [((A, c, xl) : Elem)]).map (·.2.2)).foldl (splitStep l0 (sumF l0 (places l0.length))) ([], -1) = splitStep l0 (sumF l0 (places l0.length)) ((pre.map (·.2.2)).foldl (splitStep l0 (sumF l0 (places l0.length))) ([], -1)) xl := by simp [List.foldl_append]
        generalize (pre.map (·.2.2)).foldl (splitStep l0 (sumF l0 (places l0.length))) ([], -1) = st at hI hst
        obtain ⟨sb, sl⟩ := st
        obtain ⟨bP, bA, ⟨bv, bB, hRb⟩, bL, hB⟩ := id hI
        have hcP5 := bP.cell
        have hcA := bA.cell
        have hcB := bB.cell
        have hfB := bB.frozen
        have hcL := bL.cell
        have hfL := bL.frozen
        have hxc : xl.length ≤ c := (Kd.R_reads' hvR).2.1
        have hxl100 : xl.length ≤ 1000 := by dsimp only at hvl; omega
        have HCx : Aside0 (Kd.C (Kd.int .i64) W A xl.length xl) := ⟨(Kd.R_reads' hvR).2.2⟩
        have HVR : Aside0 (Kd.R (Kd.int .i64) 3 W (w2.heap.size + 1 + 1) (fun _ => True) (.slice A xl.length c) xl) := ⟨hvR⟩
        have HXI : Aside0 (∀ i ∈ xl, 0 ≤ i ∧ i < (l0.length : Int)) := ⟨hvi⟩
        have HI := Aside0.mk hI
        have HST : Aside0 (∀ W', SplitI w w.heap.size b5 w2.heap.size (w2.heap.size + 1) (w2.heap.size + 1 + 1) (.slice A0 l0.length c0) (sumF l0 (places l0.length)) (splitStep l0 (sumF l0 (places l0.length)) (sb, sl) xl) W' → SplitI w w.heap.size b5 w2.heap.size (w2.heap.size + 1) (w2.heap.size + 1 + 1) (.slice A0 l0.length c0) (sumF l0 (places l0.length)) (((pre ++ [((A, c, xl) : Elem)]).map (·.2.2)).foldl (splitStep l0 (sumF l0 (places l0.length))) ([], -1)) W') := ⟨fun W' h => by rw [hst]; exact h⟩
        have HC0 := Aside0.mk (Kd.C_below HR.out hB)
        dsimp only [Elem.val]
        clear hvR hvi hI hst bP bA bB hRb bL hB
        have HBB := Aside0.mk HI.out.bB.choose_spec.1
        have HBL : Aside0 (Boxed W (w2.heap.size + 1) 3 (.int .i64 sl)) := ⟨HI.out.bL⟩
        have hb1w : w.heap.size < w2.heap.size := by omega
        have hb5w : b5 < w2.heap.size := by omega
        have hww : w.heap.size ≤ w2.heap.size := by omega
        have HBB := Aside0.mk HI.out.bB.choose_spec.1
        have HBL : Aside0 (Boxed W (w2.heap.size + 1) 3 (.int .i64 sl)) := ⟨HI.out.bL⟩
        have hb1w : w.heap.size < w2.heap.size := by omega
        have hb5w : b5 < w2.heap.size := by omega
        have hww : w.heap.size ≤ w2.heap.size := by omega
        have HBB := Aside0.mk HI.out.bB.choose_spec.1
        have HBL : Aside0 (Boxed W (w2.heap.size + 1) 3 (.int .i64 sl)) := ⟨HI.out.bL⟩
        have hb1w : w.heap.size < w2.heap.size := by omega
        have hb5w : b5 < w2.heap.size := by omega
        have hww : w.heap.size ≤ w2.heap.size := by omega
        by_cases c1 : 0 < l0.length
        · have d1 : decide (0 < (l0.length : Int)) = true := decide_eq_true (by omega)
          by_cases c2 : xl.length = 0
          · obtain rfl := List.eq_nil_of_length_eq_zero c2
            gi_wp2
            exact ⟨KeepsFrom.refl _ _, Kp.refl _ _, by refine HST.out _ ?_; rw [splitStep, if_pos ⟨c1, .inl rfl⟩]; exact HI.out⟩
          · have d2 : ((xl.length : Int) == 0) = false := beq_eq_false_iff_ne.mpr (by omega)
            have c2' : xl ≠ [] := fun e => c2 (by rw [e]; rfl)
            obtain ⟨ad, e, g0⟩ := Kd.at_int HCx.out 0 (by omega) (by omega)
            cases e
            rw [show (0 : Int).toNat = 0 from rfl, Addr.add_zero'] at g0
            have hpos : (0 : Int) < (xl.length : Int) := by omega
            by_cases c3 : rd xl 0 = 0
            · have d3 : (rd xl 0 != 0) = false := by simp [c3]
              have hsk : ¬ (0 < l0.length ∧ (xl = [] ∨ rd xl 0 ≠ 0)) := fun h => h.2.elim c2' (fun h => h c3)
              gi_wp2
              obtain ⟨d0, hd0⟩ : ∃ d0, d0 = IntKind.i64.wrap (IntKind.i64.wrap (2 * sumF l0 xl) - sumF l0 (places l0.length)) := ⟨_, rfl⟩
              refine wpIn_mono (Q := fun e a' w' => e = .normal ∧ a' = { tmps := #[.slice A0 l0.length c0, .pointer (some ⟨w.heap.size, 0, none⟩), .slice none 0 0, .int .i64 0, .int .i64 0, .pointer (some ⟨b5, 0, none⟩), .pointer (some ⟨w2.heap.size, 0, none⟩), .pointer (some ⟨w2.heap.size + 1, 0, none⟩), .slice (some ad) xl.length c, .int .i64 d0, .slice A0 l0.length c0, .bool true, .bool false, .slice A0 l0.length c0, .slice A0 l0.length c0, v15, .int .i64 (sumF l0 (places l0.length)), .slice A0 l0.length c0, .int .i64 (l0.length : Int), .func (.func 83) #[] #[.pointer (some ⟨w2.heap.size + 1 + 1, 0, none⟩)], .slice (some ad) xl.length c, .slice A0 l0.length c0, .int .i64 (l0.length : Int), .bool true, .bool true, .slice (some ad) xl.length c, .int .i64 (xl.length : Int), .bool false, .bool false, .slice (some ad) xl.length c, .pointer (some ad), .int .i64 0, .bool false, .bool false, .bool false, .slice A0 l0.length c0, .slice (some ad) xl.length c, .int .i64 (sumF l0 xl), .int .i64 (IntKind.i64.wrap (2 * sumF l0 xl)), .int .i64 (sumF l0 (places l0.length)), .int .i64 d0, undef, undef, undef, undef, undef, undef, undef, undef, undef, undef, undef, undef, undef, undef, undef], defers := [] } ∧ Below W.heap.size W w') ?_ ?_
              · gi_region_with_o (refine ⟨trivial, ?_⟩; gi_at_call 57; refine (CallsIn.inRound l ((callsIn_wide (n := _)).2 (sum_calls A0 c0 l0 (some ad) c xl _ (Kd.C_below HC0.out (below_drew (Below.refl _ W))) hc0 (Kd.C_below HCx.out (below_drew (Below.refl _ W))) hxc hxl100 HXI.out))).mono ?_; rintro e w5 ⟨rfl, hd5⟩; have hb5 := below_step (below_drew (Below.refl W.heap.size W)) hd5.below; have hcA5 := pw_cell_below hb5 hcA; have HB5 := Aside0.mk hb5; clear hb5 hd5)
                all_goals exact ⟨rfl, by subst hd0; rfl, HB5.out⟩
              rintro e a5 w5 ⟨rfl, rfl, hb5⟩
              have hdw : d0 = wrap64 (wrap64 (2 * sumF l0 xl) - sumF l0 (places l0.length)) := by rw [hd0]; simp only [i64_w]
              have hcL5 := pw_cell_below hb5 hcL
              have HI5 := Aside0.mk (HI.out.kp (Kp.of_below hb5) (below_step HI.out.hB hb5))
              have hR5 := Kd.R_below HVR.out hb5
              have HR5 := Aside0.mk hR5
              have bB5 := belowB hb5 HBB.out
              have bL5 := belowB hb5 HBL.out
              have hcB5 := bB5.cell
              have hfB5 := bB5.frozen
              have hfL5 := bL5.frozen
              have bL6 : Boxed (w5.setCell ⟨w2.heap.size, 0, none⟩ (.slice (some ad) xl.length c)) (w2.heap.size + 1) 3 (.int .i64 sl) := (Below.heap_setCell w5 ⟨w2.heap.size, 0, none⟩ _ _ (show w2.heap.size + 1 ≠ w2.heap.size by omega)).trans bL5
              have hcL6 := bL6.cell
              have hfL6 := bL6.frozen
              have HB5 := Aside0.mk hb5
              have HDW := Aside0.mk hdw
              have HSK := Aside0.mk hsk
              have hKF : ∀ B, KeepsFrom B W w5 := fun B => KeepsFrom.of_grownBy (grown_of_below hb5 none) (by simp)
              have HKF := Aside0.mk hKF
              clear hb5 hR5 bB5 bL5 bL6 hdw hd0 hKF hcA hcB hfB hcL hfL hcP5 hsk
              by_cases hm : d0 < wrap64 (-d0)
              · have hab : absF d0 = wrap64 (-d0) := if_pos hm
                by_cases hs : sl < 0
                · have ds := decide_eq_true hs
                  gi_wp2
                  refine ⟨(HKF.out _).trans (((KeepsOthers.setCell _ _ _).from _).trans ((KeepsOthers.setCell _ _ _).from _)), ((Kp.of_below HB5.out).trans ((Kp.setCell (p := ⟨w2.heap.size, 0, none⟩) (show w2.heap.size < w2.heap.size + 1 + 1 by omega) _).trans (Kp.setCell (p := ⟨w2.heap.size + 1, 0, none⟩) (show w2.heap.size + 1 < w2.heap.size + 1 + 1 by omega) _))), ?_⟩
                  refine HST.out _ ?_
                  rw [splitStep, if_neg HSK.out, ← HDW.out, hab, if_pos (by dsimp only; omega)]
                  exact setTwo HI5.out rfl hb1w hb5w hww (Nat.lt_succ_self _) HR5.out
                · have ds := decide_eq_false hs
                  by_cases hs2 : wrap64 (-d0) < sl
                  · have ds2 := decide_eq_true hs2
                    gi_wp2
                    replace hs := hs2
                    refine ⟨(HKF.out _).trans (((KeepsOthers.setCell _ _ _).from _).trans ((KeepsOthers.setCell _ _ _).from _)), ((Kp.of_below HB5.out).trans ((Kp.setCell (p := ⟨w2.heap.size, 0, none⟩) (show w2.heap.size < w2.heap.size + 1 + 1 by omega) _).trans (Kp.setCell (p := ⟨w2.heap.size + 1, 0, none⟩) (show w2.heap.size + 1 < w2.heap.size + 1 + 1 by omega) _))), ?_⟩
                    refine HST.out _ ?_
                    rw [splitStep, if_neg HSK.out, ← HDW.out, hab, if_pos (by dsimp only; omega)]
                    exact setTwo HI5.out rfl hb1w hb5w hww (Nat.lt_succ_self _) HR5.out
                  · have ds2 := decide_eq_false hs2
                    gi_wp2
                    refine ⟨HKF.out _, Kp.of_below HB5.out, ?_⟩
                    refine HST.out _ ?_
                    rw [splitStep, if_neg HSK.out, ← HDW.out, hab, if_neg (fun h => by dsimp only at h; omega)]
                    exact HI5.out
              · have hab : absF d0 = d0 := if_neg hm
                by_cases hs : sl < 0
                · have ds := decide_eq_true hs
                  gi_wp2
                  refine ⟨(HKF.out _).trans (((KeepsOthers.setCell _ _ _).from _).trans ((KeepsOthers.setCell _ _ _).from _)), ((Kp.of_below HB5.out).trans ((Kp.setCell (p := ⟨w2.heap.size, 0, none⟩) (show w2.heap.size < w2.heap.size + 1 + 1 by omega) _).trans (Kp.setCell (p := ⟨w2.heap.size + 1, 0, none⟩) (show w2.heap.size + 1 < w2.heap.size + 1 + 1 by omega) _))), ?_⟩
                  refine HST.out _ ?_
                  rw [splitStep, if_neg HSK.out, ← HDW.out, hab, if_pos (by dsimp only; omega)]
                  exact setTwo HI5.out rfl hb1w hb5w hww (Nat.lt_succ_self _) HR5.out
                · have ds := decide_eq_false hs
                  by_cases hs2 : d0 < sl
                  · have ds2 := decide_eq_true hs2
                    gi_wp2
                    replace hs := hs2
                    refine ⟨(HKF.out _).trans (((KeepsOthers.setCell _ _ _).from _).trans ((KeepsOthers.setCell _ _ _).from _)), ((Kp.of_below HB5.out).trans ((Kp.setCell (p := ⟨w2.heap.size, 0, none⟩) (show w2.heap.size < w2.heap.size + 1 + 1 by omega) _).trans (Kp.setCell (p := ⟨w2.heap.size + 1, 0, none⟩) (show w2.heap.size + 1 < w2.heap.size + 1 + 1 by omega) _))), ?_⟩
                    refine HST.out _ ?_
                    rw [splitStep, if_neg HSK.out, ← HDW.out, hab, if_pos (by dsimp only; omega)]
                    exact setTwo HI5.out rfl hb1w hb5w hww (Nat.lt_succ_self _) HR5.out
                  · have ds2 := decide_eq_false hs2
                    gi_wp2
                    refine ⟨HKF.out _, Kp.of_below HB5.out, ?_⟩
                    refine HST.out _ ?_
                    rw [splitStep, if_neg HSK.out, ← HDW.out, hab, if_neg (fun h => by dsimp only at h; omega)]
                    exact HI5.out
            · have d3 : (rd xl 0 != 0) = true := bne_iff_ne.mpr c3
              gi_wp2
              exact ⟨KeepsFrom.refl _ _, Kp.refl _ _, by refine HST.out _ ?_; rw [splitStep, if_pos ⟨c1, .inr c3⟩]; exact HI.out⟩
        · have d1 : decide (0 < (l0.length : Int)) = false := decide_eq_false (by omega)
          have hsk : ¬ (0 < l0.length ∧ (xl = [] ∨ rd xl 0 ≠ 0)) := fun h => c1 h.1
          gi_wp2
          obtain ⟨d0, hd0⟩ : ∃ d0, d0 = IntKind.i64.wrap (IntKind.i64.wrap (2 * sumF l0 xl) - sumF l0 (places l0.length)) := ⟨_, rfl⟩
          refine wpIn_mono (Q := fun e a' w' => e = .normal ∧ a' = { tmps := #[.slice A0 l0.length c0, .pointer (some ⟨w.heap.size, 0, none⟩), .slice none 0 0, .int .i64 0, .int .i64 0, .pointer (some ⟨b5, 0, none⟩), .pointer (some ⟨w2.heap.size, 0, none⟩), .pointer (some ⟨w2.heap.size + 1, 0, none⟩), .slice A xl.length c, .int .i64 d0, .slice A0 l0.length c0, .bool true, .bool false, .slice A0 l0.length c0, .slice A0 l0.length c0, v15, .int .i64 (sumF l0 (places l0.length)), .slice A0 l0.length c0, .int .i64 (l0.length : Int), .func (.func 83) #[] #[.pointer (some ⟨w2.heap.size + 1 + 1, 0, none⟩)], .slice A xl.length c, .slice A0 l0.length c0, .int .i64 (l0.length : Int), .bool false, .bool false, undef, undef, undef, undef, undef, undef, undef, undef, undef, .bool false, .slice A0 l0.length c0, .slice A xl.length c, .int .i64 (sumF l0 xl), .int .i64 (IntKind.i64.wrap (2 * sumF l0 xl)), .int .i64 (sumF l0 (places l0.length)), .int .i64 d0, undef, undef, undef, undef, undef, undef, undef, undef, undef, undef, undef, undef, undef, undef, undef], defers := [] } ∧ Below W.heap.size W w') ?_ ?_
          · gi_region_with_o (refine ⟨trivial, ?_⟩; gi_at_call 57; refine (CallsIn.inRound l ((callsIn_wide (n := _)).2 (sum_calls A0 c0 l0 A c xl _ (Kd.C_below HC0.out (below_drew (Below.refl _ W))) hc0 (Kd.C_below HCx.out (below_drew (Below.refl _ W))) hxc hxl100 HXI.out))).mono ?_; rintro e w5 ⟨rfl, hd5⟩; have hb5 := below_step (below_drew (Below.refl W.heap.size W)) hd5.below; have hcA5 := pw_cell_below hb5 hcA; have HB5 := Aside0.mk hb5; clear hb5 hd5)
            all_goals exact ⟨rfl, by subst hd0; rfl, HB5.out⟩
          rintro e a5 w5 ⟨rfl, rfl, hb5⟩
          have hdw : d0 = wrap64 (wrap64 (2 * sumF l0 xl) - sumF l0 (places l0.length)) := by rw [hd0]; simp only [i64_w]
          have hcL5 := pw_cell_below hb5 hcL
          have HI5 := Aside0.mk (HI.out.kp (Kp.of_below hb5) (below_step HI.out.hB hb5))
          have hR5 := Kd.R_below HVR.out hb5
          have HR5 := Aside0.mk hR5
          have bB5 := belowB hb5 HBB.out
          have bL5 := belowB hb5 HBL.out
          have hcB5 := bB5.cell
          have hfB5 := bB5.frozen
          have hfL5 := bL5.frozen
          have bL6 : Boxed (w5.setCell ⟨w2.heap.size, 0, none⟩ (.slice A xl.length c)) (w2.heap.size + 1) 3 (.int .i64 sl) := (Below.heap_setCell w5 ⟨w2.heap.size, 0, none⟩ _ _ (show w2.heap.size + 1 ≠ w2.heap.size by omega)).trans bL5
          have hcL6 := bL6.cell
          have hfL6 := bL6.frozen
          have HB5 := Aside0.mk hb5
          have HDW := Aside0.mk hdw
          have HSK := Aside0.mk hsk
          have hKF : ∀ B, KeepsFrom B W w5 := fun B => KeepsFrom.of_grownBy (grown_of_below hb5 none) (by simp)
          have HKF := Aside0.mk hKF
          clear hb5 hR5 bB5 bL5 bL6 hdw hd0 hKF hcA hcB hfB hcL hfL hcP5 hsk
          by_cases hm : d0 < wrap64 (-d0)
          · have hab : absF d0 = wrap64 (-d0) := if_pos hm
            by_cases hs : sl < 0
            · have ds := decide_eq_true hs
              gi_wp2
              refine ⟨(HKF.out _).trans (((KeepsOthers.setCell _ _ _).from _).trans ((KeepsOthers.setCell _ _ _).from _)), ((Kp.of_below HB5.out).trans ((Kp.setCell (p := ⟨w2.heap.size, 0, none⟩) (show w2.heap.size < w2.heap.size + 1 + 1 by omega) _).trans (Kp.setCell (p := ⟨w2.heap.size + 1, 0, none⟩) (show w2.heap.size + 1 < w2.heap.size + 1 + 1 by omega) _))), ?_⟩
              refine HST.out _ ?_
              rw [splitStep, if_neg HSK.out, ← HDW.out, hab, if_pos (by dsimp only; omega)]
              exact setTwo HI5.out rfl hb1w hb5w hww (Nat.lt_succ_self _) HR5.out
            · have ds := decide_eq_false hs
              by_cases hs2 : wrap64 (-d0) < sl
              · have ds2 := decide_eq_true hs2
                gi_wp2
                replace hs := hs2
                refine ⟨(HKF.out _).trans (((KeepsOthers.setCell _ _ _).from _).trans ((KeepsOthers.setCell _ _ _).from _)), ((Kp.of_below HB5.out).trans ((Kp.setCell (p := ⟨w2.heap.size, 0, none⟩) (show w2.heap.size < w2.heap.size + 1 + 1 by omega) _).trans (Kp.setCell (p := ⟨w2.heap.size + 1, 0, none⟩) (show w2.heap.size + 1 < w2.heap.size + 1 + 1 by omega) _))), ?_⟩
                refine HST.out _ ?_
                rw [splitStep, if_neg HSK.out, ← HDW.out, hab, if_pos (by dsimp only; omega)]
                exact setTwo HI5.out rfl hb1w hb5w hww (Nat.lt_succ_self _) HR5.out
              · have ds2 := decide_eq_false hs2
                gi_wp2
                refine ⟨HKF.out _, Kp.of_below HB5.out, ?_⟩
                refine HST.out _ ?_
                rw [splitStep, if_neg HSK.out, ← HDW.out, hab, if_neg (fun h => by dsimp only at h; omega)]
                exact HI5.out
          · have hab : absF d0 = d0 := if_neg hm
            by_cases hs : sl < 0
            · have ds := decide_eq_true hs
              gi_wp2
              refine ⟨(HKF.out _).trans (((KeepsOthers.setCell _ _ _).from _).trans ((KeepsOthers.setCell _ _ _).from _)), ((Kp.of_below HB5.out).trans ((Kp.setCell (p := ⟨w2.heap.size, 0, none⟩) (show w2.heap.size < w2.heap.size + 1 + 1 by omega) _).trans (Kp.setCell (p := ⟨w2.heap.size + 1, 0, none⟩) (show w2.heap.size + 1 < w2.heap.size + 1 + 1 by omega) _))), ?_⟩
              refine HST.out _ ?_
              rw [splitStep, if_neg HSK.out, ← HDW.out, hab, if_pos (by dsimp only; omega)]
              exact setTwo HI5.out rfl hb1w hb5w hww (Nat.lt_succ_self _) HR5.out
            · have ds := decide_eq_false hs
              by_cases hs2 : d0 < sl
              · have ds2 := decide_eq_true hs2
                gi_wp2
                replace hs := hs2
                refine ⟨(HKF.out _).trans (((KeepsOthers.setCell _ _ _).from _).trans ((KeepsOthers.setCell _ _ _).from _)), ((Kp.of_below HB5.out).trans ((Kp.setCell (p := ⟨w2.heap.size, 0, none⟩) (show w2.heap.size < w2.heap.size + 1 + 1 by omega) _).trans (Kp.setCell (p := ⟨w2.heap.size + 1, 0, none⟩) (show w2.heap.size + 1 < w2.heap.size + 1 + 1 by omega) _))), ?_⟩
                refine HST.out _ ?_
                rw [splitStep, if_neg HSK.out, ← HDW.out, hab, if_pos (by dsimp only; omega)]
                exact setTwo HI5.out rfl hb1w hb5w hww (Nat.lt_succ_self _) HR5.out
              · have ds2 := decide_eq_false hs2
                gi_wp2
                refine ⟨HKF.out _, Kp.of_below HB5.out, ?_⟩
                refine HST.out _ ?_
                rw [splitStep, if_neg HSK.out, ← HDW.out, hab, if_neg (fun h => by dsimp only at h; omega)]
                exact HI5.out
      case done =>
        rintro D xs W hD hS hI hK
        rw [hS] at hI
        obtain ⟨bP, bA, ⟨bv, bB, hRb⟩, bL, hB⟩ := id hI
        have hcB := bB.cell
        have hcL := bL.cell
        have e0 : splitF l0 = (((setsF l0.length).foldl (splitStep l0 (sumF l0 (places l0.length))) ([], -1)).1, ((setsF l0.length).foldl (splitStep l0 (sumF l0 (places l0.length))) ([], -1)).2, 0) := by rw [splitF, if_pos hp]
        have HE := Aside0.mk e0
        have HRB := Aside0.mk hRb
        have HB := Aside0.mk hB
        clear e0 hRb hB hI bP bA bB bL
        gi_wp2
        gi_big_quiet_th_o (fail)
        gi_wp2
        have hK' : (W.drewN nq).heap[D]? = some (.deferred (some [])) := by simpa using hK
        refine ⟨by simp, .inl ⟨_, _, rfl, run_takeDeferred hK', ?_⟩⟩
        refine ⟨_, results_tmp3 rfl _ _ _, bv, by rw [HE.out]; rfl, ?_, ?_⟩
        · rw [HE.out]
          exact Kd.R_lower ((Kp.putObj _ hK' rfl).R (Kd.R_drewN HRB.out nq)) (by omega)
        · have hb := pw_below_drewN HB.out nq
          exact hb.grown (grownBy_putObj' _ D _) hb.size (fun k e => by cases e; simp at hD; omega)
      case stop =>
        intro D pre W _ _ h _
        exact h.elim
  · replace hp : pieF 100 l0 = false := by simpa using hp
    have e0 : splitF l0 = ([], 0, 2) := by rw [splitF, if_neg (by rw [hp]; decide)]
    rw [hp]
    gi_wp2
    rw [e0]
    exact ⟨_, results_tmp3 rfl _ _ _, _, rfl, Kd.R_nil _ _ _ _ _, below_step ((Below.refl w.heap.size w).alloc (Nat.le_refl _) _) hb1⟩

end Go.Proofs.Ytcjglbipkghhnaa.Hand
