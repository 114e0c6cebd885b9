import Derived.Test.YtkjjnfbgcdanmaaHandS0
namespace Go.Proofs.Ytkjjnfbgcdanmaa.Hand
open Go.RowKit Go.Shelf Go.Proofs.Ytkjjnfbgcdanmaa.P Go.Proofs.YtkjjnfbgcdanmaaW.PrintWords Go.Proofs.YtkjjnfbgcdanmaaW.PrintLast Go.Proofs.YtkjjnfbgcdanmaaW.PrintMore
attribute [local go_sem] max2_int min2_int max_two min_two max_three min_three max_four min_four
set_option linter.unusedVariables false
set_option linter.unusedSimpArgs false

/-- The value that the code lays at x for a. -/
def moved (m : Int) (f : List Int) (a x : Nat) : Int := Int.tmod (wrap64 (wrap64 (rd f (Int.tmod (wrap64 ((x : Int) + (a : Int))) m) - (a : Int)) + m)) m
/-- Whether a moves along. -/
def shiftsT (m : Int) (f : List Int) (a : Nat) : Bool := decide ((List.range m.toNat).map (moved m f a) = f)
def outL (m : Int) (f : List Int) (a : Nat) : List Int := ((List.range a).filter (shiftsT m f)).map (fun a : Nat => (a : Int))
def mvL (m : Int) (f : List Int) (a x : Nat) : List Int := (List.range x).map (moved m f a)
def shiftsL (m : Int) (f : List Int) : List Int := ((List.range m.toNat).filter (shiftsT m f)).map (fun a : Nat => (a : Int))
def shuffle_Shifts.f (k : Nat) (m : Int) (l : List Int) : Option (List Int × Int) :=
  (shuffle_Values.f k m l).bind fun fe => if fe.2 = 0 then (if 2 ≤ m ∧ m ≤ 64 ∧ (fe.1.length : Int) = m then some (shiftsL m fe.1, 0) else none) else some ([], fe.2)

theorem mvL_succ (m : Int) (f : List Int) (a x : Nat) : mvL m f a (x + 1) = mvL m f a x ++ [moved m f a x] := by simp [mvL, List.range_succ]
theorem mvL_length (m : Int) (f : List Int) (a x : Nat) : (mvL m f a x).length = x := by simp [mvL]
theorem pad_set (l : List Int) (v : Int) (h : l.length < 64) : (pad l).set l.length v = pad (l ++ [v]) := by
  unfold pad
  obtain ⟨d, hd⟩ : ∃ d, 64 - l.length = d + 1 := ⟨64 - l.length - 1, by omega⟩
  rw [hd, List.set_append_right _ _ (Nat.le_refl _), Nat.sub_self, List.replicate_succ, List.set_cons_zero, List.length_append, List.length_singleton, show 64 - (l.length + 1) = d by omega, List.append_assoc]
  rfl
theorem enc_set (l : List Int) (i : Nat) (v : Int) : (enc l).setIfInBounds i (.int .i64 v) = enc (l.set i v) := by
  unfold enc
  rw [List.setIfInBounds_toArray, List.map_set]
theorem mv_set (m : Int) (f : List Int) (a x : Nat) (h : x < 64) : (enc (pad (mvL m f a x))).setIfInBounds x (.int .i64 (moved m f a x)) = enc (pad (mvL m f a (x + 1))) := by
  have := pad_set (mvL m f a x) (moved m f a x) (by rw [mvL_length]; exact h)
  rw [mvL_length] at this
  rw [enc_set, this, mvL_succ]
theorem pad_inj {l l' : List Int} (h : l.length = l'.length) : pad l = pad l' ↔ l = l' := by
  constructor
  · intro e
    unfold pad at e
    exact (List.append_inj e h).1
  · rintro rfl; rfl
theorem outL_succ (m : Int) (f : List Int) (a : Nat) : outL m f (a + 1) = if shiftsT m f a = true then outL m f a ++ [(a : Int)] else outL m f a := by
  unfold outL
  rw [List.range_succ, List.filter_append]
  split <;> simp [*]
theorem outL_length (m : Int) (f : List Int) (a : Nat) : (outL m f a).length ≤ a := by
  unfold outL
  rw [List.length_map]
  exact Nat.le_trans (List.length_filter_le _ _) (by simp)
theorem zero71 (w : World) : (zeroValue 71).run Try.prog w = .ok (.agg (enc (pad []))) w := by kernel_rfl
theorem isAgg71 (w : World) : (isAgg 71).run Try.prog w = .ok true w := by kernel_rfl
theorem alloc_run {w : World} {ev : Operand → Value} {o : Oper} (ho : o.op = .alloc 71) :
    (execOp ev o).run Try.prog w = .ok (.value (.pointer (some ⟨w.heap.size, 0, none⟩))) (w.alloc (.cells (enc (pad [])) 71)) := by
  unfold execOp
  rw [ho]
  have hn : (newVar 71 (.agg (enc (pad [])))).run Try.prog w = .ok ⟨w.heap.size, 0, none⟩ (w.alloc (.cells (enc (pad [])) 71)) := rfl
  simp only [Instr.alloc, Sem.run_bind, zero71, Result.andThen, hn, Sem.run_pure]
theorem shiftsT_iff {m : Int} {f : List Int} {a x : Nat} (hx : (x : Int) = m) (hf : (f.length : Int) = m) : shiftsT m f a = decide (pad (mvL m f a x) = pad f) := by
  unfold shiftsT
  have e : m.toNat = x := by omega
  rw [e, decide_eq_decide, pad_inj (by rw [mvL_length]; omega)]
  rfl

set_option maxHeartbeats 8000000 in
set_option maxRecDepth 100000 in
theorem shuffle_Shifts.calls (k : Nat) (a0 : Int) (A1 : Option Addr) (c1 : Nat) (l1 : List Int) (r1 : List Int) (r2 : Int) (w : World) (hr1 : Kd.C (Kd.int .i64) w A1 l1.length l1) (hc1 : l1.length ≤ c1) (h : shuffle_Shifts.f k a0 l1 = some (r1, r2)) :
    Calls Try.prog 35 #[.int .i64 a0, .slice A1 l1.length c1] w fun e w' => ∃ v0_ : Value, e = .returned (.tuple #[v0_, .int .i64 r2]) ∧ Kd.R (Kd.int .i64) 3 w' w.heap.size (fun _ => True) v0_ r1 ∧ Below w.heap.size w w' := by
  have HR1 := Aside0.mk hr1
  have HC1 := Aside0.mk hc1
  clear hr1 hc1
  have HB := Aside0.mk (Below.refl w.heap.size w)
  unfold shuffle_Shifts.f at h
  obtain ⟨⟨f, e⟩, A0, h⟩ := Option.bind_eq_some_iff.mp h
  have A3 := Aside0.mk A0
  clear A0
  dsimp only at h
  by_cases c4 : e = 0
  · rw [if_pos c4] at h
    have c4b0 : (e != 0) = false := by simp [c4]
    by_cases c5 : 2 ≤ a0 ∧ a0 ≤ 64 ∧ (f.length : Int) = a0
    · rw [if_pos c5] at h
      have H := Aside0.mk h
      have C5 := Aside0.mk c5
      clear h c5
      go_enter Try.func35, Try.ntmps35
      go_upto_region 4 with (go_at_call 20; (with_reducible refine (shuffle_Values.calls k a0 _ _ l1 f e _ ?side1 ?side2 A3.out).mono ?_); (case side1 => exact HR1.out); (case side2 => exact HC1.out); rintro e_ w8 ⟨v9, rfl, ho9, hb⟩; obtain ⟨A9, c9, e9, hc9, hC9⟩ := Kd.R_reads ho9; obtain ⟨ad9, e9a, -⟩ := Kd.at_int hC9 0 (by omega) (by have := C5.out; omega); subst e9a; subst e9)
      refine wp_region_lit ?_
      refine Kd.event_run rfl (alloc_run rfl) ?_
      refine wpList_nil ?_
      obtain ⟨W2, hrun, hheap, hbel, hlt⟩ := copied w8 (enc (pad [])) ad9 c9 f rfl (by have := C5.out; omega) (by have := C5.out; omega) hC9
      have HF := Aside0.mk hC9
      have HH := Aside0.mk hheap
      have HB2 := Aside0.mk hbel
      have HL := Aside0.mk hlt
      have HB := Aside0.mk hb
      have HRUN := Aside0.mk hrun
      clear ho9 hb hC9 hheap hbel hlt hrun hc9
      go_wp2_with fail
      rw [HRUN.out]
      as_aux_lemma =>
      go_wp2
      go_loopg [9, 26] a0.toNat (fun gg u9 u26 wr => ∃ (a : Nat), u26 = .int .i64 (a : Int) ∧ Aside0 ((a : Int) ≤ a0 ∧ a0.toNat - a ≤ gg) ∧ Aside0 (Kd.R (Kd.int .i64) 3 wr W2.heap.size (fun _ => True) u9 (outL a0 f a)) ∧ Aside0 (Below W2.heap.size W2 wr))
      case atStart => exact ⟨0, rfl, ⟨by have := C5.out; omega, by omega⟩, ⟨Kd.R_nil _ _ _ _ _⟩, ⟨Below.refl _ _⟩⟩
      case round => as_aux_lemma =>
        obtain ⟨a, rfl, HA, HO, HBr⟩ := hrel
        rename World => WR
        by_cases hlt : (a : Int) < a0
        · as_aux_lemma =>
          have c6 : decide ((a : Int) < a0) = true := decide_eq_true hlt
          go_upto_region 10 with (fail)
          refine wp_region_lit ?_
          refine Kd.event_run rfl (alloc_run rfl) ?_
          refine wpList_nil ?_
          go_wp2
          go_loopg [30] a0.toNat (fun gg u30 wi => ∃ (x : Nat), u30 = .int .i64 (x : Int) ∧ Aside0 ((x : Int) ≤ a0 ∧ a0.toNat - x ≤ gg) ∧ Aside0 (wi.heap[WR.heap.size]? = some (.cells (enc (pad (mvL a0 f a x))) 71 (0, 0))) ∧ Aside0 (Below WR.heap.size WR wi))
          case atStart => exact ⟨0, rfl, ⟨by have := C5.out; omega, by omega⟩, ⟨heap_alloc_last WR _⟩, ⟨(Below.refl _ WR).alloc (Nat.le_refl _) _⟩⟩
          case round => as_aux_lemma =>
            obtain ⟨x, rfl, HX, HM, HBi⟩ := hrel
            by_cases hlx : (x : Int) < a0
            · as_aux_lemma =>
              have c7 : decide ((x : Int) < a0) = true := decide_eq_true hlx
              have hj0 : 0 ≤ (wrap64 ((x : Int) + (a : Int))).tmod a0 := by
                have := C5.out; have := HA.out
                rw [show wrap64 ((x : Int) + (a : Int)) = (x : Int) + a by unfold wrap64; omega]; exact Int.tmod_nonneg _ (by omega)
              have hj1 : (wrap64 ((x : Int) + (a : Int))).tmod a0 < (f.length : Int) := by
                have := C5.out; have := HA.out
                rw [show wrap64 ((x : Int) + (a : Int)) = (x : Int) + a by unfold wrap64; omega, C5.out.2.2]; exact Int.tmod_lt_of_pos _ (by omega)
              obtain ⟨ad', e', hx⟩ := Kd.at_int HF.out _ hj0 hj1
              cases e'
              replace hx := (HB2.out.cell (World.block_lt_of_cell? w8 _ hx)).trans hx
              replace hx := (HBr.out.cell (World.block_lt_of_cell? W2 _ hx)).trans hx
              replace hx := (HBi.out.cell (World.block_lt_of_cell? WR _ hx)).trans hx
              obtain ⟨v, hv⟩ : ∃ v : Int, rd f ((wrap64 ((x : Int) + (a : Int))).tmod a0) = v := ⟨_, rfl⟩
              rw [hv] at hx
              have HV := Aside0.mk hv
              clear hv
              obtain ⟨v0, hmc⟩ : ∃ v0 : Value, wr.cell? ⟨WR.heap.size, x, none⟩ = some v0 := by
                have hmc := cell_of_row wr WR.heap.size x _ 71 (0, 0) HM.out
                rw [enc_get (by rw [pad_length (by simp [mvL]; have := HX.out; have := C5.out; omega)]; have := C5.out; omega)] at hmc
                exact ⟨_, hmc⟩
              have hmf := frozen_of_row wr WR.heap.size x _ 71 HM.out
              have hx0 : 0 ≤ (x : Int) := Int.natCast_nonneg x
              have hx1 : (x : Int) < 64 := by have := C5.out; omega
              go_upto_region 14 with (fail)
              iterate 26 (first | go_step | go_upon)
              generalize (wrap64 ((x : Int) + (a : Int))).tmod a0 = q at hj0 hj1 hx ⊢
              as_aux_lemma =>
              go_wp2
              go_roundg (a0.toNat - (x + 1))
              case measure => have := HX.out; omega
              case rel =>
                refine ⟨x + 1, by have := C5.out; go_num, ⟨by omega, by omega⟩, ⟨?_⟩, ⟨?_⟩⟩
                · have h := heap_setCell_same wr WR.heap.size x _ 71 (.int .i64 (moved a0 f a x)) HM.out
                  rw [mv_set a0 f a x (by omega)] at h
                  unfold moved at h
                  rw [HV.out] at h
                  exact h
                · exact HBi.out.setCell (p := ⟨WR.heap.size, x, none⟩) (Nat.le_refl _) _
            · as_aux_lemma =>
              have c7 : decide ((x : Int) < a0) = false := decide_eq_false hlx
              have hml : (pad (mvL a0 f a x)).length = 64 := pad_length (by simp [mvL]; have := HX.out; have := C5.out; omega)
              have hwl : (pad f).length = 64 := pad_length (by have := C5.out; omega)
              have hw1 : wr.heap[w8.heap.size]? = some (.cells (enc (pad f)) 71 (0, 0)) := by
                rw [HBi.out.block _ (Nat.lt_of_lt_of_le HL.out HBr.out.size), HBr.out.block _ HL.out, HH.out]
              have HW1 := Aside0.mk hw1
              have HML := Aside0.mk hml
              have HWL := Aside0.mk hwl
              clear hw1 hml hwl
              go_upto_region 16 with (fail)
              refine wp_region_lit ?_
              refine Kd.event_run (v := .agg (enc (pad (mvL a0 f a x)))) rfl (load_run rfl rfl HM.out HML.out) ?_
              refine Kd.event_run (v := .agg (enc (pad f))) rfl (load_run rfl rfl HW1.out HWL.out) ?_
              refine Kd.event_run (v := .bool (decide (pad (mvL a0 f a x) = pad f))) rfl (eq_run rfl rfl rfl HML.out HWL.out) ?_
              refine wpList_nil ?_
              have hO := Kd.R_below HO.out HBi.out
              have hB := below_step HBr.out HBi.out
              have HO1 := Aside0.mk hO
              have HB1 := Aside0.mk hB
              clear hO hB
              by_cases hs : pad (mvL a0 f a x) = pad f
              · as_aux_lemma =>
                have HS := Aside0.mk hs
                have hd : decide (pad (mvL a0 f a x) = pad f) = true := decide_eq_true hs
                rw [hd]
                clear hs hd
                have HLn : Aside0 ((outL a0 f a).length < 17592186044416) := ⟨by have := outL_length a0 f a; have := HA.out; have := C5.out; omega⟩
                go_wp2_with (first | ((with_reducible refine gate_builtin (b := .append) (xs := #[.tmp 53, .tmp 55]) rfl ?_); at_builtin; refine Kd.R_append (Kd.int .i64) (w0 := W2) W2.heap.size rfl (.tmp 53) (.tmp 55) 28 3 (.int .i64 0) 8 rfl Try.underlying28 info3 rfl (by decide) (by omega) u9 (outL a0 f a) (a : Int) [.int .i64 (a : Int)] (fun _ => True) (fun _ => False) rfl rfl ?aP (fun _ hk => hk.elim) ?aF ?aO ?aB ?aS ?aL ?_; (case aP => exact rfl); (case aB => exact (by repeat (first | (with_reducible first | exact HB1.out | apply below_alloc | apply pw_below_drewN | apply below_drew1) | exact HB1.out))); (case aF => exact (fun _ _ => trivial)); (case aO => exact (by (with_reducible repeat (first | apply Kd.R_alloc | apply Kd.R_drewN | apply Kd.R_drew)); exact HO1.out)); (case aS => exact (below_size (by repeat (first | (with_reducible first | exact HB1.out | apply below_alloc | apply pw_below_drewN | apply below_drew1) | exact HB1.out)))); (case aL => have := HLn.out; omega); intro v199 w18 ho hb hg hat; have HO2 := Aside0.mk ho; have HB3 := Aside0.mk hb; clear ho hb hg hat))
                go_roundg (a0.toNat - (a + 1))
                case measure => have := HA.out; omega
                case rel =>
                  refine ⟨a + 1, congrArg (Value.int .i64) (step64 (by have := C5.out; omega)), ⟨by omega, by omega⟩, ⟨?_⟩, ⟨by repeat (first | (with_reducible first | exact HB3.out | apply below_alloc | apply pw_below_drewN | apply below_drew1) | exact HB3.out)⟩⟩
                  have e := outL_succ a0 f a
                  rw [if_pos (by rw [shiftsT_iff (x := x) (by have := HX.out; omega) C5.out.2.2, decide_eq_true HS.out])] at e
                  rw [e]
                  exact HO2.out
              · as_aux_lemma =>
                have HS := Aside0.mk hs
                have hd : decide (pad (mvL a0 f a x) = pad f) = false := decide_eq_false hs
                rw [hd]
                clear hs hd
                go_wp2
                go_roundg (a0.toNat - (a + 1))
                case measure => have := HA.out; omega
                case rel =>
                  refine ⟨a + 1, congrArg (Value.int .i64) (step64 (by have := C5.out; omega)), ⟨by omega, by omega⟩, ⟨?_⟩, ⟨by repeat (first | (with_reducible first | exact HB1.out | apply below_alloc | apply pw_below_drewN | apply below_drew1) | exact HB1.out)⟩⟩
                  have e := outL_succ a0 f a
                  rw [if_neg (by rw [shiftsT_iff (x := x) (by have := HX.out; omega) C5.out.2.2, decide_eq_false HS.out]; decide)] at e
                  rw [e]
                  exact HO1.out
        · as_aux_lemma =>
          have c6 : decide ((a : Int) < a0) = false := decide_eq_false hlt
          go_wp2
          refine bodyPost_ret (results_tmp2 rfl _ _ _) rfl ?_
          have hae : a0.toNat = a := by have := HA.out.1; omega
          obtain ⟨rfl, rfl⟩ : shiftsL a0 f = r1 ∧ (0 : Int) = r2 := by have := Option.some.inj H.out; exact ⟨congrArg Prod.fst this, congrArg Prod.snd this⟩
          have e : shiftsL a0 f = outL a0 f a := by unfold shiftsL outL; rw [hae]
          have hs : w.heap.size ≤ W2.heap.size := Nat.le_trans HB.out.size HB2.out.size
          refine ⟨u9, rfl, ?_, (HB.out.trans (HB2.out.mono HB.out.size)).trans (HBr.out.mono hs)⟩
          rw [e]
          exact Kd.R_lower HO.out hs
    · rw [if_neg c5] at h; cases h
  · rw [if_neg c4] at h
    have c4b0 : (e != 0) = true := by simp [c4]
    have H := Aside0.mk h
    clear h
    go_enter Try.func35, Try.ntmps35
    go_wp2_with (go_at_call 20; (with_reducible refine (shuffle_Values.calls k a0 _ _ l1 f e _ ?side1 ?side2 A3.out).mono ?_); (case side1 => exact HR1.out); (case side2 => exact HC1.out); rintro e_ w8 ⟨v9, rfl, ho9, hb⟩)
    go_ret2
    obtain ⟨rfl, rfl⟩ : ([] : List Int) = r1 ∧ e = r2 := by have := Option.some.inj H.out; exact ⟨congrArg Prod.fst this, congrArg Prod.snd this⟩
    exact ⟨_, rfl, Kd.R_nil _ _ _ _ _, hb⟩

end Go.Proofs.Ytkjjnfbgcdanmaa.Hand
