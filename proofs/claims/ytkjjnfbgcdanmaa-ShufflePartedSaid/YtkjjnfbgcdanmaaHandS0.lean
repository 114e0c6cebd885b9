import Derived.Test.YtkjjnfbgcdanmaaPx2 -- @shuffle_Values
import Derived.Test.YtkjjnfbgcdanmaaHandC
import Derived.Laws.IdiomCopy
import Derived.Deep.WholeRow
import Derived.DeepKeys
namespace Go.Proofs.Ytkjjnfbgcdanmaa.Hand
open Go.RowKit Go.Shelf Go.Proofs.Ytkjjnfbgcdanmaa.P Go.Proofs.YtkjjnfbgcdanmaaW.PrintWords Go.Proofs.YtkjjnfbgcdanmaaW.PrintLast Go.Proofs.YtkjjnfbgcdanmaaW.PrintMore
attribute [local go_sem] max2_int min2_int max_two min_two max_three min_three max_four min_four
set_option linter.unusedVariables false
set_option linter.unusedSimpArgs false

/-! ### an array of 64 ints in a block -/
def enc (l : List Int) : Array Value := (l.map (Value.int .i64)).toArray
def pad (l : List Int) : List Int := l ++ List.replicate (64 - l.length) 0

theorem enc_size (l : List Int) : (enc l).size = l.length := by simp [enc]
theorem pad_length {l : List Int} (h : l.length ≤ 64) : (pad l).length = 64 := by simp [pad]; omega

theorem heap_setCells (b : Nat) (t : TypeId) : ∀ (vs : List Value) (o : Nat) (w : World) (c : List Value), o + vs.length ≤ c.length → w.heap[b]? = some (.cells c.toArray t (0, 0)) →
    (w.setCells b o vs).heap[b]? = some (.cells (c.take o ++ vs ++ c.drop (o + vs.length)).toArray t (0, 0))
  | [], o, w, c, _, h => by simpa [World.setCells] using h
  | v :: r, o, w, c, hl, h => by
    rw [List.length_cons] at hl
    have h1 := heap_setCell_same w b o c.toArray t v h
    rw [List.setIfInBounds_toArray] at h1
    have h2 := heap_setCells b t r (o + 1) _ (c.set o v) (by rw [List.length_set]; omega) h1
    rw [World.setCells, h2]
    have e1 : (c.set o v).take (o + 1) = c.take o ++ [v] := by
      rw [List.take_succ_eq_append_getElem (by rw [List.length_set]; omega), List.take_set_of_le (Nat.le_refl _)]
      simp
    have e2 : (c.set o v).drop (o + 1 + r.length) = c.drop (o + (v :: r).length) := by
      rw [List.drop_set_of_lt (by omega)]; congr 1; simp; omega
    rw [e1, e2]
    simp

theorem below_setCells (b : Nat) {B : Nat} (hb : B ≤ b) : ∀ (vs : List Value) (o : Nat) (w0 w : World), Below B w0 w → Below B w0 (w.setCells b o vs)
  | [], _, _, _, h => h
  | v :: r, o, w0, w, h => below_setCells b hb r (o + 1) w0 _ (h.setCell hb v)

theorem copied (W : World) (c0 : Array Value) (ad : Addr) (cc : Nat) (f : List Int) (hc : c0 = enc (pad [])) (hn : f.length ≤ 64) (h0 : 0 < f.length) (hC : Kd.C (Kd.int .i64) W (some ad) f.length f) :
    ∃ W', (Builtin.copy_ #[28, 28] 3 #[.slice (some ⟨W.heap.size, 0, none⟩) 64 64, .slice (some ad) f.length cc]).run Try.prog (W.alloc (.cells c0 71)) = .ok (.int .i64 f.length) W' ∧
      W'.heap[W.heap.size]? = some (.cells (enc (pad f)) 71 (0, 0)) ∧ Below W.heap.size W W' ∧ W.heap.size < W'.heap.size := by
  have hheap : (W.alloc (.cells c0 71)).heap[W.heap.size]? = some (.cells c0 71 (0, 0)) := heap_alloc_last W _
  have hc0 : c0.size = 64 := by rw [hc, enc_size]; rfl
  have hcell : ∀ j, j < 64 → ∃ v, (W.alloc (.cells c0 71)).cell? ⟨W.heap.size, j, none⟩ = some v := fun j hj => by
    rw [cell_of_row _ _ j c0 71 (0, 0) hheap]
    exact ⟨_, Array.getElem?_eq_getElem (by omega)⟩
  have hrun := run_copy_cells (P := Try.prog) (W.alloc (.cells c0 71)) 28 28 3 3 W.heap.size 0 64 64 ad f.length cc (f.map (Value.int .i64)) Try.underlying28 (by kernel_rfl)
    (by rw [List.length_map]; exact (Nat.min_eq_left hn).symm)
    (fun j v hj => by
      rw [List.getElem?_map] at hj
      obtain ⟨x, hx, rfl⟩ := Option.map_eq_some_iff.1 hj
      obtain ⟨hj1, hx1⟩ := List.getElem?_eq_some_iff.1 hx
      obtain ⟨ad', e, hh⟩ := Kd.at_int hC (j : Int) (by omega) (by omega)
      cases e
      rw [Int.toNat_natCast] at hh
      have hb : Below W.heap.size W (W.alloc (.cells c0 71)) := (Below.refl _ W).alloc (Nat.le_refl _) _
      rw [hb.cell (World.block_lt_of_cell? W _ hh), hh]
      simp [rd, hx])
    (fun j hj => by
      rw [List.length_map] at hj
      obtain ⟨v, hv⟩ := hcell j (by omega)
      simp [hv])
    (fun j hj => frozen_of_row _ _ _ _ _ hheap)
    (by intro v hv; obtain ⟨x, _, rfl⟩ := List.mem_map.1 hv; rfl)
  have h1 := heap_setCells W.heap.size 71 (f.map (Value.int .i64)) 0 (W.alloc (.cells c0 71)) c0.toList (by simp only [List.length_map, Array.length_toList, hc0]; omega) hheap
  have h2 : (List.take 0 c0.toList ++ List.map (Value.int .i64) f ++ List.drop (0 + (List.map (Value.int .i64) f).length) c0.toList).toArray = enc (pad f) := by
    have e : c0.toList = List.replicate 64 (Value.int .i64 0) := by rw [hc]; rfl
    rw [e, List.drop_replicate]
    unfold enc pad
    rw [List.map_append, List.map_replicate, List.length_map, List.take_zero, List.nil_append, Nat.zero_add]
  rw [h2] at h1
  exact ⟨_, by rw [List.length_map] at hrun; exact hrun, h1, below_setCells W.heap.size (Nat.le_refl _) _ _ _ _ ((Below.refl _ W).alloc (Nat.le_refl _) _), blk_lt h1⟩

/-- The whole array out of its block. -/
theorem loaded {w : World} {b : Nat} {l : List Int} (h : w.heap[b]? = some (.cells (enc l) 71 (0, 0))) (hl : l.length = 64) :
    (loadVar 71 ⟨b, 0, none⟩).run Try.prog w = .ok (.agg (enc l)) w :=
  run_loadVar_row (P := Try.prog) w b 71 71 (enc l) (0, 0) _ h Try.underlying71 rfl (by rw [enc_size, hl]; kernel_rfl)

/-- The same, as the walk's simp leaves it. -/
theorem loadedFrom {w : World} {b : Nat} {l : List Int} (h : w.heap[b]? = some (.cells (enc l) 71 (0, 0))) (hl : l.length = 64) :
    (loadCellsFrom ⟨b, 0, none⟩ 0 64 #[]).run Try.prog w = .ok (enc l) w := by
  have := run_loadCells_list (P := Try.prog) w ⟨b, 0, none⟩ (enc l).toList (fun j v hv => by
    have hadd : (⟨b, 0, none⟩ : Addr).add j = ⟨b, j, none⟩ := by unfold Addr.add; split <;> simp_all
    rw [hadd, cell_of_row w b j (enc l) 71 (0, 0) h]
    simpa using hv)
  rw [Array.length_toList, enc_size, hl] at this
  simpa [loadCells] using this

theorem enc_get {l : List Int} {i : Nat} (h : i < l.length) : (enc l)[i]? = some (.int .i64 (l.getD i 0)) := by
  simp [enc, h]

theorem eqItems_run (w : World) (d : Nat) {a b : List Int} (ha : a.length = 64) (hb : b.length = 64) : ∀ is : List Nat, (∀ i ∈ is, i < 64) →
    (Op.eqItems (d + 1) 3 1 (enc a) (enc b) is).run Try.prog w = .ok (is.all fun i => decide (a.getD i 0 = b.getD i 0)) w
  | [], _ => by simp [Op.eqItems]
  | i :: is, h => by
    have hi := h i (by simp)
    have p1 := run_part_plain (P := Try.prog) (w := w) (e := 3) (by kernel_rfl) (xs := enc a) (off := i) (enc_get (by omega))
    have p2 := run_part_plain (P := Try.prog) (w := w) (e := 3) (by kernel_rfl) (xs := enc b) (off := i) (enc_get (by omega))
    have p3 := run_equalIn_int (P := Try.prog) (w := w) d 3 .i64 .i64 (a.getD i 0) (b.getD i 0) Try.underlying3
    have ih := eqItems_run w d ha hb is (fun j hj => h j (by simp [hj]))
    simp only [Op.eqItems, Nat.mul_one, Sem.run_bind, p1, p2, p3, Result.andThen_ok]
    by_cases e : a.getD i 0 = b.getD i 0
    · rw [if_neg (by simpa using e), ih, List.all_cons, decide_eq_true e, Bool.true_and]
    · rw [if_pos (by simpa using e)]
      simp only [List.all_cons, decide_eq_false e, Bool.false_and]
      rfl

/-- Two arrays are compared. -/
theorem compared (w : World) {a b : List Int} (ha : a.length = 64) (hb : b.length = 64) :
    (Op.equal 71 (.agg (enc a)) (.agg (enc b))).run Try.prog w = .ok (decide (a = b)) w := by
  have hu : Try.prog.underlying 71 = some (.array 64 3) := Try.underlying71
  obtain ⟨i3, hi3⟩ := info_of_underlying (P := Try.prog) (t := 3) Try.underlying3
  have h1 := run_equalIn_array (P := Try.prog) w 9999 (enc a) (enc b) hu hi3
  rw [show Try.prog.cellsOf 3 = 1 by kernel_rfl, eqItems_run w 9998 ha hb (List.range 64) (fun i hi => List.mem_range.1 hi)] at h1
  have e : ((List.range 64).all fun i => decide (a.getD i 0 = b.getD i 0)) = decide (a = b) := by
    rw [Bool.eq_iff_iff, List.all_eq_true, decide_eq_true_iff]
    constructor
    · intro h
      refine List.ext_getElem (by rw [ha, hb]) fun i h1 h2 => ?_
      have := h i (List.mem_range.2 (by omega))
      rw [decide_eq_true_iff] at this
      simpa [h1, h2] using this
    · intro h i _; rw [h]; simp
  rw [e] at h1
  exact h1

theorem load_run {w : World} {b : Nat} {l : List Int} {ev : Operand → Value} {o : Oper} {p : Operand} (ho : o.op = .load 71 p) (hp : ev p = .pointer (some ⟨b, 0, none⟩)) (h : w.heap[b]? = some (.cells (enc l) 71 (0, 0))) (hl : l.length = 64) :
    (execOp ev o).run Try.prog w = .ok (.value (.agg (enc l))) w := by
  have h1 := loaded h hl
  unfold execOp
  rw [ho]
  simp only [hp, Instr.loadAt, Instr.sureAddr, Sem.run_bind, Sem.run_pure, Result.andThen, h1]

theorem eq_run {w : World} {a b : List Int} {ev : Operand → Value} {o : Oper} {x y : Operand} (ho : o.op = .binOp .eql 71 x y 71) (hx : ev x = .agg (enc a)) (hy : ev y = .agg (enc b)) (ha : a.length = 64) (hb : b.length = 64) :
    (execOp ev o).run Try.prog w = .ok (.value (.bool (decide (a = b)))) w := by
  have h1 := compared w ha hb
  unfold execOp
  rw [ho]
  simp only [hx, hy]
  have hg : Try.prog.eqGuardType Try.prog.depth 71 = false := by kernel_rfl
  have h2 : (eqGuard BinOp.eql 71 x y (.agg (enc a)) (.agg (enc b))).run Try.prog w = .ok () w := by
    simp [eqGuard, Sem.run_bind, run_program, hg]
  have h3 : (binOp BinOp.eql 71 (.agg (enc a)) (.agg (enc b))).run Try.prog w = .ok (.bool (decide (a = b))) w := by
    simp only [binOp, Sem.run_bind, h1, Result.andThen, Sem.run_pure]
  simp only [Sem.run_bind, h2, h3, Result.andThen, Sem.run_pure]

theorem step64 {j : Nat} (h : j ≤ 1000000) : wrap64 ((j : Int) + 1) = ((j + 1 : Nat) : Int) := by
  unfold wrap64; omega

end Go.Proofs.Ytkjjnfbgcdanmaa.Hand
