-- The loads of all boxes (function 66), the greatest of a list (69).
import Derived.Test.YtcjglbipkghhnaaHandR
import Derived.Deep.QuietTactic
import Derived.BigQuiet
namespace Go.Proofs.Ytcjglbipkghhnaa.Hand
open Go.BigFrame Go.RowKit Go.Shelf Go.Proofs.Ytcjglbipkghhnaa.P Go.Proofs.YtcjglbipkghhnaaW.PrintWords Go.Proofs.YtcjglbipkghhnaaW.PrintLast Go.Proofs.YtcjglbipkghhnaaW.PrintMore
attribute [local go_sem] max2_int min2_int max_two min_two max_three min_three max_four min_four
set_option linter.unusedVariables false
set_option linter.unusedSimpArgs false

/-- One piece more is put into its box, if it has one. -/
def loadStep (ps l : List Int) (x : List Int) (i : Nat) : List Int := if 0 ≤ rd l (i : Int) then x.set (rd l (i : Int)).toNat (wrap64 (x.getD (rd l (i : Int)).toNat 0 + rd ps (i : Int))) else x
def loadF (ps l : List Int) : List Int := (List.range l.length).foldl (loadStep ps l) (List.replicate 12 0)
theorem loadStep_length (ps l x : List Int) (i : Nat) : (loadStep ps l x i).length = x.length := by
  unfold loadStep; split <;> simp
theorem range_drop (n j : Nat) (h : j < n) : (List.range n).drop j = j :: (List.range n).drop (j + 1) := by
  rw [List.drop_eq_getElem_cons (by simpa using h)]; simp
theorem cell_of_encL {w : World} {b t : Nat} {l : List Int} (hb : w.heap[b]? = some (.cells (enc l) t (0, 0))) {i : Nat} (hi : i < l.length) : w.cell? ⟨b, i, none⟩ = some (.int .i64 (l.getD i 0)) := by
  rw [cell_of_row w b i (enc l) t (0, 0) hb]; exact enc_get hi
theorem two_first' (w : World) (o o' : Obj) : ((w.alloc o).alloc o').heap[w.heap.size]? = some o := (Below.heap_alloc (w.alloc o) o' w.heap.size (by simp)).trans (heap_alloc_new w o)
theorem two_second' (w : World) (o o' : Obj) : ((w.alloc o).alloc o').heap[w.heap.size + 1]? = some o' := by
  have := heap_alloc_new (w.alloc o) o'
  simpa using this
theorem info74 : (Try.prog.info? 74).map (·.size) = some 12 := by kernel_rfl

set_option maxHeartbeats 8000000 in
set_option maxRecDepth 100000 in
theorem loaded_calls (A0 : Option Addr) (c0 : Nat) (ps : List Int) (A1 : Option Addr) (c1 : Nat) (l : List Int) (w : World) (hr0 : Kd.C (Kd.int .i64) w A0 ps.length ps) (hr1 : Kd.C (Kd.int .i64) w A1 l.length l)
    (hlen : l.length = ps.length) (h12 : l.length ≤ 12) (hb : ∀ b ∈ l, b < 12) :
    Calls Try.prog 67 #[.slice A0 ps.length c0, .slice A1 l.length c1] w fun e w' => e = .returned (.agg (enc (loadF ps l))) ∧ Below w.heap.size w w' := by
  have HR0 := Aside0.mk hr0
  have HR1 := Aside0.mk hr1
  have HB0 := Aside0.mk hb
  have HLEN := Aside0.mk hlen
  clear hr0 hr1 hb hlen
  go_enter Try.func67, Try.ntmps67
  go_wp2
  go_loopg [10] l.length (fun gg u10 wr => ∃ (j : Nat) (x : List Int), u10 = .int .i64 (j : Int) ∧ Aside0 (j ≤ l.length ∧ l.length - j ≤ gg ∧ x.length = 12 ∧ ((List.range l.length).drop j).foldl (loadStep ps l) x = loadF ps l) ∧
    Aside0 (wr.heap[w.heap.size]? = some (.cells (enc (List.replicate 12 0)) 74 (0, 0))) ∧ Aside0 (wr.heap[w.heap.size + 1]? = some (.cells (enc x) 74 (0, 0))) ∧ Aside0 (Below w.heap.size w wr))
  case atStart => exact ⟨0, List.replicate 12 0, rfl, ⟨by omega, by omega, by simp, rfl⟩, ⟨two_first' w _ _⟩, ⟨two_second' w _ _⟩, ⟨((Below.refl _ w).alloc (Nat.le_refl _) _).alloc (by simp) _⟩⟩
  case round => as_aux_lemma =>
    obtain ⟨j, x, rfl, HJ, HBR, HBX, HB⟩ := hrel
    by_cases hlt : j < l.length
    · as_aux_lemma =>
      have hltz : decide ((j : Int) < (l.length : Int)) = true := decide_eq_true (by omega)
      obtain ⟨a1, e, g1⟩ := Kd.at_int (Kd.C_below HR1.out HB.out) (j : Int) (by omega) (by omega)
      cases e
      obtain ⟨a0, e, g0⟩ := Kd.at_int (Kd.C_below HR0.out HB.out) (j : Int) (by omega) (by have := HLEN.out; omega)
      cases e
      rw [Int.toNat_natCast] at g0 g1
      have hbj := HB0.out _ (rd_memR hlt)
      have hj0 : 0 ≤ (j : Int) := Int.natCast_nonneg j
      have hj1 : (j : Int) < (l.length : Int) := by omega
      have hj2 : (j : Int) < (ps.length : Int) := by have := HLEN.out; omega
      have HD : Aside0 (((List.range l.length).drop j).foldl (loadStep ps l) x = ((List.range l.length).drop (j + 1)).foldl (loadStep ps l) (loadStep ps l x j)) := ⟨by rw [range_drop _ _ hlt]; rfl⟩
      have HX := Aside0.mk HJ.out.2.2.1
      by_cases hneg : 0 ≤ rd l (j : Int)
      · as_aux_lemma =>
        have HST : Aside0 (loadStep ps l x j = x.set (rd l (j : Int)).toNat (wrap64 (x.getD (rd l (j : Int)).toNat 0 + rd ps (j : Int)))) := ⟨if_pos hneg⟩
        generalize rd l (j : Int) = b at *
        obtain ⟨b, rfl⟩ := Int.eq_ofNat_of_zero_le hneg
        rw [Int.toNat_natCast] at HST
        have hnz : decide (0 ≤ (b : Int)) = true := decide_eq_true (by omega)
        have hx2 := cell_of_encL HBX.out (i := b) (by rw [HX.out]; omega)
        have hfx := frozen_of_row wr (w.heap.size + 1) b _ 74 HBX.out
        go_wp2
        go_region
        go_wp2
        go_roundg (l.length - (j + 1))
        case measure => have := HJ.out.2.1; omega
        case rel =>
          refine ⟨j + 1, loadStep ps l x j, by push_cast; rfl, ⟨by omega, by omega, by rw [loadStep_length]; exact HX.out, HD.out.symm.trans HJ.out.2.2.2⟩, ⟨?_⟩, ⟨?_⟩, ⟨?_⟩⟩
          · exact (Below.heap_setCell _ _ _ _ (by show w.heap.size ≠ w.heap.size + 1; omega)).trans HBR.out
          · refine (heap_setCell_same _ (w.heap.size + 1) b (enc x) 74 _ HBX.out).trans ?_
            rw [enc_set, HST.out]
            simp only [List.getD_eq_getElem?_getD]
          · exact (pw_below_drewN HB.out _).setCell (by show w.heap.size ≤ w.heap.size + 1; omega) _
      · as_aux_lemma =>
        have HST : Aside0 (loadStep ps l x j = x) := ⟨if_neg hneg⟩
        have hnz : decide (0 ≤ rd l (j : Int)) = false := decide_eq_false hneg
        go_wp2
        go_roundg (l.length - (j + 1))
        case measure => have := HJ.out.2.1; omega
        case rel => exact ⟨j + 1, x, by push_cast; rfl, ⟨by omega, by omega, HX.out, by have h := HD.out; rw [HST.out] at h; exact h.symm.trans HJ.out.2.2.2⟩, HBR, HBX, HB⟩
    · have hltz : decide ((j : Int) < (l.length : Int)) = false := decide_eq_false (by omega)
      have hxe : x = loadF ps l := by
        have h := HJ.out.2.2.2
        rw [List.drop_eq_nil_of_le (by simp; omega)] at h
        exact h
      have hx12 := HJ.out.2.2.1
      have HXE := Aside0.mk hxe
      clear hxe
      have hsc := run_storeCells_cells (P := Try.prog) w.heap.size 0 (enc x).toList 0 wr (fun k hk => by
          rw [cell_of_row wr w.heap.size _ _ 74 (0, 0) HBR.out]
          have hk' : k < 12 := by simpa [enc, hx12] using hk
          simp [enc, List.getElem?_replicate, hk']) (fun k hk => frozen_of_row wr w.heap.size _ _ 74 HBR.out) (fun v hv => by
          simp only [enc, List.mem_map] at hv
          obtain ⟨y, _, rfl⟩ := hv
          rfl)
      rw [Nat.zero_add] at hsc
      have hbk := heap_setCells w.heap.size 74 (enc x).toList 0 wr (enc (List.replicate 12 0)).toList (by simp [enc, hx12]) HBR.out
      have hbw := below_setCells w.heap.size (Nat.le_refl _) (enc x).toList 0 w wr HB.out
      have hbk' : (wr.setCells w.heap.size 0 (enc x).toList).heap[w.heap.size]? = some (.cells (enc x) 74 (0, 0)) := by
        rw [hbk]; simp [enc, hx12]
      have HBK := Aside0.mk hbk'
      have hsz : (enc x).size = 12 := by rw [enc_size, hx12]
      have HBW := Aside0.mk hbw
      clear hbk hbk' hbw
      go_wp2_with (refine wpList_load_row rfl 74 (.tmp 5) rfl (w.heap.size + 1) rfl 74 (enc x) (0, 0) _ HBX.out Try.underlying74 rfl (by rw [enc_size, hx12]; exact info74) ?_)
      refine bodyPost_ret (results_cell_row rfl _ _ w.heap.size 74 (enc x) (0, 0) _ rfl HBK.out Try.underlying74 rfl (by rw [enc_size, hx12]; exact info74)) rfl ?_
      exact ⟨by rw [HXE.out], HBW.out⟩

end Go.Proofs.Ytcjglbipkghhnaa.Hand
