import Derived.Test.YtpkmmbicpijgpaaHandQ
import Derived.Test.YtpkmmbicpijgpaaHandA
import Derived.Laws.IdiomCopy
import Derived.Deep.WholeRow
import Derived.DeepKeys
import Derived.Laws.OwnMore
import Derived.StillTailTactics
namespace Go.Proofs.Ytpkmmbicpijgpaa.Hand
open Go.RowKit Go.Shelf Go.Proofs.YtpkmmbicpijgpaaW.PrintWords Go.Proofs.YtpkmmbicpijgpaaW.PrintLast Go.Proofs.YtpkmmbicpijgpaaW.PrintMore
attribute [local go_sem] max2_int min2_int max_two min_two max_three min_three max_four min_four
set_option linter.unusedVariables false
set_option linter.unusedSimpArgs false

/-! ### ints in a block -/
def enc (l : List Int) : Array Value := (l.map (Value.int .i64)).toArray
theorem enc_size (l : List Int) : (enc l).size = l.length := by simp [enc]
theorem enc_get {l : List Int} {i : Nat} (h : i < l.length) : (enc l)[i]? = some (.int .i64 (l.getD i 0)) := by
  simp [enc, h]
theorem enc_set (l : List Int) (i : Nat) (v : Int) : (enc l).setIfInBounds i (.int .i64 v) = enc (l.set i v) := by
  unfold enc
  rw [List.setIfInBounds_toArray, List.map_set]
theorem heap_setCells (b : Nat) (t : TypeId) : ∀ (vs : List Value) (o : Nat) (w : World) (c : List Value), o + vs.length ≤ c.length → w.heap[b]? = some (.cells c.toArray t (0, 0)) →
    (w.setCells b o vs).heap[b]? = some (.cells (c.take o ++ vs ++ c.drop (o + vs.length)).toArray t (0, 0))
  | [], o, w, c, _, h => by simpa [World.setCells] using h
  | v :: r, o, w, c, hl, h => by
    rw [List.length_cons] at hl
    have h1 := heap_setCell_same w b o c.toArray t v h
    rw [List.setIfInBounds_toArray] at h1
    have h2 := heap_setCells b t r (o + 1) _ (c.set o v) (by rw [List.length_set]; omega) h1
    rw [World.setCells, h2]
    have e1 : (c.set o v).take (o + 1) = c.take o ++ [v] := by
      rw [List.take_succ_eq_append_getElem (by rw [List.length_set]; omega), List.take_set_of_le (Nat.le_refl _)]
      simp
    have e2 : (c.set o v).drop (o + 1 + r.length) = c.drop (o + (v :: r).length) := by
      rw [List.drop_set_of_lt (by omega)]; congr 1; simp; omega
    rw [e1, e2]
    simp

theorem below_setCells (b : Nat) {B : Nat} (hb : B ≤ b) : ∀ (vs : List Value) (o : Nat) (w0 w : World), Below B w0 w → Below B w0 (w.setCells b o vs)
  | [], _, _, _, h => h
  | v :: r, o, w0, w, h => below_setCells b hb r (o + 1) w0 _ (h.setCell hb v)


/-- A block of the call's own, as a row. -/
theorem R_of_blk {w : World} {b base : Nat} {l : List Int} {n : Nat} (hb : w.heap[b]? = some (.cells (enc l) 3 (0, 0))) (hn : l.length = n) (hm : n ≤ maxLen) (hbase : base ≤ b) : Kd.R (Kd.int .i64) 3 w base (fun _ => True) (.slice (some ⟨b, 0, none⟩) n n) l := by
  refine Kd.R_of_own (enc := Value.int .i64) (h1 := fun _ => rfl) ?_ (fun _ _ => trivial)
  refine ⟨by simp [encs], .inr ⟨b, n, enc l, by rw [hn], hbase, hb, by omega, hm, by rw [enc_size, hn, Nat.mul_one], ?_⟩⟩
  simp only [enc, encs, hn.symm, Nat.mul_one]
  rw [List.take_of_length_le (by simp)]

theorem make_run (n : Nat) (hn : n ≤ 1000000) (W : World) : (Instr.makeSlice 22 (.int .i64 (n : Int)) (.int .i64 (n : Int))).run Try.prog W = .ok (.slice (some ⟨W.heap.size, 0, none⟩) n n) (W.alloc (.cells (enc (List.replicate n 0)) 3)) := by
  obtain ⟨i0, hi, hz, hsz, hby⟩ := info_parts infoI
  have := run_make (P := Try.prog) (w := W) 22 3 i0 (.int .i64 0) Try.underlying22 hi hz .i64 .i64 (n : Int) (n : Int) (by omega) (by omega) (by rw [hby]; omega) (by omega)
  rw [this, hsz]
  have e : madeCells (Value.int .i64 0).cells ((n : Int).toNat * 1) = enc (List.replicate n 0) := by
    have h := toList_madeCells_one (Value.int .i64 0) n
    unfold enc
    rw [List.map_replicate, ← h, Int.toNat_natCast, Nat.mul_one]
    rfl
  rw [e, Int.toNat_natCast]

theorem mul_all : ∀ n : Fin 65, bits_Mul.f 1 ((n.val : Nat) : Int) = some (0, ((n.val : Nat) : Int)) := by decide +kernel

theorem cell_of_enc {w : World} {b : Nat} {l : List Int} (hb : w.heap[b]? = some (.cells (enc l) 3 (0, 0))) {i : Nat} (hi : i < l.length) : w.cell? ⟨b, i, none⟩ = some (.int .i64 (l.getD i 0)) := by
  rw [cell_of_row w b i (enc l) 3 (0, 0) hb]; exact enc_get hi

/-- A copy out of a row into a block. -/
theorem copy_run {w : World} {b o : Nat} {l src : List Int} (hb : w.heap[b]? = some (.cells (enc l) 3 (0, 0))) (dLen dCap : Nat) (ad : Addr) (sLen sCap : Nat) (hn : src.length = Nat.min sLen dLen) (ho : o + src.length ≤ l.length)
    (hsrc : ∀ j, j < src.length → w.cell? (ad.add j) = some (.int .i64 (src.getD j 0))) :
    ∃ W', (Builtin.copy_ #[22, 22] 3 #[.slice (some ⟨b, o, none⟩) dLen dCap, .slice (some ad) sLen sCap]).run Try.prog w = .ok (.int .i64 (src.length : Int)) W' ∧
      W'.heap[b]? = some (.cells (enc (l.take o ++ src ++ l.drop (o + src.length))) 3 (0, 0)) ∧ ∀ (w0 : World) B, B ≤ b → Below B w0 w → Below B w0 W' := by
  have hrun := run_copy_cells (P := Try.prog) w 22 22 3 3 b o dLen dCap ad sLen sCap (src.map (Value.int .i64)) Try.underlying22 (by kernel_rfl)
    (by rw [List.length_map]; exact hn)
    (fun j v hj => by
      rw [List.getElem?_map] at hj
      obtain ⟨x, hx, rfl⟩ := Option.map_eq_some_iff.1 hj
      obtain ⟨hj1, hx1⟩ := List.getElem?_eq_some_iff.1 hx
      rw [hsrc j hj1]
      simp [hx])
    (fun j hj => by
      rw [List.length_map] at hj
      rw [cell_of_enc hb (by omega)]; rfl)
    (fun j hj => frozen_of_row _ _ _ _ _ hb)
    (by intro v hv; obtain ⟨x, _, rfl⟩ := List.mem_map.1 hv; rfl)
  have h1 := heap_setCells b 3 (src.map (Value.int .i64)) o w (enc l).toList (by simp [enc]; omega) hb
  refine ⟨_, by rw [List.length_map] at hrun; exact hrun, ?_, fun w0 B hB h => below_setCells b hB _ _ _ _ h⟩
  rw [h1]
  simp [enc, List.map_take, List.map_drop]

def chunk (v : Int) (c n : Nat) : List Int := List.replicate c v ++ List.replicate (n - c) 0

theorem chunk_next (v : Int) (c n m : Nat) (hm : m ≤ n - c) : (chunk v c n).take c ++ List.replicate m v ++ (chunk v c n).drop (c + (List.replicate m v).length) = chunk v (c + m) n := by
  unfold chunk
  rw [List.length_replicate, List.take_left' (by simp), List.drop_append, List.length_replicate, List.drop_eq_nil_of_le (by simp), List.nil_append, Nat.add_sub_cancel_left, List.drop_replicate, ← List.replicate_append_replicate]
  try rw [show n - c - m = n - (c + m) by omega]

set_option maxHeartbeats 4000000 in
set_option maxRecDepth 100000 in
theorem repeat_calls (ad : Addr) (c0 : Nat) (v : Int) (n : Nat) (w : World) (hv : w.cell? ad = some (.int .i64 v)) (hn1 : 1 ≤ n) (hn2 : n ≤ 64) :
    Calls Try.prog 40 #[.slice (some ad) 1 c0, .int .i64 (n : Int)] w fun e w' => ∃ v0_ : Value, e = .returned v0_ ∧ Kd.R (Kd.int .i64) 3 w' w.heap.size (fun _ => True) v0_ (List.replicate n v) ∧ Below w.heap.size w w' := by
  have hmul : bits_Mul.f 1 (n : Int) = some (0, (n : Int)) := mul_all ⟨n, by omega⟩
  have HMUL := Aside0.mk hmul
  have HV := Aside0.mk hv
  have hz1 : 0 ≤ (n : Int) := by omega
  have hz2 : (n : Int) ≤ 64 := by omega
  have hmk := make_run n (by omega)
  clear hmul hv
  go_enter Try.func40, Try.ntmps40
  go_wp2_with (go_at_call 56; (with_reducible refine (bits_Mul.calls _ _ _ _ _ HMUL.out).mono ?_); rintro e w' ⟨rfl, ⟨q, rfl⟩⟩)
  have hb0 : ((w.drewN q).alloc (.cells (enc (List.replicate n 0)) 3)).heap[w.heap.size]? = some (.cells (enc (List.replicate n 0)) 3 (0, 0)) := heap_alloc_last (w.drewN q) _
  have hbel0 : Below w.heap.size w ((w.drewN q).alloc (.cells (enc (List.replicate n 0)) 3)) := (pw_below_drewN (Below.refl _ w) q).alloc (Nat.le_refl _) _
  obtain ⟨W1, hrun, hheap, hbel⟩ := copy_run (src := [v]) (o := 0) hb0 n n ad 1 c0 (by show 1 = Nat.min 1 n; exact (Nat.min_eq_left hn1).symm) (by simp; omega) (fun j hj => by
    have e : j = 0 := by simpa using hj
    subst e
    have : ad.add 0 = ad := by unfold Addr.add; simp
    rw [this]
    exact (hbel0.cell (World.block_lt_of_cell? w _ HV.out)).trans HV.out)
  rw [hrun]
  have HH := Aside0.mk (hheap.trans (by rw [show List.take 0 (List.replicate n (0 : Int)) ++ [v] ++ List.drop (0 + [v].length) (List.replicate n 0) = chunk v 1 n by unfold chunk; simp]))
  have HB := Aside0.mk (hbel w w.heap.size (Nat.le_refl _) hbel0)
  clear hrun hheap hbel hb0 hbel0
  go_wp2
  go_loopg [8] n (fun gg u8 wr => ∃ (c : Nat), u8 = .int .i64 (c : Int) ∧ Aside0 (1 ≤ c ∧ c ≤ n ∧ n - c ≤ gg) ∧ Aside0 (wr.heap[w.heap.size]? = some (.cells (enc (chunk v c n)) 3 (0, 0))) ∧ Aside0 (Below w.heap.size w wr))
  case atStart => exact ⟨1, rfl, ⟨by omega, by omega, by omega⟩, HH, HB⟩
  case round => as_aux_lemma =>
    obtain ⟨c, rfl, HC, HH2, HB2⟩ := hrel
    have hc0 : 0 ≤ (c : Int) := by omega
    have hc1 : (c : Int) ≤ (n : Int) := by have := HC.out; omega
    by_cases hlt : c < n
    · have hltz : decide ((c : Int) < (n : Int)) = true := decide_eq_true (by omega)
      have hclen : (chunk v c n).length = n := by unfold chunk; simp; omega
      obtain ⟨mm, hmm⟩ : ∃ mm, mm = Nat.min c (n - c) := ⟨_, rfl⟩
      have hm0 : mm ≤ c := by rw [hmm]; exact Nat.min_le_left _ _
      have hm1 : mm ≤ n - c := by rw [hmm]; exact Nat.min_le_right _ _
      have hm2 : 1 ≤ mm := by
        have := HC.out.1
        rcases Nat.le_total c (n - c) with h | h
        · have e : Nat.min c (n - c) = c := Nat.min_eq_left h
          omega
        · have e : Nat.min c (n - c) = n - c := Nat.min_eq_right h
          omega
      obtain ⟨W2, hrun, hheap, hbel⟩ := copy_run (w := wr.drew) (src := List.replicate mm v) (o := c) HH2.out (n - c) (n - c) ⟨w.heap.size, 0, none⟩ c n (by rw [List.length_replicate]; exact hmm) (by rw [List.length_replicate, hclen]; omega) (fun j hj => by
        rw [List.length_replicate] at hj
        have h1 : j < c := by omega
        rw [add_at, Nat.zero_add]
        refine (cell_of_enc (w := wr.drew) HH2.out (by rw [hclen]; omega)).trans ?_
        unfold chunk
        simp [List.getElem?_append, h1, hj])
      rw [List.length_replicate] at hrun
      have HH3 := Aside0.mk (hheap.trans (by rw [chunk_next v c n mm hm1]))
      have HB3 := Aside0.mk (hbel w w.heap.size (Nat.le_refl _) (below_drew1 HB2.out))
      clear hmm
      clear hheap hbel hclen
      have hmm1 : (mm : Int) ≤ 64 := by omega
      have hmm0 : 0 ≤ (mm : Int) := by omega
      go_upto_region 9 with (fail)
      go_region
      go_wp2
      go_roundg (n - (c + mm))
      case measure => have := HC.out.2.2; omega
      case rel => exact ⟨c + mm, by push_cast; rfl, ⟨by have := HC.out; omega, by have := HC.out; omega, by omega⟩, HH3, HB3⟩
    · have hltz : decide ((c : Int) < (n : Int)) = false := decide_eq_false (by omega)
      go_wp2
      go_ret
      have e : chunk v c n = List.replicate n v := by
        have : c = n := by have := HC.out; omega
        unfold chunk
        rw [this]
        simp
      have h2 := HH2.out
      rw [e] at h2
      exact ⟨_, rfl, R_of_blk h2 (by simp) (by simp [maxLen]; omega) (Nat.le_refl _), HB2.out⟩

set_option maxHeartbeats 4000000 in
set_option maxRecDepth 100000 in
theorem repeat0_calls (ad : Option Addr) (c0 : Nat) (w : World) :
    Calls Try.prog 40 #[.slice ad 1 c0, .int .i64 0] w fun e w' => ∃ v0_ : Value, e = .returned v0_ ∧ Kd.R (Kd.int .i64) 3 w' w.heap.size (fun _ => True) v0_ ([] : List Int) ∧ Below w.heap.size w w' := by
  have hmul : bits_Mul.f 1 0 = some (0, 0) := mul_all 0
  have HMUL := Aside0.mk hmul
  have hmk : ∀ W : World, (Instr.makeSlice 22 (.int .i64 0) (.int .i64 0)).run Try.prog W = .ok (.slice (some ⟨W.heap.size, 0, none⟩) 0 0) (W.alloc (.cells (enc []) 3)) := make_run 0 (by omega)
  have hcp : ∀ W : World, (Builtin.copy_ #[22, 22] 3 #[.slice (some ⟨w.heap.size, 0, none⟩) 0 0, .slice ad 1 c0]).run Try.prog W = .ok (.int .i64 0) W := fun W => run_copy_none (P := Try.prog) W 22 22 3 3 _ _ 0 0 1 c0 Try.underlying22 (by kernel_rfl) rfl
  clear hmul
  go_enter Try.func40, Try.ntmps40
  go_wp2_with (go_at_call 56; (with_reducible refine (bits_Mul.calls _ _ _ _ _ HMUL.out).mono ?_); rintro e w' ⟨rfl, ⟨q, rfl⟩⟩)
  go_loopg [8] 0 (fun gg u8 wr => u8 = .int .i64 0 ∧ Aside0 (wr.heap[w.heap.size]? = some (.cells (enc []) 3 (0, 0))) ∧ Aside0 (Below w.heap.size w wr))
  case atStart => exact ⟨rfl, ⟨heap_alloc_last (w.drewN q) _⟩, ⟨(pw_below_drewN (Below.refl _ w) q).alloc (Nat.le_refl _) _⟩⟩
  case round =>
    obtain ⟨rfl, HH2, HB2⟩ := hrel
    go_wp2
    go_ret
    exact ⟨_, rfl, R_of_blk HH2.out rfl (by simp [maxLen]) (Nat.le_refl _), HB2.out⟩

end Go.Proofs.Ytpkmmbicpijgpaa.Hand
