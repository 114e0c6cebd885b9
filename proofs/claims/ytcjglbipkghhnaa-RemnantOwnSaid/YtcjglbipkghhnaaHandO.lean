-- Check (38), Loads (39), IsFilling (32).
import Derived.Test.YtcjglbipkghhnaaHandN
namespace Go.Proofs.Ytcjglbipkghhnaa.Hand
open Go.BigFrame Go.RowKit Go.Shelf Go.Proofs.Ytcjglbipkghhnaa.P Go.Proofs.YtcjglbipkghhnaaW.PrintWords Go.Proofs.YtcjglbipkghhnaaW.PrintLast Go.Proofs.YtcjglbipkghhnaaW.PrintMore
set_option linter.unusedVariables false
set_option linter.unusedSimpArgs false

theorem load_fold_length (ps l : List Int) : ∀ (r : List Nat) (x : List Int), (r.foldl (loadStep ps l) x).length = x.length
  | [], _ => rfl
  | i :: r, x => by rw [List.foldl_cons, load_fold_length ps l r, loadStep_length]
theorem loadF_length (ps l : List Int) : (loadF ps l).length = 12 := by rw [loadF, load_fold_length]; simp
theorem pie_12 {room : Int} {l : List Int} (h : pieF room l = true) : l.length ≤ 12 := by
  unfold pieF at h
  simp only [Bool.and_eq_true, decide_eq_true_eq] at h
  omega

/-- The array of the loads, stored whole into a new block. -/
theorem store_loads (x : List Int) (hx : x.length = 12) (W : World) : (storeCells ⟨W.heap.size, 0, none⟩ (enc x).toList 0).run Try.prog (W.alloc (.cells #[.int .i64 0, .int .i64 0, .int .i64 0, .int .i64 0, .int .i64 0, .int .i64 0, .int .i64 0, .int .i64 0, .int .i64 0, .int .i64 0, .int .i64 0, .int .i64 0] 74)) = .ok () (W.alloc (.cells (enc x) 74)) :=
  run_storeCells_new W 74 _ _ (by rw [enc_size, hx]; exact info74) (by rw [enc_size, hx]; rfl) (by
    rw [Array.all_eq_true]
    intro i hi
    simp [enc, Value.oneCell'])
theorem max_at (x : List Int) (hx : x.length = 12) (W : World) : Calls Try.prog 70 #[.slice (some ⟨W.heap.size, 0, none⟩) 12 12] (W.alloc (.cells (enc x) 74)) fun e w' => e = .returned (.int .i64 (maxF x)) ∧ Below (W.alloc (.cells (enc x) 74)).heap.size (W.alloc (.cells (enc x) 74)) w' := by
  have hC := C_of_blk (heap_alloc_new W (.cells (enc x) 74)) (by omega) 12 (by omega)
  rw [List.take_of_length_le (by omega)] at hC
  have h := max_calls (some ⟨W.heap.size, 0, none⟩) 12 x (W.alloc (.cells (enc x) 74)) hC (by omega) (by omega)
  rw [hx] at h
  exact h

def checkF (room : Int) (ps l : List Int) : Int × Int :=
  if pieF room ps = true ∧ l.length = ps.length then (if (boxF 0 0 l).2 = true then (if maxF (loadF ps l) > room then (0, 10) else ((boxF 0 0 l).1, 0)) else (0, 2)) else (0, 2)

set_option maxHeartbeats 4000000 in
set_option maxRecDepth 100000 in
theorem check_calls (a0 : Int) (A1 : Option Addr) (c1 : Nat) (ps : List Int) (A2 : Option Addr) (c2 : Nat) (l : List Int) (w : World) (hr1 : Kd.C (Kd.int .i64) w A1 ps.length ps) (hc1 : ps.length ≤ c1) (hr2 : Kd.C (Kd.int .i64) w A2 l.length l) (hc2 : l.length ≤ c2) :
    Calls Try.prog 39 #[.int .i64 a0, .slice A1 ps.length c1, .slice A2 l.length c2] w fun e w' => e = .returned (.tuple #[.int .i64 (checkF a0 ps l).1, .int .i64 (checkF a0 ps l).2]) ∧ Below w.heap.size w w' := by
  have HR1 := Aside0.mk hr1
  have HR2 := Aside0.mk hr2
  clear hr1 hr2
  by_cases hp : pieF a0 ps = true
  · by_cases hlen : l.length = ps.length
    · have hlz : ((l.length : Int) != (ps.length : Int)) = false := by rw [hlen]; simp
      have h12 := pie_12 hp
      have HLEN := Aside0.mk hlen
      have h12' : l.length ≤ 12 := by omega
      have HCF : Aside0 (checkF a0 ps l = if (boxF 0 0 l).2 = true then (if maxF (loadF ps l) > a0 then (0, 10) else ((boxF 0 0 l).1, 0)) else (0, 2)) := ⟨if_pos ⟨hp, hlen⟩⟩
      clear hlen
      generalize hbx : boxF 0 0 l = bx at HCF
      obtain ⟨n, ok⟩ := bx
      cases ok with
      | true =>
        have hbt := boxF_true l 0 n hbx
        have HBT := Aside0.mk hbt
        have hsz : (enc (loadF ps l)).size = 12 := by rw [enc_size, loadF_length]
        have hst := store_loads (loadF ps l) (loadF_length ps l)
        have HMX := Aside0.mk (max_at (loadF ps l) (loadF_length ps l))
        clear hbt
        have HL12 := Aside0.mk (loadF_length ps l)
        by_cases hmx : maxF (loadF ps l) > a0
        · have hmd : decide (a0 < maxF (loadF ps l)) = true := decide_eq_true hmx
          have HRS : Aside0 (checkF a0 ps l = (0, 10)) := ⟨by rw [HCF.out, if_pos rfl, if_pos hmx]⟩
          clear hmx HCF
          go_enter Try.func39, Try.ntmps39
          go_wp2_with (first
            | (go_at_call 54; refine (pie_calls a0 A1 c1 ps _ HR1.out).mono ?_; rintro e w1 ⟨rfl, hb1⟩; rw [hp]; have HB1 := Aside0.mk hb1; clear hb1)
            | (go_at_call 66; refine (boxes_calls A2 c2 l 0 (by decide) _ (Kd.C_below HR2.out HB1.out) hc2 (by omega)).mono ?_; rintro e w2 ⟨rfl, hb2⟩; rw [hbx]; have HB2 := Aside0.mk (below_step HB1.out hb2); clear hb2)
            | (go_at_call 67; refine (loaded_calls A1 c1 ps A2 c2 l _ (Kd.C_below HR1.out HB2.out) (Kd.C_below HR2.out HB2.out) HLEN.out h12' (fun b hb => by have h1 := (HBT.out.2.2 b hb).2; have h2 := HBT.out.2.1; omega)).mono ?_; rintro e w3 ⟨rfl, hb3⟩; have HB3 := Aside0.mk (below_step HB2.out hb3); clear hb3)
            | (go_at_call 70; refine (HMX.out _).mono ?_; rintro e w4 ⟨rfl, hb4⟩; have HB4 := Aside0.mk (below_step (below_alloc HB3.out _) hb4); clear hb4))
          go_ret2
          exact ⟨by rw [HRS.out]; rfl, HB4.out⟩
        · have hmd : decide (a0 < maxF (loadF ps l)) = false := decide_eq_false hmx
          have HRS : Aside0 (checkF a0 ps l = (n, 0)) := ⟨by rw [HCF.out, if_pos rfl, if_neg hmx]⟩
          clear hmx HCF
          go_enter Try.func39, Try.ntmps39
          go_wp2_with (first
            | (go_at_call 54; refine (pie_calls a0 A1 c1 ps _ HR1.out).mono ?_; rintro e w1 ⟨rfl, hb1⟩; rw [hp]; have HB1 := Aside0.mk hb1; clear hb1)
            | (go_at_call 66; refine (boxes_calls A2 c2 l 0 (by decide) _ (Kd.C_below HR2.out HB1.out) hc2 (by omega)).mono ?_; rintro e w2 ⟨rfl, hb2⟩; rw [hbx]; have HB2 := Aside0.mk (below_step HB1.out hb2); clear hb2)
            | (go_at_call 67; refine (loaded_calls A1 c1 ps A2 c2 l _ (Kd.C_below HR1.out HB2.out) (Kd.C_below HR2.out HB2.out) HLEN.out h12' (fun b hb => by have h1 := (HBT.out.2.2 b hb).2; have h2 := HBT.out.2.1; omega)).mono ?_; rintro e w3 ⟨rfl, hb3⟩; have HB3 := Aside0.mk (below_step HB2.out hb3); clear hb3)
            | (go_at_call 70; refine (HMX.out _).mono ?_; rintro e w4 ⟨rfl, hb4⟩; have HB4 := Aside0.mk (below_step (below_alloc HB3.out _) hb4); clear hb4))
          go_ret2
          exact ⟨by rw [HRS.out]; rfl, HB4.out⟩
      | false =>
        have HRS : Aside0 (checkF a0 ps l = (0, 2)) := ⟨by rw [HCF.out]; rfl⟩
        clear HCF
        go_enter Try.func39, Try.ntmps39
        go_wp2_with (first
            | (go_at_call 54; refine (pie_calls a0 A1 c1 ps _ HR1.out).mono ?_; rintro e w1 ⟨rfl, hb1⟩; rw [hp]; have HB1 := Aside0.mk hb1; clear hb1)
            | (go_at_call 66; refine (boxes_calls A2 c2 l 0 (by decide) _ (Kd.C_below HR2.out HB1.out) hc2 (by omega)).mono ?_; rintro e w2 ⟨rfl, hb2⟩; rw [hbx]; have HB2 := Aside0.mk (below_step HB1.out hb2); clear hb2))
        go_ret2
        exact ⟨by rw [HRS.out]; rfl, HB2.out⟩
    · have hlz : ((l.length : Int) != (ps.length : Int)) = true := bne_iff_ne.mpr (by omega)
      have HRS : Aside0 (checkF a0 ps l = (0, 2)) := ⟨if_neg (fun h => hlen h.2)⟩
      clear hlen
      go_enter Try.func39, Try.ntmps39
      go_wp2_with (go_at_call 54; refine (pie_calls a0 A1 c1 ps _ HR1.out).mono ?_; rintro e w1 ⟨rfl, hb1⟩; rw [hp]; have HB1 := Aside0.mk hb1; clear hb1)
      go_ret2
      exact ⟨by rw [HRS.out]; rfl, HB1.out⟩
  · replace hp : pieF a0 ps = false := by simpa using hp
    have HRS : Aside0 (checkF a0 ps l = (0, 2)) := ⟨if_neg (fun h => by rw [hp] at h; exact absurd h.1 (by decide))⟩
    go_enter Try.func39, Try.ntmps39
    go_wp2_with (go_at_call 54; refine (pie_calls a0 A1 c1 ps _ HR1.out).mono ?_; rintro e w1 ⟨rfl, hb1⟩; rw [hp]; have HB1 := Aside0.mk hb1; clear hb1)
    go_ret2
    exact ⟨by rw [HRS.out]; rfl, HB1.out⟩

theorem clone_at (x : List Int) (hx : x.length = 12) (k : Nat) (hk : k ≤ 12) (W : World) : Calls Try.prog 71 #[.slice (some ⟨W.heap.size, 0, none⟩) k 12] (W.alloc (.cells (enc x) 74)) fun e w' => ∃ v0_ : Value, e = .returned v0_ ∧ Kd.R (Kd.int .i64) 3 w' (W.alloc (.cells (enc x) 74)).heap.size (fun _ => True) v0_ (x.take k) ∧ Below (W.alloc (.cells (enc x) 74)).heap.size (W.alloc (.cells (enc x) 74)) w' := by
  have hC := C_of_blk (heap_alloc_new W (.cells (enc x) 74)) (by omega) k (by omega)
  have h := clone_calls (some ⟨W.heap.size, 0, none⟩) 12 (x.take k) (W.alloc (.cells (enc x) 74)) hC (by simp; omega)
  rw [show (x.take k).length = k by simp; omega] at h
  exact h

def loadsF (room : Int) (ps l : List Int) : List Int × Int :=
  if pieF room ps = true ∧ l.length = ps.length then (if (boxF 0 0 l).2 = true then ((loadF ps l).take (boxF 0 0 l).1.toNat, 0) else ([], 2)) else ([], 2)

set_option maxHeartbeats 4000000 in
set_option maxRecDepth 100000 in
theorem loads_calls (a0 : Int) (A1 : Option Addr) (c1 : Nat) (ps : List Int) (A2 : Option Addr) (c2 : Nat) (l : List Int) (w : World) (hr1 : Kd.C (Kd.int .i64) w A1 ps.length ps) (hc1 : ps.length ≤ c1) (hr2 : Kd.C (Kd.int .i64) w A2 l.length l) (hc2 : l.length ≤ c2) :
    Calls Try.prog 40 #[.int .i64 a0, .slice A1 ps.length c1, .slice A2 l.length c2] w fun e w' => ∃ v0_ : Value, e = .returned (.tuple #[v0_, .int .i64 (loadsF a0 ps l).2]) ∧ Kd.R (Kd.int .i64) 3 w' w.heap.size (fun _ => True) v0_ (loadsF a0 ps l).1 ∧ Below w.heap.size w w' := by
  have HR1 := Aside0.mk hr1
  have HR2 := Aside0.mk hr2
  clear hr1 hr2
  by_cases hp : pieF a0 ps = true
  · by_cases hlen : l.length = ps.length
    · have hlz : ((l.length : Int) != (ps.length : Int)) = false := by rw [hlen]; simp
      have h12 := pie_12 hp
      have HLEN := Aside0.mk hlen
      have h12' : l.length ≤ 12 := by omega
      have HCF : Aside0 (loadsF a0 ps l = if (boxF 0 0 l).2 = true then ((loadF ps l).take (boxF 0 0 l).1.toNat, 0) else ([], 2)) := ⟨if_pos ⟨hp, hlen⟩⟩
      clear hlen
      generalize hbx : boxF 0 0 l = bx at HCF
      obtain ⟨n, ok⟩ := bx
      cases ok with
      | true =>
        have hbt := boxF_true l 0 n hbx
        obtain ⟨k, rfl⟩ := Int.eq_ofNat_of_zero_le hbt.1
        have hk12 : k ≤ 12 := by omega
        have HBT := Aside0.mk hbt
        have hsz : (enc (loadF ps l)).size = 12 := by rw [enc_size, loadF_length]
        have hst := store_loads (loadF ps l) (loadF_length ps l)
        have HCL := Aside0.mk (clone_at (loadF ps l) (loadF_length ps l) k hk12)
        have HRS : Aside0 (loadsF a0 ps l = ((loadF ps l).take k, 0)) := ⟨by rw [HCF.out, if_pos rfl, Int.toNat_natCast]⟩
        have hk0 : 0 ≤ (k : Int) := Int.natCast_nonneg k
        have hk1 : (k : Int) ≤ 12 := by omega
        clear hbt HCF
        go_enter Try.func40, Try.ntmps40
        go_wp2_with (first
            | (go_at_call 54; refine (pie_calls a0 A1 c1 ps _ HR1.out).mono ?_; rintro e w1 ⟨rfl, hb1⟩; rw [hp]; have HB1 := Aside0.mk hb1; clear hb1)
            | (go_at_call 66; refine (boxes_calls A2 c2 l 0 (by decide) _ (Kd.C_below HR2.out HB1.out) hc2 (by omega)).mono ?_; rintro e w2 ⟨rfl, hb2⟩; rw [hbx]; have HB2 := Aside0.mk (below_step HB1.out hb2); clear hb2)
            | (go_at_call 67; refine (loaded_calls A1 c1 ps A2 c2 l _ (Kd.C_below HR1.out HB2.out) (Kd.C_below HR2.out HB2.out) HLEN.out h12' (fun b hb => by have h1 := (HBT.out.2.2 b hb).2; have h2 := HBT.out.2.1; omega)).mono ?_; rintro e w3 ⟨rfl, hb3⟩; have HB3 := Aside0.mk (below_step HB2.out hb3); clear hb3)
            | (go_at_call 71; refine (HCL.out _).mono ?_; rintro e w4 ⟨v0, rfl, hR4, hb4⟩; have HR4 := Aside0.mk hR4; have HB4 := Aside0.mk (below_step (below_alloc HB3.out _) hb4); clear hb4 hR4))
        go_ret2
        exact ⟨v0, by rw [HRS.out]; rfl, by rw [HRS.out]; exact Kd.R_lower HR4.out (below_alloc HB3.out _).size, HB4.out⟩
      | false =>
        have HRS : Aside0 (loadsF a0 ps l = ([], 2)) := ⟨by rw [HCF.out]; rfl⟩
        clear HCF
        go_enter Try.func40, Try.ntmps40
        go_wp2_with (first
            | (go_at_call 54; refine (pie_calls a0 A1 c1 ps _ HR1.out).mono ?_; rintro e w1 ⟨rfl, hb1⟩; rw [hp]; have HB1 := Aside0.mk hb1; clear hb1)
            | (go_at_call 66; refine (boxes_calls A2 c2 l 0 (by decide) _ (Kd.C_below HR2.out HB1.out) hc2 (by omega)).mono ?_; rintro e w2 ⟨rfl, hb2⟩; rw [hbx]; have HB2 := Aside0.mk (below_step HB1.out hb2); clear hb2))
        go_ret2
        exact ⟨_, by rw [HRS.out]; rfl, by rw [HRS.out]; exact Kd.R_nil _ _ _ _ _, HB2.out⟩
    · have hlz : ((l.length : Int) != (ps.length : Int)) = true := bne_iff_ne.mpr (by omega)
      have HRS : Aside0 (loadsF a0 ps l = ([], 2)) := ⟨if_neg (fun h => hlen h.2)⟩
      clear hlen
      go_enter Try.func40, Try.ntmps40
      go_wp2_with (go_at_call 54; refine (pie_calls a0 A1 c1 ps _ HR1.out).mono ?_; rintro e w1 ⟨rfl, hb1⟩; rw [hp]; have HB1 := Aside0.mk hb1; clear hb1)
      go_ret2
      exact ⟨_, by rw [HRS.out]; rfl, by rw [HRS.out]; exact Kd.R_nil _ _ _ _ _, HB1.out⟩
  · replace hp : pieF a0 ps = false := by simpa using hp
    have HRS : Aside0 (loadsF a0 ps l = ([], 2)) := ⟨if_neg (fun h => by rw [hp] at h; exact absurd h.1 (by decide))⟩
    go_enter Try.func40, Try.ntmps40
    go_wp2_with (go_at_call 54; refine (pie_calls a0 A1 c1 ps _ HR1.out).mono ?_; rintro e w1 ⟨rfl, hb1⟩; rw [hp]; have HB1 := Aside0.mk hb1; clear hb1)
    go_ret2
    exact ⟨_, by rw [HRS.out]; rfl, by rw [HRS.out]; exact Kd.R_nil _ _ _ _ _, HB1.out⟩

def fillF (room : Int) (ps l : List Int) : Int × Int :=
  if pieF room ps = true ∧ l.length = ps.length then (if (boxF (-1) 0 l).2 = true then (if ((loadF ps l).take (boxF (-1) 0 l).1.toNat).all (fun x => decide (room ≤ x)) = true then ((boxF (-1) 0 l).1, 0) else (0, 10)) else (0, 2)) else (0, 2)
theorem all_take_false {x : List Int} {k j : Nat} (hj : j < k) (hk : k ≤ x.length) {p : Int → Bool} (h : p (rd x (j : Int)) = false) : (x.take k).all p = false := by
  rw [Bool.eq_false_iff]
  intro ha
  rw [List.all_eq_true] at ha
  have := ha (rd x (j : Int)) (by
    have hjx : j < x.length := by omega
    rw [show rd x (j : Int) = (x.take k)[j]'(by simp; omega) by simp [rd, hjx]]
    exact List.getElem_mem _)
  rw [h] at this
  cases this

set_option maxHeartbeats 4000000 in
set_option maxRecDepth 100000 in
theorem filling_calls (a0 : Int) (A1 : Option Addr) (c1 : Nat) (ps : List Int) (A2 : Option Addr) (c2 : Nat) (l : List Int) (w : World) (hr1 : Kd.C (Kd.int .i64) w A1 ps.length ps) (hc1 : ps.length ≤ c1) (hr2 : Kd.C (Kd.int .i64) w A2 l.length l) (hc2 : l.length ≤ c2) :
    Calls Try.prog 33 #[.int .i64 a0, .slice A1 ps.length c1, .slice A2 l.length c2] w fun e w' => e = .returned (.tuple #[.int .i64 (fillF a0 ps l).1, .int .i64 (fillF a0 ps l).2]) ∧ Below w.heap.size w w' := by
  have HR1 := Aside0.mk hr1
  have HR2 := Aside0.mk hr2
  clear hr1 hr2
  by_cases hp : pieF a0 ps = true
  · by_cases hlen : l.length = ps.length
    · have hlz : ((l.length : Int) != (ps.length : Int)) = false := by rw [hlen]; simp
      have h12 := pie_12 hp
      have HLEN := Aside0.mk hlen
      have h12' : l.length ≤ 12 := by omega
      have HCF : Aside0 (fillF a0 ps l = if (boxF (-1) 0 l).2 = true then (if ((loadF ps l).take (boxF (-1) 0 l).1.toNat).all (fun x => decide (a0 ≤ x)) = true then ((boxF (-1) 0 l).1, 0) else (0, 10)) else (0, 2)) := ⟨if_pos ⟨hp, hlen⟩⟩
      clear hlen
      generalize hbx : boxF (-1) 0 l = bx at HCF
      obtain ⟨n, ok⟩ := bx
      cases ok with
      | true =>
        have hbt := boxF_true l 0 n hbx
        obtain ⟨k, rfl⟩ := Int.eq_ofNat_of_zero_le hbt.1
        have hk12 : k ≤ 12 := by omega
        have HBT := Aside0.mk hbt
        have hsz : (enc (loadF ps l)).size = 12 := by rw [enc_size, loadF_length]
        have hst := store_loads (loadF ps l) (loadF_length ps l)
        have hk0 : 0 ≤ (k : Int) := Int.natCast_nonneg k
        have hk1 : (k : Int) ≤ 12 := by omega
        have HX := Aside0.mk (loadF_length ps l)
        clear hbt
        go_enter Try.func33, Try.ntmps33
        go_wp2_with (first
            | (go_at_call 54; refine (pie_calls a0 A1 c1 ps _ HR1.out).mono ?_; rintro e w1 ⟨rfl, hb1⟩; rw [hp]; have HB1 := Aside0.mk hb1; clear hb1)
            | (go_at_call 66; refine (boxes_calls A2 c2 l (-1) (by decide) _ (Kd.C_below HR2.out HB1.out) hc2 (by omega)).mono ?_; rintro e w2 ⟨rfl, hb2⟩; rw [hbx]; have HB2 := Aside0.mk (below_step HB1.out hb2); clear hb2)
            | (go_at_call 67; refine (loaded_calls A1 c1 ps A2 c2 l _ (Kd.C_below HR1.out HB2.out) (Kd.C_below HR2.out HB2.out) HLEN.out h12' (fun b hb => by have h1 := (HBT.out.2.2 b hb).2; have h2 := HBT.out.2.1; omega)).mono ?_; rintro e w3 ⟨rfl, hb3⟩; have HB3 := Aside0.mk (below_step HB2.out hb3); clear hb3))
        have HCX := Aside0.mk (C_of_blk (heap_alloc_new w3 (.cells (enc (loadF ps l)) 74)) (by rw [HX.out]; omega) 12 (by rw [HX.out]; omega))
        generalize loadF ps l = x at *
        go_loopg [37] k (fun gg u37 wr => ∃ (j : Nat), u37 = .int .i64 (j : Int) ∧ Aside0 (j ≤ k ∧ k - j ≤ gg ∧ ((x.take k).drop j).all (fun x => decide (a0 ≤ x)) = (x.take k).all (fun x => decide (a0 ≤ x))) ∧ Aside0 (Below (w3.alloc (.cells (enc x) 74)).heap.size (w3.alloc (.cells (enc x) 74)) wr))
        case atStart => exact ⟨0, rfl, ⟨by omega, by omega, rfl⟩, ⟨Below.refl _ _⟩⟩
        case round =>
          obtain ⟨j, rfl, HJ, HB⟩ := hrel
          by_cases hlt : j < k
          · have hltz : decide ((j : Int) < (k : Int)) = true := decide_eq_true (by omega)
            obtain ⟨a1, e, g1⟩ := Kd.at_int (Kd.C_below HCX.out HB.out) (j : Int) (by omega) (by simp [HX.out]; omega)
            cases e
            rw [Int.toNat_natCast, add_plain] at g1
            have hj0 : 0 ≤ (j : Int) := Int.natCast_nonneg j
            have hj1 : (j : Int) < (k : Int) := by omega
            have e1 : rd (x.take 12) (j : Int) = rd x (j : Int) := by rw [List.take_of_length_le (by rw [HX.out]; omega)]
            rw [e1] at g1
            have hd : (x.take k).drop j = rd x (j : Int) :: (x.take k).drop (j + 1) := by
              have hjx : j < x.length := by have := HX.out; omega
              rw [List.drop_eq_getElem_cons (by simp; omega)]
              simp [rd, hjx]
            have HD := Aside0.mk hd
            have HAF := Aside0.mk (fun h => all_take_false (x := x) (k := k) (j := j) hlt (by have := HX.out; omega) (p := fun x => decide (a0 ≤ x)) h)
            clear hd e1
            by_cases hc : rd x (j : Int) < a0
            · have hcd := decide_eq_true hc
              have HRS : Aside0 (fillF a0 ps l = (0, 10)) := ⟨by rw [HCF.out, if_pos trivial, Int.toNat_natCast, HAF.out (decide_eq_false (by omega)), if_neg (by decide)]⟩
              go_wp2
              go_ret2
              exact ⟨by rw [HRS.out]; rfl, below_step (below_alloc HB3.out _) HB.out⟩
            · have hcd := decide_eq_false hc
              have HA : Aside0 (((x.take k).drop (j + 1)).all (fun x => decide (a0 ≤ x)) = (x.take k).all (fun x => decide (a0 ≤ x))) := ⟨by
                have h := HJ.out.2.2
                rw [HD.out, List.all_cons, decide_eq_true (show a0 ≤ rd x (j : Int) by omega), Bool.true_and] at h
                exact h⟩
              go_wp2
              go_roundg (k - (j + 1))
              case measure => have := HJ.out.2.1; omega
              case rel => exact ⟨j + 1, by push_cast; rfl, ⟨by omega, by omega, HA.out⟩, HB⟩
          · have hltz : decide ((j : Int) < (k : Int)) = false := decide_eq_false (by omega)
            have HRS : Aside0 (fillF a0 ps l = ((k : Int), 0)) := ⟨by
              have h := HJ.out.2.2
              rw [List.drop_of_length_le (by simp; omega)] at h
              rw [HCF.out, if_pos trivial, Int.toNat_natCast, ← h]
              rfl⟩
            go_wp2
            go_ret2
            exact ⟨by rw [HRS.out]; rfl, below_step (below_alloc HB3.out _) HB.out⟩
      | false =>
        have HRS : Aside0 (fillF a0 ps l = (0, 2)) := ⟨by rw [HCF.out]; rfl⟩
        clear HCF
        go_enter Try.func33, Try.ntmps33
        go_wp2_with (first
            | (go_at_call 54; refine (pie_calls a0 A1 c1 ps _ HR1.out).mono ?_; rintro e w1 ⟨rfl, hb1⟩; rw [hp]; have HB1 := Aside0.mk hb1; clear hb1)
            | (go_at_call 66; refine (boxes_calls A2 c2 l (-1) (by decide) _ (Kd.C_below HR2.out HB1.out) hc2 (by omega)).mono ?_; rintro e w2 ⟨rfl, hb2⟩; rw [hbx]; have HB2 := Aside0.mk (below_step HB1.out hb2); clear hb2))
        go_ret2
        exact ⟨by rw [HRS.out]; rfl, HB2.out⟩
    · have hlz : ((l.length : Int) != (ps.length : Int)) = true := bne_iff_ne.mpr (by omega)
      have HRS : Aside0 (fillF a0 ps l = (0, 2)) := ⟨if_neg (fun h => hlen h.2)⟩
      clear hlen
      go_enter Try.func33, Try.ntmps33
      go_wp2_with (go_at_call 54; refine (pie_calls a0 A1 c1 ps _ HR1.out).mono ?_; rintro e w1 ⟨rfl, hb1⟩; rw [hp]; have HB1 := Aside0.mk hb1; clear hb1)
      go_ret2
      exact ⟨by rw [HRS.out]; rfl, HB1.out⟩
  · replace hp : pieF a0 ps = false := by simpa using hp
    have HRS : Aside0 (fillF a0 ps l = (0, 2)) := ⟨if_neg (fun h => by rw [hp] at h; exact absurd h.1 (by decide))⟩
    go_enter Try.func33, Try.ntmps33
    go_wp2_with (go_at_call 54; refine (pie_calls a0 A1 c1 ps _ HR1.out).mono ?_; rintro e w1 ⟨rfl, hb1⟩; rw [hp]; have HB1 := Aside0.mk hb1; clear hb1)
    go_ret2
    exact ⟨by rw [HRS.out]; rfl, HB1.out⟩

end Go.Proofs.Ytcjglbipkghhnaa.Hand
