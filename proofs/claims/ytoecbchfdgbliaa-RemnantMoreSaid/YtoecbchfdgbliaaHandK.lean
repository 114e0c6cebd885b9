-- The reference's Best (43): the table of the fewest boxes.
import Derived.Test.YtoecbchfdgbliaaHandD
import Derived.Test.YtoecbchfdgbliaaMathP
namespace Go.Proofs.Ytoecbchfdgbliaa.Hand
open Go.RowKit Go.Shelf Go.Proofs.Ytoecbchfdgbliaa.P Go.Proofs.YtoecbchfdgbliaaW.PrintWords Go.Proofs.YtoecbchfdgbliaaW.PrintLast Go.Proofs.YtoecbchfdgbliaaW.PrintMore
open Go.Proofs.Ytoecbchfdgbliaa.Math (stp Bet)
attribute [local go_sem] Oper.semAt_some
set_option linter.unusedVariables false
set_option linter.unusedSimpArgs false

def bstep (room : Int) (l : List Int) (T : Nat → Int × Int) (s : Nat) (cur : Int × Int) (i : Nat) : Int × Int :=
  if (s / 2 ^ i) % 2 = 1 then (if Bet (stp room (T (s - 2 ^ i)) (rd l (i : Int))) cur then stp room (T (s - 2 ^ i)) (rd l (i : Int)) else cur) else cur
def btF (room : Int) (l : List Int) : Nat → Nat → Int × Int
  | 0, _ => (0, 0)
  | N + 1, s => if s = 0 then (0, 0) else (List.range l.length).foldl (bstep room l (btF room l N) s) ((l.length : Int) + 1, 0)
/-- The table of the fewest closed boxes and the smallest load of the open one. -/
def bT (room : Int) (l : List Int) (s : Nat) : Int × Int := btF room l s s
def bIn (room : Int) (l : List Int) (s m : Nat) : Int × Int := (List.range m).foldl (bstep room l (bT room l) s) ((l.length : Int) + 1, 0)
theorem bIn_succ (room : Int) (l : List Int) (s m : Nat) : bIn room l s (m + 1) = bstep room l (bT room l) s (bIn room l s m) m := by
  unfold bIn; rw [List.range_succ, List.foldl_append]; rfl
theorem two_leB {s i : Nat} (h : (s / 2 ^ i) % 2 = 1) : 2 ^ i ≤ s := by
  rcases Nat.lt_or_ge s (2 ^ i) with hlt | hge
  · rw [Nat.div_eq_of_lt hlt] at h; cases h
  · exact hge
theorem btF_fuel (room : Int) (l : List Int) : ∀ (N N' s : Nat), s ≤ N → s ≤ N' → btF room l N s = btF room l N' s
  | 0, N', s, h, _ => by
    obtain rfl : s = 0 := by omega
    cases N' with
    | zero => rfl
    | succ N' => rw [btF, btF, if_pos rfl]
  | N + 1, 0, s, _, h => by
    obtain rfl : s = 0 := by omega
    rw [btF, btF, if_pos rfl]
  | N + 1, N' + 1, s, h, h' => by
    rw [btF, btF]
    by_cases e : s = 0
    · rw [if_pos e, if_pos e]
    · rw [if_neg e, if_neg e]
      have key : ∀ (xs : List Nat) (c : Int × Int), xs.foldl (bstep room l (btF room l N) s) c = xs.foldl (bstep room l (btF room l N') s) c := by
        intro xs
        induction xs with
        | nil => intro c; rfl
        | cons i xs ih =>
          intro c
          rw [List.foldl_cons, List.foldl_cons]
          have : bstep room l (btF room l N) s c i = bstep room l (btF room l N') s c i := by
            unfold bstep
            by_cases hb : (s / 2 ^ i) % 2 = 1
            · have h2 := two_leB hb
              have hp : 0 < 2 ^ i := Nat.pow_pos (by decide)
              rw [if_pos hb, if_pos hb, btF_fuel room l N N' (s - 2 ^ i) (by omega) (by omega)]
            · rw [if_neg hb, if_neg hb]
          rw [this]; exact ih _
      exact key _ _
theorem bT_rec (room : Int) (l : List Int) {s : Nat} (h : 0 < s) : bT room l s = bIn room l s l.length := by
  obtain ⟨m, rfl⟩ : ∃ m, s = m + 1 := ⟨s - 1, by omega⟩
  unfold bT bIn
  rw [btF, if_neg (by omega)]
  have key : ∀ (xs : List Nat) (c : Int × Int), xs.foldl (bstep room l (btF room l m) (m + 1)) c = xs.foldl (bstep room l (bT room l) (m + 1)) c := by
    intro xs
    induction xs with
    | nil => intro c; rfl
    | cons i xs ih =>
      intro c
      rw [List.foldl_cons, List.foldl_cons]
      have : bstep room l (btF room l m) (m + 1) c i = bstep room l (bT room l) (m + 1) c i := by
        unfold bstep
        by_cases hb : ((m + 1) / 2 ^ i) % 2 = 1
        · have h2 := two_leB hb
          have hp : 0 < 2 ^ i := Nat.pow_pos (by decide)
          rw [if_pos hb, if_pos hb, btF_fuel room l m (m + 1 - 2 ^ i) (m + 1 - 2 ^ i) (by omega) (by omega)]
          rfl
        · rw [if_neg hb, if_neg hb]
      rw [this]; exact ih _
  exact key _ _
theorem bT_zero (room : Int) (l : List Int) : bT room l 0 = (0, 0) := rfl
def OkB (room : Int) (l : List Int) (c : Int × Int) : Prop := 0 ≤ c.1 ∧ c.1 ≤ (l.length : Int) + 1 ∧ 0 ≤ c.2 ∧ c.2 ≤ room
theorem bstep_ok {room : Int} {l : List Int} (h0 : 0 ≤ room) (hl : ∀ x ∈ l, 1 ≤ x ∧ x ≤ room) {T : Nat → Int × Int} {s : Nat} {cur : Int × Int} {i : Nat} (hi : i < l.length) (hT : (s / 2 ^ i) % 2 = 1 → OkB room l (T (s - 2 ^ i))) (hc : OkB room l cur) : OkB room l (bstep room l T s cur i) := by
  unfold bstep
  split
  · rename_i hb
    have h1 := hT hb
    have h2 := hl _ (rd_memR hi)
    split
    · rename_i hbt
      unfold OkB at *
      unfold Bet stp at hbt
      unfold stp
      split at hbt <;> rename_i hov
      · rw [if_pos hov]; dsimp only at *; omega
      · rw [if_neg hov]; dsimp only at *; omega
    · exact hc
  · exact hc
theorem bIn_ok' {room : Int} {l : List Int} (h0 : 0 ≤ room) (hl : ∀ x ∈ l, 1 ≤ x ∧ x ≤ room) {s : Nat} (hT : ∀ u, u < s → OkB room l (bT room l u)) : ∀ m, m ≤ l.length → OkB room l (bIn room l s m)
  | 0, _ => ⟨by show (0 : Int) ≤ (l.length : Int) + 1; omega, Int.le_refl _, Int.le_refl _, h0⟩
  | m + 1, hm => by
    rw [bIn_succ]
    refine bstep_ok h0 hl (by omega) (fun hb => ?_) (bIn_ok' h0 hl hT m (by omega))
    have h2 := two_leB hb
    have hp : 0 < 2 ^ m := Nat.pow_pos (by decide)
    exact hT _ (by omega)
theorem bT_ok {room : Int} {l : List Int} (h0 : 0 ≤ room) (hl : ∀ x ∈ l, 1 ≤ x ∧ x ≤ room) : ∀ N s, s < N → OkB room l (bT room l s)
  | 0, s, h => by omega
  | N + 1, s, h => by
    by_cases e : s = 0
    · subst e; exact ⟨Int.le_refl _, by show (0 : Int) ≤ (l.length : Int) + 1; omega, Int.le_refl _, h0⟩
    · rw [bT_rec room l (by omega)]
      exact bIn_ok' h0 hl (fun u hu => bT_ok h0 hl N u (by omega)) _ (Nat.le_refl _)
def bestR (room : Int) (l : List Int) : Int := if l.length = 0 then 0 else (bT room l (2 ^ l.length - 1)).1 + 1

set_option maxHeartbeats 4000000 in
set_option maxRecDepth 100000 in
theorem refBest_calls (a0 : Int) (A0 : Option Addr) (c0 : Nat) (l0 : List Int) (hp : pieF a0 l0 = true) (w : World) (hr0 : Kd.C (Kd.int .i64) w A0 l0.length l0) :
    Calls Try.prog 43 #[.int .i64 a0, .slice A0 l0.length c0] w fun e w' => e = .returned (.int .i64 (bestR a0 l0)) ∧ Below w.heap.size w w' := by
  have hmix : Try.prog.follows .mixedOrders = true := by kernel_rfl
  have HR := Aside0.mk hr0
  have hroom : (1 ≤ a0 ∧ a0 ≤ 100) ∧ l0.length ≤ 12 ∧ ∀ x ∈ l0, 1 ≤ x ∧ x ≤ a0 := by
    have h := hp
    unfold pieF at h
    simp only [Bool.and_eq_true, decide_eq_true_eq, List.all_eq_true] at h
    obtain ⟨h1, h2, h3⟩ := h
    have hw : ∀ x lo hi : Int, within x lo hi = true → lo ≤ x ∧ x ≤ hi := by
      intro x lo hi hx
      unfold within at hx
      split at hx
      · simp only [decide_eq_true_eq] at hx; omega
      · cases hx
    exact ⟨hw _ _ _ h1, by omega, fun x hx => hw _ _ _ (h3 x hx)⟩
  obtain ⟨hr1, hlen, hall⟩ := hroom
  have HALL := Aside0.mk hall
  have HT := Aside0.mk (fun s => bT_ok (room := a0) (l := l0) (by omega) hall (s + 1) s (Nat.lt_succ_self s))
  have HTI := Aside0.mk (fun (s m : Nat) (hm : m ≤ l0.length) => bIn_ok' (room := a0) (l := l0) (by omega) hall (s := s) (fun u _ => bT_ok (by omega) hall (u + 1) u (Nat.lt_succ_self u)) m hm)
  clear hr0 hp hall
  have hpw : 2 ^ l0.length ≤ 4096 := Nat.le_trans (Nat.pow_le_pow_right (by decide) hlen) (by decide)
  have hpos : 0 < 2 ^ l0.length := Nat.pow_pos (by decide)
  have hsh : wrap64 ((2 : Int) ^ l0.length) = ((2 ^ l0.length : Nat) : Int) := by
    rw [show (2 : Int) ^ l0.length = ((2 ^ l0.length : Nat) : Int) by push_cast; rfl]
    unfold wrap64; omega
  generalize hm : 2 ^ l0.length = m at hsh hpw hpos
  have HM := Aside0.mk hm
  clear hm
  have hsh2 : IntKind.i64.wrap ((2 : Int) ^ l0.length) = (m : Int) := (i64_w _).trans hsh
  have hmk := fun W => make_run m (by omega) W
  refine (callsIn_wide (n := 5)).1 ?_
  refine callsIn_of_wp Try.func43 rfl trivial ?_ rfl
  simp only [Try.ntmps43, List.size_toArray, List.length_cons, List.length_nil, Nat.reduceAdd, Nat.reduceSub, Array.replicate_succ, Array.replicate_zero, List.push_toArray, List.append_toArray, List.nil_append, List.cons_append]
  gi_wp2
  have hb1 : ∀ W : World, w.heap.size = W.heap.size → Below w.heap.size w W → True := fun _ _ _ => trivial
  clear hb1
  have HREP : Aside0 (∀ j : Nat, rd (List.replicate m (0 : Int)) (j : Int) = 0) := ⟨fun j => by unfold rd; rw [Int.toNat_natCast, List.getD_eq_getElem?_getD, List.getElem?_replicate]; split <;> rfl⟩
  refine wpIn_wide.2 (wp_mono (Q := fun e a' w' => match e with | .normal => ∃ b1 b2 : Nat, a' = { tmps := #[.int .i64 a0, .slice A0 l0.length c0, undef, undef, .int .i64 0, .slice (some ⟨b1, 0, none⟩) m m, .slice (some ⟨b2, 0, none⟩) m m, undef, undef, undef, undef, .slice A0 l0.length c0, .int .i64 (l0.length : Int), .int .i64 (m : Int), .slice (some ⟨b1, 0, none⟩) m m, .slice A0 l0.length c0, .int .i64 (l0.length : Int), .int .i64 (m : Int), .slice (some ⟨b2, 0, none⟩) m m, undef, undef, undef, undef, undef, undef, undef, undef, undef, undef, undef, undef, undef, undef, undef, undef, undef, undef, undef, undef, undef, undef, undef, undef, undef, undef, undef, undef, undef, undef, undef, undef, undef, undef, undef, undef, undef, undef, undef, undef, undef, undef, undef, undef, undef, undef, undef, undef, undef, undef, undef, undef, undef, undef, undef, undef, undef, undef, undef, undef, undef, undef, undef, undef, undef, undef, undef, undef, undef, undef, undef, undef, undef, undef, undef, undef, undef, undef, undef, undef, undef, undef, undef, undef, undef, undef, undef, undef, undef, undef, undef, undef, undef], defers := [] } ∧ Aside0 (b1 ≠ b2 ∧ w.heap.size ≤ b1 ∧ w.heap.size ≤ b2 ∧ w'.heap[b1]? = some (.cells (enc (List.replicate m 0)) 3 (0, 0)) ∧ w'.heap[b2]? = some (.cells (enc (List.replicate m 0)) 3 (0, 0)) ∧ Below w.heap.size w w') | _ => False) ?reg ?rest)
  case reg =>
    have h1 := two_second' w (.cells (enc (List.replicate m 0)) 3) (.cells (enc (List.replicate m 0)) 3)
    have h2 : ((w.alloc (.cells (enc (List.replicate m 0)) 3)).alloc (.cells (enc (List.replicate m 0)) 3)).heap[w.heap.size]? = some (.cells (enc (List.replicate m 0)) 3 (0, 0)) := (Below.heap_alloc _ _ _ (by simp)).trans (heap_alloc_new w _)
    have hB : Below w.heap.size w ((w.alloc (.cells (enc (List.replicate m 0)) 3)).alloc (.cells (enc (List.replicate m 0)) 3)) := ((Below.refl _ w).alloc (Nat.le_refl _) _).alloc (by simp) _
    have H1 := Aside0.mk h1
    have H2 := Aside0.mk h2
    have HB := Aside0.mk hB
    clear h1 h2 hB
    go_region_law (fail)
    · exact ⟨w.heap.size, w.heap.size + 1, rfl, ⟨by omega, by omega, by omega, H2.out, H1.out, below_drew HB.out⟩⟩
    · exact ⟨w.heap.size + 1, w.heap.size, rfl, ⟨by omega, by omega, by omega, H1.out, H2.out, below_drew HB.out⟩⟩
  case rest =>
    intro e a5 wi hq5
    cases e <;> first | exact False.elim hq5 | skip
    obtain ⟨b1, b2, rfl, HI⟩ := hq5
    clear hmk
    gi_wp2
    try simp only [hsh]
    gi_loopw [7] (fun u wr => ∃ (s : Nat) (C D : List Int), u = .int .i64 (s : Int) ∧ Aside0 ((1 ≤ s ∧ s ≤ m ∧ C.length = m ∧ D.length = m) ∧ (∀ j : Nat, j < s → rd C (j : Int) = (bT a0 l0 j).1 ∧ rd D (j : Int) = (bT a0 l0 j).2) ∧ ∀ j : Nat, s ≤ j → rd C (j : Int) = 0 ∧ rd D (j : Int) = 0) ∧
        Aside0 (wr.heap[b1]? = some (.cells (enc C) 3 (0, 0))) ∧ Aside0 (wr.heap[b2]? = some (.cells (enc D) 3 (0, 0))) ∧ Aside0 (Below w.heap.size w wr))
      (fun u _ => m - (intOf u).toNat)
    case atStart => exact ⟨1, _, _, rfl, ⟨⟨Nat.le_refl _, by omega, by simp, by simp⟩, fun j hj => by rw [HREP.out, show j = 0 by omega]; exact ⟨rfl, rfl⟩, fun j _ => ⟨HREP.out j, HREP.out j⟩⟩, ⟨HI.out.2.2.2.1⟩, ⟨HI.out.2.2.2.2.1⟩, ⟨HI.out.2.2.2.2.2⟩⟩
    case round =>
      obtain ⟨s, C, D, rfl, HX, HC, HD, HB⟩ := hrel
      by_cases hlt : s < m
      · have hltz : decide ((s : Int) < (m : Int)) = true := decide_eq_true (by omega)
        have hs1 : 1 ≤ s := HX.out.1.1
        have hxc := cell_of_encL HC.out (i := s) (by rw [HX.out.1.2.2.1]; exact hlt)
        have hfx := frozen_of_row wr b1 s _ 3 HC.out
        have HNE := Aside0.mk HI.out.1
        have HLE1 := Aside0.mk HI.out.2.1
        have HLE2 := Aside0.mk HI.out.2.2.1
        have HC2 : Aside0 ((wr.setCell ⟨b1, s, none⟩ (.int .i64 ((l0.length : Int) + 1))).heap[b1]? = some (.cells (enc (C.set s ((l0.length : Int) + 1))) 3 (0, 0))) := ⟨by
          refine (heap_setCell_same _ b1 s (enc C) 3 _ HC.out).trans ?_
          rw [enc_set]⟩
        have HD2 : Aside0 ((wr.setCell ⟨b1, s, none⟩ (.int .i64 ((l0.length : Int) + 1))).heap[b2]? = some (.cells (enc D) 3 (0, 0))) := ⟨(Below.heap_setCell _ ⟨b1, s, none⟩ _ _ (Ne.symm HNE.out)).trans HD.out⟩
        have HB2 : Aside0 (Below w.heap.size w (wr.setCell ⟨b1, s, none⟩ (.int .i64 ((l0.length : Int) + 1)))) := ⟨HB.out.setCell (p := ⟨b1, s, none⟩) HLE1.out _⟩
        gi_wp2
        try simp only [hsh]
        gi_loopw [8] (fun u wr => ∃ (i : Nat) (C2 D2 : List Int), u = .int .i64 (i : Int) ∧ Aside0 ((i ≤ l0.length ∧ C2.length = m ∧ D2.length = m) ∧ (∀ j : Nat, j < s → rd C2 (j : Int) = (bT a0 l0 j).1 ∧ rd D2 (j : Int) = (bT a0 l0 j).2) ∧ (∀ j : Nat, s < j → rd C2 (j : Int) = 0 ∧ rd D2 (j : Int) = 0) ∧ (rd C2 (s : Int), rd D2 (s : Int)) = bIn a0 l0 s i) ∧
            Aside0 (wr.heap[b1]? = some (.cells (enc C2) 3 (0, 0))) ∧ Aside0 (wr.heap[b2]? = some (.cells (enc D2) 3 (0, 0))) ∧ Aside0 (Below w.heap.size w wr))
          (fun u _ => l0.length - (intOf u).toNat)
        case atStart =>
          refine ⟨0, C.set s ((l0.length : Int) + 1), D, rfl, ⟨⟨Nat.zero_le _, by simp [HX.out.1.2.2.1], HX.out.1.2.2.2⟩, fun j hj => ?_, fun j hj => ?_, ?_⟩, HC2, HD2, HB2⟩
          · rw [rd_setE _ _ _ _ (by rw [HX.out.1.2.2.1]; exact hlt), if_neg (by omega)]; exact HX.out.2.1 j hj
          · rw [rd_setE _ _ _ _ (by rw [HX.out.1.2.2.1]; exact hlt), if_neg (by omega)]; exact HX.out.2.2 j (by omega)
          · rw [rd_setE _ _ _ _ (by rw [HX.out.1.2.2.1]; exact hlt), if_pos rfl, (HX.out.2.2 s (Nat.le_refl _)).2]; rfl
        case round =>
          clear hxc hfx HC2 HD2 HB2
          obtain ⟨i, C2, D2, rfl, HY, HC3, HD3, HB3⟩ := hrel
          by_cases hil : i < l0.length
          · have hilz : decide ((i : Int) < (l0.length : Int)) = true := decide_eq_true (by omega)
            obtain ⟨ad, e, g0⟩ := Kd.at_int (Kd.C_below HR.out HB3.out) (i : Int) (by omega) (by omega)
            cases e
            rw [Int.toNat_natCast] at g0
            have tm : ((s : Int) / 2 ^ i).tmod 2 = (((s / 2 ^ i) % 2 : Nat) : Int) := by
              rw [show (s : Int) / 2 ^ i = ((s / 2 ^ i : Nat) : Int) by push_cast; rfl, Int.tmod_eq_emod_of_nonneg (Int.natCast_nonneg _)]; push_cast; rfl
            have HBS := Aside0.mk (show bIn a0 l0 s (i + 1) = if (s / 2 ^ i) % 2 = 1 then (if Bet (stp a0 (bT a0 l0 (s - 2 ^ i)) (rd l0 (i : Int))) (bIn a0 l0 s i) then stp a0 (bT a0 l0 (s - 2 ^ i)) (rd l0 (i : Int)) else bIn a0 l0 s i) else bIn a0 l0 s i from bIn_succ a0 l0 s i)
            have hq := HALL.out _ (rd_memR (l := l0) (j := i) hil)
            by_cases hbit : (s / 2 ^ i) % 2 = 1
            · replace tm : ((s : Int) / 2 ^ i).tmod 2 = 1 := by rw [tm, hbit]; rfl
              have h2 := two_leB hbit
              have HBIT := Aside0.mk hbit
              clear hbit
              have hu1 : s - 2 ^ i < s := by have : 0 < 2 ^ i := Nat.pow_pos (by decide); omega
              have hpi : (2 : Int) ^ i = ((2 ^ i : Nat) : Int) := by push_cast; rfl
              have hOK := HT.out (s - 2 ^ i)
              have hTu := HY.out.2.1 (s - 2 ^ i) hu1
              obtain ⟨u, hu⟩ : ∃ u, s - 2 ^ i = u := ⟨_, rfl⟩
              rw [hu] at hu1 hOK hTu HBS
              have TM := Aside0.mk tm
              clear tm
              obtain ⟨q2, hg2⟩ : ∃ q2, 2 ^ i = q2 := ⟨_, rfl⟩
              rw [hg2] at h2 hu hpi
              have hq2a : wrap64 ((2 : Int) ^ i) = (q2 : Int) := by rw [hpi]; clear hpi hg2 hTu hOK; unfold wrap64; omega
              have hq2b : IntKind.i64.wrap ((2 : Int) ^ i) = (q2 : Int) := (i64_w _).trans hq2a
              have hsv : wrap64 ((s : Int) - (q2 : Int)) = (u : Int) := by clear hpi hg2 hTu hOK hq2a hq2b; unfold wrap64; omega
              have hsu : IntKind.i64.wrap ((s : Int) - (q2 : Int)) = (u : Int) := (i64_w _).trans hsv
              have hum : (u : Int) < (m : Int) := by omega
              have hcu := cell_of_encL HC3.out (i := u) (by rw [HY.out.1.2.1]; omega)
              have hdu := cell_of_encL HD3.out (i := u) (by rw [HY.out.1.2.2]; omega)
              have hcs := cell_of_encL HC3.out (i := s) (by rw [HY.out.1.2.1]; exact hlt)
              have hds := cell_of_encL HD3.out (i := s) (by rw [HY.out.1.2.2]; exact hlt)
              have hfc := frozen_of_row wr b1 s _ 3 HC3.out
              have hfd := frozen_of_row wr b2 s _ 3 HD3.out
              rw [show C2.getD u 0 = (bT a0 l0 u).1 from hTu.1] at hcu
              rw [show D2.getD u 0 = (bT a0 l0 u).2 from hTu.2] at hdu
              have HCUR : Aside0 (bIn a0 l0 s i = (C2.getD s 0, D2.getD s 0)) := ⟨HY.out.2.2.2.symm⟩
              have HROWS : Aside0 (∀ (nq : Nat) (c x : Int), (((wr.drewN nq).setCell ⟨b1, s, none⟩ (.int .i64 c)).setCell ⟨b2, s, none⟩ (.int .i64 x)).heap[b1]? = some (.cells (enc (C2.set s c)) 3 (0, 0)) ∧
                  (((wr.drewN nq).setCell ⟨b1, s, none⟩ (.int .i64 c)).setCell ⟨b2, s, none⟩ (.int .i64 x)).heap[b2]? = some (.cells (enc (D2.set s x)) 3 (0, 0)) ∧ Below w.heap.size w (((wr.drewN nq).setCell ⟨b1, s, none⟩ (.int .i64 c)).setCell ⟨b2, s, none⟩ (.int .i64 x))) := ⟨fun nq c x => by
                refine ⟨(Below.heap_setCell _ ⟨b2, s, none⟩ _ _ HNE.out).trans ?_, ?_, ((pw_below_drewN HB3.out nq).setCell (p := ⟨b1, s, none⟩) HLE1.out _).setCell (p := ⟨b2, s, none⟩) HLE2.out _⟩
                · refine (heap_setCell_same _ b1 s (enc C2) 3 _ (show (wr.drewN nq).heap[b1]? = _ by simpa using HC3.out)).trans ?_
                  rw [enc_set]
                · refine (heap_setCell_same _ b2 s (enc D2) 3 _ ((Below.heap_setCell _ ⟨b1, s, none⟩ _ _ (Ne.symm HNE.out)).trans (show (wr.drewN nq).heap[b2]? = _ by simpa using HD3.out))).trans ?_
                  rw [enc_set]⟩
              have HROWN : Aside0 (∀ nq : Nat, (wr.drewN nq).heap[b1]? = some (.cells (enc C2) 3 (0, 0)) ∧ (wr.drewN nq).heap[b2]? = some (.cells (enc D2) 3 (0, 0)) ∧ Below w.heap.size w (wr.drewN nq)) := ⟨fun nq => ⟨by simpa using HC3.out, by simpa using HD3.out, pw_below_drewN HB3.out nq⟩⟩
              have HSTP0 : Aside0 (stp a0 (bT a0 l0 u) (rd l0 (i : Int)) = if (bT a0 l0 u).2 + rd l0 (i : Int) > a0 then ((bT a0 l0 u).1 + 1, rd l0 (i : Int)) else ((bT a0 l0 u).1, (bT a0 l0 u).2 + rd l0 (i : Int))) := ⟨rfl⟩
              unfold OkB at hOK
              clear hTu hu hpi hg2 h2
              have tm := TM.out
              generalize hTT : bT a0 l0 u = TT at hOK hcu hdu HBS HSTP0
              obtain ⟨cu, yu⟩ := TT
              dsimp only at hOK hcu hdu HSTP0
              generalize C2.getD s 0 = cs at hcs HCUR
              generalize D2.getD s 0 = ds at hds HCUR
              generalize hqv : rd l0 (i : Int) = q at g0 hq HBS HSTP0
              clear hTT hqv
              obtain ⟨x, hx⟩ : ∃ x, yu + q = x := ⟨_, rfl⟩
              have hxa : IntKind.i64.wrap (yu + q) = x := (IntWalk.i64_in _ ⟨by omega, by omega⟩).trans hx
              have hxb : wrap64 (yu + q) = x := (i64_w _).symm.trans hxa
              by_cases hov : x > a0
              · have d0 : decide (a0 < x) = true := decide_eq_true hov
                obtain ⟨c1, hc1⟩ : ∃ c1, cu + 1 = c1 := ⟨_, rfl⟩
                have hca : IntKind.i64.wrap (cu + 1) = c1 := (IntWalk.i64_in _ ⟨by omega, by omega⟩).trans hc1
                have hcb : wrap64 (cu + 1) = c1 := (i64_w _).symm.trans hca
                have HSTP : Aside0 (stp a0 (cu, yu) q = (c1, q)) := ⟨by rw [HSTP0.out, hx, if_pos hov, hc1]⟩
                clear hov hx hc1
                gi_wp2
                gi_big_quiet_th_o (fail)
                have hne1 := HNE.out
                have hne2 := Ne.symm HNE.out
                have hfd2 : ∀ v : Value, ((wr.drewN nq).setCell ⟨b1, s, none⟩ v).frozen? ⟨b2, s, none⟩ = false := fun v => frozen_of_row _ b2 s _ 3 ((Below.heap_setCell _ ⟨b1, s, none⟩ _ _ hne2).trans (HROWN.out nq).2.1)
                have hds2 : ∀ v : Value, ((wr.drewN nq).setCell ⟨b1, s, none⟩ v).cell? ⟨b2, s, none⟩ = some (.int .i64 (D2.getD s 0)) := fun v => cell_of_encL ((Below.heap_setCell _ ⟨b1, s, none⟩ _ _ hne2).trans (HROWN.out nq).2.1) (by rw [HY.out.1.2.2]; exact hlt)
                by_cases h1 : c1 < cs
                · have d1 : decide (c1 < cs) = true := decide_eq_true h1
                  have HBT : Aside0 (Bet (c1, q) (cs, ds)) := ⟨.inl h1⟩
                  clear h1
                  gi_wp2
                  go_roundw
                  case rel =>
                    refine ⟨i + 1, C2.set s c1, D2.set s q, by push_cast; rfl, ⟨⟨by omega, by simp [HY.out.1.2.1], by simp [HY.out.1.2.2]⟩, fun j hj => ?_, fun j hj => ?_, ?_⟩, ⟨(HROWS.out nq c1 q).1⟩, ⟨(HROWS.out nq c1 q).2.1⟩, ⟨(HROWS.out nq c1 q).2.2⟩⟩
                    · rw [rd_setE _ _ _ _ (by rw [HY.out.1.2.1]; exact hlt), rd_setE _ _ _ _ (by rw [HY.out.1.2.2]; exact hlt), if_neg (by omega), if_neg (by omega)]; exact HY.out.2.1 j hj
                    · rw [rd_setE _ _ _ _ (by rw [HY.out.1.2.1]; exact hlt), rd_setE _ _ _ _ (by rw [HY.out.1.2.2]; exact hlt), if_neg (by omega), if_neg (by omega)]; exact HY.out.2.2.1 j hj
                    · rw [rd_setE _ _ _ _ (by rw [HY.out.1.2.1]; exact hlt), rd_setE _ _ _ _ (by rw [HY.out.1.2.2]; exact hlt), if_pos rfl, if_pos rfl, HBS.out, if_pos HBIT.out, HSTP.out, HCUR.out, if_pos HBT.out]
                  case measure => simp [intOf]; omega
                · have d1 : decide (c1 < cs) = false := decide_eq_false h1
                  by_cases h2 : c1 = cs
                  · have d2 : (c1 == cs) = true := beq_iff_eq.mpr h2
                    by_cases h3 : q < ds
                    · have d3 : decide (q < ds) = true := decide_eq_true h3
                      have HBT : Aside0 (Bet (c1, q) (cs, ds)) := ⟨.inr ⟨h2, h3⟩⟩
                      clear h1 h2 h3
                      gi_wp2
                      go_roundw
                      case rel =>
                        refine ⟨i + 1, C2.set s c1, D2.set s q, by push_cast; rfl, ⟨⟨by omega, by simp [HY.out.1.2.1], by simp [HY.out.1.2.2]⟩, fun j hj => ?_, fun j hj => ?_, ?_⟩, ⟨(HROWS.out nq c1 q).1⟩, ⟨(HROWS.out nq c1 q).2.1⟩, ⟨(HROWS.out nq c1 q).2.2⟩⟩
                        · rw [rd_setE _ _ _ _ (by rw [HY.out.1.2.1]; exact hlt), rd_setE _ _ _ _ (by rw [HY.out.1.2.2]; exact hlt), if_neg (by omega), if_neg (by omega)]; exact HY.out.2.1 j hj
                        · rw [rd_setE _ _ _ _ (by rw [HY.out.1.2.1]; exact hlt), rd_setE _ _ _ _ (by rw [HY.out.1.2.2]; exact hlt), if_neg (by omega), if_neg (by omega)]; exact HY.out.2.2.1 j hj
                        · rw [rd_setE _ _ _ _ (by rw [HY.out.1.2.1]; exact hlt), rd_setE _ _ _ _ (by rw [HY.out.1.2.2]; exact hlt), if_pos rfl, if_pos rfl, HBS.out, if_pos HBIT.out, HSTP.out, HCUR.out, if_pos HBT.out]
                      case measure => simp [intOf]; omega
                    · have d3 : decide (q < ds) = false := decide_eq_false h3
                      have HBT : Aside0 (¬ Bet (c1, q) (cs, ds)) := ⟨fun k => k.elim h1 (fun k => h3 k.2)⟩
                      clear h1 h2 h3
                      gi_wp2
                      go_roundw
                      case rel =>
                        refine ⟨i + 1, C2, D2, by push_cast; rfl, ⟨⟨by omega, HY.out.1.2.1, HY.out.1.2.2⟩, HY.out.2.1, HY.out.2.2.1, ?_⟩, ⟨(HROWN.out nq).1⟩, ⟨(HROWN.out nq).2.1⟩, ⟨(HROWN.out nq).2.2⟩⟩
                        rw [HBS.out, if_pos HBIT.out, HSTP.out, HCUR.out, if_neg HBT.out, ← HCUR.out]
                        exact HY.out.2.2.2
                      case measure => simp [intOf]; omega
                  · have d2 : (c1 == cs) = false := beq_eq_false_iff_ne.mpr h2
                    have HBT : Aside0 (¬ Bet (c1, q) (cs, ds)) := ⟨fun k => k.elim h1 (fun k => h2 k.1)⟩
                    clear h1 h2
                    gi_wp2
                    go_roundw
                    case rel =>
                      refine ⟨i + 1, C2, D2, by push_cast; rfl, ⟨⟨by omega, HY.out.1.2.1, HY.out.1.2.2⟩, HY.out.2.1, HY.out.2.2.1, ?_⟩, ⟨(HROWN.out nq).1⟩, ⟨(HROWN.out nq).2.1⟩, ⟨(HROWN.out nq).2.2⟩⟩
                      rw [HBS.out, if_pos HBIT.out, HSTP.out, HCUR.out, if_neg HBT.out, ← HCUR.out]
                      exact HY.out.2.2.2
                    case measure => simp [intOf]; omega
              · have d0 : decide (a0 < x) = false := decide_eq_false hov
                have HSTP : Aside0 (stp a0 (cu, yu) q = (cu, x)) := ⟨by rw [HSTP0.out, hx, if_neg hov]⟩
                clear hov hx
                gi_wp2
                gi_big_quiet_th_o (fail)
                have hne1 := HNE.out
                have hne2 := Ne.symm HNE.out
                have hfd2 : ∀ v : Value, ((wr.drewN nq).setCell ⟨b1, s, none⟩ v).frozen? ⟨b2, s, none⟩ = false := fun v => frozen_of_row _ b2 s _ 3 ((Below.heap_setCell _ ⟨b1, s, none⟩ _ _ hne2).trans (HROWN.out nq).2.1)
                have hds2 : ∀ v : Value, ((wr.drewN nq).setCell ⟨b1, s, none⟩ v).cell? ⟨b2, s, none⟩ = some (.int .i64 (D2.getD s 0)) := fun v => cell_of_encL ((Below.heap_setCell _ ⟨b1, s, none⟩ _ _ hne2).trans (HROWN.out nq).2.1) (by rw [HY.out.1.2.2]; exact hlt)
                by_cases h1 : cu < cs
                · have d1 : decide (cu < cs) = true := decide_eq_true h1
                  have HBT : Aside0 (Bet (cu, x) (cs, ds)) := ⟨.inl h1⟩
                  clear h1
                  gi_wp2
                  go_roundw
                  case rel =>
                    refine ⟨i + 1, C2.set s cu, D2.set s x, by push_cast; rfl, ⟨⟨by omega, by simp [HY.out.1.2.1], by simp [HY.out.1.2.2]⟩, fun j hj => ?_, fun j hj => ?_, ?_⟩, ⟨(HROWS.out nq cu x).1⟩, ⟨(HROWS.out nq cu x).2.1⟩, ⟨(HROWS.out nq cu x).2.2⟩⟩
                    · rw [rd_setE _ _ _ _ (by rw [HY.out.1.2.1]; exact hlt), rd_setE _ _ _ _ (by rw [HY.out.1.2.2]; exact hlt), if_neg (by omega), if_neg (by omega)]; exact HY.out.2.1 j hj
                    · rw [rd_setE _ _ _ _ (by rw [HY.out.1.2.1]; exact hlt), rd_setE _ _ _ _ (by rw [HY.out.1.2.2]; exact hlt), if_neg (by omega), if_neg (by omega)]; exact HY.out.2.2.1 j hj
                    · rw [rd_setE _ _ _ _ (by rw [HY.out.1.2.1]; exact hlt), rd_setE _ _ _ _ (by rw [HY.out.1.2.2]; exact hlt), if_pos rfl, if_pos rfl, HBS.out, if_pos HBIT.out, HSTP.out, HCUR.out, if_pos HBT.out]
                  case measure => simp [intOf]; omega
                · have d1 : decide (cu < cs) = false := decide_eq_false h1
                  by_cases h2 : cu = cs
                  · have d2 : (cu == cs) = true := beq_iff_eq.mpr h2
                    by_cases h3 : x < ds
                    · have d3 : decide (x < ds) = true := decide_eq_true h3
                      have HBT : Aside0 (Bet (cu, x) (cs, ds)) := ⟨.inr ⟨h2, h3⟩⟩
                      clear h1 h2 h3
                      gi_wp2
                      go_roundw
                      case rel =>
                        refine ⟨i + 1, C2.set s cu, D2.set s x, by push_cast; rfl, ⟨⟨by omega, by simp [HY.out.1.2.1], by simp [HY.out.1.2.2]⟩, fun j hj => ?_, fun j hj => ?_, ?_⟩, ⟨(HROWS.out nq cu x).1⟩, ⟨(HROWS.out nq cu x).2.1⟩, ⟨(HROWS.out nq cu x).2.2⟩⟩
                        · rw [rd_setE _ _ _ _ (by rw [HY.out.1.2.1]; exact hlt), rd_setE _ _ _ _ (by rw [HY.out.1.2.2]; exact hlt), if_neg (by omega), if_neg (by omega)]; exact HY.out.2.1 j hj
                        · rw [rd_setE _ _ _ _ (by rw [HY.out.1.2.1]; exact hlt), rd_setE _ _ _ _ (by rw [HY.out.1.2.2]; exact hlt), if_neg (by omega), if_neg (by omega)]; exact HY.out.2.2.1 j hj
                        · rw [rd_setE _ _ _ _ (by rw [HY.out.1.2.1]; exact hlt), rd_setE _ _ _ _ (by rw [HY.out.1.2.2]; exact hlt), if_pos rfl, if_pos rfl, HBS.out, if_pos HBIT.out, HSTP.out, HCUR.out, if_pos HBT.out]
                      case measure => simp [intOf]; omega
                    · have d3 : decide (x < ds) = false := decide_eq_false h3
                      have HBT : Aside0 (¬ Bet (cu, x) (cs, ds)) := ⟨fun k => k.elim h1 (fun k => h3 k.2)⟩
                      clear h1 h2 h3
                      gi_wp2
                      go_roundw
                      case rel =>
                        refine ⟨i + 1, C2, D2, by push_cast; rfl, ⟨⟨by omega, HY.out.1.2.1, HY.out.1.2.2⟩, HY.out.2.1, HY.out.2.2.1, ?_⟩, ⟨(HROWN.out nq).1⟩, ⟨(HROWN.out nq).2.1⟩, ⟨(HROWN.out nq).2.2⟩⟩
                        rw [HBS.out, if_pos HBIT.out, HSTP.out, HCUR.out, if_neg HBT.out, ← HCUR.out]
                        exact HY.out.2.2.2
                      case measure => simp [intOf]; omega
                  · have d2 : (cu == cs) = false := beq_eq_false_iff_ne.mpr h2
                    have HBT : Aside0 (¬ Bet (cu, x) (cs, ds)) := ⟨fun k => k.elim h1 (fun k => h2 k.1)⟩
                    clear h1 h2
                    gi_wp2
                    go_roundw
                    case rel =>
                      refine ⟨i + 1, C2, D2, by push_cast; rfl, ⟨⟨by omega, HY.out.1.2.1, HY.out.1.2.2⟩, HY.out.2.1, HY.out.2.2.1, ?_⟩, ⟨(HROWN.out nq).1⟩, ⟨(HROWN.out nq).2.1⟩, ⟨(HROWN.out nq).2.2⟩⟩
                      rw [HBS.out, if_pos HBIT.out, HSTP.out, HCUR.out, if_neg HBT.out, ← HCUR.out]
                      exact HY.out.2.2.2
                    case measure => simp [intOf]; omega
            · replace tm : ((s : Int) / 2 ^ i).tmod 2 = 0 := by rw [tm]; omega
              have HBIT := Aside0.mk hbit
              clear hbit
              gi_wp2
              go_roundw
              case rel =>
                refine ⟨i + 1, C2, D2, by push_cast; rfl, ⟨⟨by omega, HY.out.1.2.1, HY.out.1.2.2⟩, HY.out.2.1, HY.out.2.2.1, ?_⟩, HC3, HD3, HB3⟩
                rw [HBS.out, if_neg HBIT.out]
                exact HY.out.2.2.2
              case measure => simp [intOf]; omega
          · have hilz : decide ((i : Int) < (l0.length : Int)) = false := decide_eq_false (by omega)
            gi_wp2
            go_roundw
            case rel =>
              have e : i = l0.length := by have := HY.out.1.1; omega
              refine ⟨s + 1, C2, D2, by push_cast; rfl, ⟨⟨by omega, by omega, HY.out.1.2.1, HY.out.1.2.2⟩, fun j hj => ?_, fun j hj => HY.out.2.2.1 j (by omega)⟩, HC3, HD3, HB3⟩
              by_cases ej : j = s
              · have h := HY.out.2.2.2
                rw [e, ← bT_rec a0 l0 (by omega)] at h
                rw [ej, ← h]
                exact ⟨rfl, rfl⟩
              · exact HY.out.2.1 j (by omega)
            case measure => simp [intOf]; omega
      · have hltz : decide ((s : Int) < (m : Int)) = false := decide_eq_false (by omega)
        have es : s = m := by have := HX.out.1.2.1; omega
        have hxm := cell_of_encL HC.out (i := m - 1) (by rw [HX.out.1.2.2.1]; omega)
        have hwv : C.getD (m - 1) 0 = (bT a0 l0 (m - 1)).1 := (HX.out.2.1 (m - 1) (by omega)).1
        have hOK := HT.out (m - 1)
        unfold OkB at hOK
        rw [hwv] at hxm
        have HBR : Aside0 (bestR a0 l0 = if l0.length = 0 then 0 else (bT a0 l0 (m - 1)).1 + 1) := ⟨by unfold bestR; rw [HM.out]⟩
        generalize (bT a0 l0 (m - 1)).1 = v at hxm hOK HBR
        obtain ⟨v1, hv1⟩ : ∃ v1, v + 1 = v1 := ⟨_, rfl⟩
        have hva : IntKind.i64.wrap (v + 1) = v1 := (IntWalk.i64_in _ ⟨by omega, by omega⟩).trans hv1
        have hvb : wrap64 (v + 1) = v1 := (i64_w _).symm.trans hva
        rw [hv1] at HBR
        clear es hv1 hwv
        by_cases hl0 : l0.length = 0
        · have hz : ((l0.length : Int) == 0) = true := beq_iff_eq.mpr (by omega)
          rw [if_pos hl0] at HBR
          clear hl0
          gi_wp2
          refine bodyPost_ret (results_tmp rfl _ _ _) rfl ?_
          rw [HBR.out]
          exact ⟨rfl, HB.out⟩
        · have hz : ((l0.length : Int) == 0) = false := beq_eq_false_iff_ne.mpr (by omega)
          rw [if_neg hl0] at HBR
          clear hl0
          gi_wp2
          refine bodyPost_ret (results_tmp rfl _ _ _) rfl ?_
          rw [HBR.out]
          exact ⟨rfl, HB.out⟩
end Go.Proofs.Ytoecbchfdgbliaa.Hand
