-- The reference's size (59), Ways (44).
import Derived.Test.YtoecbchfdgbliaaHandE
namespace Go.Proofs.Ytoecbchfdgbliaa.Hand
open Go.RowKit Go.Shelf Go.Proofs.Ytoecbchfdgbliaa.P Go.Proofs.YtoecbchfdgbliaaW.PrintWords Go.Proofs.YtoecbchfdgbliaaW.PrintLast Go.Proofs.YtoecbchfdgbliaaW.PrintMore
attribute [local go_sem] Oper.semAt_some
set_option linter.unusedVariables false
set_option linter.unusedSimpArgs false

theorem pie_all {a0 : Int} {l0 : List Int} (hp : pieF a0 l0 = true) : ∀ x ∈ l0, 1 ≤ x ∧ x ≤ 100 := by
  intro x hx
  unfold pieF at hp
  simp only [Bool.and_eq_true, decide_eq_true_eq, List.all_eq_true] at hp
  have h1 := hp.2.2 x hx
  have h2 := hp.1
  unfold within at h1 h2
  split at h2
  · split at h1
    · simp only [decide_eq_true_eq] at h1 h2; omega
    · cases h1
  · cases h2

set_option maxHeartbeats 4000000 in
set_option maxRecDepth 100000 in
theorem size_calls (A0 : Option Addr) (c0 : Nat) (l0 : List Int) (hlen : l0.length ≤ 12) (hall : ∀ x ∈ l0, 1 ≤ x ∧ x ≤ 100) (s : Nat) (hs : s < 4096) (w : World) (hr0 : Kd.C (Kd.int .i64) w A0 l0.length l0) :
    Calls Try.prog 59 #[.slice A0 l0.length c0, .int .i64 (s : Int)] w fun e w' => e = .returned (.int .i64 (szN l0 s l0.length)) ∧ Below w.heap.size w w' := by
  have hmix : Try.prog.follows .mixedOrders = true := by kernel_rfl
  have HR := Aside0.mk hr0
  have HALL := Aside0.mk hall
  clear hr0 hall
  refine (callsIn_wide (n := 5)).1 ?_
  refine callsIn_of_wp Try.func59 rfl trivial ?_ rfl
  simp only [Try.ntmps59, List.size_toArray, List.length_cons, List.length_nil, Nat.reduceAdd, Nat.reduceSub, Array.replicate_succ, Array.replicate_zero, List.push_toArray, List.append_toArray, List.nil_append, List.cons_append]
  gi_wp2
  gi_loopw [5, 6] (fun u v wr => ∃ i : Nat, u = .int .i64 (szN l0 s i) ∧ v = .int .i64 (i : Int) ∧ Aside0 (i ≤ l0.length) ∧ Aside0 (Below w.heap.size w wr))
    (fun _ v _ => l0.length - (intOf v).toNat)
  case atStart => exact ⟨0, rfl, rfl, ⟨Nat.zero_le _⟩, ⟨Below.refl _ _⟩⟩
  case round =>
    obtain ⟨i, rfl, rfl, HI, HB⟩ := hrel
    by_cases hil : i < l0.length
    · have hilz : decide ((i : Int) < (l0.length : Int)) = true := decide_eq_true (by omega)
      obtain ⟨ad, e, g0⟩ := Kd.at_int (Kd.C_below HR.out HB.out) (i : Int) (by omega) (by omega)
      cases e
      rw [Int.toNat_natCast] at g0
      have hq := HALL.out _ (rd_memR (l := l0) (j := i) hil)
      have hyb := szN_bound HALL.out s i (by omega)
      have hst : szN l0 s (i + 1) = szN l0 s i + (if (s / 2 ^ i) % 2 = 1 then rd l0 (i : Int) else 0) := rfl
      have hi0 : (0 : Int) ≤ (i : Int) := Int.natCast_nonneg _
      have hi1 : (i : Int) < (l0.length : Int) := by omega
      have HST := Aside0.mk hst
      clear hst
      generalize szN l0 s i = y at hyb HST
      generalize rd l0 (i : Int) = q at g0 hq HST
      gi_wp2
      gi_big_quiet_th_o (fail)
      gi_wp2
      have tm : ((s : Int) / 2 ^ i).tmod 2 = (((s / 2 ^ i) % 2 : Nat) : Int) := by
        rw [show (s : Int) / 2 ^ i = ((s / 2 ^ i : Nat) : Int) by push_cast; rfl, Int.tmod_eq_emod_of_nonneg (Int.natCast_nonneg _)]; push_cast; rfl
      refine ⟨⟨i + 1, ?_, by push_cast; rfl, ⟨by omega⟩, ⟨pw_below_drewN HB.out nq⟩⟩, by simp [intOf]; omega⟩
      rw [HST.out, tm]
      congr 1
      by_cases hb : (s / 2 ^ i) % 2 = 1
      · rw [if_pos hb, hb]; unfold wrap64; omega
      · rw [if_neg hb, show (s / 2 ^ i) % 2 = 0 by omega]; unfold wrap64; omega
    · have hilz : decide ((i : Int) < (l0.length : Int)) = false := decide_eq_false (by omega)
      gi_wp2
      refine bodyPost_ret (results_tmp rfl _ _ _) rfl ?_
      rw [show i = l0.length by have := HI.out; omega]
      exact ⟨rfl, HB.out⟩

theorem bits_and64 (a b : Nat) (ha : a < 4096) (hb : b < 4096) : bits .and .i64 (a : Int) (b : Int) = ((a &&& b : Nat) : Int) := by
  have h : a &&& b ≤ a := Nat.and_le_left
  show IntKind.i64.wrap (((BitVec.ofInt 64 (a : Int) &&& BitVec.ofInt 64 (b : Int)).toNat : Nat) : Int) = _
  rw [BitVec.ofInt_natCast, BitVec.ofInt_natCast, BitVec.toNat_and, BitVec.toNat_ofNat, BitVec.toNat_ofNat, Nat.mod_eq_of_lt (a := a) (by omega), Nat.mod_eq_of_lt (a := b) (by omega)]
  exact IntWalk.i64_in _ ⟨by omega, by omega⟩
set_option maxRecDepth 100000 in
theorem low64_all : ∀ a : Fin 64, ∀ b : Fin 64, bits .andNot .i64 (((64 * a.val + b.val : Nat)) : Int) ((((64 * a.val + b.val : Nat)) : Int) - 1) = ((lowN (64 * a.val + b.val) : Nat) : Int) := by decide +kernel
theorem low64_of {s : Nat} (hs : s < 4096) : bits .andNot .i64 (s : Int) ((s : Int) - 1) = ((lowN s : Nat) : Int) := by
  have e : 64 * (s / 64) + s % 64 = s := by omega
  have h := low64_all ⟨s / 64, by omega⟩ ⟨s % 64, by omega⟩
  simp only [e] at h
  exact h

set_option maxHeartbeats 4000000 in
set_option maxRecDepth 100000 in
theorem refWays_calls (a0 : Int) (A0 : Option Addr) (c0 : Nat) (l0 : List Int) (hp : pieF a0 l0 = true) (w : World) (hr0 : Kd.C (Kd.int .i64) w A0 l0.length l0) :
    Calls Try.prog 44 #[.int .i64 a0, .slice A0 l0.length c0] w fun e w' => e = .returned (.int .i64 (waysF a0 l0).1) ∧ Below w.heap.size w w' := by
  have hmix : Try.prog.follows .mixedOrders = true := by kernel_rfl
  have HR := Aside0.mk hr0
  have HALL := Aside0.mk (pie_all hp)
  have hlen : l0.length ≤ 12 := by
    have h := hp
    unfold pieF at h
    simp only [Bool.and_eq_true, decide_eq_true_eq] at h
    omega
  have HP := Aside0.mk hp
  clear hr0 hp
  have hpw : 2 ^ l0.length ≤ 4096 := Nat.le_trans (Nat.pow_le_pow_right (by decide) hlen) (by decide)
  have hpos : 0 < 2 ^ l0.length := Nat.pow_pos (by decide)
  have hsh : wrap64 ((2 : Int) ^ l0.length) = ((2 ^ l0.length : Nat) : Int) := by
    rw [show (2 : Int) ^ l0.length = ((2 ^ l0.length : Nat) : Int) by push_cast; rfl]
    unfold wrap64; omega
  generalize hm : 2 ^ l0.length = m at hsh hpw hpos
  have HM := Aside0.mk hm
  clear hm
  have hmk := fun W => make_run m (by omega) W
  have hrow0 : (w.alloc (.cells (enc (List.replicate m 0)) 3)).heap[w.heap.size]? = some (.cells (enc (List.replicate m 0)) 3 (0, 0)) := heap_alloc_new w _
  have hx0 := cell_of_encL hrow0 (i := 0) (by simp; omega)
  have hfx := frozen_of_row _ w.heap.size 0 _ 3 hrow0
  have HROW0 := Aside0.mk hrow0
  clear hrow0
  refine (callsIn_wide (n := 5)).1 ?_
  refine callsIn_of_wp Try.func44 rfl trivial ?_ rfl
  simp only [Try.ntmps44, List.size_toArray, List.length_cons, List.length_nil, Nat.reduceAdd, Nat.reduceSub, Array.replicate_succ, Array.replicate_zero, List.push_toArray, List.append_toArray, List.nil_append, List.cons_append]
  gi_wp2
  rw [show (enc (List.replicate m 0)).setIfInBounds 0 (.int .i64 1) = enc ((List.replicate m 0).set 0 1) from enc_set _ _ _]
  have HROW1 := Aside0.mk (heap_alloc_new w (.cells (enc ((List.replicate m 0).set 0 1)) 3))
  have HB1 := Aside0.mk ((Below.refl _ w).alloc (Nat.le_refl _) (.cells (enc ((List.replicate m 0).set 0 1)) 3))
  have HX1 : Aside0 (∀ j : Nat, rd ((List.replicate m (0 : Int)).set 0 1) (j : Int) = if j = 0 then 1 else 0) := ⟨fun j => by
    rw [rd_setE _ _ _ _ (by simp; omega)]
    congr 1
    unfold rd; rw [Int.toNat_natCast, List.getD_eq_getElem?_getD, List.getElem?_replicate]; split <;> rfl⟩
  simp only [hsh]
  clear hx0 hfx hmk
  generalize w.alloc (.cells (enc ((List.replicate m 0).set 0 1)) 3) = wi at *
  gi_loopw [6] (fun u wr => ∃ (s : Nat) (X : List Int), u = .int .i64 (s : Int) ∧ Aside0 (1 ≤ s ∧ s ≤ m ∧ X.length = m ∧ (∀ j : Nat, j < s → rd X (j : Int) = wayN (fitN a0 l0) j) ∧ ∀ j : Nat, s ≤ j → rd X (j : Int) = 0) ∧ Aside0 (wr.heap[w.heap.size]? = some (.cells (enc X) 3 (0, 0))) ∧ Aside0 (Below w.heap.size w wr))
    (fun u _ => m - (intOf u).toNat)
  case atStart => exact ⟨1, _, rfl, ⟨Nat.le_refl _, by omega, by simp, fun j hj => by rw [HX1.out, if_pos (by omega), show j = 0 by omega]; rfl, fun j hj => by rw [HX1.out, if_neg (by omega)]⟩, HROW1, HB1⟩
  case round =>
    obtain ⟨s, X, rfl, HX, HROW, HB⟩ := hrel
    by_cases hlt : s < m
    · have hltz : decide ((s : Int) < (m : Int)) = true := decide_eq_true (by omega)
      have hs1 : 1 ≤ s := HX.out.1
      have hlow := low64_of (s := s) (by omega)
      have hla := low_add s
      have hlp : 0 < lowN s := (low_of (s := s) (by omega)).2.2.2 (by omega)
      have HREC := Aside0.mk (wayN_rec (fitN a0 l0) (s := s) (by omega))
      generalize hlo : lowN s = low at *
      generalize hre : restN s = rest at *
      have hsr : (s : Int) - (low : Int) = (rest : Int) := by omega
      gi_wp2
      simp only [hsh]
      gi_loopw [9] (fun u wr => ∃ (t : Nat) (Y : List Int), u = .int .i64 (t : Int) ∧ Aside0 (t ≤ rest ∧ t &&& rest = t ∧ Y.length = m ∧ (∀ j : Nat, j < s → rd Y (j : Int) = wayN (fitN a0 l0) j) ∧ (∀ j : Nat, s < j → rd Y (j : Int) = 0) ∧ wloop (fitN a0 l0) (wayN (fitN a0 l0)) low rest (t + 1) t (rd Y (s : Int)) = wayN (fitN a0 l0) s) ∧
          Aside0 (wr.heap[w.heap.size]? = some (.cells (enc Y) 3 (0, 0))) ∧ Aside0 (Below w.heap.size w wr))
        (fun u _ => (intOf u).toNat)
      case atStart => exact ⟨rest, X, rfl, ⟨Nat.le_refl _, Nat.and_self _, HX.out.2.2.1, HX.out.2.2.2.1, fun j hj => HX.out.2.2.2.2 j (by omega), by rw [HX.out.2.2.2.2 s (Nat.le_refl _)]; exact HREC.out.symm⟩, HROW, HB⟩
      case round =>
        obtain ⟨t, Y, rfl, HY, HROWY, HBY⟩ := hrel
        have ht := HY.out.1
        have hcall := size_calls A0 c0 l0 hlen HALL.out (t + low) (by omega) wr (Kd.C_below HR.out HBY.out)
        have HC := Aside0.mk ((callsIn_wide (n := 5 - 1)).2 hcall)
        clear hcall
        have e0 : wloop (fitN a0 l0) (wayN (fitN a0 l0)) low rest (t + 1) t (rd Y (s : Int)) = if t = 0 then (if fitN a0 l0 (t + low) = true then wrap64 (rd Y (s : Int) + wayN (fitN a0 l0) (rest - t)) else rd Y (s : Int)) else wloop (fitN a0 l0) (wayN (fitN a0 l0)) low rest t ((t - 1) &&& rest) (if fitN a0 l0 (t + low) = true then wrap64 (rd Y (s : Int) + wayN (fitN a0 l0) (rest - t)) else rd Y (s : Int)) := by rw [wloop]
        have HT3 := Aside0.mk (e0.symm.trans HY.out.2.2.2.2.2)
        clear e0
        gi_wp2
        rw [show (t : Int) + (low : Int) = ((t + low : Nat) : Int) by push_cast; rfl]
        refine ⟨trivial, HC.out.mono ?_⟩
        rintro e w5 ⟨rfl, hb5⟩
        have hlw : w.heap.size < wr.heap.size := (Array.getElem?_eq_some_iff.1 HROWY.out).1
        have hrow5 := (hb5.block _ hlw).trans HROWY.out
        have HB5 := Aside0.mk (below_step HBY.out hb5)
        have HROW5 := Aside0.mk hrow5
        have HSTO : Aside0 (∀ v : Int, ((World.drew w5).setCell ⟨w.heap.size, s, none⟩ (.int .i64 v)).heap[w.heap.size]? = some (.cells (enc (Y.set s v)) 3 (0, 0))) := ⟨fun v => by
          refine (heap_setCell_same _ w.heap.size s (enc Y) 3 _ (show (World.drew w5).heap[w.heap.size]? = _ from hrow5)).trans ?_
          rw [enc_set]⟩
        have HSTB : Aside0 (∀ v : Int, Below w.heap.size w ((World.drew w5).setCell ⟨w.heap.size, s, none⟩ (.int .i64 v))) := ⟨fun v => (below_drew HB5.out).setCell (p := ⟨w.heap.size, s, none⟩) (Nat.le_refl _) _⟩
        have hxs := cell_of_encL hrow5 (i := s) (by rw [HY.out.2.2.1]; exact hlt)
        have hxr := cell_of_encL hrow5 (i := rest - t) (by rw [HY.out.2.2.1]; omega)
        have hfx := frozen_of_row w5 w.heap.size s _ 3 hrow5
        have hwv : Y.getD (rest - t) 0 = wayN (fitN a0 l0) (rest - t) := HY.out.2.2.2.1 (rest - t) (by omega)
        rw [hwv] at hxr
        have hyv : rd Y (s : Int) = Y.getD s 0 := rfl
        have HYV := Aside0.mk hyv
        rw [hyv] at HT3
        clear hwv hyv hrow5 hb5
        generalize hWt : wayN (fitN a0 l0) (rest - t) = Wt at hxr HT3
        generalize hyw : Y.getD s 0 = y at hxs HYV HT3
        clear hWt hyw
        have hft : decide (szN l0 (t + low) l0.length ≤ a0) = fitN a0 l0 (t + low) := rfl
        generalize szN l0 (t + low) l0.length = zz at hft
        have hj0 : (0 : Int) ≤ (rest : Int) - (t : Int) := by omega
        have hj1 : (rest : Int) - (t : Int) < (m : Int) := by omega
        have hnx : (t - 1) &&& rest ≤ t - 1 := Nat.and_le_left
        have hnr : ((t - 1) &&& rest) &&& rest = (t - 1) &&& rest := by rw [Nat.and_assoc, Nat.and_self]
        have HQN := Aside0.mk hnx
        have HQR := Aside0.mk hnr
        clear hnx hnr
        by_cases ht0 : t = 0
        · have hz : ((t : Int) == 0) = true := beq_iff_eq.mpr (by omega)
          have HT0 := Aside0.mk ht0
          rw [if_pos ht0] at HT3
          clear ht0
          cases hf : fitN a0 l0 (t + low) with
          | true =>
            rw [hf] at hft
            rw [hf, if_pos rfl] at HT3
            obtain ⟨rt, hrt⟩ : ∃ rt : Nat, rest - t = rt := ⟨_, rfl⟩
            have hsw : IntKind.i64.wrap ((rest : Int) - (t : Int)) = (rt : Int) := (IntWalk.i64_in _ ⟨by omega, by omega⟩).trans (by omega)
            have hyw2 : IntKind.i64.wrap (y + Wt) = wrap64 (y + Wt) := i64_w _
            have hrl : (rt : Int) < (m : Int) := by omega
            rw [hrt] at hxr
            clear hrt hj0 hj1
            gi_wp2
            gi_region_with_o (fail)
            all_goals
              simp only [Exit.then]
              go_at_K
              gi_wp2
              go_roundw
              case rel =>
                refine ⟨s + 1, Y.set s (wrap64 (y + Wt)), by push_cast; rfl, ⟨by omega, by omega, by simp [HY.out.2.2.1], fun j hj => ?_, fun j hj => ?_⟩, ⟨?_⟩, ⟨?_⟩⟩
                · rw [rd_setE _ _ _ _ (by rw [HY.out.2.2.1]; exact hlt)]
                  by_cases e : j = s
                  · rw [if_pos e, e]; exact HT3.out
                  · rw [if_neg e]; exact HY.out.2.2.2.1 j (by omega)
                · rw [rd_setE _ _ _ _ (by rw [HY.out.2.2.1]; exact hlt), if_neg (by omega)]; exact HY.out.2.2.2.2.1 j (by omega)
                · exact HSTO.out _
                · exact HSTB.out _
              case measure =>
                simp [intOf]; omega
          | false =>
            rw [hf] at hft
            rw [hf, if_neg (by decide)] at HT3
            gi_wp2
            go_roundw
            case rel =>
              refine ⟨s + 1, Y, by push_cast; rfl, ⟨by omega, by omega, HY.out.2.2.1, fun j hj => ?_, fun j hj => HY.out.2.2.2.2.1 j (by omega)⟩, HROW5, HB5⟩
              by_cases e : j = s
              · rw [e, HYV.out]; exact HT3.out
              · exact HY.out.2.2.2.1 j (by omega)
            case measure =>
              simp [intOf]; omega
        · have hz : ((t : Int) == 0) = false := beq_eq_false_iff_ne.mpr (by omega)
          have hm1 : bits .and .i64 ((t : Int) - 1) (rest : Int) = (((t - 1) &&& rest : Nat) : Int) := by
            rw [show (t : Int) - 1 = ((t - 1 : Nat) : Int) by omega]
            exact bits_and64 (t - 1) rest (by omega) (by omega)
          have HT0 := Aside0.mk ht0
          rw [if_neg ht0] at HT3
          clear ht0
          cases hf : fitN a0 l0 (t + low) with
          | true =>
            rw [hf] at hft
            rw [hf, if_pos rfl] at HT3
            obtain ⟨rt, hrt⟩ : ∃ rt : Nat, rest - t = rt := ⟨_, rfl⟩
            have hsw : IntKind.i64.wrap ((rest : Int) - (t : Int)) = (rt : Int) := (IntWalk.i64_in _ ⟨by omega, by omega⟩).trans (by omega)
            have hyw2 : IntKind.i64.wrap (y + Wt) = wrap64 (y + Wt) := i64_w _
            have hrl : (rt : Int) < (m : Int) := by omega
            rw [hrt] at hxr
            clear hrt hj0 hj1
            gi_wp2
            gi_region_with_o (fail)
            all_goals
              simp only [Exit.then]
              go_at_K
              gi_wp2
              go_roundw
              case rel =>
                refine ⟨(t - 1) &&& rest, Y.set s (wrap64 (y + Wt)), rfl, ⟨by have := HQN.out; have := HY.out.1; omega, HQR.out, by simp [HY.out.2.2.1], fun j hj => ?_, fun j hj => ?_, ?_⟩, ⟨HSTO.out _⟩, ⟨HSTB.out _⟩⟩
                · rw [rd_setE _ _ _ _ (by rw [HY.out.2.2.1]; exact hlt), if_neg (by omega)]; exact HY.out.2.2.2.1 j hj
                · rw [rd_setE _ _ _ _ (by rw [HY.out.2.2.1]; exact hlt), if_neg (by omega)]; exact HY.out.2.2.2.2.1 j hj
                · rw [rd_setE _ _ _ _ (by rw [HY.out.2.2.1]; exact hlt), if_pos rfl]
                  exact (wloop_fuel (fitN a0 l0) (wayN (fitN a0 l0)) low rest _ t _ _ (Nat.lt_succ_self _) (by have := HQN.out; have := HT0.out; omega)).trans HT3.out
              case measure =>
                have := HQN.out; have := HT0.out; simp [intOf]; omega
          | false =>
            rw [hf] at hft
            rw [hf, if_neg (by decide)] at HT3
            gi_wp2
            go_roundw
            case rel =>
              refine ⟨(t - 1) &&& rest, Y, rfl, ⟨by have := HQN.out; have := HY.out.1; omega, HQR.out, HY.out.2.2.1, HY.out.2.2.2.1, HY.out.2.2.2.2.1, ?_⟩, HROW5, HB5⟩
              · rw [HYV.out]
                exact (wloop_fuel (fitN a0 l0) (wayN (fitN a0 l0)) low rest _ t _ _ (Nat.lt_succ_self _) (by have := HQN.out; have := HT0.out; omega)).trans HT3.out
            case measure =>
              have := HQN.out; have := HT0.out; simp [intOf]; omega
    · have hltz : decide ((s : Int) < (m : Int)) = false := decide_eq_false (by omega)
      have hxm := cell_of_encL HROW.out (i := m - 1) (by rw [HX.out.2.2.1]; omega)
      have hwv : X.getD (m - 1) 0 = wayN (fitN a0 l0) (m - 1) := HX.out.2.2.2.1 (m - 1) (by have := HX.out.2.1; omega)
      rw [hwv] at hxm
      gi_wp2
      refine bodyPost_ret (results_tmp rfl _ _ _) rfl ?_
      have e1 : (waysF a0 l0).1 = wayN (fitN a0 l0) (m - 1) := by unfold waysF; rw [if_pos HP.out, HM.out]
      rw [e1]
      exact ⟨rfl, HB.out⟩

end Go.Proofs.Ytoecbchfdgbliaa.Hand
