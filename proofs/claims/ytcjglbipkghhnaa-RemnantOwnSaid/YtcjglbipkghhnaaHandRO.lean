-- RemnantOwn (15).
import Derived.Test.YtcjglbipkghhnaaBx4
import Derived.Test.YtcjglbipkghhnaaHandOI
namespace Go.Proofs.Ytcjglbipkghhnaa.B
open Go.RowKit Go.Shelf Go.Proofs.YtcjglbipkghhnaaW.PrintWords Go.Proofs.YtcjglbipkghhnaaW.PrintLast Go.Proofs.YtcjglbipkghhnaaW.PrintMore
attribute [local go_sem] max2_int min2_int max_two min_two max_three min_three max_four min_four
set_option linter.unusedVariables false
set_option linter.unusedSimpArgs false

def galloonlaw09_RemnantOwn.Ok (k : Nat) (a0 : Int) (l1 : List Int) : Prop := ∃ (room : Int) (l lc a b c d p x v : List Int) (nb nd n1 n2 n3 n4 : Int), galloonlaw09_tame.f k a0 l1 12 = some (room, l) ∧ galloonlaw09_list.f l = some lc ∧ remnant_First.f k room l = some (a, 0) ∧ remnant_Best.f k room l = some (b, nb, 0) ∧
  remnant_Falling.f room l = some (c, 0) ∧ remnant_Split.f l = some (d, nd, 0) ∧ galloonlaw09_list.f a = some p ∧ remnant_Loads.f room l a = some (x, 0) ∧ remnant_Check.f room l a = some (n1, n2) ∧ remnant_IsFilling.f room l a = some (n3, n4) ∧ galloonlaw09_ints.f k l lc = some true ∧ galloonlaw09_ints.f k a p = some true ∧
  galloonref09_Falling.f k room lc = some v ∧ galloonlaw09_ints.f k c v = some true ∧ galloonlaw09_awake.f k = some true ∧ a.length ≤ 1000 ∧ b.length ≤ 1000 ∧ c.length ≤ 1000 ∧ d.length ≤ 1000 ∧ x.length ≤ 1000

set_option maxHeartbeats 8000000 in
set_option maxRecDepth 100000 in
theorem galloonlaw09_RemnantOwn.calls (k : Nat) (a0 : Int) (A1 : Option Addr) (c1 : Nat) (l1 : List Int) (w : World) (hr1 : Kd.C (Kd.int .i64) w A1 l1.length l1) (hc1 : l1.length ≤ c1) (h : galloonlaw09_RemnantOwn.Ok k a0 l1) :
    Calls Try.prog 15 #[.int .i64 a0, .slice A1 l1.length c1] w fun e w' => e = .returned (.bool true) ∧ Below w.heap.size w w' := by
  have hmix : Try.prog.follows .mixedOrders = true := by kernel_rfl
  obtain ⟨room, l, lc, a, b, c, d, p, x, v, nb, nd, n1, n2, n3, n4, hTa, hD1, hFi, hBe, hFa, hSp, hD2, hLo, hCk, hIF, hI1, hI2, hRF, hI3, hAw, ha1, hb1, hc1', hd1, hx1⟩ := h
  have HR1 := Aside0.mk hr1
  have HC1 := Aside0.mk hc1
  have HTa := Aside0.mk hTa
  have HD1 := Aside0.mk hD1
  have HFi := Aside0.mk hFi
  have HBe := Aside0.mk hBe
  have HFa := Aside0.mk hFa
  have HSp := Aside0.mk hSp
  have HD2 := Aside0.mk hD2
  have HLo := Aside0.mk hLo
  have HCk := Aside0.mk hCk
  have HIF := Aside0.mk hIF
  have HI1 := Aside0.mk hI1
  have HI2 := Aside0.mk hI2
  have HRF := Aside0.mk hRF
  have HI3 := Aside0.mk hI3
  have HAw := Aside0.mk hAw
  have HN : Aside0 (∀ r ∈ [a, b, c, d, x], r.length ≤ 1000) := ⟨by
    intro r hr
    simp only [List.mem_cons, List.not_mem_nil, or_false] at hr
    rcases hr with rfl | rfl | rfl | rfl | rfl <;> assumption⟩
  have HB := Aside0.mk (Below.refl w.heap.size w)
  clear hr1 hc1 ha1 hb1 hc1' hd1 hx1 hTa hD1 hFi hBe hFa hSp hD2 hLo hCk hIF hI1 hI2 hRF hI3 hAw
  go_enter Try.func15, Try.ntmps15
  go_wp2_with (first | ((with_reducible refine gate_callee (f := 28) rfl ?_); refine goesL_ (some 30) rfl rfl Try.func28 (by kernel_rfl) rfl #[.int .i64 a0, .slice A1 l1.length c1, .int .i64 12] rfl (by (try simp only [List.map_toArray, List.map_cons, List.map_nil]); first | done | rfl | (simp only [List.length_drop, List.length_take]; rfl)) ?_; (with_reducible refine (galloonlaw09_tame.calls k a0 _ _ l1 12 room l _ ?side1 ?side2 HTa.out).mono ?_); (case side1 => exact HR1.out); (case side2 => exact HC1.out); rintro e w1 ⟨v_, rfl, ho, hb⟩; refine ⟨_, rfl, ?_⟩; obtain ⟨AL, cL, rfl⟩ := Kd.R_slice ho; have HRL := Aside0.mk (Kd.R_mono (ok' := fun k => w.heap.size ≤ k ∧ k < w1.heap.size) (Kd.R_bound ho) (fun k hk => ⟨hk.2.1, hk.2.2.1⟩)); clear ho; have HW1 := Aside0.mk hb.size; have n_ := Aside0.mk (below_step (by repeat (first | (with_reducible first | exact HB.out | apply below_alloc | apply pw_below_drewN | apply below_drew1) | exact HB.out)) hb); clear HB; have HB := n_; clear n_ hb) | ((with_reducible refine gate_callee (f := 16) rfl ?_); refine goesL_ (some 34) rfl rfl Try.func16 (by kernel_rfl) rfl #[.slice AL l.length cL] rfl (by (try simp only [List.map_toArray, List.map_cons, List.map_nil]); first | done | rfl | (simp only [List.length_drop, List.length_take]; rfl)) ?_; (with_reducible refine (galloonlaw09_list.calls _ _ l lc _ ?side1 ?side2 HD1.out).mono ?_); (case side1 => exact (by repeat (first | exact (Kd.R_reads' HRL.out).2.2 | (with_reducible refine Kd.C_alloc ?_ _) | (with_reducible refine Kd.C_drewN ?_ _) | (with_reducible refine Kd.C_drew ?_)))); (case side2 => exact (Kd.R_reads' HRL.out).2.1); rintro e w2 ⟨v_, rfl, ho, hb⟩; refine ⟨_, rfl, ?_⟩; obtain ⟨AC, cC, rfl⟩ := Kd.R_slice ho; have HRC := Aside0.mk (Kd.R_mono (ok' := fun k => w1.heap.size ≤ k ∧ k < w2.heap.size) (Kd.R_bound ho) (fun k hk => ⟨hk.2.1, hk.2.2.1⟩)); clear ho; have n_ := Aside0.mk (Kd.R_step HRL.out (fun k _ hk => hb.block k hk)); clear HRL; have HRL := n_; clear n_; have HW2 := Aside0.mk hb.size; have n_ := Aside0.mk (below_step (by repeat (first | (with_reducible first | exact HB.out | apply below_alloc | apply pw_below_drewN | apply below_drew1) | exact HB.out)) hb); clear HB; have HB := n_; clear n_ hb) | ((with_reducible refine gate_callee (f := 46) rfl ?_); refine goesL_ (some 38) rfl rfl Try.func46 (by kernel_rfl) rfl #[.int .i64 room, .slice AL l.length cL] rfl (by (try simp only [List.map_toArray, List.map_cons, List.map_nil]); first | done | rfl | (simp only [List.length_drop, List.length_take]; rfl)) ?_; (with_reducible refine (remnant_First.calls k room _ _ l a 0 _ ?side1 ?side2 HFi.out).mono ?_); (case side1 => exact (by repeat (first | exact (Kd.R_reads' HRL.out).2.2 | (with_reducible refine Kd.C_alloc ?_ _) | (with_reducible refine Kd.C_drewN ?_ _) | (with_reducible refine Kd.C_drew ?_)))); (case side2 => exact (Kd.R_reads' HRL.out).2.1); rintro e w3 ⟨v_, rfl, ho, hb⟩; refine ⟨_, rfl, ?_⟩; obtain ⟨Aa, ca, rfl⟩ := Kd.R_slice ho; have HRa := Aside0.mk (Kd.R_mono (ok' := fun k => w2.heap.size ≤ k ∧ k < w3.heap.size) (Kd.R_bound ho) (fun k hk => ⟨hk.2.1, hk.2.2.1⟩)); clear ho; have n_ := Aside0.mk (Kd.R_step HRL.out (fun k _ hk => hb.block k hk)); clear HRL; have HRL := n_; clear n_; have n_ := Aside0.mk (Kd.R_step HRC.out (fun k _ hk => hb.block k hk)); clear HRC; have HRC := n_; clear n_; have HW3 := Aside0.mk hb.size; have n_ := Aside0.mk (below_step (by repeat (first | (with_reducible first | exact HB.out | apply below_alloc | apply pw_below_drewN | apply below_drew1) | exact HB.out)) hb); clear HB; have HB := n_; clear n_ hb) | ((with_reducible refine gate_callee (f := 38) rfl ?_); refine goesL_ (some 44) rfl rfl Try.func38 (by kernel_rfl) rfl #[.int .i64 room, .slice AL l.length cL] rfl (by (try simp only [List.map_toArray, List.map_cons, List.map_nil]); first | done | rfl | (simp only [List.length_drop, List.length_take]; rfl)) ?_; (with_reducible refine (remnant_Best.calls k room _ _ l b nb 0 _ ?side1 ?side2 HBe.out).mono ?_); (case side1 => exact (by repeat (first | exact (Kd.R_reads' HRL.out).2.2 | (with_reducible refine Kd.C_alloc ?_ _) | (with_reducible refine Kd.C_drewN ?_ _) | (with_reducible refine Kd.C_drew ?_)))); (case side2 => exact (Kd.R_reads' HRL.out).2.1); rintro e w4 ⟨v_, rfl, ho, hb⟩; refine ⟨_, rfl, ?_⟩; obtain ⟨Ab, cb, rfl⟩ := Kd.R_slice ho; have HRb := Aside0.mk (Kd.R_mono (ok' := fun k => w3.heap.size ≤ k ∧ k < w4.heap.size) (Kd.R_bound ho) (fun k hk => ⟨hk.2.1, hk.2.2.1⟩)); clear ho; have n_ := Aside0.mk (Kd.R_step HRL.out (fun k _ hk => hb.block k hk)); clear HRL; have HRL := n_; clear n_; have n_ := Aside0.mk (Kd.R_step HRC.out (fun k _ hk => hb.block k hk)); clear HRC; have HRC := n_; clear n_; have n_ := Aside0.mk (Kd.R_step HRa.out (fun k _ hk => hb.block k hk)); clear HRa; have HRa := n_; clear n_; have HW4 := Aside0.mk hb.size; have n_ := Aside0.mk (below_step (by repeat (first | (with_reducible first | exact HB.out | apply below_alloc | apply pw_below_drewN | apply below_drew1) | exact HB.out)) hb); clear HB; have HB := n_; clear n_ hb) | ((with_reducible refine gate_callee (f := 48) rfl ?_); refine goesL_ (some 51) rfl rfl Try.func48 (by kernel_rfl) rfl #[.int .i64 room, .slice AL l.length cL] rfl (by (try simp only [List.map_toArray, List.map_cons, List.map_nil]); first | done | rfl | (simp only [List.length_drop, List.length_take]; rfl)) ?_; (with_reducible refine (remnant_Falling.calls room _ _ l c 0 _ ?side1 ?side2 HFa.out).mono ?_); (case side1 => exact (by repeat (first | exact (Kd.R_reads' HRL.out).2.2 | (with_reducible refine Kd.C_alloc ?_ _) | (with_reducible refine Kd.C_drewN ?_ _) | (with_reducible refine Kd.C_drew ?_)))); (case side2 => exact (Kd.R_reads' HRL.out).2.1); rintro e w5 ⟨v_, rfl, ho, hb⟩; refine ⟨_, rfl, ?_⟩; obtain ⟨Ac, cc, rfl⟩ := Kd.R_slice ho; have HRc := Aside0.mk (Kd.R_mono (ok' := fun k => w4.heap.size ≤ k ∧ k < w5.heap.size) (Kd.R_bound ho) (fun k hk => ⟨hk.2.1, hk.2.2.1⟩)); clear ho; have n_ := Aside0.mk (Kd.R_step HRL.out (fun k _ hk => hb.block k hk)); clear HRL; have HRL := n_; clear n_; have n_ := Aside0.mk (Kd.R_step HRC.out (fun k _ hk => hb.block k hk)); clear HRC; have HRC := n_; clear n_; have n_ := Aside0.mk (Kd.R_step HRa.out (fun k _ hk => hb.block k hk)); clear HRa; have HRa := n_; clear n_; have n_ := Aside0.mk (Kd.R_step HRb.out (fun k _ hk => hb.block k hk)); clear HRb; have HRb := n_; clear n_; have HW5 := Aside0.mk hb.size; have n_ := Aside0.mk (below_step (by repeat (first | (with_reducible first | exact HB.out | apply below_alloc | apply pw_below_drewN | apply below_drew1) | exact HB.out)) hb); clear HB; have HB := n_; clear n_ hb) | ((with_reducible refine gate_callee (f := 23) rfl ?_); refine goesL_ (some 56) rfl rfl Try.func23 (by kernel_rfl) rfl #[.slice AL l.length cL] rfl (by (try simp only [List.map_toArray, List.map_cons, List.map_nil]); first | done | rfl | (simp only [List.length_drop, List.length_take]; rfl)) ?_; (with_reducible refine (remnant_Split.calls _ _ l d nd 0 _ ?side1 ?side2 HSp.out).mono ?_); (case side1 => exact (by repeat (first | exact (Kd.R_reads' HRL.out).2.2 | (with_reducible refine Kd.C_alloc ?_ _) | (with_reducible refine Kd.C_drewN ?_ _) | (with_reducible refine Kd.C_drew ?_)))); (case side2 => exact (Kd.R_reads' HRL.out).2.1); rintro e w6 ⟨v_, rfl, ho, hb⟩; refine ⟨_, rfl, ?_⟩; obtain ⟨Ad, cd, rfl⟩ := Kd.R_slice ho; have HRd := Aside0.mk (Kd.R_mono (ok' := fun k => w5.heap.size ≤ k ∧ k < w6.heap.size) (Kd.R_bound ho) (fun k hk => ⟨hk.2.1, hk.2.2.1⟩)); clear ho; have n_ := Aside0.mk (Kd.R_step HRL.out (fun k _ hk => hb.block k hk)); clear HRL; have HRL := n_; clear n_; have n_ := Aside0.mk (Kd.R_step HRC.out (fun k _ hk => hb.block k hk)); clear HRC; have HRC := n_; clear n_; have n_ := Aside0.mk (Kd.R_step HRa.out (fun k _ hk => hb.block k hk)); clear HRa; have HRa := n_; clear n_; have n_ := Aside0.mk (Kd.R_step HRb.out (fun k _ hk => hb.block k hk)); clear HRb; have HRb := n_; clear n_; have n_ := Aside0.mk (Kd.R_step HRc.out (fun k _ hk => hb.block k hk)); clear HRc; have HRc := n_; clear n_; have HW6 := Aside0.mk hb.size; have n_ := Aside0.mk (below_step (by repeat (first | (with_reducible first | exact HB.out | apply below_alloc | apply pw_below_drewN | apply below_drew1) | exact HB.out)) hb); clear HB; have HB := n_; clear n_ hb) | ((with_reducible refine gate_callee (f := 16) rfl ?_); refine goesL_ (some 61) rfl rfl Try.func16 (by kernel_rfl) rfl #[.slice Aa a.length ca] rfl (by (try simp only [List.map_toArray, List.map_cons, List.map_nil]); first | done | rfl | (simp only [List.length_drop, List.length_take]; rfl)) ?_; (with_reducible refine (galloonlaw09_list.calls _ _ a p _ ?side1 ?side2 HD2.out).mono ?_); (case side1 => exact (by repeat (first | exact (Kd.R_reads' HRa.out).2.2 | (with_reducible refine Kd.C_alloc ?_ _) | (with_reducible refine Kd.C_drewN ?_ _) | (with_reducible refine Kd.C_drew ?_)))); (case side2 => exact (Kd.R_reads' HRa.out).2.1); rintro e w7 ⟨v_, rfl, ho, hb⟩; refine ⟨_, rfl, ?_⟩; obtain ⟨Ap, cp, rfl⟩ := Kd.R_slice ho; have HRp := Aside0.mk (Kd.R_mono (ok' := fun k => w6.heap.size ≤ k ∧ k < w7.heap.size) (Kd.R_bound ho) (fun k hk => ⟨hk.2.1, hk.2.2.1⟩)); clear ho; have n_ := Aside0.mk (Kd.R_step HRL.out (fun k _ hk => hb.block k hk)); clear HRL; have HRL := n_; clear n_; have n_ := Aside0.mk (Kd.R_step HRC.out (fun k _ hk => hb.block k hk)); clear HRC; have HRC := n_; clear n_; have n_ := Aside0.mk (Kd.R_step HRa.out (fun k _ hk => hb.block k hk)); clear HRa; have HRa := n_; clear n_; have n_ := Aside0.mk (Kd.R_step HRb.out (fun k _ hk => hb.block k hk)); clear HRb; have HRb := n_; clear n_; have n_ := Aside0.mk (Kd.R_step HRc.out (fun k _ hk => hb.block k hk)); clear HRc; have HRc := n_; clear n_; have n_ := Aside0.mk (Kd.R_step HRd.out (fun k _ hk => hb.block k hk)); clear HRd; have HRd := n_; clear n_; have HW7 := Aside0.mk hb.size; have n_ := Aside0.mk (below_step (by repeat (first | (with_reducible first | exact HB.out | apply below_alloc | apply pw_below_drewN | apply below_drew1) | exact HB.out)) hb); clear HB; have HB := n_; clear n_ hb) | ((with_reducible refine gate_callee (f := 40) rfl ?_); refine goesL_ (some 66) rfl rfl Try.func40 (by kernel_rfl) rfl #[.int .i64 room, .slice AL l.length cL, .slice Aa a.length ca] rfl (by (try simp only [List.map_toArray, List.map_cons, List.map_nil]); first | done | rfl | (simp only [List.length_drop, List.length_take]; rfl)) ?_; (with_reducible refine (remnant_Loads.calls room _ _ l _ _ a x 0 _ ?side1 ?side2 ?side3 ?side4 HLo.out).mono ?_); (case side1 => exact (by repeat (first | exact (Kd.R_reads' HRL.out).2.2 | (with_reducible refine Kd.C_alloc ?_ _) | (with_reducible refine Kd.C_drewN ?_ _) | (with_reducible refine Kd.C_drew ?_)))); (case side2 => exact (Kd.R_reads' HRL.out).2.1); (case side3 => exact (by repeat (first | exact (Kd.R_reads' HRa.out).2.2 | (with_reducible refine Kd.C_alloc ?_ _) | (with_reducible refine Kd.C_drewN ?_ _) | (with_reducible refine Kd.C_drew ?_)))); (case side4 => exact (Kd.R_reads' HRa.out).2.1); rintro e w8 ⟨v_, rfl, ho, hb⟩; refine ⟨_, rfl, ?_⟩; obtain ⟨Ax, cx, rfl⟩ := Kd.R_slice ho; have HRx := Aside0.mk (Kd.R_mono (ok' := fun k => w7.heap.size ≤ k ∧ k < w8.heap.size) (Kd.R_bound ho) (fun k hk => ⟨hk.2.1, hk.2.2.1⟩)); clear ho; have n_ := Aside0.mk (Kd.R_step HRL.out (fun k _ hk => hb.block k hk)); clear HRL; have HRL := n_; clear n_; have n_ := Aside0.mk (Kd.R_step HRC.out (fun k _ hk => hb.block k hk)); clear HRC; have HRC := n_; clear n_; have n_ := Aside0.mk (Kd.R_step HRa.out (fun k _ hk => hb.block k hk)); clear HRa; have HRa := n_; clear n_; have n_ := Aside0.mk (Kd.R_step HRb.out (fun k _ hk => hb.block k hk)); clear HRb; have HRb := n_; clear n_; have n_ := Aside0.mk (Kd.R_step HRc.out (fun k _ hk => hb.block k hk)); clear HRc; have HRc := n_; clear n_; have n_ := Aside0.mk (Kd.R_step HRd.out (fun k _ hk => hb.block k hk)); clear HRd; have HRd := n_; clear n_; have n_ := Aside0.mk (Kd.R_step HRp.out (fun k _ hk => hb.block k hk)); clear HRp; have HRp := n_; clear n_; have HW8 := Aside0.mk hb.size; have n_ := Aside0.mk (below_step (by repeat (first | (with_reducible first | exact HB.out | apply below_alloc | apply pw_below_drewN | apply below_drew1) | exact HB.out)) hb); clear HB; have HB := n_; clear n_ hb) | ((with_reducible refine gate_callee (f := 39) rfl ?_); refine goesL_ (some 72) rfl rfl Try.func39 (by kernel_rfl) rfl #[.int .i64 room, .slice AL l.length cL, .slice Aa a.length ca] rfl (by (try simp only [List.map_toArray, List.map_cons, List.map_nil]); first | done | rfl | (simp only [List.length_drop, List.length_take]; rfl)) ?_; (with_reducible refine (remnant_Check.calls room _ _ l _ _ a n1 n2 _ ?side1 ?side2 ?side3 ?side4 HCk.out).mono ?_); (case side1 => exact (by repeat (first | exact (Kd.R_reads' HRL.out).2.2 | (with_reducible refine Kd.C_alloc ?_ _) | (with_reducible refine Kd.C_drewN ?_ _) | (with_reducible refine Kd.C_drew ?_)))); (case side2 => exact (Kd.R_reads' HRL.out).2.1); (case side3 => exact (by repeat (first | exact (Kd.R_reads' HRa.out).2.2 | (with_reducible refine Kd.C_alloc ?_ _) | (with_reducible refine Kd.C_drewN ?_ _) | (with_reducible refine Kd.C_drew ?_)))); (case side4 => exact (Kd.R_reads' HRa.out).2.1); rintro e w9 ⟨rfl, hb⟩; refine ⟨_, rfl, ?_⟩; have n_ := Aside0.mk (Kd.R_step HRL.out (fun k _ hk => hb.block k hk)); clear HRL; have HRL := n_; clear n_; have n_ := Aside0.mk (Kd.R_step HRC.out (fun k _ hk => hb.block k hk)); clear HRC; have HRC := n_; clear n_; have n_ := Aside0.mk (Kd.R_step HRa.out (fun k _ hk => hb.block k hk)); clear HRa; have HRa := n_; clear n_; have n_ := Aside0.mk (Kd.R_step HRb.out (fun k _ hk => hb.block k hk)); clear HRb; have HRb := n_; clear n_; have n_ := Aside0.mk (Kd.R_step HRc.out (fun k _ hk => hb.block k hk)); clear HRc; have HRc := n_; clear n_; have n_ := Aside0.mk (Kd.R_step HRd.out (fun k _ hk => hb.block k hk)); clear HRd; have HRd := n_; clear n_; have n_ := Aside0.mk (Kd.R_step HRp.out (fun k _ hk => hb.block k hk)); clear HRp; have HRp := n_; clear n_; have n_ := Aside0.mk (Kd.R_step HRx.out (fun k _ hk => hb.block k hk)); clear HRx; have HRx := n_; clear n_; have HW9 := Aside0.mk hb.size; have n_ := Aside0.mk (below_step (by repeat (first | (with_reducible first | exact HB.out | apply below_alloc | apply pw_below_drewN | apply below_drew1) | exact HB.out)) hb); clear HB; have HB := n_; clear n_ hb) | ((with_reducible refine gate_callee (f := 33) rfl ?_); refine goesL_ (some 76) rfl rfl Try.func33 (by kernel_rfl) rfl #[.int .i64 room, .slice AL l.length cL, .slice Aa a.length ca] rfl (by (try simp only [List.map_toArray, List.map_cons, List.map_nil]); first | done | rfl | (simp only [List.length_drop, List.length_take]; rfl)) ?_; (with_reducible refine (remnant_IsFilling.calls room _ _ l _ _ a n3 n4 _ ?side1 ?side2 ?side3 ?side4 HIF.out).mono ?_); (case side1 => exact (by repeat (first | exact (Kd.R_reads' HRL.out).2.2 | (with_reducible refine Kd.C_alloc ?_ _) | (with_reducible refine Kd.C_drewN ?_ _) | (with_reducible refine Kd.C_drew ?_)))); (case side2 => exact (Kd.R_reads' HRL.out).2.1); (case side3 => exact (by repeat (first | exact (Kd.R_reads' HRa.out).2.2 | (with_reducible refine Kd.C_alloc ?_ _) | (with_reducible refine Kd.C_drewN ?_ _) | (with_reducible refine Kd.C_drew ?_)))); (case side4 => exact (Kd.R_reads' HRa.out).2.1); rintro e w10 ⟨rfl, hb⟩; refine ⟨_, rfl, ?_⟩; have n_ := Aside0.mk (Kd.R_step HRL.out (fun k _ hk => hb.block k hk)); clear HRL; have HRL := n_; clear n_; have n_ := Aside0.mk (Kd.R_step HRC.out (fun k _ hk => hb.block k hk)); clear HRC; have HRC := n_; clear n_; have n_ := Aside0.mk (Kd.R_step HRa.out (fun k _ hk => hb.block k hk)); clear HRa; have HRa := n_; clear n_; have n_ := Aside0.mk (Kd.R_step HRb.out (fun k _ hk => hb.block k hk)); clear HRb; have HRb := n_; clear n_; have n_ := Aside0.mk (Kd.R_step HRc.out (fun k _ hk => hb.block k hk)); clear HRc; have HRc := n_; clear n_; have n_ := Aside0.mk (Kd.R_step HRd.out (fun k _ hk => hb.block k hk)); clear HRd; have HRd := n_; clear n_; have n_ := Aside0.mk (Kd.R_step HRp.out (fun k _ hk => hb.block k hk)); clear HRp; have HRp := n_; clear n_; have n_ := Aside0.mk (Kd.R_step HRx.out (fun k _ hk => hb.block k hk)); clear HRx; have HRx := n_; clear n_; have HW10 := Aside0.mk hb.size; have n_ := Aside0.mk (below_step (by repeat (first | (with_reducible first | exact HB.out | apply below_alloc | apply pw_below_drewN | apply below_drew1) | exact HB.out)) hb); clear HB; have HB := n_; clear n_ hb))
  refine (galloonlaw09_ints.calls k _ _ l _ _ lc true _ (by repeat (first | exact (Kd.R_reads' HRL.out).2.2 | (with_reducible refine Kd.C_alloc ?_ _) | (with_reducible refine Kd.C_drewN ?_ _) | (with_reducible refine Kd.C_drew ?_))) (Kd.R_reads' HRL.out).2.1 (by repeat (first | exact (Kd.R_reads' HRC.out).2.2 | (with_reducible refine Kd.C_alloc ?_ _) | (with_reducible refine Kd.C_drewN ?_ _) | (with_reducible refine Kd.C_drew ?_))) (Kd.R_reads' HRC.out).2.1 HI1.out).mono ?_
  rintro e w_ ⟨rfl, ⟨nd1, rfl⟩⟩
  dsimp only
  go_wp2_with (fail)
  refine (galloonlaw09_ints.calls k _ _ a _ _ p true _ (by repeat (first | exact (Kd.R_reads' HRa.out).2.2 | (with_reducible refine Kd.C_alloc ?_ _) | (with_reducible refine Kd.C_drewN ?_ _) | (with_reducible refine Kd.C_drew ?_))) (Kd.R_reads' HRa.out).2.1 (by repeat (first | exact (Kd.R_reads' HRp.out).2.2 | (with_reducible refine Kd.C_alloc ?_ _) | (with_reducible refine Kd.C_drewN ?_ _) | (with_reducible refine Kd.C_drew ?_))) (Kd.R_reads' HRp.out).2.1 HI2.out).mono ?_
  rintro e w_ ⟨rfl, ⟨nd2, rfl⟩⟩
  dsimp only
  have HW := Aside0.mk (⟨HW1.out, HW2.out, HW3.out, HW4.out, HW5.out, HW6.out, HW7.out, HW8.out, HW9.out, HW10.out⟩ : w.heap.size ≤ w1.heap.size ∧ w1.heap.size ≤ w2.heap.size ∧ w2.heap.size ≤ w3.heap.size ∧ w3.heap.size ≤ w4.heap.size ∧ w4.heap.size ≤ w5.heap.size ∧ w5.heap.size ≤ w6.heap.size ∧ w6.heap.size ≤ w7.heap.size ∧ w7.heap.size ≤ w8.heap.size ∧ w8.heap.size ≤ w9.heap.size ∧ w9.heap.size ≤ w10.heap.size)
  obtain ⟨rows, hrows⟩ : ∃ rows, rows = [a, b, c, d, x] := ⟨_, rfl⟩
  obtain ⟨curX, hcurX⟩ : ∃ curX : Array Value, curX = #[.slice Aa a.length ca, .slice Ab b.length cb, .slice Ac c.length cc, .slice Ad d.length cd, .slice Ax x.length cx] := ⟨_, rfl⟩
  have HX0 : Aside0 (OwInv (fun k => (w2.heap.size ≤ k ∧ k < w6.heap.size) ∨ w7.heap.size ≤ k) w10.heap.size curX rows ((w10.drewN (nd1 + nd2)).alloc (.cells curX 22))) := ⟨by
    refine OwInv.lit (okp := fun k => (fun k => (w2.heap.size ≤ k ∧ k < w6.heap.size) ∨ w7.heap.size ≤ k) k ∧ k < w10.heap.size) (base := w.heap.size) (w10.drewN (nd1 + nd2)) curX rows (fun k hk => hk.1) (fun k hk => hk.2) fun i r hr => ?_
    have hw := HW.out
    rw [hrows] at hr
    rw [hcurX]
    rcases i with _ | _ | _ | _ | _ | i
    · obtain rfl := Option.some.inj hr
      exact ⟨Aa, ca, rfl, Kd.R_drewN (Kd.R_lower (Kd.R_mono HRa.out (fun k hk => by have h := hk; exact ⟨.inl (by omega), by omega⟩)) (by omega)) _⟩
    · obtain rfl := Option.some.inj hr
      exact ⟨Ab, cb, rfl, Kd.R_drewN (Kd.R_lower (Kd.R_mono HRb.out (fun k hk => by have h := hk; exact ⟨.inl (by omega), by omega⟩)) (by omega)) _⟩
    · obtain rfl := Option.some.inj hr
      exact ⟨Ac, cc, rfl, Kd.R_drewN (Kd.R_lower (Kd.R_mono HRc.out (fun k hk => by have h := hk; exact ⟨.inl (by omega), by omega⟩)) (by omega)) _⟩
    · obtain rfl := Option.some.inj hr
      exact ⟨Ad, cd, rfl, Kd.R_drewN (Kd.R_lower (Kd.R_mono HRd.out (fun k hk => by have h := hk; exact ⟨.inl (by omega), by omega⟩)) (by omega)) _⟩
    · obtain rfl := Option.some.inj hr
      exact ⟨Ax, cx, rfl, Kd.R_drewN (Kd.R_lower (Kd.R_mono HRx.out (fun k hk => by have h := hk; exact ⟨.inr (by omega), by omega⟩)) (by omega)) _⟩
    · cases hr⟩
  have HRW : Aside0 (rows.length = 5 ∧ ∀ r ∈ rows, r.length ≤ 1000) := ⟨by rw [hrows]; exact ⟨rfl, HN.out⟩⟩
  have HCX := Aside0.mk hcurX
  clear hrows hcurX
  go_wp2_with (fail)
  have HL0 := Aside0.mk (Kd.R_alloc (Kd.R_drewN HRL.out (nd1 + nd2)) (.cells curX 22))
  have HC0 := Aside0.mk (Kd.R_alloc (Kd.R_drewN HRC.out (nd1 + nd2)) (.cells curX 22))
  have Hp0 := Aside0.mk (Kd.R_alloc (Kd.R_drewN HRp.out (nd1 + nd2)) (.cells curX 22))
  have HB0 := Aside0.mk (below_alloc (pw_below_drewN HB.out (nd1 + nd2)) (.cells curX 22))
  clear HRa HRb HRc HRd HRx
  rw [HCX.out] at HL0 HC0 Hp0 HB0 HX0
  go_loopg [21] 5 (fun gg u17 wr => ∃ i : Nat, u17 = .int .i64 (i : Int) ∧ Aside0 (i ≤ 5 ∧ 5 - i ≤ gg) ∧ Aside0 (OwInv (fun k => (w2.heap.size ≤ k ∧ k < w6.heap.size) ∨ w7.heap.size ≤ k) w10.heap.size curX rows wr) ∧ Aside0 ((Kd.int .i64).R 3 wr w.heap.size (fun k => w.heap.size ≤ k ∧ k < w1.heap.size) (.slice AL l.length cL) l) ∧ Aside0 ((Kd.int .i64).R 3 wr w1.heap.size (fun k => w1.heap.size ≤ k ∧ k < w2.heap.size) (.slice AC lc.length cC) lc) ∧ Aside0 ((Kd.int .i64).R 3 wr w6.heap.size (fun k => w6.heap.size ≤ k ∧ k < w7.heap.size) (.slice Ap p.length cp) p) ∧ Aside0 (Below w.heap.size w wr))
  case atStart =>
    exact ⟨0, rfl, ⟨by omega, by omega⟩, ⟨by have := HX0.out; rw [HCX.out]; exact this⟩, HL0, HC0, Hp0, HB0⟩
  case round => as_aux_lemma =>
    obtain ⟨i, rfl, HI, HX, HRL, HRC, HRp, HB⟩ := hrel
    by_cases hlt : i < 5
    · as_aux_lemma =>
      have hz : decide ((i : Int) < 5) = true := decide_eq_true (by omega)
      have hi0 : 0 ≤ (i : Int) := Int.natCast_nonneg i
      have hi1 : (i : Int) < 5 := by omega
      obtain ⟨r, hr⟩ : ∃ r, rows[i]? = some r := ⟨_, List.getElem?_eq_getElem (by have := HRW.out.1; omega)⟩
      have hrl := HRW.out.2 r (List.mem_of_getElem? hr)
      obtain ⟨Ai, ci, hci, _⟩ := HX.out.row i r hr
      have HCI := Aside0.mk hci
      have HRI := Aside0.mk hr
      have hcell := (cell_of_row wr w10.heap.size i curX 22 (0, 0) HX.out.head).trans hci
      clear hci hr
      go_wp2
      go_loopg [22] r.length (fun gg u18 wr => ∃ j : Nat, u18 = .int .i64 (j : Int) ∧ Aside0 (j ≤ r.length ∧ r.length - j ≤ gg) ∧ Aside0 (OwInv (fun k => (w2.heap.size ≤ k ∧ k < w6.heap.size) ∨ w7.heap.size ≤ k) w10.heap.size curX rows wr) ∧ Aside0 ((Kd.int .i64).R 3 wr w.heap.size (fun k => w.heap.size ≤ k ∧ k < w1.heap.size) (.slice AL l.length cL) l) ∧ Aside0 ((Kd.int .i64).R 3 wr w1.heap.size (fun k => w1.heap.size ≤ k ∧ k < w2.heap.size) (.slice AC lc.length cC) lc) ∧ Aside0 ((Kd.int .i64).R 3 wr w6.heap.size (fun k => w6.heap.size ≤ k ∧ k < w7.heap.size) (.slice Ap p.length cp) p) ∧ Aside0 (Below w.heap.size w wr))
      case atStart => exact ⟨0, rfl, ⟨by omega, by omega⟩, HX, HRL, HRC, HRp, HB⟩
      case round => as_aux_lemma =>
        clear hcell HX HRL HRC HRp HB
        obtain ⟨j, rfl, HJ, HX, HRL, HRC, HRp, HB⟩ := hrel
        have hcell := (cell_of_row _ w10.heap.size i curX 22 (0, 0) HX.out.head).trans HCI.out
        by_cases hjt : j < r.length
        · as_aux_lemma =>
          have hjz : decide ((j : Int) < (r.length : Int)) = true := decide_eq_true (by omega)
          have hj0 : 0 ≤ (j : Int) := Int.natCast_nonneg j
          have hj1 : (j : Int) < (r.length : Int) := by omega
          obtain ⟨A', c', h1, h2⟩ := HX.out.row i r HRI.out
          rw [HCI.out] at h1
          injection h1 with h1
          injection h1 with h1 _ _
          subst h1
          rcases h2 with h2 | ⟨b, cur, rfl, h3, h4, h5⟩
          · omega
          have HBK := Aside0.mk h3
          have HOK := Aside0.mk h5
          obtain ⟨u0, hc0⟩ : ∃ u, wr.cell? ⟨b, j, none⟩ = some u := ⟨cur[j]'(by omega), by rw [cell_of_row _ b j cur 3 (0, 0) h3]; simp [show j < cur.size by omega]⟩
          have hf0 := frozen_of_row _ b j cur 3 h3
          clear h3 h4 h5
          go_wp2
          have hwb : w.heap.size ≤ b := by have h1 := HW.out; have h2 := HOK.out; omega
          go_roundg (r.length - (j + 1))
          case measure => have := HJ.out; omega
          case rel => exact ⟨j + 1, by push_cast; rfl, ⟨by omega, by have := HJ.out; omega⟩, ⟨HX.out.set HBK.out j _⟩, ⟨Kd.R_far (p := ⟨b, j, none⟩) HRL.out (fun k hk => by have h1 := HW.out; have h2 := HOK.out; have h3 := hk; show k ≠ b; omega) _⟩, ⟨Kd.R_far (p := ⟨b, j, none⟩) HRC.out (fun k hk => by have h1 := HW.out; have h2 := HOK.out; have h3 := hk; show k ≠ b; omega) _⟩, ⟨Kd.R_far (p := ⟨b, j, none⟩) HRp.out (fun k hk => by have h1 := HW.out; have h2 := HOK.out; have h3 := hk; show k ≠ b; omega) _⟩, ⟨HB.out.setCell (p := ⟨b, j, none⟩) hwb _⟩⟩
        · as_aux_lemma =>
          have hjz : decide ((j : Int) < (r.length : Int)) = false := decide_eq_false (by omega)
          go_wp2
          go_roundg (5 - (i + 1))
          case measure => have := HI.out; omega
          case rel => exact ⟨i + 1, by push_cast; rfl, ⟨by omega, by have := HI.out; omega⟩, HX, HRL, HRC, HRp, HB⟩
    · as_aux_lemma =>
      have hi3 : i = 5 := by have := HI.out.1; omega
      subst hi3
      have hz : decide (((5 : Nat) : Int) < 5) = false := by decide
      go_wp2_with (first | ((with_reducible refine gate_callee (f := 46) rfl ?_); refine goesL_ (some 137) rfl rfl Try.func46 (by kernel_rfl) rfl #[.int .i64 room, .slice AL l.length cL] rfl (by (try simp only [List.map_toArray, List.map_cons, List.map_nil]); first | done | rfl | (simp only [List.length_drop, List.length_take]; rfl)) ?_; (with_reducible refine (remnant_First.calls k room _ _ l a 0 _ ?side1 ?side2 HFi.out).mono ?_); (case side1 => exact (by repeat (first | exact (Kd.R_reads' HRL.out).2.2 | (with_reducible refine Kd.C_alloc ?_ _) | (with_reducible refine Kd.C_drewN ?_ _) | (with_reducible refine Kd.C_drew ?_)))); (case side2 => exact (Kd.R_reads' HRL.out).2.1); rintro e wa ⟨v_, rfl, ho, hb⟩; refine ⟨_, rfl, ?_⟩; obtain ⟨Ay, cy, rfl⟩ := Kd.R_slice ho; have HRy := Aside0.mk ho; clear ho; have n_ := Aside0.mk (Kd.R_step HRL.out (fun k _ hk => hb.block k hk)); clear HRL; have HRL := n_; clear n_; have n_ := Aside0.mk (Kd.R_step HRC.out (fun k _ hk => hb.block k hk)); clear HRC; have HRC := n_; clear n_; have n_ := Aside0.mk (Kd.R_step HRp.out (fun k _ hk => hb.block k hk)); clear HRp; have HRp := n_; clear n_; have HWA := Aside0.mk hb.size; have n_ := Aside0.mk (below_step (by repeat (first | (with_reducible first | exact HB.out | apply below_alloc | apply pw_below_drewN | apply below_drew1) | exact HB.out)) hb); clear HB; have HB := n_; clear n_ hb) | ((with_reducible refine gate_callee (f := 48) rfl ?_); refine goesL_ (some 143) rfl rfl Try.func48 (by kernel_rfl) rfl #[.int .i64 room, .slice AL l.length cL] rfl (by (try simp only [List.map_toArray, List.map_cons, List.map_nil]); first | done | rfl | (simp only [List.length_drop, List.length_take]; rfl)) ?_; (with_reducible refine (remnant_Falling.calls room _ _ l c 0 _ ?side1 ?side2 HFa.out).mono ?_); (case side1 => exact (by repeat (first | exact (Kd.R_reads' HRL.out).2.2 | (with_reducible refine Kd.C_alloc ?_ _) | (with_reducible refine Kd.C_drewN ?_ _) | (with_reducible refine Kd.C_drew ?_)))); (case side2 => exact (Kd.R_reads' HRL.out).2.1); rintro e wb ⟨v_, rfl, ho, hb⟩; refine ⟨_, rfl, ?_⟩; obtain ⟨Az, cz, rfl⟩ := Kd.R_slice ho; have HRz := Aside0.mk ho; clear ho; have n_ := Aside0.mk (Kd.R_step HRL.out (fun k _ hk => hb.block k hk)); clear HRL; have HRL := n_; clear n_; have n_ := Aside0.mk (Kd.R_step HRC.out (fun k _ hk => hb.block k hk)); clear HRC; have HRC := n_; clear n_; have n_ := Aside0.mk (Kd.R_step HRp.out (fun k _ hk => hb.block k hk)); clear HRp; have HRp := n_; clear n_; have n_ := Aside0.mk (Kd.R_step HRy.out (fun k _ hk => hb.block k hk)); clear HRy; have HRy := n_; clear n_; have HWB := Aside0.mk hb.size; have n_ := Aside0.mk (below_step (by repeat (first | (with_reducible first | exact HB.out | apply below_alloc | apply pw_below_drewN | apply below_drew1) | exact HB.out)) hb); clear HB; have HB := n_; clear n_ hb))
      refine (galloonlaw09_ints.calls k _ _ l _ _ lc true _ (by repeat (first | exact (Kd.R_reads' HRL.out).2.2 | (with_reducible refine Kd.C_alloc ?_ _) | (with_reducible refine Kd.C_drewN ?_ _) | (with_reducible refine Kd.C_drew ?_))) (Kd.R_reads' HRL.out).2.1 (by repeat (first | exact (Kd.R_reads' HRC.out).2.2 | (with_reducible refine Kd.C_alloc ?_ _) | (with_reducible refine Kd.C_drewN ?_ _) | (with_reducible refine Kd.C_drew ?_))) (Kd.R_reads' HRC.out).2.1 HI1.out).mono ?_
      rintro e w_ ⟨rfl, ⟨nd3, rfl⟩⟩
      dsimp only
      go_wp2_with (fail)
      refine (galloonlaw09_ints.calls k _ _ a _ _ p true _ (by repeat (first | exact (Kd.R_reads' HRy.out).2.2 | (with_reducible refine Kd.C_alloc ?_ _) | (with_reducible refine Kd.C_drewN ?_ _) | (with_reducible refine Kd.C_drew ?_))) (Kd.R_reads' HRy.out).2.1 (by repeat (first | exact (Kd.R_reads' HRp.out).2.2 | (with_reducible refine Kd.C_alloc ?_ _) | (with_reducible refine Kd.C_drewN ?_ _) | (with_reducible refine Kd.C_drew ?_))) (Kd.R_reads' HRp.out).2.1 HI2.out).mono ?_
      rintro e w_ ⟨rfl, ⟨nd4, rfl⟩⟩
      dsimp only
      go_wp2_with (fail)
      refine (galloonref09_Falling.calls k room _ _ lc v _ (by repeat (first | exact (Kd.R_reads' HRC.out).2.2 | (with_reducible refine Kd.C_alloc ?_ _) | (with_reducible refine Kd.C_drewN ?_ _) | (with_reducible refine Kd.C_drew ?_))) (Kd.R_reads' HRC.out).2.1 HRF.out).mono ?_
      rintro e wc ⟨v_, rfl, ho, hb⟩
      obtain ⟨Av, cv, rfl⟩ := Kd.R_slice ho
      have HRv := Aside0.mk ho
      have n_ := Aside0.mk (Kd.R_step HRz.out (fun k _ hk => hb.block k hk)); clear HRz; have HRz := n_; clear n_
      have n_ := Aside0.mk (below_step (by repeat (first | (with_reducible first | exact HB.out | apply below_alloc | apply pw_below_drewN | apply below_drew1) | exact HB.out)) hb); clear HB; have HB := n_; clear n_ hb ho
      dsimp only
      go_wp2_with (fail)
      refine (galloonlaw09_ints.calls k _ _ c _ _ v true _ (by repeat (first | exact (Kd.R_reads' HRz.out).2.2 | (with_reducible refine Kd.C_alloc ?_ _) | (with_reducible refine Kd.C_drewN ?_ _) | (with_reducible refine Kd.C_drew ?_))) (Kd.R_reads' HRz.out).2.1 (by repeat (first | exact (Kd.R_reads' HRv.out).2.2 | (with_reducible refine Kd.C_alloc ?_ _) | (with_reducible refine Kd.C_drewN ?_ _) | (with_reducible refine Kd.C_drew ?_))) (Kd.R_reads' HRv.out).2.1 HI3.out).mono ?_
      rintro e w_ ⟨rfl, ⟨nd5, rfl⟩⟩
      dsimp only
      go_wp2_with (fail)
      refine (galloonlaw09_awake.calls k true _ HAw.out).mono ?_
      rintro e wz ⟨rfl, hb⟩
      have HB2 := Aside0.mk (below_step (by repeat (first | (with_reducible first | exact HB.out | apply below_alloc | apply pw_below_drewN | apply below_drew1) | exact HB.out)) hb)
      clear HB hb
      dsimp only
      go_wp2
      go_ret
      exact ⟨rfl, HB2.out⟩

def galloonlaw09_RemnantOwn.Pure : Prop := ∀ (a0 : Int) (l1 : List Int), (Lit.int .i64 a0).wf = true → l1.length ≤ maxLen → l1.length * 8 ≤ 140737488351232 → (∀ x ∈ l1, (Lit.int .i64 x).wf = true) → ∃ k, galloonlaw09_RemnantOwn.Ok k a0 l1
theorem galloonlaw09_RemnantOwn.walk (P : galloonlaw09_RemnantOwn.Pure) (a0 : Int) (a1 : Option Addr) (len1 cap1 : Nat) (z1 : List Int) (w : World) (w0 : (Lit.int .i64 a0).wf = true) (w1 : (a1 = none ∧ len1 = 0 ∧ cap1 = 0 ∧ z1 = []) ∨ ∃ x, a1 = some x ∧ len1 ≤ cap1 ∧ cap1 ≤ maxLen ∧ z1.length = cap1 ∧ (∀ i, i < z1.length → w.cell? (x.add i) = some (.int .i64 (z1.getD i 0))) ∧ ∀ n ∈ z1, (Lit.int .i64 n).wf = true) (y1 : len1 * 8 ≤ 140737488351232) :
    Calls Try.prog 15 #[.int .i64 a0, .slice a1 len1 cap1] w fun e w' => e = .returned (.bool true) ∧ Below w.heap.size w w' := by
  obtain ⟨l1, rfl, hr1, hm1, hw1, hc1⟩ := ReadsInt.ofRowC w1
  obtain ⟨k, h⟩ := P a0 l1 w0 hm1 y1 hw1
  exact galloonlaw09_RemnantOwn.calls k a0 _ _ l1 w (Kd.C_of_reads (d := (0 : Int)) (h1 := fun _ => rfl) hr1) hc1 h

end Go.Proofs.Ytcjglbipkghhnaa.B
