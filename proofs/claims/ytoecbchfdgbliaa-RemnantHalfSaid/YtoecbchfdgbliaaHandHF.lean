-- RemnantHalf (12).
import Derived.Test.YtoecbchfdgbliaaBx4
namespace Go.Proofs.Ytoecbchfdgbliaa.B
open Go.RowKit Go.Shelf Go.Proofs.YtoecbchfdgbliaaW.PrintWords Go.Proofs.YtoecbchfdgbliaaW.PrintLast Go.Proofs.YtoecbchfdgbliaaW.PrintMore
attribute [local go_sem] Oper.semAt_some
set_option linter.unusedVariables false
set_option linter.unusedSimpArgs false

/-- The loop that counts the boxes at most half full. -/
def half_l1 : Nat → Int → List Int → Int → Int → Option Int
  | 0, _, _, _, _ => none
  | k + 1, room, x, low, j => if j < (x.length : Int) then half_l1 k room x (if wrap64 (2 * rd x j) ≤ room then wrap64 (low + 1) else low) (wrap64 (j + 1)) else some low
/-- What is asked of a packing. -/
def half_row (k : Nat) (room : Int) (l : List Int) (n : Int) (row : List Int) : Prop := ∃ (kk : Int) (x : List Int) (low : Int), galloonlaw09_boxes.f k room l row = some kk ∧ n ≤ kk ∧ galloonref09_Loads.f k l row = some x ∧ x.length ≤ 1000 ∧ half_l1 k room x 0 0 = some low ∧ low ≤ 1
def galloonlaw09_RemnantHalf.Ok (k : Nat) (a0 : Int) (l1 : List Int) : Prop := ∃ (room : Int) (l ra rb rc rq : List Int) (n kc : Int), galloonlaw09_tame.f k a0 l1 12 = some (room, l) ∧ remnant_First.f k room l = some (ra, 0) ∧ remnant_Tight.f k room l = some (rb, 0) ∧ remnant_Falling.f room l = some (rc, 0) ∧
  remnant_Best.f k room l = some (rq, n, 0) ∧ half_row k room l n ra ∧ half_row k room l n rb ∧ half_row k room l n rc ∧ galloonlaw09_boxes.f k room l rc = some kc ∧ wrap64 (9 * kc) ≤ wrap64 (wrap64 (11 * n) + 6) ∧ galloonlaw09_awake.f k = some true

set_option maxHeartbeats 8000000 in
set_option maxRecDepth 100000 in
theorem galloonlaw09_RemnantHalf.calls (k : Nat) (a0 : Int) (A1 : Option Addr) (c1 : Nat) (l1 : List Int) (w : World) (hr1 : Kd.C (Kd.int .i64) w A1 l1.length l1) (hc1 : l1.length ≤ c1) (h : galloonlaw09_RemnantHalf.Ok k a0 l1) :
    Calls Try.prog 12 #[.int .i64 a0, .slice A1 l1.length c1] w fun e w' => e = .returned (.bool true) ∧ Below w.heap.size w w' := by
  have hmix : Try.prog.follows .mixedOrders = true := by kernel_rfl
  obtain ⟨room, l, ra, rb, rc, rq, n, kc, hT, hFi, hTi, hFa, hBe, hra, hrb, hrc, hkc, hle, hAw⟩ := h
  have HR1 := Aside0.mk hr1
  have HC1 := Aside0.mk hc1
  have HT := Aside0.mk hT
  have HFi := Aside0.mk hFi
  have HTi := Aside0.mk hTi
  have HFa := Aside0.mk hFa
  have HBe := Aside0.mk hBe
  have HRW := Aside0.mk (⟨hra, hrb, hrc⟩ : half_row k room l n ra ∧ half_row k room l n rb ∧ half_row k room l n rc)
  have HKc := Aside0.mk hkc
  have HLe := Aside0.mk (decide_eq_true hle)
  have HAw := Aside0.mk hAw
  have HB := Aside0.mk (Below.refl w.heap.size w)
  clear hr1 hc1 hT hFi hTi hFa hBe hra hrb hrc hkc hle hAw
  go_enter Try.func12, Try.ntmps12
  go_wp2_with (first | ((with_reducible refine gate_callee (f := 27) rfl ?_); refine goesL_ (some 24) rfl rfl Try.func27 (by kernel_rfl) rfl #[.int .i64 a0, .slice A1 l1.length c1, .int .i64 12] rfl (by (try simp only [List.map_toArray, List.map_cons, List.map_nil]); first | done | rfl | (simp only [List.length_drop, List.length_take]; rfl)) ?_; (with_reducible refine (galloonlaw09_tame.calls k a0 _ _ l1 12 room l _ ?side1 ?side2 HT.out).mono ?_); (case side1 => exact (by repeat (first | exact HR1.out | (with_reducible refine Kd.C_alloc ?_ _) | (with_reducible refine Kd.C_drewN ?_ _) | (with_reducible refine Kd.C_drew ?_)))); (case side2 => exact HC1.out); rintro e w_ ⟨v_, rfl, ho0, hb⟩; refine ⟨_, rfl, ?_⟩; obtain ⟨AL, cL, rfl⟩ := Kd.R_slice ho0; have n_ := Kd.R_reads' ho0; have HRL := Aside0.mk n_.2.2; have HCL := Aside0.mk n_.2.1; clear n_ ho0; have n_ := Aside0.mk (below_step (by repeat (first | (with_reducible first | exact HB.out | apply below_alloc | apply pw_below_drewN | apply below_drew1) | exact HB.out)) hb); clear HB; have HB := n_; clear n_ hb) | ((with_reducible refine gate_callee (f := 45) rfl ?_); refine goesL_ (some 30) rfl rfl Try.func45 (by kernel_rfl) rfl #[.int .i64 room, .slice AL l.length cL] rfl (by (try simp only [List.map_toArray, List.map_cons, List.map_nil]); first | done | rfl | (simp only [List.length_drop, List.length_take]; rfl)) ?_; (with_reducible refine (remnant_First.calls k room _ _ l ra 0 _ ?side1 ?side2 HFi.out).mono ?_); (case side1 => exact (by repeat (first | exact HRL.out | (with_reducible refine Kd.C_alloc ?_ _) | (with_reducible refine Kd.C_drewN ?_ _) | (with_reducible refine Kd.C_drew ?_)))); (case side2 => exact HCL.out); rintro e w_ ⟨v_, rfl, ho0, hb⟩; refine ⟨_, rfl, ?_⟩; obtain ⟨Aa, ca, rfl⟩ := Kd.R_slice ho0; have n_ := Kd.R_reads' ho0; have HRa := Aside0.mk n_.2.2; have HCa := Aside0.mk n_.2.1; clear n_ ho0; have n_ := Aside0.mk (Kd.C_below (by repeat (first | exact HRL.out | (with_reducible refine Kd.C_alloc ?_ _) | (with_reducible refine Kd.C_drewN ?_ _) | (with_reducible refine Kd.C_drew ?_))) hb); clear HRL; have HRL := n_; clear n_; have n_ := Aside0.mk (below_step (by repeat (first | (with_reducible first | exact HB.out | apply below_alloc | apply pw_below_drewN | apply below_drew1) | exact HB.out)) hb); clear HB; have HB := n_; clear n_ hb) | ((with_reducible refine gate_callee (f := 46) rfl ?_); refine goesL_ (some 36) rfl rfl Try.func46 (by kernel_rfl) rfl #[.int .i64 room, .slice AL l.length cL] rfl (by (try simp only [List.map_toArray, List.map_cons, List.map_nil]); first | done | rfl | (simp only [List.length_drop, List.length_take]; rfl)) ?_; (with_reducible refine (remnant_Tight.calls k room _ _ l rb 0 _ ?side1 ?side2 HTi.out).mono ?_); (case side1 => exact (by repeat (first | exact HRL.out | (with_reducible refine Kd.C_alloc ?_ _) | (with_reducible refine Kd.C_drewN ?_ _) | (with_reducible refine Kd.C_drew ?_)))); (case side2 => exact HCL.out); rintro e w_ ⟨v_, rfl, ho0, hb⟩; refine ⟨_, rfl, ?_⟩; obtain ⟨Ab, cb, rfl⟩ := Kd.R_slice ho0; have n_ := Kd.R_reads' ho0; have HRb := Aside0.mk n_.2.2; have HCb := Aside0.mk n_.2.1; clear n_ ho0; have n_ := Aside0.mk (Kd.C_below (by repeat (first | exact HRL.out | (with_reducible refine Kd.C_alloc ?_ _) | (with_reducible refine Kd.C_drewN ?_ _) | (with_reducible refine Kd.C_drew ?_))) hb); clear HRL; have HRL := n_; clear n_; have n_ := Aside0.mk (Kd.C_below (by repeat (first | exact HRa.out | (with_reducible refine Kd.C_alloc ?_ _) | (with_reducible refine Kd.C_drewN ?_ _) | (with_reducible refine Kd.C_drew ?_))) hb); clear HRa; have HRa := n_; clear n_; have n_ := Aside0.mk (below_step (by repeat (first | (with_reducible first | exact HB.out | apply below_alloc | apply pw_below_drewN | apply below_drew1) | exact HB.out)) hb); clear HB; have HB := n_; clear n_ hb) | ((with_reducible refine gate_callee (f := 47) rfl ?_); refine goesL_ (some 42) rfl rfl Try.func47 (by kernel_rfl) rfl #[.int .i64 room, .slice AL l.length cL] rfl (by (try simp only [List.map_toArray, List.map_cons, List.map_nil]); first | done | rfl | (simp only [List.length_drop, List.length_take]; rfl)) ?_; (with_reducible refine (remnant_Falling.calls room _ _ l rc 0 _ ?side1 ?side2 HFa.out).mono ?_); (case side1 => exact (by repeat (first | exact HRL.out | (with_reducible refine Kd.C_alloc ?_ _) | (with_reducible refine Kd.C_drewN ?_ _) | (with_reducible refine Kd.C_drew ?_)))); (case side2 => exact HCL.out); rintro e w_ ⟨v_, rfl, ho0, hb⟩; refine ⟨_, rfl, ?_⟩; obtain ⟨Ac, cc, rfl⟩ := Kd.R_slice ho0; have n_ := Kd.R_reads' ho0; have HRc := Aside0.mk n_.2.2; have HCc := Aside0.mk n_.2.1; clear n_ ho0; have n_ := Aside0.mk (Kd.C_below (by repeat (first | exact HRL.out | (with_reducible refine Kd.C_alloc ?_ _) | (with_reducible refine Kd.C_drewN ?_ _) | (with_reducible refine Kd.C_drew ?_))) hb); clear HRL; have HRL := n_; clear n_; have n_ := Aside0.mk (Kd.C_below (by repeat (first | exact HRa.out | (with_reducible refine Kd.C_alloc ?_ _) | (with_reducible refine Kd.C_drewN ?_ _) | (with_reducible refine Kd.C_drew ?_))) hb); clear HRa; have HRa := n_; clear n_; have n_ := Aside0.mk (Kd.C_below (by repeat (first | exact HRb.out | (with_reducible refine Kd.C_alloc ?_ _) | (with_reducible refine Kd.C_drewN ?_ _) | (with_reducible refine Kd.C_drew ?_))) hb); clear HRb; have HRb := n_; clear n_; have n_ := Aside0.mk (below_step (by repeat (first | (with_reducible first | exact HB.out | apply below_alloc | apply pw_below_drewN | apply below_drew1) | exact HB.out)) hb); clear HB; have HB := n_; clear n_ hb) | ((with_reducible refine gate_callee (f := 37) rfl ?_); refine goesL_ (some 48) rfl rfl Try.func37 (by kernel_rfl) rfl #[.int .i64 room, .slice AL l.length cL] rfl (by (try simp only [List.map_toArray, List.map_cons, List.map_nil]); first | done | rfl | (simp only [List.length_drop, List.length_take]; rfl)) ?_; (with_reducible refine (remnant_Best.calls k room _ _ l rq n 0 _ ?side1 ?side2 HBe.out).mono ?_); (case side1 => exact (by repeat (first | exact HRL.out | (with_reducible refine Kd.C_alloc ?_ _) | (with_reducible refine Kd.C_drewN ?_ _) | (with_reducible refine Kd.C_drew ?_)))); (case side2 => exact HCL.out); rintro e w_ ⟨v_, rfl, ho0, hb⟩; refine ⟨_, rfl, ?_⟩; obtain ⟨Aq, cq, rfl⟩ := Kd.R_slice ho0; have n_ := Kd.R_reads' ho0; have HRq := Aside0.mk n_.2.2; have HCq := Aside0.mk n_.2.1; clear n_ ho0; have n_ := Aside0.mk (Kd.C_below (by repeat (first | exact HRL.out | (with_reducible refine Kd.C_alloc ?_ _) | (with_reducible refine Kd.C_drewN ?_ _) | (with_reducible refine Kd.C_drew ?_))) hb); clear HRL; have HRL := n_; clear n_; have n_ := Aside0.mk (Kd.C_below (by repeat (first | exact HRa.out | (with_reducible refine Kd.C_alloc ?_ _) | (with_reducible refine Kd.C_drewN ?_ _) | (with_reducible refine Kd.C_drew ?_))) hb); clear HRa; have HRa := n_; clear n_; have n_ := Aside0.mk (Kd.C_below (by repeat (first | exact HRb.out | (with_reducible refine Kd.C_alloc ?_ _) | (with_reducible refine Kd.C_drewN ?_ _) | (with_reducible refine Kd.C_drew ?_))) hb); clear HRb; have HRb := n_; clear n_; have n_ := Aside0.mk (Kd.C_below (by repeat (first | exact HRc.out | (with_reducible refine Kd.C_alloc ?_ _) | (with_reducible refine Kd.C_drewN ?_ _) | (with_reducible refine Kd.C_drew ?_))) hb); clear HRc; have HRc := n_; clear n_; have n_ := Aside0.mk (below_step (by repeat (first | (with_reducible first | exact HB.out | apply below_alloc | apply pw_below_drewN | apply below_drew1) | exact HB.out)) hb); clear HB; have HB := n_; clear n_ hb))
  go_loopg [16] 3 (fun gg u16 wr => ∃ i : Nat, u16 = .int .i64 (i : Int) ∧ Aside0 (i ≤ 3 ∧ 3 - i ≤ gg) ∧ Aside0 (Kd.C (Kd.int .i64) wr AL l.length l) ∧ Aside0 (Kd.C (Kd.int .i64) wr Aa ra.length ra) ∧ Aside0 (Kd.C (Kd.int .i64) wr Ab rb.length rb) ∧ Aside0 (Kd.C (Kd.int .i64) wr Ac rc.length rc) ∧
    Aside0 (wr.heap[w_.heap.size]? = some (.cells #[.slice Aa ra.length ca, .slice Ab rb.length cb, .slice Ac rc.length cc] 22 (0, 0))) ∧ Aside0 (Below w.heap.size w wr))
  case atStart => exact ⟨0, rfl, ⟨by omega, by omega⟩, ⟨Kd.C_alloc HRL.out _⟩, ⟨Kd.C_alloc HRa.out _⟩, ⟨Kd.C_alloc HRb.out _⟩, ⟨Kd.C_alloc HRc.out _⟩, ⟨heap_alloc_new w_ _⟩, ⟨below_alloc HB.out _⟩⟩
  case round => as_aux_lemma =>
    obtain ⟨i, rfl, HI, HRL, HRa, HRb, HRc, HX, HB⟩ := hrel
    by_cases hlt : i < 3
    · as_aux_lemma =>
      have hrow : ∃ (row : List Int) (Ar : Option Addr) (cr : Nat), wr.cell? ⟨w_.heap.size, i, none⟩ = some (.slice Ar row.length cr) ∧ Kd.C (Kd.int .i64) wr Ar row.length row ∧ row.length ≤ cr ∧ half_row k room l n row := by
        have hc := fun i => cell_of_row wr w_.heap.size i _ 22 (0, 0) HX.out
        have hi : i = 0 ∨ i = 1 ∨ i = 2 := by omega
        rcases hi with rfl | rfl | rfl
        · exact ⟨ra, Aa, ca, hc 0, HRa.out, HCa.out, HRW.out.1⟩
        · exact ⟨rb, Ab, cb, hc 1, HRb.out, HCb.out, HRW.out.2.1⟩
        · exact ⟨rc, Ac, cc, hc 2, HRc.out, HCc.out, HRW.out.2.2⟩
      obtain ⟨row, Ar, cr, hcell, hRr, hCr, kk, x, low, hk, hn, hx, hxl, hl1, hlow⟩ := hrow
      have HRr := Aside0.mk hRr
      have HCr := Aside0.mk hCr
      have HK := Aside0.mk hk
      have HLd := Aside0.mk hx
      have HL1 := Aside0.mk hl1
      clear hRr hCr hk hx hl1
      have hz : decide ((i : Int) < 3) = true := decide_eq_true (by omega)
      have hi0 : 0 ≤ (i : Int) := Int.natCast_nonneg i
      have hi1 : (i : Int) < 3 := by omega
      have hkn : decide (kk < n) = false := decide_eq_false (by omega)
      have hlz : decide (low > 1) = false := decide_eq_false (by omega)
      go_wp2_with (first | ((with_reducible refine gate_callee (f := 52) rfl ?_); refine goesL_ (some 82) rfl rfl Try.func52 (by kernel_rfl) rfl #[.int .i64 room, .slice AL l.length cL, .slice Ar row.length cr] rfl (by (try simp only [List.map_toArray, List.map_cons, List.map_nil]); first | done | rfl | (simp only [List.length_drop, List.length_take]; rfl)) ?_; (with_reducible refine (galloonlaw09_boxes.calls k room _ _ l _ _ row kk _ ?side1 ?side2 ?side3 ?side4 HK.out).mono ?_); (case side1 => exact (by repeat (first | exact HRL.out | (with_reducible refine Kd.C_alloc ?_ _) | (with_reducible refine Kd.C_drewN ?_ _) | (with_reducible refine Kd.C_drew ?_)))); (case side2 => exact HCL.out); (case side3 => exact (by repeat (first | exact HRr.out | (with_reducible refine Kd.C_alloc ?_ _) | (with_reducible refine Kd.C_drewN ?_ _) | (with_reducible refine Kd.C_drew ?_)))); (case side4 => exact HCr.out); rintro e w_ ⟨rfl, hb⟩; refine ⟨_, rfl, ?_⟩; have n_ := Aside0.mk (Kd.C_below (by repeat (first | exact HRL.out | (with_reducible refine Kd.C_alloc ?_ _) | (with_reducible refine Kd.C_drewN ?_ _) | (with_reducible refine Kd.C_drew ?_))) hb); clear HRL; have HRL := n_; clear n_; have n_ := Aside0.mk (Kd.C_below (by repeat (first | exact HRa.out | (with_reducible refine Kd.C_alloc ?_ _) | (with_reducible refine Kd.C_drewN ?_ _) | (with_reducible refine Kd.C_drew ?_))) hb); clear HRa; have HRa := n_; clear n_; have n_ := Aside0.mk (Kd.C_below (by repeat (first | exact HRb.out | (with_reducible refine Kd.C_alloc ?_ _) | (with_reducible refine Kd.C_drewN ?_ _) | (with_reducible refine Kd.C_drew ?_))) hb); clear HRb; have HRb := n_; clear n_; have n_ := Aside0.mk (Kd.C_below (by repeat (first | exact HRc.out | (with_reducible refine Kd.C_alloc ?_ _) | (with_reducible refine Kd.C_drewN ?_ _) | (with_reducible refine Kd.C_drew ?_))) hb); clear HRc; have HRc := n_; clear n_; have n_ := Aside0.mk (Kd.C_below (by repeat (first | exact HRr.out | (with_reducible refine Kd.C_alloc ?_ _) | (with_reducible refine Kd.C_drewN ?_ _) | (with_reducible refine Kd.C_drew ?_))) hb); clear HRr; have HRr := n_; clear n_; have hc_ := (hb.cell (World.block_lt_of_cell? _ _ hcell)).trans hcell; clear hcell; have hcell := hc_; clear hc_; have n_ := Aside0.mk ((hb.block _ (blk_lt HX.out)).trans HX.out); clear HX; have HX := n_; clear n_; have n_ := Aside0.mk (below_step (by repeat (first | (with_reducible first | exact HB.out | apply below_alloc | apply pw_below_drewN | apply below_drew1) | exact HB.out)) hb); clear HB; have HB := n_; clear n_ hb) | ((with_reducible refine gate_callee (f := 35) rfl ?_); refine goesL_ (some 91) rfl rfl Try.func35 (by kernel_rfl) rfl #[.slice AL l.length cL, .slice Ar row.length cr] rfl (by (try simp only [List.map_toArray, List.map_cons, List.map_nil]); first | done | rfl | (simp only [List.length_drop, List.length_take]; rfl)) ?_; (with_reducible refine (galloonref09_Loads.calls k _ _ l _ _ row x _ ?side1 ?side2 ?side3 ?side4 HLd.out).mono ?_); (case side1 => exact (by repeat (first | exact HRL.out | (with_reducible refine Kd.C_alloc ?_ _) | (with_reducible refine Kd.C_drewN ?_ _) | (with_reducible refine Kd.C_drew ?_)))); (case side2 => exact HCL.out); (case side3 => exact (by repeat (first | exact HRr.out | (with_reducible refine Kd.C_alloc ?_ _) | (with_reducible refine Kd.C_drewN ?_ _) | (with_reducible refine Kd.C_drew ?_)))); (case side4 => exact HCr.out); rintro e wo ⟨v_, rfl, ho0, hb⟩; refine ⟨_, rfl, ?_⟩; obtain ⟨Ax, cx, rfl⟩ := Kd.R_slice ho0; have n_ := Kd.R_reads' ho0; have HRx := Aside0.mk n_.2.2; have HCx := Aside0.mk n_.2.1; clear n_ ho0; have n_ := Aside0.mk (Kd.C_below (by repeat (first | exact HRL.out | (with_reducible refine Kd.C_alloc ?_ _) | (with_reducible refine Kd.C_drewN ?_ _) | (with_reducible refine Kd.C_drew ?_))) hb); clear HRL; have HRL := n_; clear n_; have n_ := Aside0.mk (Kd.C_below (by repeat (first | exact HRa.out | (with_reducible refine Kd.C_alloc ?_ _) | (with_reducible refine Kd.C_drewN ?_ _) | (with_reducible refine Kd.C_drew ?_))) hb); clear HRa; have HRa := n_; clear n_; have n_ := Aside0.mk (Kd.C_below (by repeat (first | exact HRb.out | (with_reducible refine Kd.C_alloc ?_ _) | (with_reducible refine Kd.C_drewN ?_ _) | (with_reducible refine Kd.C_drew ?_))) hb); clear HRb; have HRb := n_; clear n_; have n_ := Aside0.mk (Kd.C_below (by repeat (first | exact HRc.out | (with_reducible refine Kd.C_alloc ?_ _) | (with_reducible refine Kd.C_drewN ?_ _) | (with_reducible refine Kd.C_drew ?_))) hb); clear HRc; have HRc := n_; clear n_; have n_ := Aside0.mk (Kd.C_below (by repeat (first | exact HRr.out | (with_reducible refine Kd.C_alloc ?_ _) | (with_reducible refine Kd.C_drewN ?_ _) | (with_reducible refine Kd.C_drew ?_))) hb); clear HRr; have HRr := n_; clear n_; have n_ := Aside0.mk ((hb.block _ (blk_lt HX.out)).trans HX.out); clear HX; have HX := n_; clear n_; have n_ := Aside0.mk (below_step (by repeat (first | (with_reducible first | exact HB.out | apply below_alloc | apply pw_below_drewN | apply below_drew1) | exact HB.out)) hb); clear HB; have HB := n_; clear n_ hb))
      have HRX := Aside0.mk HRx.out
      go_loopg [19, 20] x.length (fun gg u19 u20 wr => ∃ (j m : Nat) (lw : Int), u20 = .int .i64 (j : Int) ∧ u19 = .int .i64 lw ∧ Aside0 (j ≤ x.length ∧ x.length - j ≤ gg) ∧ Aside0 (∃ kq, half_l1 kq room x lw (j : Int) = some low) ∧ wr = wo.drewN m)
      case atStart => exact ⟨0, 0, 0, rfl, rfl, ⟨by omega, by omega⟩, ⟨k, HL1.out⟩, rfl⟩
      case round => as_aux_lemma =>
        obtain ⟨j, m, lw, rfl, rfl, HJ, HLQ, rfl⟩ := hrel
        by_cases hj : j < x.length
        · as_aux_lemma =>
          have hjz : decide ((j : Int) < (x.length : Int)) = true := decide_eq_true (by omega)
          obtain ⟨ax, e, g0⟩ := Kd.at_int HRX.out (j : Int) (by omega) (by omega)
          cases e
          rw [Int.toNat_natCast] at g0
          have hj0 : 0 ≤ (j : Int) := Int.natCast_nonneg j
          have hj1 : (j : Int) < (x.length : Int) := by omega
          have HN : Aside0 (∃ kq, half_l1 kq room x (if wrap64 (2 * rd x (j : Int)) ≤ room then wrap64 (lw + 1) else lw) (wrap64 ((j : Int) + 1)) = some low) := by
            obtain ⟨kq, hq⟩ := HLQ.out
            cases kq with
            | zero => exact absurd hq (by simp [half_l1])
            | succ kq => rw [half_l1, if_pos hj1] at hq; exact ⟨kq, hq⟩
          clear HLQ
          have hnx : wrap64 ((j : Int) + 1) = ((j + 1 : Nat) : Int) := by have := HJ.out.1; unfold wrap64; omega
          by_cases hc : wrap64 (2 * rd x (j : Int)) ≤ room
          · as_aux_lemma =>
            have hcz := decide_eq_true hc
            have HN2 := HN.out
            rw [if_pos hc, hnx] at HN2
            have HN3 := Aside0.mk HN2
            clear HN HN2
            go_wp2
            go_roundg (x.length - (j + 1))
            case measure => have := HJ.out; omega
            case rel => exact ⟨j + 1, m, wrap64 (lw + 1), by push_cast; rfl, rfl, ⟨by have := HJ.out; omega, by have := HJ.out; omega⟩, HN3, rfl⟩
          · as_aux_lemma =>
            have hcz := decide_eq_false hc
            have HN2 := HN.out
            rw [if_neg hc, hnx] at HN2
            have HN3 := Aside0.mk HN2
            clear HN HN2
            go_wp2
            go_roundg (x.length - (j + 1))
            case measure => have := HJ.out; omega
            case rel => exact ⟨j + 1, m, lw, by push_cast; rfl, rfl, ⟨by have := HJ.out; omega, by have := HJ.out; omega⟩, HN3, rfl⟩
        · as_aux_lemma =>
          have hjz : decide ((j : Int) < (x.length : Int)) = false := decide_eq_false (by omega)
          have hlw : lw = low := by
            obtain ⟨kq, hq⟩ := HLQ.out
            cases kq with
            | zero => exact absurd hq (by simp [half_l1])
            | succ kq => rw [half_l1, if_neg (by omega)] at hq; exact Option.some.inj hq
          subst hlw
          go_wp2
          go_roundg (3 - (i + 1))
          case measure => have := HI.out; omega
          case rel => exact ⟨i + 1, by push_cast; rfl, ⟨by omega, by have := HI.out; omega⟩, ⟨(by repeat (first | exact HRL.out | (with_reducible refine Kd.C_alloc ?_ _) | (with_reducible refine Kd.C_drewN ?_ _) | (with_reducible refine Kd.C_drew ?_)))⟩, ⟨(by repeat (first | exact HRa.out | (with_reducible refine Kd.C_alloc ?_ _) | (with_reducible refine Kd.C_drewN ?_ _) | (with_reducible refine Kd.C_drew ?_)))⟩, ⟨(by repeat (first | exact HRb.out | (with_reducible refine Kd.C_alloc ?_ _) | (with_reducible refine Kd.C_drewN ?_ _) | (with_reducible refine Kd.C_drew ?_)))⟩, ⟨(by repeat (first | exact HRc.out | (with_reducible refine Kd.C_alloc ?_ _) | (with_reducible refine Kd.C_drewN ?_ _) | (with_reducible refine Kd.C_drew ?_)))⟩, ⟨HX.out⟩, ⟨(by repeat (first | (with_reducible first | exact HB.out | apply below_alloc | apply pw_below_drewN | apply below_drew1) | exact HB.out))⟩⟩
    · as_aux_lemma =>
      have hi3 : i = 3 := by have := HI.out.1; omega
      subst hi3
      have hz : decide (((3 : Nat) : Int) < 3) = false := by decide
      have hle := HLe.out
      go_wp2_with (first | ((with_reducible refine gate_callee (f := 52) rfl ?_); refine goesL_ (some 112) rfl rfl Try.func52 (by kernel_rfl) rfl #[.int .i64 room, .slice AL l.length cL, .slice Ac rc.length cc] rfl (by (try simp only [List.map_toArray, List.map_cons, List.map_nil]); first | done | rfl | (simp only [List.length_drop, List.length_take]; rfl)) ?_; (with_reducible refine (galloonlaw09_boxes.calls k room _ _ l _ _ rc kc _ ?side1 ?side2 ?side3 ?side4 HKc.out).mono ?_); (case side1 => exact (by repeat (first | exact HRL.out | (with_reducible refine Kd.C_alloc ?_ _) | (with_reducible refine Kd.C_drewN ?_ _) | (with_reducible refine Kd.C_drew ?_)))); (case side2 => exact HCL.out); (case side3 => exact (by repeat (first | exact HRc.out | (with_reducible refine Kd.C_alloc ?_ _) | (with_reducible refine Kd.C_drewN ?_ _) | (with_reducible refine Kd.C_drew ?_)))); (case side4 => exact HCc.out); rintro e w_ ⟨rfl, hb⟩; refine ⟨_, rfl, ?_⟩; have n_ := Aside0.mk (below_step (by repeat (first | (with_reducible first | exact HB.out | apply below_alloc | apply pw_below_drewN | apply below_drew1) | exact HB.out)) hb); clear HB; have HB := n_; clear n_ hb))
      refine (galloonlaw09_awake.calls k true _ HAw.out).mono ?_
      rintro e wz ⟨rfl, hb⟩
      have HB2 := Aside0.mk (below_step (by repeat (first | (with_reducible first | exact HB.out | apply below_alloc | apply pw_below_drewN | apply below_drew1) | exact HB.out)) hb)
      clear HB hb
      dsimp only
      go_wp2
      go_ret
      exact ⟨rfl, HB2.out⟩

def galloonlaw09_RemnantHalf.Pure : Prop := ∀ (a0 : Int) (l1 : List Int), (Lit.int .i64 a0).wf = true → l1.length ≤ maxLen → l1.length * 8 ≤ 140737488351232 → (∀ x ∈ l1, (Lit.int .i64 x).wf = true) → ∃ k, galloonlaw09_RemnantHalf.Ok k a0 l1
theorem galloonlaw09_RemnantHalf.walk (P : galloonlaw09_RemnantHalf.Pure) (a0 : Int) (a1 : Option Addr) (len1 cap1 : Nat) (z1 : List Int) (w : World) (w0 : (Lit.int .i64 a0).wf = true) (w1 : (a1 = none ∧ len1 = 0 ∧ cap1 = 0 ∧ z1 = []) ∨ ∃ x, a1 = some x ∧ len1 ≤ cap1 ∧ cap1 ≤ maxLen ∧ z1.length = cap1 ∧ (∀ i, i < z1.length → w.cell? (x.add i) = some (.int .i64 (z1.getD i 0))) ∧ ∀ n ∈ z1, (Lit.int .i64 n).wf = true) (y1 : len1 * 8 ≤ 140737488351232) :
    Calls Try.prog 12 #[.int .i64 a0, .slice a1 len1 cap1] w fun e w' => e = .returned (.bool true) ∧ Below w.heap.size w w' := by
  obtain ⟨l1, rfl, hr1, hm1, hw1, hc1⟩ := ReadsInt.ofRowC w1
  obtain ⟨k, h⟩ := P a0 l1 w0 hm1 y1 hw1
  exact galloonlaw09_RemnantHalf.calls k a0 _ _ l1 w (Kd.C_of_reads (d := (0 : Int)) (h1 := fun _ => rfl) hr1) hc1 h

end Go.Proofs.Ytoecbchfdgbliaa.B
