-- ShuffleOwn (3).
import Derived.Test.YtpkmmbicpijgpaaHandOI
namespace Go.Proofs.Ytpkmmbicpijgpaa.O
open Go.RowKit Go.Shelf Go.Proofs.YtpkmmbicpijgpaaW.PrintWords Go.Proofs.YtpkmmbicpijgpaaW.PrintLast Go.Proofs.YtpkmmbicpijgpaaW.PrintMore
attribute [local go_sem] max2_int min2_int max_two min_two max_three min_three max_four min_four
set_option linter.unusedVariables false
set_option linter.unusedSimpArgs false

def galloonlaw06_ShuffleOwn.Ok (k : Nat) (a0 : Int) (l1 : List Int) : Prop := ∃ (t : Int) (l lc f fg fm aa v : List Int) (ae : Int) (ps : List S35) (fs : List (List Int)), galloonlaw06_mod.f a0 63 = some t ∧ galloonlaw06_tame.f k (wrap64 (2 + t)) l1 = some l ∧ shuffle_Values.f k (wrap64 (2 + t)) l = some (f, 0) ∧ galloonlaw06_list.f l = some lc ∧ galloonlaw06_list.f f = some fg ∧
  shuffle_Form.f k (wrap64 (2 + t)) f = some (fm, 0) ∧ shuffle_After.f k (wrap64 (2 + t)) f f = some (aa, ae) ∧ shuffle_Split.f k (wrap64 (2 + t)) l = some (ps, fs, 0) ∧ galloonlaw06_ints.f k l lc = some true ∧ galloonlaw06_ints.f k f fg = some true ∧
  0 < fs.length ∧ fs.length ≤ 1000 ∧ 0 < ps.length ∧ ps.length ≤ 1000 ∧ (∀ r ∈ fs, r.length ≤ 1000) ∧ f.length ≤ 1000 ∧ fm.length ≤ 1000 ∧ galloonref06_Values.f k (wrap64 (2 + t)) lc = some v ∧ galloonlaw06_ints.f k f v = some true ∧ galloonref06_Listed.f k (wrap64 (2 + t)) (fs.getD 0 []) = some true ∧ galloonlaw06_awake.f k = some true

set_option maxHeartbeats 8000000 in
set_option maxRecDepth 100000 in
theorem galloonlaw06_ShuffleOwn.calls (k : Nat) (a0 : Int) (A1 : Option Addr) (c1 : Nat) (l1 : List Int) (w : World) (hr1 : Kd.C (Kd.int .i64) w A1 l1.length l1) (hc1 : l1.length ≤ c1) (h : galloonlaw06_ShuffleOwn.Ok k a0 l1) :
    Calls Try.prog 3 #[.int .i64 a0, .slice A1 l1.length c1] w fun e w' => e = .returned (.bool true) ∧ Below w.heap.size w w' := by
  have hmix : Try.prog.follows .mixedOrders = true := by kernel_rfl
  obtain ⟨t, l, lc, f, fg, fm, aa, v, ae, ps, fs, hT, hTa, hV, hD1, hD2, hF, hA, hS, hI1, hI2, hfs0, hfs1, hps0, hps1, hrow, hf1, hc1', hRV, hI3, hLi, hAw⟩ := h
  have HR1 := Aside0.mk hr1
  have HC1 := Aside0.mk hc1
  have HT := Aside0.mk hT
  have HTa := Aside0.mk hTa
  have HV := Aside0.mk hV
  have HD1 := Aside0.mk hD1
  have HD2 := Aside0.mk hD2
  have HF := Aside0.mk hF
  have HA := Aside0.mk hA
  have HS := Aside0.mk hS
  have HI1 := Aside0.mk hI1
  have HI2 := Aside0.mk hI2
  have HRV := Aside0.mk hRV
  have HI3 := Aside0.mk hI3
  have HLi := Aside0.mk hLi
  have HAw := Aside0.mk hAw
  have HN := Aside0.mk (⟨hfs0, hfs1, hps0, hps1, hrow, hf1, hc1'⟩ : 0 < fs.length ∧ fs.length ≤ 1000 ∧ 0 < ps.length ∧ ps.length ≤ 1000 ∧ (∀ r ∈ fs, r.length ≤ 1000) ∧ f.length ≤ 1000 ∧ fm.length ≤ 1000)
  have HB := Aside0.mk (Below.refl w.heap.size w)
  clear hr1 hc1 hfs0 hfs1 hps0 hps1 hrow hf1 hc1' hT hTa hV hD1 hD2 hF hA hS hI1 hI2 hRV hI3 hLi hAw
  go_enter Try.func3, Try.ntmps3
  go_wp2_with (first | ((with_reducible refine gate_callee (f := 6) rfl ?_); refine goesL_ (some 25) rfl rfl Try.func6 (by kernel_rfl) rfl #[.int .i64 a0, .int .i64 63] rfl (by (try simp only [List.map_toArray, List.map_cons, List.map_nil]); first | done | rfl | (simp only [List.length_drop, List.length_take]; rfl)) ?_; (with_reducible refine (galloonlaw06_mod.calls a0 63 t _ HT.out).mono ?_); rintro e w_ ⟨rfl, ⟨nd, rfl⟩⟩; refine ⟨_, rfl, ?_⟩) | ((with_reducible refine gate_callee (f := 7) rfl ?_); refine goesL_ (some 29) rfl rfl Try.func7 (by kernel_rfl) rfl #[.int .i64 (wrap64 (2 + t)), .slice A1 l1.length c1] rfl (by (try simp only [List.map_toArray, List.map_cons, List.map_nil]); first | done | rfl | (simp only [List.length_drop, List.length_take]; rfl)) ?_; (with_reducible refine (galloonlaw06_tame.calls k (wrap64 (2 + t)) _ _ l1 l _ ?side1 ?side2 HTa.out).mono ?_); (case side1 => exact (by repeat (first | exact HR1.out | (with_reducible refine Kd.C_drewN ?_ _)))); (case side2 => exact HC1.out); rintro e w1 ⟨v_, rfl, ho, hb⟩; refine ⟨_, rfl, ?_⟩; obtain ⟨AL, cL, rfl⟩ := Kd.R_slice ho; have HRL := Aside0.mk (Kd.R_mono (ok' := fun k => w.heap.size ≤ k ∧ k < w1.heap.size) (Kd.R_bound ho) (fun k hk => ⟨hk.2.1, hk.2.2.1⟩)); clear ho; have HW1 := Aside0.mk hb.size; have n_ := Aside0.mk (below_step (by repeat (first | (with_reducible first | exact HB.out | apply below_alloc | apply pw_below_drewN | apply below_drew1) | exact HB.out)) hb); clear HB; have HB := n_; clear n_ hb) | ((with_reducible refine gate_callee (f := 8) rfl ?_); refine goesL_ (some 31) rfl rfl Try.func8 (by kernel_rfl) rfl #[.slice AL l.length cL] rfl (by (try simp only [List.map_toArray, List.map_cons, List.map_nil]); first | done | rfl | (simp only [List.length_drop, List.length_take]; rfl)) ?_; (with_reducible refine (galloonlaw06_list.calls _ _ l lc _ ?side1 ?side2 HD1.out).mono ?_); (case side1 => exact (by repeat (first | exact (Kd.R_reads' HRL.out).2.2 | (with_reducible refine Kd.C_alloc ?_ _) | (with_reducible refine Kd.C_drewN ?_ _) | (with_reducible refine Kd.C_drew ?_)))); (case side2 => exact (Kd.R_reads' HRL.out).2.1); rintro e w2 ⟨v_, rfl, ho, hb⟩; refine ⟨_, rfl, ?_⟩; obtain ⟨AC, cC, rfl⟩ := Kd.R_slice ho; have HRC := Aside0.mk (Kd.R_mono (ok' := fun k => w1.heap.size ≤ k ∧ k < w2.heap.size) (Kd.R_bound ho) (fun k hk => ⟨hk.2.1, hk.2.2.1⟩)); clear ho; have n_ := Aside0.mk (Kd.R_step HRL.out (fun k _ hk => hb.block k hk)); clear HRL; have HRL := n_; clear n_; have HW2 := Aside0.mk hb.size; have n_ := Aside0.mk (below_step (by repeat (first | (with_reducible first | exact HB.out | apply below_alloc | apply pw_below_drewN | apply below_drew1) | exact HB.out)) hb); clear HB; have HB := n_; clear n_ hb) | ((with_reducible refine gate_callee (f := 9) rfl ?_); refine goesL_ (some 35) rfl rfl Try.func9 (by kernel_rfl) rfl #[.int .i64 (wrap64 (2 + t)), .slice AL l.length cL] rfl (by (try simp only [List.map_toArray, List.map_cons, List.map_nil]); first | done | rfl | (simp only [List.length_drop, List.length_take]; rfl)) ?_; (with_reducible refine (shuffle_Values.calls k _ _ _ l f 0 _ ?side1 ?side2 HV.out).mono ?_); (case side1 => exact (by repeat (first | exact (Kd.R_reads' HRL.out).2.2 | (with_reducible refine Kd.C_alloc ?_ _) | (with_reducible refine Kd.C_drewN ?_ _) | (with_reducible refine Kd.C_drew ?_)))); (case side2 => exact (Kd.R_reads' HRL.out).2.1); rintro e w3 ⟨v_, rfl, ho, hb⟩; refine ⟨_, rfl, ?_⟩; obtain ⟨Af, cf, rfl⟩ := Kd.R_slice ho; have HRf := Aside0.mk (Kd.R_mono (ok' := fun k => w2.heap.size ≤ k ∧ k < w3.heap.size) (Kd.R_bound ho) (fun k hk => ⟨hk.2.1, hk.2.2.1⟩)); clear ho; have n_ := Aside0.mk (Kd.R_step HRL.out (fun k _ hk => hb.block k hk)); clear HRL; have HRL := n_; clear n_; have n_ := Aside0.mk (Kd.R_step HRC.out (fun k _ hk => hb.block k hk)); clear HRC; have HRC := n_; clear n_; have HW3 := Aside0.mk hb.size; have n_ := Aside0.mk (below_step (by repeat (first | (with_reducible first | exact HB.out | apply below_alloc | apply pw_below_drewN | apply below_drew1) | exact HB.out)) hb); clear HB; have HB := n_; clear n_ hb) | ((with_reducible refine gate_callee (f := 8) rfl ?_); refine goesL_ (some 39) rfl rfl Try.func8 (by kernel_rfl) rfl #[.slice Af f.length cf] rfl (by (try simp only [List.map_toArray, List.map_cons, List.map_nil]); first | done | rfl | (simp only [List.length_drop, List.length_take]; rfl)) ?_; (with_reducible refine (galloonlaw06_list.calls _ _ f fg _ ?side1 ?side2 HD2.out).mono ?_); (case side1 => exact (by repeat (first | exact (Kd.R_reads' HRf.out).2.2 | (with_reducible refine Kd.C_alloc ?_ _) | (with_reducible refine Kd.C_drewN ?_ _) | (with_reducible refine Kd.C_drew ?_)))); (case side2 => exact (Kd.R_reads' HRf.out).2.1); rintro e w4 ⟨v_, rfl, ho, hb⟩; refine ⟨_, rfl, ?_⟩; obtain ⟨Ag, cg, rfl⟩ := Kd.R_slice ho; have HRg := Aside0.mk (Kd.R_mono (ok' := fun k => w3.heap.size ≤ k ∧ k < w4.heap.size) (Kd.R_bound ho) (fun k hk => ⟨hk.2.1, hk.2.2.1⟩)); clear ho; have n_ := Aside0.mk (Kd.R_step HRL.out (fun k _ hk => hb.block k hk)); clear HRL; have HRL := n_; clear n_; have n_ := Aside0.mk (Kd.R_step HRC.out (fun k _ hk => hb.block k hk)); clear HRC; have HRC := n_; clear n_; have n_ := Aside0.mk (Kd.R_step HRf.out (fun k _ hk => hb.block k hk)); clear HRf; have HRf := n_; clear n_; have HW4 := Aside0.mk hb.size; have n_ := Aside0.mk (below_step (by repeat (first | (with_reducible first | exact HB.out | apply below_alloc | apply pw_below_drewN | apply below_drew1) | exact HB.out)) hb); clear HB; have HB := n_; clear n_ hb) | ((with_reducible refine gate_callee (f := 10) rfl ?_); refine goesL_ (some 43) rfl rfl Try.func10 (by kernel_rfl) rfl #[.int .i64 (wrap64 (2 + t)), .slice Af f.length cf] rfl (by (try simp only [List.map_toArray, List.map_cons, List.map_nil]); first | done | rfl | (simp only [List.length_drop, List.length_take]; rfl)) ?_; (with_reducible refine (shuffle_Form.calls k _ _ _ f fm 0 _ ?side1 ?side2 HF.out).mono ?_); (case side1 => exact (by repeat (first | exact (Kd.R_reads' HRf.out).2.2 | (with_reducible refine Kd.C_alloc ?_ _) | (with_reducible refine Kd.C_drewN ?_ _) | (with_reducible refine Kd.C_drew ?_)))); (case side2 => exact (Kd.R_reads' HRf.out).2.1); rintro e w5 ⟨v_, rfl, ho, hb⟩; refine ⟨_, rfl, ?_⟩; obtain ⟨Ac, cc, rfl⟩ := Kd.R_slice ho; have HRc := Aside0.mk (Kd.R_mono (ok' := fun k => w4.heap.size ≤ k ∧ k < w5.heap.size) (Kd.R_bound ho) (fun k hk => ⟨hk.2.1, hk.2.2.1⟩)); clear ho; have n_ := Aside0.mk (Kd.R_step HRL.out (fun k _ hk => hb.block k hk)); clear HRL; have HRL := n_; clear n_; have n_ := Aside0.mk (Kd.R_step HRC.out (fun k _ hk => hb.block k hk)); clear HRC; have HRC := n_; clear n_; have n_ := Aside0.mk (Kd.R_step HRf.out (fun k _ hk => hb.block k hk)); clear HRf; have HRf := n_; clear n_; have n_ := Aside0.mk (Kd.R_step HRg.out (fun k _ hk => hb.block k hk)); clear HRg; have HRg := n_; clear n_; have HW5 := Aside0.mk hb.size; have n_ := Aside0.mk (below_step (by repeat (first | (with_reducible first | exact HB.out | apply below_alloc | apply pw_below_drewN | apply below_drew1) | exact HB.out)) hb); clear HB; have HB := n_; clear n_ hb) | ((with_reducible refine gate_callee (f := 11) rfl ?_); refine goesL_ (some 49) rfl rfl Try.func11 (by kernel_rfl) rfl #[.int .i64 (wrap64 (2 + t)), .slice Af f.length cf, .slice Af f.length cf] rfl (by (try simp only [List.map_toArray, List.map_cons, List.map_nil]); first | done | rfl | (simp only [List.length_drop, List.length_take]; rfl)) ?_; (with_reducible refine (shuffle_After.calls k _ _ _ f _ _ f aa ae _ ?side1 ?side2 ?side3 ?side4 HA.out).mono ?_); (case side1 => exact (by repeat (first | exact (Kd.R_reads' HRf.out).2.2 | (with_reducible refine Kd.C_alloc ?_ _) | (with_reducible refine Kd.C_drewN ?_ _) | (with_reducible refine Kd.C_drew ?_)))); (case side2 => exact (Kd.R_reads' HRf.out).2.1); (case side3 => exact (by repeat (first | exact (Kd.R_reads' HRf.out).2.2 | (with_reducible refine Kd.C_alloc ?_ _) | (with_reducible refine Kd.C_drewN ?_ _) | (with_reducible refine Kd.C_drew ?_)))); (case side4 => exact (Kd.R_reads' HRf.out).2.1); rintro e w6 ⟨v_, rfl, ho, hb⟩; refine ⟨_, rfl, ?_⟩; have n_ := Aside0.mk (Kd.R_step HRL.out (fun k _ hk => hb.block k hk)); clear HRL; have HRL := n_; clear n_; have n_ := Aside0.mk (Kd.R_step HRC.out (fun k _ hk => hb.block k hk)); clear HRC; have HRC := n_; clear n_; have n_ := Aside0.mk (Kd.R_step HRf.out (fun k _ hk => hb.block k hk)); clear HRf; have HRf := n_; clear n_; have n_ := Aside0.mk (Kd.R_step HRg.out (fun k _ hk => hb.block k hk)); clear HRg; have HRg := n_; clear n_; have n_ := Aside0.mk (Kd.R_step HRc.out (fun k _ hk => hb.block k hk)); clear HRc; have HRc := n_; clear n_; have HW6 := Aside0.mk hb.size; have n_ := Aside0.mk (below_step (by repeat (first | (with_reducible first | exact HB.out | apply below_alloc | apply pw_below_drewN | apply below_drew1) | exact HB.out)) hb); clear HB; have HB := n_; clear n_ hb) | ((with_reducible refine gate_callee (f := 12) rfl ?_); refine goesL_ (some 53) rfl rfl Try.func12 (by kernel_rfl) rfl #[.int .i64 (wrap64 (2 + t)), .slice AL l.length cL] rfl (by (try simp only [List.map_toArray, List.map_cons, List.map_nil]); first | done | rfl | (simp only [List.length_drop, List.length_take]; rfl)) ?_; (with_reducible refine (shuffle_Split.calls k _ _ _ l ps fs 0 _ ?side1 ?side2 HS.out).mono ?_); (case side1 => exact (by repeat (first | exact (Kd.R_reads' HRL.out).2.2 | (with_reducible refine Kd.C_alloc ?_ _) | (with_reducible refine Kd.C_drewN ?_ _) | (with_reducible refine Kd.C_drew ?_)))); (case side2 => exact (Kd.R_reads' HRL.out).2.1); rintro e w7 ⟨v_, v2_, rfl, ho, hs, hb⟩; refine ⟨_, rfl, ?_⟩; obtain ⟨Ap, cp, rfl⟩ := Kd.R_slice ho; have HRp := Aside0.mk (Kd.R_mono (ok' := fun k => w6.heap.size ≤ k ∧ k < w7.heap.size) (Kd.R_bound ho) (fun k hk => ⟨hk.2.1, hk.2.2.1⟩)); clear ho; obtain ⟨As, cs, rfl⟩ := Kd.S_slice hs; have HRs := Aside0.mk (Kd.R_mono (ok' := fun k => w6.heap.size ≤ k) (Kd.R_bound (Kd.S_R hs)) (fun k hk => hk.2.1)); clear hs; have n_ := Aside0.mk (Kd.R_step HRL.out (fun k _ hk => hb.block k hk)); clear HRL; have HRL := n_; clear n_; have n_ := Aside0.mk (Kd.R_step HRC.out (fun k _ hk => hb.block k hk)); clear HRC; have HRC := n_; clear n_; have n_ := Aside0.mk (Kd.R_step HRf.out (fun k _ hk => hb.block k hk)); clear HRf; have HRf := n_; clear n_; have n_ := Aside0.mk (Kd.R_step HRg.out (fun k _ hk => hb.block k hk)); clear HRg; have HRg := n_; clear n_; have n_ := Aside0.mk (Kd.R_step HRc.out (fun k _ hk => hb.block k hk)); clear HRc; have HRc := n_; clear n_; have HW7 := Aside0.mk hb.size; have n_ := Aside0.mk (below_step (by repeat (first | (with_reducible first | exact HB.out | apply below_alloc | apply pw_below_drewN | apply below_drew1) | exact HB.out)) hb); clear HB; have HB := n_; clear n_ hb))
  refine (galloonlaw06_ints.calls k _ _ l _ _ lc true _ (by repeat (first | exact (Kd.R_reads' HRL.out).2.2 | (with_reducible refine Kd.C_alloc ?_ _) | (with_reducible refine Kd.C_drewN ?_ _) | (with_reducible refine Kd.C_drew ?_))) (Kd.R_reads' HRL.out).2.1 (by repeat (first | exact (Kd.R_reads' HRC.out).2.2 | (with_reducible refine Kd.C_alloc ?_ _) | (with_reducible refine Kd.C_drewN ?_ _) | (with_reducible refine Kd.C_drew ?_))) (Kd.R_reads' HRC.out).2.1 HI1.out).mono ?_
  rintro e w_ ⟨rfl, ⟨nd1, rfl⟩⟩
  dsimp only
  go_wp2_with (fail)
  refine (galloonlaw06_ints.calls k _ _ f _ _ fg true _ (by repeat (first | exact (Kd.R_reads' HRf.out).2.2 | (with_reducible refine Kd.C_alloc ?_ _) | (with_reducible refine Kd.C_drewN ?_ _) | (with_reducible refine Kd.C_drew ?_))) (Kd.R_reads' HRf.out).2.1 (by repeat (first | exact (Kd.R_reads' HRg.out).2.2 | (with_reducible refine Kd.C_alloc ?_ _) | (with_reducible refine Kd.C_drewN ?_ _) | (with_reducible refine Kd.C_drew ?_))) (Kd.R_reads' HRg.out).2.1 HI2.out).mono ?_
  rintro e w_ ⟨rfl, ⟨nd2, rfl⟩⟩
  dsimp only
  go_wp2_with (fail)
  obtain ⟨innerp, hownp⟩ := Kd.R_own HRp.out
  obtain ⟨bp, curp, rfl, hbp, hpp, hpsz⟩ : ∃ (bp : Nat) (curp : Array Value), Ap = some ⟨bp, 0, none⟩ ∧ w6.heap.size ≤ bp ∧ w7.heap[bp]? = some (.cells curp 35 (0, 0)) ∧ ps.length * 2 ≤ curp.size := by
    rcases hownp.2 with ⟨_, h0⟩ | ⟨g, cap, cur, hv, hb0, hh, hl, _, hs, _⟩
    · have := HN.out.2.2.1; omega
    · cases hv
      exact ⟨g, cur, rfl, hb0, hh, by rw [hs]; exact Nat.mul_le_mul_right 2 hl⟩
  have HPS := Aside0.mk hpsz
  have HBP := Aside0.mk hbp
  clear hownp hpsz hbp
  have HW := Aside0.mk (⟨HW1.out, HW2.out, HW3.out, HW4.out, HW5.out, HW6.out, HW7.out⟩ : w.heap.size ≤ w1.heap.size ∧ w1.heap.size ≤ w2.heap.size ∧ w2.heap.size ≤ w3.heap.size ∧ w3.heap.size ≤ w4.heap.size ∧ w4.heap.size ≤ w5.heap.size ∧ w5.heap.size ≤ w6.heap.size ∧ w6.heap.size ≤ w7.heap.size)
  go_loopg [15] ps.length (fun gg u15 wr => ∃ (i : Nat) (cur : Array Value), u15 = .int .i64 (i : Int) ∧ Aside0 (i ≤ ps.length ∧ ps.length - i ≤ gg) ∧ Aside0 (wr.heap[bp]? = some (.cells cur 35 (0, 0)) ∧ ps.length * 2 ≤ cur.size) ∧ Aside0 ((Kd.int .i64).R 3 wr w.heap.size (fun k => w.heap.size ≤ k ∧ k < w1.heap.size) (.slice AL l.length cL) l) ∧ Aside0 ((Kd.int .i64).R 3 wr w1.heap.size (fun k => w1.heap.size ≤ k ∧ k < w2.heap.size) (.slice AC lc.length cC) lc) ∧ Aside0 ((Kd.int .i64).R 3 wr w2.heap.size (fun k => w2.heap.size ≤ k ∧ k < w3.heap.size) (.slice Af f.length cf) f) ∧ Aside0 ((Kd.int .i64).R 3 wr w3.heap.size (fun k => w3.heap.size ≤ k ∧ k < w4.heap.size) (.slice Ag fg.length cg) fg) ∧ Aside0 ((Kd.int .i64).R 3 wr w4.heap.size (fun k => w4.heap.size ≤ k ∧ k < w5.heap.size) (.slice Ac fm.length cc) fm) ∧ Aside0 ((Kd.slice 3 (Kd.int .i64)).R 22 wr w6.heap.size (fun k => w6.heap.size ≤ k) (.slice As fs.length cs) fs) ∧ Aside0 (w7.heap.size ≤ wr.heap.size) ∧ Aside0 (Below w.heap.size w wr))
  case atStart => exact ⟨0, curp, rfl, ⟨by omega, by omega⟩, ⟨hpp, HPS.out⟩, ⟨Kd.R_drewN HRL.out _⟩, ⟨Kd.R_drewN HRC.out _⟩, ⟨Kd.R_drewN HRf.out _⟩, ⟨Kd.R_drewN HRg.out _⟩, ⟨Kd.R_drewN HRc.out _⟩, ⟨Kd.R_drewN HRs.out _⟩, ⟨Nat.le_refl _⟩, ⟨pw_below_drewN HB.out _⟩⟩
  case round => as_aux_lemma =>
    obtain ⟨i, cur, rfl, HI, HP, HRL, HRC, HRf, HRg, HRc, HRs, HSZ, HB⟩ := hrel
    have hp12 := HN.out.2.2.2.1
    by_cases hlt : i < ps.length
    · as_aux_lemma =>
      have hz : decide ((i : Int) < (ps.length : Int)) = true := decide_eq_true (by omega)
      have hi0 : 0 ≤ (i : Int) := Int.natCast_nonneg i
      have hi1 : (i : Int) < (ps.length : Int) := by omega
      have hcsz := HP.out.2
      obtain ⟨u0, hc0⟩ : ∃ u, wr.cell? ⟨bp, i * 2, none⟩ = some u := ⟨cur[i * 2]'(by omega), by rw [cell_of_row wr bp (i * 2) cur 35 (0, 0) HP.out.1]; simp [show i * 2 < cur.size by omega]⟩
      obtain ⟨u1, hc1⟩ : ∃ u, wr.cell? ⟨bp, i * 2 + 1, none⟩ = some u := ⟨cur[i * 2 + 1]'(by omega), by rw [cell_of_row wr bp (i * 2 + 1) cur 35 (0, 0) HP.out.1]; simp [show i * 2 + 1 < cur.size by omega]⟩
      have hf0 := frozen_of_row wr bp (i * 2) cur 35 HP.out.1
      have hf1 := frozen_of_row wr bp (i * 2 + 1) cur 35 HP.out.1
      clear hcsz
      go_wp2
      have h1 := heap_setCell_same wr bp (i * 2) cur 35 (.int .i64 (-7)) HP.out.1
      have h2 := heap_setCell_same _ bp (i * 2 + 1) _ 35 (.int .i64 (-7)) h1
      have hwb : w.heap.size ≤ bp := by have := HW.out; have := HBP.out; omega
      go_roundg (ps.length - (i + 1))
      case measure => have := HI.out; omega
      case rel => exact ⟨i + 1, _, by push_cast; rfl, ⟨by omega, by have := HI.out; omega⟩, ⟨h2, by simpa using HP.out.2⟩, ⟨Kd.R_set (Kd.R_set HRL.out HP.out.1 (by decide) _ _) h1 (by decide) _ _⟩, ⟨Kd.R_set (Kd.R_set HRC.out HP.out.1 (by decide) _ _) h1 (by decide) _ _⟩, ⟨Kd.R_set (Kd.R_set HRf.out HP.out.1 (by decide) _ _) h1 (by decide) _ _⟩, ⟨Kd.R_set (Kd.R_set HRg.out HP.out.1 (by decide) _ _) h1 (by decide) _ _⟩, ⟨Kd.R_set (Kd.R_set HRc.out HP.out.1 (by decide) _ _) h1 (by decide) _ _⟩, ⟨Kd.R_set (Kd.R_set HRs.out HP.out.1 (by decide) _ _) h1 (by decide) _ _⟩, ⟨by simpa [World.setCell] using HSZ.out⟩, ⟨(HB.out.setCell (p := ⟨bp, i * 2, none⟩) hwb _).setCell (p := ⟨bp, i * 2 + 1, none⟩) hwb _⟩⟩
    · as_aux_lemma =>
      have hz : decide ((i : Int) < (ps.length : Int)) = false := decide_eq_false (by omega)
      have HR8 := Aside0.mk (lit_R (ok := (fun k => (w2.heap.size ≤ k ∧ k < w3.heap.size) ∨ w4.heap.size ≤ k)) (okp := fun k => ((w2.heap.size ≤ k ∧ k < w3.heap.size) ∨ w4.heap.size ≤ k) ∧ k < wr.heap.size) (base := w.heap.size) (Kd.R_lower (Kd.R_mono (Kd.R_bound HRf.out) (fun k hk => ⟨.inl hk.1, hk.2.2.1⟩)) (by have := HW.out; omega)) (Kd.R_lower (Kd.R_mono (Kd.R_bound HRc.out) (fun k hk => ⟨.inr hk.1.1, hk.2.2.1⟩)) (by have := HW.out; omega)) (fun k hk => hk.1) (fun k hk => hk.2) (.inr (by have := HW.out; have := HSZ.out; omega)) HB.out.size)
      have HB8 := Aside0.mk (below_alloc HB.out (.cells #[.slice Af f.length cf, .slice Ac fm.length cc] 22))
      go_wp2_with (((with_reducible refine gate_builtin (b := .append) (xs := #[.tmp 91, .tmp 92]) rfl ?_); at_builtin; refine Kd.R_append_rows (Kd.slice 3 (Kd.int .i64)) (Rr := (Kd.slice 3 (Kd.int .i64)).M (wr.alloc (.cells #[.slice Af f.length cf, .slice Ac fm.length cc] 22)) w6.heap.size (fun k => w6.heap.size ≤ k ∧ k < wr.heap.size)) (w0 := w) w.heap.size rfl (.tmp 91) (.tmp 92) 31 22 (.slice none 0 0) 24 rfl Try.underlying31 info22 rfl (by decide) (by omega) (.slice (some ⟨wr.heap.size, 0, none⟩) 2 2) [f, fm] fs As fs.length cs (fun k => (w2.heap.size ≤ k ∧ k < w3.heap.size) ∨ w4.heap.size ≤ k) (fun k => w6.heap.size ≤ k ∧ k < wr.heap.size) rfl rfl HR8.out ?aR ?aK ?aO ?aF HB8.out ?aS ?aL ?_; (case aR => exact rows_of_R (Kd.R_step (Kd.R_mono (ok' := fun k => w6.heap.size ≤ k ∧ k < wr.heap.size) (Kd.R_bound HRs.out) (fun k hk => ⟨hk.1, hk.2.2.1⟩)) (fun k hk hk2 => Below.heap_alloc wr _ k hk2)) rfl); (case aK => intro x cs_ hx; exact (Kd.slice 3 (Kd.int .i64)).M_lower (by have := HW.out; omega) hx); (case aO => intro k hk; exact ⟨.inr (by have := HW.out; omega), by intro e_; injection e_ with e_; simp at e_; omega⟩); (case aF => intro k hk; simp at hk; have := HW.out; have := HSZ.out; exact .inr (by omega)); (case aS => exact HB8.out.size); (case aL => have := HN.out.2.1; simp; omega); intro v93 w9 ho9 hb9 hg9 hat9; have HR9 := Aside0.mk ho9; have HG9 := Aside0.mk hg9; clear HB; have HB := Aside0.mk hb9; clear ho9 hb9 hg9 hat9))
      have HL9 := Aside0.mk (Kd.R_step (w1 := w9) HRL.out (fun k _ hk => grown_keep HG9.out k hk))
      have HC9 := Aside0.mk (Kd.R_step (w1 := w9) HRC.out (fun k _ hk => grown_keep HG9.out k hk))
      have Hg9 := Aside0.mk (Kd.R_step (w1 := w9) HRg.out (fun k _ hk => grown_keep HG9.out k hk))
      clear HRL HRC HRg HRf HRc HRs HR8 HG9 HP HB8
      obtain ⟨rows, hrows⟩ : ∃ rows, rows = [f, fm] ++ fs := ⟨_, rfl⟩
      have HRW : Aside0 (0 < rows.length ∧ rows.length ≤ 1002 ∧ ∀ r ∈ rows, r.length ≤ 1000) := ⟨by
        have hn := HN.out
        rw [hrows]
        refine ⟨by simp, by simp; omega, fun r hr => ?_⟩
        rcases List.mem_append.1 hr with hr | hr
        · rcases List.mem_cons.1 hr with rfl | hr
          · exact hn.2.2.2.2.2.1
          · rw [List.mem_singleton.1 hr]; exact hn.2.2.2.2.2.2
        · exact hn.2.2.2.2.1 r hr⟩
      have HR10 := HR9.out
      rw [← hrows] at HR10
      obtain ⟨X, cX, curX, rfl, hX⟩ := OwInv.of_R HR10 HRW.out.1
      have HX9 := Aside0.mk hX
      clear hX HR10 HR9 hrows
      go_loopg [17] rows.length (fun gg u17 wr => ∃ i : Nat, u17 = .int .i64 (i : Int) ∧ Aside0 (i ≤ rows.length ∧ rows.length - i ≤ gg) ∧ Aside0 (OwInv (fun k => (w2.heap.size ≤ k ∧ k < w3.heap.size) ∨ w4.heap.size ≤ k) X curX rows wr) ∧ Aside0 ((Kd.int .i64).R 3 wr w.heap.size (fun k => w.heap.size ≤ k ∧ k < w1.heap.size) (.slice AL l.length cL) l) ∧ Aside0 ((Kd.int .i64).R 3 wr w1.heap.size (fun k => w1.heap.size ≤ k ∧ k < w2.heap.size) (.slice AC lc.length cC) lc) ∧ Aside0 ((Kd.int .i64).R 3 wr w3.heap.size (fun k => w3.heap.size ≤ k ∧ k < w4.heap.size) (.slice Ag fg.length cg) fg) ∧ Aside0 (Below w.heap.size w wr))
      case atStart => exact ⟨0, rfl, ⟨by omega, by omega⟩, HX9, HL9, HC9, Hg9, HB⟩
      case round => as_aux_lemma =>
        obtain ⟨i, rfl, HI, HX, HRL, HRC, HRg, HB⟩ := hrel
        have hr2 := HRW.out.2.1
        by_cases hlt : i < rows.length
        · as_aux_lemma =>
          have hz : decide ((i : Int) < (rows.length : Int)) = true := decide_eq_true (by omega)
          have hi0 : 0 ≤ (i : Int) := Int.natCast_nonneg i
          have hi1 : (i : Int) < (rows.length : Int) := by omega
          obtain ⟨r, hr⟩ : ∃ r, rows[i]? = some r := ⟨_, List.getElem?_eq_getElem hlt⟩
          have hrl := HRW.out.2.2 r (List.mem_of_getElem? hr)
          obtain ⟨Ai, ci, hci, _⟩ := HX.out.row i r hr
          have HCI := Aside0.mk hci
          have HRI := Aside0.mk hr
          have hcell := (cell_of_row wr X i curX 22 (0, 0) HX.out.head).trans hci
          clear hci hr
          go_wp2
          go_loopg [18] r.length (fun gg u18 wr => ∃ j : Nat, u18 = .int .i64 (j : Int) ∧ Aside0 (j ≤ r.length ∧ r.length - j ≤ gg) ∧ Aside0 (OwInv (fun k => (w2.heap.size ≤ k ∧ k < w3.heap.size) ∨ w4.heap.size ≤ k) X curX rows wr) ∧ Aside0 ((Kd.int .i64).R 3 wr w.heap.size (fun k => w.heap.size ≤ k ∧ k < w1.heap.size) (.slice AL l.length cL) l) ∧ Aside0 ((Kd.int .i64).R 3 wr w1.heap.size (fun k => w1.heap.size ≤ k ∧ k < w2.heap.size) (.slice AC lc.length cC) lc) ∧ Aside0 ((Kd.int .i64).R 3 wr w3.heap.size (fun k => w3.heap.size ≤ k ∧ k < w4.heap.size) (.slice Ag fg.length cg) fg) ∧ Aside0 (Below w.heap.size w wr))
          case atStart => exact ⟨0, rfl, ⟨by omega, by omega⟩, HX, HRL, HRC, HRg, HB⟩
          case round => as_aux_lemma =>
            clear hcell HX HRL HRC HRg HB
            obtain ⟨j, rfl, HJ, HX, HRL, HRC, HRg, HB⟩ := hrel
            have hcell := (cell_of_row _ X i curX 22 (0, 0) HX.out.head).trans HCI.out
            by_cases hjt : j < r.length
            · as_aux_lemma =>
              have hjz : decide ((j : Int) < (r.length : Int)) = true := decide_eq_true (by omega)
              have hj0 : 0 ≤ (j : Int) := Int.natCast_nonneg j
              have hj1 : (j : Int) < (r.length : Int) := by omega
              obtain ⟨A', c', h1, h2⟩ := HX.out.row i r HRI.out
              rw [HCI.out] at h1
              injection h1 with h1
              injection h1 with h1 _ _
              subst h1
              rcases h2 with h2 | ⟨b, cur, rfl, h3, h4, h5⟩
              · omega
              have HBK := Aside0.mk h3
              have HOK := Aside0.mk h5
              obtain ⟨u0, hc0⟩ : ∃ u, wr.cell? ⟨b, j, none⟩ = some u := ⟨cur[j]'(by omega), by rw [cell_of_row _ b j cur 3 (0, 0) h3]; simp [show j < cur.size by omega]⟩
              have hf0 := frozen_of_row _ b j cur 3 h3
              clear h3 h4 h5
              go_wp2
              have hwb : w.heap.size ≤ b := by have h1 := HW.out; have h2 := HOK.out; omega
              go_roundg (r.length - (j + 1))
              case measure => have := HJ.out; omega
              case rel => exact ⟨j + 1, by push_cast; rfl, ⟨by omega, by have := HJ.out; omega⟩, ⟨HX.out.set HBK.out j _⟩, ⟨Kd.R_far (p := ⟨b, j, none⟩) HRL.out (fun k hk => by have h1 := HW.out; have h2 := HOK.out; have h3 := hk; show k ≠ b; omega) _⟩, ⟨Kd.R_far (p := ⟨b, j, none⟩) HRC.out (fun k hk => by have h1 := HW.out; have h2 := HOK.out; have h3 := hk; show k ≠ b; omega) _⟩, ⟨Kd.R_far (p := ⟨b, j, none⟩) HRg.out (fun k hk => by have h1 := HW.out; have h2 := HOK.out; have h3 := hk; show k ≠ b; omega) _⟩, ⟨HB.out.setCell (p := ⟨b, j, none⟩) hwb _⟩⟩
            · as_aux_lemma =>
              have hjz : decide ((j : Int) < (r.length : Int)) = false := decide_eq_false (by omega)
              go_wp2
              go_roundg (rows.length - (i + 1))
              case measure => have := HI.out; omega
              case rel => exact ⟨i + 1, by push_cast; rfl, ⟨by omega, by have := HI.out; omega⟩, HX, HRL, HRC, HRg, HB⟩
        · as_aux_lemma =>
          have hz : decide ((i : Int) < (rows.length : Int)) = false := decide_eq_false (by omega)
          go_wp2_with (first | ((with_reducible refine gate_callee (f := 9) rfl ?_); refine goesL_ (some 118) rfl rfl Try.func9 (by kernel_rfl) rfl #[.int .i64 (wrap64 (2 + t)), .slice AL l.length cL] rfl (by (try simp only [List.map_toArray, List.map_cons, List.map_nil]); first | done | rfl | (simp only [List.length_drop, List.length_take]; rfl)) ?_; (with_reducible refine (shuffle_Values.calls k _ _ _ l f 0 _ ?side1 ?side2 HV.out).mono ?_); (case side1 => exact (by repeat (first | exact (Kd.R_reads' HRL.out).2.2 | (with_reducible refine Kd.C_alloc ?_ _) | (with_reducible refine Kd.C_drewN ?_ _) | (with_reducible refine Kd.C_drew ?_)))); (case side2 => exact (Kd.R_reads' HRL.out).2.1); rintro e wa ⟨v_, rfl, ho, hb⟩; refine ⟨_, rfl, ?_⟩; obtain ⟨AG, cG, rfl⟩ := Kd.R_slice ho; have HRG := Aside0.mk ho; clear ho; have n_ := Aside0.mk (Kd.R_step HRL.out (fun k _ hk => hb.block k hk)); clear HRL; have HRL := n_; clear n_; have n_ := Aside0.mk (Kd.R_step HRC.out (fun k _ hk => hb.block k hk)); clear HRC; have HRC := n_; clear n_; have n_ := Aside0.mk (Kd.R_step HRg.out (fun k _ hk => hb.block k hk)); clear HRg; have HRg := n_; clear n_; have HWA := Aside0.mk hb.size; have n_ := Aside0.mk (below_step (by repeat (first | (with_reducible first | exact HB.out | apply below_alloc | apply pw_below_drewN | apply below_drew1) | exact HB.out)) hb); clear HB; have HB := n_; clear n_ hb) | ((with_reducible refine gate_callee (f := 12) rfl ?_); refine goesL_ (some 124) rfl rfl Try.func12 (by kernel_rfl) rfl #[.int .i64 (wrap64 (2 + t)), .slice AL l.length cL] rfl (by (try simp only [List.map_toArray, List.map_cons, List.map_nil]); first | done | rfl | (simp only [List.length_drop, List.length_take]; rfl)) ?_; (with_reducible refine (shuffle_Split.calls k _ _ _ l ps fs 0 _ ?side1 ?side2 HS.out).mono ?_); (case side1 => exact (by repeat (first | exact (Kd.R_reads' HRL.out).2.2 | (with_reducible refine Kd.C_alloc ?_ _) | (with_reducible refine Kd.C_drewN ?_ _) | (with_reducible refine Kd.C_drew ?_)))); (case side2 => exact (Kd.R_reads' HRL.out).2.1); rintro e wb ⟨v_, v2_, rfl, ho, hs, hb⟩; refine ⟨_, rfl, ?_⟩; obtain ⟨Ap2, cp2, rfl⟩ := Kd.R_slice ho; obtain ⟨As2, cs2, rfl⟩ := Kd.S_slice hs; have HRs2 := Aside0.mk (Kd.S_R hs); clear hs ho; have n_ := Aside0.mk (Kd.R_step HRL.out (fun k _ hk => hb.block k hk)); clear HRL; have HRL := n_; clear n_; have n_ := Aside0.mk (Kd.R_step HRC.out (fun k _ hk => hb.block k hk)); clear HRC; have HRC := n_; clear n_; have n_ := Aside0.mk (Kd.R_step HRg.out (fun k _ hk => hb.block k hk)); clear HRg; have HRg := n_; clear n_; have n_ := Aside0.mk (Kd.R_step HRG.out (fun k _ hk => hb.block k hk)); clear HRG; have HRG := n_; clear n_; have HWB := Aside0.mk hb.size; have n_ := Aside0.mk (below_step (by repeat (first | (with_reducible first | exact HB.out | apply below_alloc | apply pw_below_drewN | apply below_drew1) | exact HB.out)) hb); clear HB; have HB := n_; clear n_ hb))
          obtain ⟨X2, A0, c0, rfl, hcell0, hle0, hC0⟩ := head_row HRs2.out rfl HN.out.1
          obtain ⟨r0, hr0⟩ : ∃ r0, fs.getD 0 [] = r0 := ⟨_, rfl⟩
          have hLi0 := HLi.out
          rw [hr0] at hcell0 hle0 hC0 hLi0
          have HLI := Aside0.mk hLi0
          clear hr0 hLi0
          have HC00 := Aside0.mk hC0
          have HLE0 := Aside0.mk hle0
          have HPF := HN.out.1
          clear hC0 hle0 HRs2
          refine (galloonlaw06_ints.calls k _ _ l _ _ lc true _ (by repeat (first | exact (Kd.R_reads' HRL.out).2.2 | (with_reducible refine Kd.C_alloc ?_ _) | (with_reducible refine Kd.C_drewN ?_ _) | (with_reducible refine Kd.C_drew ?_))) (Kd.R_reads' HRL.out).2.1 (by repeat (first | exact (Kd.R_reads' HRC.out).2.2 | (with_reducible refine Kd.C_alloc ?_ _) | (with_reducible refine Kd.C_drewN ?_ _) | (with_reducible refine Kd.C_drew ?_))) (Kd.R_reads' HRC.out).2.1 HI1.out).mono ?_
          rintro e w_ ⟨rfl, ⟨nd3, rfl⟩⟩
          dsimp only
          go_wp2_with (fail)
          refine (galloonref06_Values.calls k _ _ _ lc v _ (by repeat (first | exact (Kd.R_reads' HRC.out).2.2 | (with_reducible refine Kd.C_alloc ?_ _) | (with_reducible refine Kd.C_drewN ?_ _) | (with_reducible refine Kd.C_drew ?_))) (Kd.R_reads' HRC.out).2.1 HRV.out).mono ?_
          rintro e wc ⟨v_, rfl, ho, hb⟩
          obtain ⟨Av, cv, rfl⟩ := Kd.R_slice ho
          have HRv := Aside0.mk ho
          have n_ := Aside0.mk (Kd.R_step HRG.out (fun k _ hk => hb.block k hk)); clear HRG; have HRG := n_; clear n_
          have n_ := Aside0.mk (Kd.C_below (by repeat (first | exact HC00.out | (with_reducible refine Kd.C_drewN ?_ _))) hb); clear HC00; have HC00 := n_; clear n_
          have hc_ := (hb.cell (World.block_lt_of_cell? _ _ hcell0)).trans hcell0; clear hcell0; have hcell0 := hc_; clear hc_
          have n_ := Aside0.mk (below_step (by repeat (first | (with_reducible first | exact HB.out | apply below_alloc | apply pw_below_drewN | apply below_drew1) | exact HB.out)) hb); clear HB; have HB := n_; clear n_ hb ho
          dsimp only
          go_wp2_with (fail)
          refine (galloonlaw06_ints.calls k _ _ f _ _ v true _ (by repeat (first | exact (Kd.R_reads' HRG.out).2.2 | (with_reducible refine Kd.C_alloc ?_ _) | (with_reducible refine Kd.C_drewN ?_ _) | (with_reducible refine Kd.C_drew ?_))) (Kd.R_reads' HRG.out).2.1 (by repeat (first | exact (Kd.R_reads' HRv.out).2.2 | (with_reducible refine Kd.C_alloc ?_ _) | (with_reducible refine Kd.C_drewN ?_ _) | (with_reducible refine Kd.C_drew ?_))) (Kd.R_reads' HRv.out).2.1 HI3.out).mono ?_
          rintro e w_ ⟨rfl, ⟨nd4, rfl⟩⟩
          have hfz : decide ((fs.length : Int) > 0) = true := decide_eq_true (by omega)
          have hf0 : (0 : Int) < (fs.length : Int) := by omega
          dsimp only
          go_wp2_with (fail)
          refine (galloonref06_Listed.calls k _ _ _ r0 true _ (by repeat (first | exact HC00.out | (with_reducible refine Kd.C_alloc ?_ _) | (with_reducible refine Kd.C_drewN ?_ _) | (with_reducible refine Kd.C_drew ?_))) HLE0.out HLI.out).mono ?_
          rintro e w_ ⟨rfl, ⟨nd5, rfl⟩⟩
          dsimp only
          go_wp2_with (fail)
          refine (galloonlaw06_awake.calls k true _ HAw.out).mono ?_
          rintro e wz ⟨rfl, hb⟩
          have HB2 := Aside0.mk (below_step (by repeat (first | (with_reducible first | exact HB.out | apply below_alloc | apply pw_below_drewN | apply below_drew1) | exact HB.out)) hb)
          clear HB hb
          dsimp only
          go_wp2
          go_ret
          exact ⟨rfl, HB2.out⟩

def galloonlaw06_ShuffleOwn.Pure : Prop := ∀ (a0 : Int) (l1 : List Int), (Lit.int .i64 a0).wf = true → l1.length ≤ maxLen → l1.length * 8 ≤ 140737488351232 → (∀ x ∈ l1, (Lit.int .i64 x).wf = true) → ∃ k, galloonlaw06_ShuffleOwn.Ok k a0 l1
theorem galloonlaw06_ShuffleOwn.walk (P : galloonlaw06_ShuffleOwn.Pure) (a0 : Int) (a1 : Option Addr) (len1 cap1 : Nat) (z1 : List Int) (w : World) (w0 : (Lit.int .i64 a0).wf = true) (w1 : (a1 = none ∧ len1 = 0 ∧ cap1 = 0 ∧ z1 = []) ∨ ∃ x, a1 = some x ∧ len1 ≤ cap1 ∧ cap1 ≤ maxLen ∧ z1.length = cap1 ∧ (∀ i, i < z1.length → w.cell? (x.add i) = some (.int .i64 (z1.getD i 0))) ∧ ∀ n ∈ z1, (Lit.int .i64 n).wf = true) (y1 : len1 * 8 ≤ 140737488351232) :
    Calls Try.prog 3 #[.int .i64 a0, .slice a1 len1 cap1] w fun e w' => e = .returned (.bool true) ∧ Below w.heap.size w w' := by
  obtain ⟨l1, rfl, hr1, hm1, hw1, hc1⟩ := ReadsInt.ofRowC w1
  obtain ⟨k, h⟩ := P a0 l1 w0 hm1 y1 hw1
  exact galloonlaw06_ShuffleOwn.calls k a0 _ _ l1 w (Kd.C_of_reads (d := (0 : Int)) (h1 := fun _ => rfl) hr1) hc1 h

end Go.Proofs.Ytpkmmbicpijgpaa.O
