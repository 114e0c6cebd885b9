-- ShuffleInverted (5).
import Derived.Test.YtpkmmbicpijgpaaFx7
import Derived.Test.YtpkmmbicpijgpaaFx4
namespace Go.Proofs.Ytpkmmbicpijgpaa.F
open Go.RowKit Go.Shelf Go.Proofs.YtpkmmbicpijgpaaW.PrintWords Go.Proofs.YtpkmmbicpijgpaaW.PrintLast Go.Proofs.YtpkmmbicpijgpaaW.PrintMore
attribute [local go_sem] max2_int min2_int max_two min_two max_three min_three max_four min_four
set_option linter.unusedVariables false
set_option linter.unusedSimpArgs false

def galloonlaw06_ShuffleInverted.Head (k : Nat) (a0 : Int) (l1 : List Int) (t : Int) (l f : List Int) (x y : Int) : Prop := galloonlaw06_mod.f a0 63 = some t ∧ galloonlaw06_tame.f k (wrap64 (2 + t)) l1 = some l ∧ shuffle_Values.f k (wrap64 (2 + t)) l = some (f, 0) ∧ shuffle_Permutes.f k (wrap64 (2 + t)) l = some (x, y, 0) ∧ galloonref06_Function.f k (wrap64 (2 + t)) f = some true ∧ galloonlaw06_awake.f k = some true
/-- Two places with the same value. -/
def galloonlaw06_ShuffleInverted.OkA (k : Nat) (a0 : Int) (l1 : List Int) : Prop := ∃ (t : Int) (l f : List Int) (x y : Int), galloonlaw06_ShuffleInverted.Head k a0 l1 t l f x y ∧ shuffle_Inverse.f k (wrap64 (2 + t)) f = some ([], 2) ∧ shuffle_Order.f k (wrap64 (2 + t)) f = some (0, 2) ∧ shuffle_Cycles.f k (wrap64 (2 + t)) f = some ([], 2) ∧
  0 ≤ x ∧ x < y ∧ y < wrap64 (2 + t) ∧ (f.length : Int) = wrap64 (2 + t) ∧ rd f x = rd f y
/-- A permutation. -/
def galloonlaw06_ShuffleInverted.OkB (k : Nat) (a0 : Int) (l1 : List Int) : Prop := ∃ (t : Int) (l f i c fm a : List Int) (n : Int) (S A : Nat → Int), galloonlaw06_ShuffleInverted.Head k a0 l1 t l f (-1) (-1) ∧ shuffle_Inverse.f k (wrap64 (2 + t)) f = some (i, 0) ∧ shuffle_Order.f k (wrap64 (2 + t)) f = some (n, 0) ∧ shuffle_Cycles.f k (wrap64 (2 + t)) f = some (c, 0) ∧
  shuffle_Order.f k (wrap64 (2 + t)) i = some (n, 0) ∧ shuffle_Cycles.f k (wrap64 (2 + t)) i = some (c, 0) ∧ shuffle_Form.f k (wrap64 (2 + t)) i = some (fm, 0) ∧ shuffle_After.f k (wrap64 (2 + t)) f i = some (a, 0) ∧ galloonlaw06_ints.f k c c = some true ∧ (a.length : Int) = wrap64 (2 + t) ∧ a.length ≤ 1000 ∧ (∀ j : Nat, j < a.length → rd a (j : Int) = (j : Int)) ∧
  c.length ≤ 1000 ∧ (∀ j : Nat, j < c.length → 1 ≤ rd c (j : Int) ∧ rd c (j : Int) ≤ wrap64 (2 + t) ∧ (0 < j → rd c ((j - 1 : Nat) : Int) ≤ rd c (j : Int))) ∧ S 0 = 0 ∧ A 0 = 1 ∧ (∀ j : Nat, j < c.length → S (j + 1) = wrap64 (S j + rd c (j : Int)) ∧ ∃ g, galloonref06_Gcd.f k (A j) (rd c (j : Int)) = some g ∧ g ≠ 0 ∧ A (j + 1) = wrap64 (wrap64 (Int.tdiv (A j) g) * rd c (j : Int))) ∧ S c.length = wrap64 (2 + t) ∧ A c.length = n
def galloonlaw06_ShuffleInverted.T11 : Bool × List (List Nat × List Nat) := (true, [([], []), ([], []), ([0, 1], [0, 1]), ([2], [2]), ([3], [3]), ([3], [3]), ([4, 5, 3], [3, 4, 5]), ([3, 6], [3, 6]), ([7, 3], [7]), ([8], [8]), ([8], [8]), ([9, 10, 8], [8, 9, 10]), ([11, 8], [8, 11]), ([8], [8]), ([8], [8]), ([13, 14, 8], [8, 13, 14]), ([15, 8], [8, 15]), ([12, 16, 8], [8, 12, 16]), ([8, 17], [8, 17]), ([18, 8], [18]), ([19], [19]), ([20, 19], [19, 20]), ([19, 21], [19, 21]), ([22, 19], [22]), ([23], [23]), ([24, 23], [23, 24]), ([23, 25], [23, 25]), ([26, 23], [26]), ([27], [27]), ([28, 27], [27, 28]), ([27, 29], [27, 29]), ([30, 27], [30]), ([31, 31], [31]), ([31, 32], [31, 32]), ([33, 32, 0, 1, 2, 3, 4, 5, 6, 7, 8, 9, 10, 11, 12, 13, 14, 15, 16, 17, 18, 19, 20, 21, 22, 23, 24, 25, 26, 27, 28, 29, 30, 31, 32, 33], [33])])
def galloonlaw06_ShuffleInverted.B11 : List Nat := [0, 0, 3, 7, 15, 15, 63, 127, 255, 511, 511, 2047, 4095, 511, 511, 25087, 57855, 131071, 262143, 524287, 1048575, 2097151, 4194303, 8388607, 16777215, 33554431, 67108863, 134217727, 268435455, 536870911, 1073741823, 2147483647, 4294967295, 8589934591, 17179869183]
theorem galloonlaw06_ShuffleInverted.tab11 : rtab .any (opsOf Try.f5 11) = galloonlaw06_ShuffleInverted.T11 := by kernel_rfl
theorem galloonlaw06_ShuffleInverted.bits11 : waitsOk galloonlaw06_ShuffleInverted.T11.2 galloonlaw06_ShuffleInverted.B11 = true := by kernel_rfl
def galloonlaw06_ShuffleInverted.T22 : Bool × List (List Nat × List Nat) := (true, [([], []), ([], []), ([0, 1], [0, 1]), ([2], [2]), ([3], [3]), ([4], [4]), ([5], [5]), ([5], [5]), ([6, 7, 5], [5, 6, 7]), ([8, 5], [5, 8]), ([5], [5]), ([9, 10, 5], [5, 9, 10]), ([5, 11], [5, 11]), ([12, 5], [12]), ([13], [13]), ([14, 13], [13, 14]), ([15, 13, 13], [13, 15]), ([16], [16]), ([16], [16]), ([18, 16], [16, 18]), ([17, 19, 16], [16, 17, 19]), ([20, 16], [16, 20]), ([16], [16]), ([16], [16]), ([22, 23, 16], [16, 22, 23]), ([24, 16], [16, 24]), ([21, 25, 16], [16, 21, 25]), ([16, 26, 13], [13, 16, 26]), ([13, 27], [13, 27])])
def galloonlaw06_ShuffleInverted.B22 : List Nat := [0, 0, 3, 7, 15, 31, 63, 63, 255, 511, 63, 2047, 4095, 8191, 16383, 32767, 65535, 131071, 131071, 393215, 1048575, 2097151, 131071, 131071, 12713983, 29491199, 67108863, 134217727, 268435455]
theorem galloonlaw06_ShuffleInverted.tab22 : rtab .any (opsOf Try.f5 22) = galloonlaw06_ShuffleInverted.T22 := by kernel_rfl
theorem galloonlaw06_ShuffleInverted.bits22 : waitsOk galloonlaw06_ShuffleInverted.T22.2 galloonlaw06_ShuffleInverted.B22 = true := by kernel_rfl
def galloonlaw06_ShuffleInverted.T25 : Bool × List (List Nat × List Nat) := (true, [([], []), ([], []), ([], []), ([], []), ([2, 3], [2, 3]), ([4], [4]), ([1, 5], [1, 5]), ([0, 6], [0, 6]), ([], []), ([], []), ([8, 9], [8, 9]), ([10], [10]), ([7, 11], [7, 11]), ([12, 6, 0, 1, 2, 3, 4, 5, 6, 7, 8, 9, 10, 11, 12], [0, 1, 12])])
def galloonlaw06_ShuffleInverted.B25 : List Nat := [0, 0, 0, 0, 12, 28, 62, 127, 0, 0, 768, 1792, 4095, 8191]
theorem galloonlaw06_ShuffleInverted.tab25 : rtab .any (opsOf Try.f5 25) = galloonlaw06_ShuffleInverted.T25 := by kernel_rfl
theorem galloonlaw06_ShuffleInverted.bits25 : waitsOk galloonlaw06_ShuffleInverted.T25.2 galloonlaw06_ShuffleInverted.B25 = true := by kernel_rfl

set_option maxHeartbeats 8000000 in
set_option maxRecDepth 100000 in
theorem galloonlaw06_ShuffleInverted.callsA (k : Nat) (a0 : Int) (A1 : Option Addr) (c1 : Nat) (l1 : List Int) (w : World) (hr1 : Kd.C (Kd.int .i64) w A1 l1.length l1) (hc1 : l1.length ≤ c1) (h : galloonlaw06_ShuffleInverted.OkA k a0 l1) :
    Calls Try.prog 5 #[.int .i64 a0, .slice A1 l1.length c1] w fun e w' => e = .returned (.bool true) ∧ Below w.heap.size w w' := by
  have hmix : Try.prog.follows .mixedOrders = true := by kernel_rfl
  obtain ⟨t, l, f, x, y, ⟨hT, hTa, hV, hPe, hFn, hAw⟩, hIv, hOr, hCy, hx0, hxy, hym, hfl, hxv⟩ := h
  have HR1 := Aside0.mk hr1
  have HC1 := Aside0.mk hc1
  have HT := Aside0.mk hT
  have HTa := Aside0.mk hTa
  have HV := Aside0.mk hV
  have HPe := Aside0.mk hPe
  have HFn := Aside0.mk hFn
  have HAw := Aside0.mk hAw
  have HIv := Aside0.mk hIv
  have HOr := Aside0.mk hOr
  have HCy := Aside0.mk hCy
  have HX := Aside0.mk (⟨hx0, hxy, hym, hfl, hxv⟩ : 0 ≤ x ∧ x < y ∧ y < wrap64 (2 + t) ∧ (f.length : Int) = wrap64 (2 + t) ∧ rd f x = rd f y)
  have HB := Aside0.mk (Below.refl w.heap.size w)
  have hx1 : (x == -1) = false := beq_eq_false_iff_ne.2 (by omega)
  have hy1 : (y == -1) = false := beq_eq_false_iff_ne.2 (by omega)
  have hx2 : decide (x ≥ 0) = true := decide_eq_true hx0
  have hx3 : decide (x < y) = true := decide_eq_true hxy
  have hx4 : decide (y < wrap64 (2 + t)) = true := decide_eq_true hym
  clear hr1 hc1 hx0 hxy hym hfl hxv hT hTa hV hPe hFn hAw hIv hOr hCy
  go_enter Try.func5, Try.ntmps5
  go_wp2_with (first | ((with_reducible refine gate_callee (f := 6) rfl ?_); refine goesL_ (some 30) rfl rfl Try.func6 (by kernel_rfl) rfl #[.int .i64 a0, .int .i64 63] rfl (by (try simp only [List.map_toArray, List.map_cons, List.map_nil]); first | done | rfl | (simp only [List.length_drop, List.length_take]; rfl)) ?_; (with_reducible refine (galloonlaw06_mod.calls a0 63 t _ HT.out).mono ?_); rintro e w_ ⟨rfl, ⟨nd, rfl⟩⟩; refine ⟨_, rfl, ?_⟩) | ((with_reducible refine gate_callee (f := 7) rfl ?_); refine goesL_ (some 34) rfl rfl Try.func7 (by kernel_rfl) rfl #[.int .i64 (wrap64 (2 + t)), .slice A1 l1.length c1] rfl (by (try simp only [List.map_toArray, List.map_cons, List.map_nil]); first | done | rfl | (simp only [List.length_drop, List.length_take]; rfl)) ?_; (with_reducible refine (galloonlaw06_tame.calls k (wrap64 (2 + t)) _ _ l1 l _ ?side1 ?side2 HTa.out).mono ?_); (case side1 => exact (by repeat (first | exact HR1.out | (with_reducible refine Kd.C_alloc ?_ _) | (with_reducible refine Kd.C_drewN ?_ _) | (with_reducible refine Kd.C_drew ?_)))); (case side2 => exact HC1.out); rintro e w_ ⟨v_, rfl, ho0, hb⟩; refine ⟨_, rfl, ?_⟩; obtain ⟨AL, cL, rfl⟩ := Kd.R_slice ho0; have n_ := Kd.R_reads' ho0; have HRL := Aside0.mk n_.2.2; have HCL := Aside0.mk n_.2.1; clear n_ ho0; have n_ := Aside0.mk (below_step (by repeat (first | (with_reducible first | exact HB.out | apply below_alloc | apply pw_below_drewN | apply below_drew1) | exact HB.out)) hb); clear HB; have HB := n_; clear n_ hb) | ((with_reducible refine gate_callee (f := 9) rfl ?_); refine goesL_ (some 38) rfl rfl Try.func9 (by kernel_rfl) rfl #[.int .i64 (wrap64 (2 + t)), .slice AL l.length cL] rfl (by (try simp only [List.map_toArray, List.map_cons, List.map_nil]); first | done | rfl | (simp only [List.length_drop, List.length_take]; rfl)) ?_; (with_reducible refine (shuffle_Values.calls k _ _ _ l f 0 _ ?side1 ?side2 HV.out).mono ?_); (case side1 => exact (by repeat (first | exact HRL.out | (with_reducible refine Kd.C_alloc ?_ _) | (with_reducible refine Kd.C_drewN ?_ _) | (with_reducible refine Kd.C_drew ?_)))); (case side2 => exact HCL.out); rintro e w_ ⟨v_, rfl, ho0, hb⟩; refine ⟨_, rfl, ?_⟩; obtain ⟨Af, cf, rfl⟩ := Kd.R_slice ho0; have n_ := Kd.R_reads' ho0; have HRf := Aside0.mk n_.2.2; have HCf := Aside0.mk n_.2.1; clear n_ ho0; have n_ := Aside0.mk (Kd.C_below (by repeat (first | exact HRL.out | (with_reducible refine Kd.C_alloc ?_ _) | (with_reducible refine Kd.C_drewN ?_ _) | (with_reducible refine Kd.C_drew ?_))) hb); clear HRL; have HRL := n_; clear n_; have n_ := Aside0.mk (below_step (by repeat (first | (with_reducible first | exact HB.out | apply below_alloc | apply pw_below_drewN | apply below_drew1) | exact HB.out)) hb); clear HB; have HB := n_; clear n_ hb) | ((with_reducible refine gate_callee (f := 27) rfl ?_); refine goesL_ (some 44) rfl rfl Try.func27 (by kernel_rfl) rfl #[.int .i64 (wrap64 (2 + t)), .slice AL l.length cL] rfl (by (try simp only [List.map_toArray, List.map_cons, List.map_nil]); first | done | rfl | (simp only [List.length_drop, List.length_take]; rfl)) ?_; (with_reducible refine (shuffle_Permutes.calls k _ _ _ l x y 0 _ ?side1 ?side2 HPe.out).mono ?_); (case side1 => exact (by repeat (first | exact HRL.out | (with_reducible refine Kd.C_alloc ?_ _) | (with_reducible refine Kd.C_drewN ?_ _) | (with_reducible refine Kd.C_drew ?_)))); (case side2 => exact HCL.out); rintro e w_ ⟨rfl, hb⟩; refine ⟨_, rfl, ?_⟩; have n_ := Aside0.mk (Kd.C_below (by repeat (first | exact HRL.out | (with_reducible refine Kd.C_alloc ?_ _) | (with_reducible refine Kd.C_drewN ?_ _) | (with_reducible refine Kd.C_drew ?_))) hb); clear HRL; have HRL := n_; clear n_; have n_ := Aside0.mk (Kd.C_below (by repeat (first | exact HRf.out | (with_reducible refine Kd.C_alloc ?_ _) | (with_reducible refine Kd.C_drewN ?_ _) | (with_reducible refine Kd.C_drew ?_))) hb); clear HRf; have HRf := n_; clear n_; have n_ := Aside0.mk (below_step (by repeat (first | (with_reducible first | exact HB.out | apply below_alloc | apply pw_below_drewN | apply below_drew1) | exact HB.out)) hb); clear HB; have HB := n_; clear n_ hb) | ((with_reducible refine gate_callee (f := 17) rfl ?_); refine goesL_ (some 51) rfl rfl Try.func17 (by kernel_rfl) rfl #[.int .i64 (wrap64 (2 + t)), .slice Af f.length cf] rfl (by (try simp only [List.map_toArray, List.map_cons, List.map_nil]); first | done | rfl | (simp only [List.length_drop, List.length_take]; rfl)) ?_; (with_reducible refine (shuffle_Inverse.calls k _ _ _ f [] 2 _ ?side1 ?side2 HIv.out).mono ?_); (case side1 => exact (by repeat (first | exact HRf.out | (with_reducible refine Kd.C_alloc ?_ _) | (with_reducible refine Kd.C_drewN ?_ _) | (with_reducible refine Kd.C_drew ?_)))); (case side2 => exact HCf.out); rintro e w_ ⟨v_, rfl, ho0, hb⟩; refine ⟨_, rfl, ?_⟩; obtain ⟨Ai, ci, rfl⟩ := Kd.R_slice ho0; have n_ := Kd.R_reads' ho0; have HRi := Aside0.mk n_.2.2; have HCi := Aside0.mk n_.2.1; clear n_ ho0; have n_ := Aside0.mk (Kd.C_below (by repeat (first | exact HRf.out | (with_reducible refine Kd.C_alloc ?_ _) | (with_reducible refine Kd.C_drewN ?_ _) | (with_reducible refine Kd.C_drew ?_))) hb); clear HRf; have HRf := n_; clear n_; have n_ := Aside0.mk (below_step (by repeat (first | (with_reducible first | exact HB.out | apply below_alloc | apply pw_below_drewN | apply below_drew1) | exact HB.out)) hb); clear HB; have HB := n_; clear n_ hb) | ((with_reducible refine gate_callee (f := 18) rfl ?_); refine goesL_ (some 57) rfl rfl Try.func18 (by kernel_rfl) rfl #[.int .i64 (wrap64 (2 + t)), .slice Af f.length cf] rfl (by (try simp only [List.map_toArray, List.map_cons, List.map_nil]); first | done | rfl | (simp only [List.length_drop, List.length_take]; rfl)) ?_; (with_reducible refine (shuffle_Order.calls k _ _ _ f 0 2 _ ?side1 ?side2 HOr.out).mono ?_); (case side1 => exact (by repeat (first | exact HRf.out | (with_reducible refine Kd.C_alloc ?_ _) | (with_reducible refine Kd.C_drewN ?_ _) | (with_reducible refine Kd.C_drew ?_)))); (case side2 => exact HCf.out); rintro e w_ ⟨rfl, hb⟩; refine ⟨_, rfl, ?_⟩; have n_ := Aside0.mk (Kd.C_below (by repeat (first | exact HRf.out | (with_reducible refine Kd.C_alloc ?_ _) | (with_reducible refine Kd.C_drewN ?_ _) | (with_reducible refine Kd.C_drew ?_))) hb); clear HRf; have HRf := n_; clear n_; have n_ := Aside0.mk (Kd.C_below (by repeat (first | exact HRi.out | (with_reducible refine Kd.C_alloc ?_ _) | (with_reducible refine Kd.C_drewN ?_ _) | (with_reducible refine Kd.C_drew ?_))) hb); clear HRi; have HRi := n_; clear n_; have n_ := Aside0.mk (below_step (by repeat (first | (with_reducible first | exact HB.out | apply below_alloc | apply pw_below_drewN | apply below_drew1) | exact HB.out)) hb); clear HB; have HB := n_; clear n_ hb) | ((with_reducible refine gate_callee (f := 19) rfl ?_); refine goesL_ (some 63) rfl rfl Try.func19 (by kernel_rfl) rfl #[.int .i64 (wrap64 (2 + t)), .slice Af f.length cf] rfl (by (try simp only [List.map_toArray, List.map_cons, List.map_nil]); first | done | rfl | (simp only [List.length_drop, List.length_take]; rfl)) ?_; (with_reducible refine (shuffle_Cycles.calls k _ _ _ f [] 2 _ ?side1 ?side2 HCy.out).mono ?_); (case side1 => exact (by repeat (first | exact HRf.out | (with_reducible refine Kd.C_alloc ?_ _) | (with_reducible refine Kd.C_drewN ?_ _) | (with_reducible refine Kd.C_drew ?_)))); (case side2 => exact HCf.out); rintro e w_ ⟨v_, rfl, ho0, hb⟩; refine ⟨_, rfl, ?_⟩; obtain ⟨Ac, cc, rfl⟩ := Kd.R_slice ho0; have n_ := Kd.R_reads' ho0; have HRc := Aside0.mk n_.2.2; have HCc := Aside0.mk n_.2.1; clear n_ ho0; have n_ := Aside0.mk (Kd.C_below (by repeat (first | exact HRf.out | (with_reducible refine Kd.C_alloc ?_ _) | (with_reducible refine Kd.C_drewN ?_ _) | (with_reducible refine Kd.C_drew ?_))) hb); clear HRf; have HRf := n_; clear n_; have n_ := Aside0.mk (Kd.C_below (by repeat (first | exact HRi.out | (with_reducible refine Kd.C_alloc ?_ _) | (with_reducible refine Kd.C_drewN ?_ _) | (with_reducible refine Kd.C_drew ?_))) hb); clear HRi; have HRi := n_; clear n_; have n_ := Aside0.mk (below_step (by repeat (first | (with_reducible first | exact HB.out | apply below_alloc | apply pw_below_drewN | apply below_drew1) | exact HB.out)) hb); clear HB; have HB := n_; clear n_ hb))
  refine (galloonref06_Function.calls k _ _ _ f true _ (by repeat (first | exact HRf.out | (with_reducible refine Kd.C_alloc ?_ _) | (with_reducible refine Kd.C_drewN ?_ _) | (with_reducible refine Kd.C_drew ?_))) HCf.out HFn.out).mono ?_
  rintro e w_ ⟨rfl, ⟨q1, rfl⟩⟩
  dsimp only
  have hx0 := HX.out.1
  have hxl : x < (f.length : Int) := by have := HX.out; omega
  have hy0 : 0 ≤ y := by have := HX.out; omega
  have hyl : y < (f.length : Int) := by have := HX.out; omega
  obtain ⟨ad, e, gx⟩ := Kd.at_int HRf.out x hx0 hxl
  cases e
  obtain ⟨ay, e, gy⟩ := Kd.at_int HRf.out y hy0 hyl
  injection e with e
  subst e
  have hveq : (rd f x == rd f y) = true := beq_iff_eq.2 HX.out.2.2.2.2
  have hbx := (HB.out)
  go_wp2
  refine start_ (n := 35) (S := fun w' => w'.cell? (ad.add (x).toNat) = some (.int .i64 (rd f x)) ∧ w'.cell? (ad.add (y).toNat) = some (.int .i64 (rd f y))) (ds := []) #[false,false,false,false,false,false,false,false,false,false,false,false,false,false,false,false,false,false,false,false,false,false,false,false,false,false,false,false,false,false,false,false,false,false,false] (by kernel_rfl) rfl rfl ⟨gx, gy⟩ (fun hHeld => ?_); refine with_tabW galloonlaw06_ShuffleInverted.tab11 galloonlaw06_ShuffleInverted.bits11 (fun HT_ HW_ => ?_)
  refine pure_ (i := 0) (N := some 87) (v := ?_) (a' := ?_) #[true,false,false,false,false,false,false,false,false,false,false,false,false,false,false,false,false,false,false,false,false,false,false,false,false,false,false,false,false,false,false,false,false,false,false] rfl rfl (any_of HT_.out (by kernel_rfl)) (fun _ _ _ h => h) (Or.inl ⟨by rfl, ?_⟩) ?_ ?_
  rotate_left
  ·
   intro w'
   go_simp
   with_reducible rfl
  rotate_left
  ·
   simp only [Act.put, Hand.s0_, List.set_cons_zero, Hand.s1_, i64_w, i32_w]
   rfl
  refine pure_ (i := 1) (N := some 88) (v := ?_) (a' := ?_) #[true,true,false,false,false,false,false,false,false,false,false,false,false,false,false,false,false,false,false,false,false,false,false,false,false,false,false,false,false,false,false,false,false,false,false] rfl rfl (any_of HT_.out (by kernel_rfl)) (fun _ _ _ h => h) (Or.inl ⟨by rfl, ?_⟩) ?_ ?_
  rotate_left
  ·
   intro w'
   go_simp
   with_reducible rfl
  rotate_left
  ·
   simp only [Act.put, Hand.s0_, List.set_cons_zero, Hand.s1_, i64_w, i32_w]
   rfl
  refine pure_ (i := 2) (N := some 89) (v := ?_) (a' := ?_) #[true,true,true,false,false,false,false,false,false,false,false,false,false,false,false,false,false,false,false,false,false,false,false,false,false,false,false,false,false,false,false,false,false,false,false] rfl rfl (any_of HT_.out (by kernel_rfl)) (fun _ _ _ h => h) (Or.inl ⟨by rfl, ?_⟩) ?_ ?_
  rotate_left
  ·
   intro w'
   go_simp
   with_reducible rfl
  rotate_left
  ·
   simp only [Act.put, Hand.s0_, List.set_cons_zero, Hand.s1_, i64_w, i32_w]
   rfl
  refine pure_ (i := 3) (N := some 90) (v := ?_) (a' := ?_) #[true,true,true,true,false,false,false,false,false,false,false,false,false,false,false,false,false,false,false,false,false,false,false,false,false,false,false,false,false,false,false,false,false,false,false] rfl rfl (any_of HT_.out (by kernel_rfl)) (fun _ _ _ h => h) (Or.inl ⟨by rfl, ?_⟩) ?_ ?_
  rotate_left
  ·
   intro w'
   go_simp
   with_reducible rfl
  rotate_left
  ·
   simp only [Act.put, Hand.s0_, List.set_cons_zero, Hand.s1_, i64_w, i32_w]
   rfl
  refine pure_ (i := 4) (N := some 91) (v := ?_) (a' := ?_) #[true,true,true,true,true,false,false,false,false,false,false,false,false,false,false,false,false,false,false,false,false,false,false,false,false,false,false,false,false,false,false,false,false,false,false] rfl rfl (any_of HT_.out (by kernel_rfl)) (fun _ _ _ h => h) (Or.inl ⟨by rfl, ?_⟩) ?_ ?_
  rotate_left
  ·
   intro w'
   go_simp
   with_reducible rfl
  rotate_left
  ·
   simp only [Act.put, Hand.s0_, List.set_cons_zero, Hand.s1_, i64_w, i32_w]
   rfl
  refine pure_ (i := 5) (N := some 92) (v := ?_) (a' := ?_) #[true,true,true,true,true,true,false,false,false,false,false,false,false,false,false,false,false,false,false,false,false,false,false,false,false,false,false,false,false,false,false,false,false,false,false] rfl rfl (any_of HT_.out (by kernel_rfl)) (fun _ _ _ h => h) (Or.inl ⟨by rfl, ?_⟩) ?_ ?_
  rotate_left
  ·
   intro w'
   go_simp
   with_reducible rfl
  rotate_left
  ·
   simp only [Act.put, Hand.s0_, List.set_cons_zero, Hand.s1_, i64_w, i32_w]
   rfl
  refine pure_ (i := 6) (N := some 93) (v := ?_) (a' := ?_) #[true,true,true,true,true,true,true,false,false,false,false,false,false,false,false,false,false,false,false,false,false,false,false,false,false,false,false,false,false,false,false,false,false,false,false] rfl rfl (any_of HT_.out (by kernel_rfl)) (fun _ _ _ h => h) (Or.inl ⟨by rfl, ?_⟩) ?_ ?_
  rotate_left
  ·
   intro w'
   go_simp
   with_reducible rfl
  rotate_left
  ·
   simp only [Act.put, Hand.s0_, List.set_cons_zero, Hand.s1_, i64_w, i32_w]
   rfl
  refine pure_ (i := 7) (N := some 94) (v := ?_) (a' := ?_) #[true,true,true,true,true,true,true,true,false,false,false,false,false,false,false,false,false,false,false,false,false,false,false,false,false,false,false,false,false,false,false,false,false,false,false] rfl rfl (any_of HT_.out (by kernel_rfl)) (fun _ _ _ h => h) (Or.inl ⟨by rfl, ?_⟩) ?_ ?_
  rotate_left
  ·
   intro w'
   go_simp
   with_reducible rfl
  rotate_left
  ·
   simp only [Act.put, Hand.s0_, List.set_cons_zero, Hand.s1_, i64_w, i32_w]
   rfl
  refine pure_ (i := 8) (N := some 95) (v := ?_) (a' := ?_) #[true,true,true,true,true,true,true,true,true,false,false,false,false,false,false,false,false,false,false,false,false,false,false,false,false,false,false,false,false,false,false,false,false,false,false] rfl rfl (any_of HT_.out (by kernel_rfl)) (fun _ _ _ h => h) (Or.inl ⟨by rfl, ?_⟩) ?_ ?_
  rotate_left
  ·
   intro w'
   go_simp
   with_reducible rfl
  rotate_left
  ·
   simp only [Act.put, Hand.s0_, List.set_cons_zero, Hand.s1_, i64_w, i32_w]
   rfl
  refine pure_ (i := 9) (N := some 96) (v := ?_) (a' := ?_) #[true,true,true,true,true,true,true,true,true,true,false,false,false,false,false,false,false,false,false,false,false,false,false,false,false,false,false,false,false,false,false,false,false,false,false] rfl rfl (any_of HT_.out (by kernel_rfl)) (fun _ _ _ h => h) (Or.inl ⟨by rfl, ?_⟩) ?_ ?_
  rotate_left
  ·
   intro w'
   go_simp
   with_reducible rfl
  rotate_left
  ·
   simp only [Act.put, Hand.s0_, List.set_cons_zero, Hand.s1_, i64_w, i32_w]
   rfl
  refine pure_ (i := 10) (N := some 97) (v := ?_) (a' := ?_) #[true,true,true,true,true,true,true,true,true,true,true,false,false,false,false,false,false,false,false,false,false,false,false,false,false,false,false,false,false,false,false,false,false,false,false] rfl rfl (any_of HT_.out (by kernel_rfl)) (fun _ _ _ h => h) (Or.inl ⟨by rfl, ?_⟩) ?_ ?_
  rotate_left
  ·
   intro w'
   go_simp
   with_reducible rfl
  rotate_left
  ·
   simp only [Act.put, Hand.s0_, List.set_cons_zero, Hand.s1_, i64_w, i32_w]
   rfl
  refine pure_ (i := 11) (N := some 98) (v := ?_) (a' := ?_) #[true,true,true,true,true,true,true,true,true,true,true,true,false,false,false,false,false,false,false,false,false,false,false,false,false,false,false,false,false,false,false,false,false,false,false] rfl rfl (any_of HT_.out (by kernel_rfl)) (fun _ _ _ h => h) (Or.inl ⟨by rfl, ?_⟩) ?_ ?_
  rotate_left
  ·
   intro w'
   go_simp
   with_reducible rfl
  rotate_left
  ·
   simp only [Act.put, Hand.s0_, List.set_cons_zero, Hand.s1_, i64_w, i32_w]
   rfl
  refine pure_ (i := 13) (N := some 100) (v := ?_) (a' := ?_) #[true,true,true,true,true,true,true,true,true,true,true,true,false,true,false,false,false,false,false,false,false,false,false,false,false,false,false,false,false,false,false,false,false,false,false] rfl rfl (any_of HT_.out (by kernel_rfl)) (fun _ _ _ h => h) (Or.inl ⟨by rfl, ?_⟩) ?_ ?_
  rotate_left
  ·
   intro w'
   go_simp
   with_reducible rfl
  rotate_left
  ·
   simp only [Act.put, Hand.s0_, List.set_cons_zero, Hand.s1_, i64_w, i32_w]
   rfl
  refine pure_ (i := 14) (N := some 101) (v := ?_) (a' := ?_) #[true,true,true,true,true,true,true,true,true,true,true,true,false,true,true,false,false,false,false,false,false,false,false,false,false,false,false,false,false,false,false,false,false,false,false] rfl rfl (any_of HT_.out (by kernel_rfl)) (fun _ _ _ h => h) (Or.inl ⟨by rfl, ?_⟩) ?_ ?_
  rotate_left
  ·
   intro w'
   go_simp
   with_reducible rfl
  rotate_left
  ·
   simp only [Act.put, Hand.s0_, List.set_cons_zero, Hand.s1_, i64_w, i32_w]
   rfl
  refine pure_ (i := 15) (N := some 102) (v := ?_) (a' := ?_) #[true,true,true,true,true,true,true,true,true,true,true,true,false,true,true,true,false,false,false,false,false,false,false,false,false,false,false,false,false,false,false,false,false,false,false] rfl rfl (any_of HT_.out (by kernel_rfl)) (fun _ _ _ h => h) (Or.inl ⟨by rfl, ?_⟩) ?_ ?_
  rotate_left
  ·
   intro w'
   go_simp
   with_reducible rfl
  rotate_left
  ·
   simp only [Act.put, Hand.s0_, List.set_cons_zero, Hand.s1_, i64_w, i32_w]
   rfl
  refine take_ (i := 12) (N := some 99) (v := ?_) (a' := ?_) #[true,true,true,true,true,true,true,true,true,true,true,true,true,true,true,true,false,false,false,false,false,false,false,false,false,false,false,false,false,false,false,false,false,false,false] rfl rfl (take_ofW HT_.out HW_.out (by kernel_rfl)) (fun _ _ _ h => h) (Or.inl ⟨by rfl, ?_⟩) hHeld ?_ ?_
  rotate_left
  ·
   rintro w' ⟨s0, s1⟩
   go_simp
   with_reducible rfl
  rotate_left
  ·
   simp only [Act.put, Hand.s0_, List.set_cons_zero, Hand.s1_, i64_w, i32_w]
   rfl
  refine take_ (i := 16) (N := some 103) (v := ?_) (a' := ?_) #[true,true,true,true,true,true,true,true,true,true,true,true,true,true,true,true,true,false,false,false,false,false,false,false,false,false,false,false,false,false,false,false,false,false,false] rfl rfl (take_ofW HT_.out HW_.out (by kernel_rfl)) (fun _ _ _ h => h) (Or.inl ⟨by rfl, ?_⟩) hHeld ?_ ?_
  rotate_left
  ·
   rintro w' ⟨s0, s1⟩
   go_simp
   with_reducible rfl
  rotate_left
  ·
   simp only [Act.put, Hand.s0_, List.set_cons_zero, Hand.s1_, i64_w, i32_w]
   rfl
  refine pure_ (i := 17) (N := some 104) (v := ?_) (a' := ?_) #[true,true,true,true,true,true,true,true,true,true,true,true,true,true,true,true,true,true,false,false,false,false,false,false,false,false,false,false,false,false,false,false,false,false,false] rfl rfl (any_of HT_.out (by kernel_rfl)) (fun _ _ _ h => h) (Or.inl ⟨by rfl, ?_⟩) ?_ ?_
  rotate_left
  ·
   intro w'
   go_simp
   with_reducible rfl
  rotate_left
  ·
   simp only [Act.put, Hand.s0_, List.set_cons_zero, Hand.s1_, i64_w, i32_w]
   rfl
  refine pure_ (i := 18) (N := some 105) (v := ?_) (a' := ?_) #[true,true,true,true,true,true,true,true,true,true,true,true,true,true,true,true,true,true,true,false,false,false,false,false,false,false,false,false,false,false,false,false,false,false,false] rfl rfl (any_of HT_.out (by kernel_rfl)) (fun _ _ _ h => h) (Or.inl ⟨by rfl, ?_⟩) ?_ ?_
  rotate_left
  ·
   intro w'
   go_simp
   with_reducible rfl
  rotate_left
  ·
   simp only [Act.put, Hand.s0_, List.set_cons_zero, Hand.s1_, i64_w, i32_w]
   rfl
  refine pure_ (i := 19) (N := some 106) (v := ?_) (a' := ?_) #[true,true,true,true,true,true,true,true,true,true,true,true,true,true,true,true,true,true,true,true,false,false,false,false,false,false,false,false,false,false,false,false,false,false,false] rfl rfl (any_of HT_.out (by kernel_rfl)) (fun _ _ _ h => h) (Or.inl ⟨by rfl, ?_⟩) ?_ ?_
  rotate_left
  ·
   intro w'
   go_simp
   with_reducible rfl
  rotate_left
  ·
   simp only [Act.put, Hand.s0_, List.set_cons_zero, Hand.s1_, i64_w, i32_w]
   rfl
  refine pure_ (i := 20) (N := some 107) (v := ?_) (a' := ?_) #[true,true,true,true,true,true,true,true,true,true,true,true,true,true,true,true,true,true,true,true,true,false,false,false,false,false,false,false,false,false,false,false,false,false,false] rfl rfl (any_of HT_.out (by kernel_rfl)) (fun _ _ _ h => h) (Or.inl ⟨by rfl, ?_⟩) ?_ ?_
  rotate_left
  ·
   intro w'
   go_simp
   with_reducible rfl
  rotate_left
  ·
   simp only [Act.put, Hand.s0_, List.set_cons_zero, Hand.s1_, i64_w, i32_w]
   rfl
  refine pure_ (i := 21) (N := some 108) (v := ?_) (a' := ?_) #[true,true,true,true,true,true,true,true,true,true,true,true,true,true,true,true,true,true,true,true,true,true,false,false,false,false,false,false,false,false,false,false,false,false,false] rfl rfl (any_of HT_.out (by kernel_rfl)) (fun _ _ _ h => h) (Or.inl ⟨by rfl, ?_⟩) ?_ ?_
  rotate_left
  ·
   intro w'
   go_simp
   with_reducible rfl
  rotate_left
  ·
   simp only [Act.put, Hand.s0_, List.set_cons_zero, Hand.s1_, i64_w, i32_w]
   rfl
  refine pure_ (i := 22) (N := some 109) (v := ?_) (a' := ?_) #[true,true,true,true,true,true,true,true,true,true,true,true,true,true,true,true,true,true,true,true,true,true,true,false,false,false,false,false,false,false,false,false,false,false,false] rfl rfl (any_of HT_.out (by kernel_rfl)) (fun _ _ _ h => h) (Or.inl ⟨by rfl, ?_⟩) ?_ ?_
  rotate_left
  ·
   intro w'
   go_simp
   with_reducible rfl
  rotate_left
  ·
   simp only [Act.put, Hand.s0_, List.set_cons_zero, Hand.s1_, i64_w, i32_w]
   rfl
  refine pure_ (i := 23) (N := some 110) (v := ?_) (a' := ?_) #[true,true,true,true,true,true,true,true,true,true,true,true,true,true,true,true,true,true,true,true,true,true,true,true,false,false,false,false,false,false,false,false,false,false,false] rfl rfl (any_of HT_.out (by kernel_rfl)) (fun _ _ _ h => h) (Or.inl ⟨by rfl, ?_⟩) ?_ ?_
  rotate_left
  ·
   intro w'
   go_simp
   with_reducible rfl
  rotate_left
  ·
   simp only [Act.put, Hand.s0_, List.set_cons_zero, Hand.s1_, i64_w, i32_w]
   rfl
  refine pure_ (i := 24) (N := some 111) (v := ?_) (a' := ?_) #[true,true,true,true,true,true,true,true,true,true,true,true,true,true,true,true,true,true,true,true,true,true,true,true,true,false,false,false,false,false,false,false,false,false,false] rfl rfl (any_of HT_.out (by kernel_rfl)) (fun _ _ _ h => h) (Or.inl ⟨by rfl, ?_⟩) ?_ ?_
  rotate_left
  ·
   intro w'
   go_simp
   with_reducible rfl
  rotate_left
  ·
   simp only [Act.put, Hand.s0_, List.set_cons_zero, Hand.s1_, i64_w, i32_w]
   rfl
  refine pure_ (i := 25) (N := some 112) (v := ?_) (a' := ?_) #[true,true,true,true,true,true,true,true,true,true,true,true,true,true,true,true,true,true,true,true,true,true,true,true,true,true,false,false,false,false,false,false,false,false,false] rfl rfl (any_of HT_.out (by kernel_rfl)) (fun _ _ _ h => h) (Or.inl ⟨by rfl, ?_⟩) ?_ ?_
  rotate_left
  ·
   intro w'
   go_simp
   with_reducible rfl
  rotate_left
  ·
   simp only [Act.put, Hand.s0_, List.set_cons_zero, Hand.s1_, i64_w, i32_w]
   rfl
  refine pure_ (i := 26) (N := some 113) (v := ?_) (a' := ?_) #[true,true,true,true,true,true,true,true,true,true,true,true,true,true,true,true,true,true,true,true,true,true,true,true,true,true,true,false,false,false,false,false,false,false,false] rfl rfl (any_of HT_.out (by kernel_rfl)) (fun _ _ _ h => h) (Or.inl ⟨by rfl, ?_⟩) ?_ ?_
  rotate_left
  ·
   intro w'
   go_simp
   with_reducible rfl
  rotate_left
  ·
   simp only [Act.put, Hand.s0_, List.set_cons_zero, Hand.s1_, i64_w, i32_w]
   rfl
  refine pure_ (i := 27) (N := some 114) (v := ?_) (a' := ?_) #[true,true,true,true,true,true,true,true,true,true,true,true,true,true,true,true,true,true,true,true,true,true,true,true,true,true,true,true,false,false,false,false,false,false,false] rfl rfl (any_of HT_.out (by kernel_rfl)) (fun _ _ _ h => h) (Or.inl ⟨by rfl, ?_⟩) ?_ ?_
  rotate_left
  ·
   intro w'
   go_simp
   with_reducible rfl
  rotate_left
  ·
   simp only [Act.put, Hand.s0_, List.set_cons_zero, Hand.s1_, i64_w, i32_w]
   rfl
  refine pure_ (i := 28) (N := some 115) (v := ?_) (a' := ?_) #[true,true,true,true,true,true,true,true,true,true,true,true,true,true,true,true,true,true,true,true,true,true,true,true,true,true,true,true,true,false,false,false,false,false,false] rfl rfl (any_of HT_.out (by kernel_rfl)) (fun _ _ _ h => h) (Or.inl ⟨by rfl, ?_⟩) ?_ ?_
  rotate_left
  ·
   intro w'
   go_simp
   with_reducible rfl
  rotate_left
  ·
   simp only [Act.put, Hand.s0_, List.set_cons_zero, Hand.s1_, i64_w, i32_w]
   rfl
  refine pure_ (i := 29) (N := some 116) (v := ?_) (a' := ?_) #[true,true,true,true,true,true,true,true,true,true,true,true,true,true,true,true,true,true,true,true,true,true,true,true,true,true,true,true,true,true,false,false,false,false,false] rfl rfl (any_of HT_.out (by kernel_rfl)) (fun _ _ _ h => h) (Or.inl ⟨by rfl, ?_⟩) ?_ ?_
  rotate_left
  ·
   intro w'
   go_simp
   with_reducible rfl
  rotate_left
  ·
   simp only [Act.put, Hand.s0_, List.set_cons_zero, Hand.s1_, i64_w, i32_w]
   rfl
  refine pure_ (i := 30) (N := some 117) (v := ?_) (a' := ?_) #[true,true,true,true,true,true,true,true,true,true,true,true,true,true,true,true,true,true,true,true,true,true,true,true,true,true,true,true,true,true,true,false,false,false,false] rfl rfl (any_of HT_.out (by kernel_rfl)) (fun _ _ _ h => h) (Or.inl ⟨by rfl, ?_⟩) ?_ ?_
  rotate_left
  ·
   intro w'
   go_simp
   with_reducible rfl
  rotate_left
  ·
   simp only [Act.put, Hand.s0_, List.set_cons_zero, Hand.s1_, i64_w, i32_w]
   rfl
  refine pure_ (i := 31) (N := some 118) (v := ?_) (a' := ?_) #[true,true,true,true,true,true,true,true,true,true,true,true,true,true,true,true,true,true,true,true,true,true,true,true,true,true,true,true,true,true,true,true,false,false,false] rfl rfl (any_of HT_.out (by kernel_rfl)) (fun _ _ _ h => h) (Or.inl ⟨by rfl, ?_⟩) ?_ ?_
  rotate_left
  ·
   intro w'
   go_simp
   with_reducible rfl
  rotate_left
  ·
   simp only [Act.put, Hand.s0_, List.set_cons_zero, Hand.s1_, i64_w, i32_w]
   rfl
  refine one_ (i := 32) (N := some 119) #[true,true,true,true,true,true,true,true,true,true,true,true,true,true,true,true,true,true,true,true,true,true,true,true,true,true,true,true,true,true,true,true,true,false,false] rfl rfl (one_of HT_.out (by kernel_rfl)) (by decide) (fun K hK => ?_)
  refine goes_ Try.func16 (by kernel_rfl) rfl #[] (by rfl) rfl rfl (by (try simp only [List.map_toArray, List.map_cons, List.map_nil]); first | done | rfl | (simp only [List.length_drop, List.length_take]; rfl)) ?_
  with_reducible refine (galloonlaw06_awake.calls k true _ HAw.out).mono ?_
  rintro e w37 ⟨rfl, hb⟩
  have HS0_ := (hb.cell (World.block_lt_of_cell? _ _ (hHeld.1))).trans (hHeld.1)
  have HS1_ := (hb.cell (World.block_lt_of_cell? _ _ (hHeld.2))).trans (hHeld.2)
  refine ⟨_, rfl, ?_⟩
  have n_ := Aside0.mk (below_step (by repeat (first | (with_reducible first | exact HB.out | apply below_alloc | apply pw_below_drewN | apply below_drew1) | exact HB.out)) hb)
  clear HB hb
  have HB := n_
  refine hK.out _ _ ⟨HS0_, HS1_⟩ (fun hHeld => ?_)
  clear hK K
  refine norm_ (a' := ?_) ?_ ?_
  rotate_left
  ·
   show Act.put _ (some 119) _ = _
   simp only [Act.put, Hand.s0_, List.set_cons_zero, Hand.s1_, i64_w, i32_w]
   rfl
  refine pure_ (i := 33) (N := some 120) (v := ?_) (a' := ?_) #[true,true,true,true,true,true,true,true,true,true,true,true,true,true,true,true,true,true,true,true,true,true,true,true,true,true,true,true,true,true,true,true,true,true,false] rfl rfl (any_of HT_.out (by kernel_rfl)) (fun _ _ _ h => h) (Or.inl ⟨by rfl, ?_⟩) ?_ ?_
  rotate_left
  ·
   intro w'
   go_simp
   with_reducible rfl
  rotate_left
  ·
   simp only [Act.put, Hand.s0_, List.set_cons_zero, Hand.s1_, i64_w, i32_w]
   rfl
  refine pure_ (i := 34) (N := some 4) (v := ?_) (a' := ?_) #[true,true,true,true,true,true,true,true,true,true,true,true,true,true,true,true,true,true,true,true,true,true,true,true,true,true,true,true,true,true,true,true,true,true,true] rfl rfl (any_of HT_.out (by kernel_rfl)) (fun _ _ _ h => h) (Or.inl ⟨by rfl, ?_⟩) ?_ ?_
  rotate_left
  ·
   intro w'
   go_simp
   with_reducible rfl
  rotate_left
  ·
   simp only [Act.put, Hand.s0_, List.set_cons_zero, Hand.s1_, i64_w, i32_w]
   rfl
  refine done_ (done_of HT_.out (by kernel_rfl)) ?_
  try go_wp2
  go_ret
  exact ⟨rfl, HB.out⟩

set_option maxHeartbeats 8000000 in
set_option maxRecDepth 100000 in
theorem galloonlaw06_ShuffleInverted.callsB (k : Nat) (a0 : Int) (A1 : Option Addr) (c1 : Nat) (l1 : List Int) (w : World) (hr1 : Kd.C (Kd.int .i64) w A1 l1.length l1) (hc1 : l1.length ≤ c1) (h : galloonlaw06_ShuffleInverted.OkB k a0 l1) :
    Calls Try.prog 5 #[.int .i64 a0, .slice A1 l1.length c1] w fun e w' => e = .returned (.bool true) ∧ Below w.heap.size w w' := by
  have hmix : Try.prog.follows .mixedOrders = true := by kernel_rfl
  obtain ⟨t, l, f, i, c, fm, a, n, S, A, ⟨hT, hTa, hV, hPe, hFn, hAw⟩, hIv, hOr, hCy, hOri, hCyi, hFo, hAf, hIn, hal, hal2, hav, hcl, hcv, hS0, hA0, hst, hSn, hAn⟩ := h
  have HR1 := Aside0.mk hr1
  have HC1 := Aside0.mk hc1
  have HT := Aside0.mk hT
  have HTa := Aside0.mk hTa
  have HV := Aside0.mk hV
  have HPe := Aside0.mk hPe
  have HFn := Aside0.mk hFn
  have HAw := Aside0.mk hAw
  have HIv := Aside0.mk hIv
  have HOr := Aside0.mk hOr
  have HCy := Aside0.mk hCy
  have HOri := Aside0.mk hOri
  have HCyi := Aside0.mk hCyi
  have HFo := Aside0.mk hFo
  have HAf := Aside0.mk hAf
  have HIn := Aside0.mk hIn
  have Hal := Aside0.mk hal
  have Hal2 := Aside0.mk hal2
  have Hav := Aside0.mk hav
  have Hcl := Aside0.mk hcl
  have Hcv := Aside0.mk hcv
  have HS0 := Aside0.mk hS0
  have HA0 := Aside0.mk hA0
  have Hst := Aside0.mk hst
  have HSn := Aside0.mk hSn
  have HAn := Aside0.mk hAn
  obtain ⟨x, hxe⟩ : ∃ x : Int, x = -1 := ⟨_, rfl⟩
  obtain ⟨y, hye⟩ : ∃ y : Int, y = -1 := ⟨_, rfl⟩
  have HPe2 := HPe.out
  rw [show (some ((-1 : Int), (-1 : Int), (0 : Int))) = some (x, y, 0) by rw [hxe, hye]] at HPe2
  clear HPe
  have HPe := Aside0.mk HPe2
  have HB := Aside0.mk (Below.refl w.heap.size w)
  have hx1 : (x == -1) = true := beq_iff_eq.2 hxe
  have hy1 : (y == -1) = true := beq_iff_eq.2 hye
  have hx2 : decide (x ≥ 0) = false := decide_eq_false (by omega)
  clear hr1 hc1 HPe2 hxe hye hT hTa hV hPe hFn hAw hIv hOr hCy hOri hCyi hFo hAf hIn hal hal2 hav hcl hcv hS0 hA0 hst hSn hAn
  go_enter Try.func5, Try.ntmps5
  go_wp2_with (first | ((with_reducible refine gate_callee (f := 6) rfl ?_); refine goesL_ (some 30) rfl rfl Try.func6 (by kernel_rfl) rfl #[.int .i64 a0, .int .i64 63] rfl (by (try simp only [List.map_toArray, List.map_cons, List.map_nil]); first | done | rfl | (simp only [List.length_drop, List.length_take]; rfl)) ?_; (with_reducible refine (galloonlaw06_mod.calls a0 63 t _ HT.out).mono ?_); rintro e w_ ⟨rfl, ⟨nd, rfl⟩⟩; refine ⟨_, rfl, ?_⟩) | ((with_reducible refine gate_callee (f := 7) rfl ?_); refine goesL_ (some 34) rfl rfl Try.func7 (by kernel_rfl) rfl #[.int .i64 (wrap64 (2 + t)), .slice A1 l1.length c1] rfl (by (try simp only [List.map_toArray, List.map_cons, List.map_nil]); first | done | rfl | (simp only [List.length_drop, List.length_take]; rfl)) ?_; (with_reducible refine (galloonlaw06_tame.calls k (wrap64 (2 + t)) _ _ l1 l _ ?side1 ?side2 HTa.out).mono ?_); (case side1 => exact (by repeat (first | exact HR1.out | (with_reducible refine Kd.C_alloc ?_ _) | (with_reducible refine Kd.C_drewN ?_ _) | (with_reducible refine Kd.C_drew ?_)))); (case side2 => exact HC1.out); rintro e w_ ⟨v_, rfl, ho0, hb⟩; refine ⟨_, rfl, ?_⟩; obtain ⟨AL, cL, rfl⟩ := Kd.R_slice ho0; have n_ := Kd.R_reads' ho0; have HRL := Aside0.mk n_.2.2; have HCL := Aside0.mk n_.2.1; clear n_ ho0; have n_ := Aside0.mk (below_step (by repeat (first | (with_reducible first | exact HB.out | apply below_alloc | apply pw_below_drewN | apply below_drew1) | exact HB.out)) hb); clear HB; have HB := n_; clear n_ hb) | ((with_reducible refine gate_callee (f := 9) rfl ?_); refine goesL_ (some 38) rfl rfl Try.func9 (by kernel_rfl) rfl #[.int .i64 (wrap64 (2 + t)), .slice AL l.length cL] rfl (by (try simp only [List.map_toArray, List.map_cons, List.map_nil]); first | done | rfl | (simp only [List.length_drop, List.length_take]; rfl)) ?_; (with_reducible refine (shuffle_Values.calls k _ _ _ l f 0 _ ?side1 ?side2 HV.out).mono ?_); (case side1 => exact (by repeat (first | exact HRL.out | (with_reducible refine Kd.C_alloc ?_ _) | (with_reducible refine Kd.C_drewN ?_ _) | (with_reducible refine Kd.C_drew ?_)))); (case side2 => exact HCL.out); rintro e w_ ⟨v_, rfl, ho0, hb⟩; refine ⟨_, rfl, ?_⟩; obtain ⟨Af, cf, rfl⟩ := Kd.R_slice ho0; have n_ := Kd.R_reads' ho0; have HRf := Aside0.mk n_.2.2; have HCf := Aside0.mk n_.2.1; clear n_ ho0; have n_ := Aside0.mk (Kd.C_below (by repeat (first | exact HRL.out | (with_reducible refine Kd.C_alloc ?_ _) | (with_reducible refine Kd.C_drewN ?_ _) | (with_reducible refine Kd.C_drew ?_))) hb); clear HRL; have HRL := n_; clear n_; have n_ := Aside0.mk (below_step (by repeat (first | (with_reducible first | exact HB.out | apply below_alloc | apply pw_below_drewN | apply below_drew1) | exact HB.out)) hb); clear HB; have HB := n_; clear n_ hb) | ((with_reducible refine gate_callee (f := 27) rfl ?_); refine goesL_ (some 44) rfl rfl Try.func27 (by kernel_rfl) rfl #[.int .i64 (wrap64 (2 + t)), .slice AL l.length cL] rfl (by (try simp only [List.map_toArray, List.map_cons, List.map_nil]); first | done | rfl | (simp only [List.length_drop, List.length_take]; rfl)) ?_; (with_reducible refine (shuffle_Permutes.calls k _ _ _ l x y 0 _ ?side1 ?side2 HPe.out).mono ?_); (case side1 => exact (by repeat (first | exact HRL.out | (with_reducible refine Kd.C_alloc ?_ _) | (with_reducible refine Kd.C_drewN ?_ _) | (with_reducible refine Kd.C_drew ?_)))); (case side2 => exact HCL.out); rintro e w_ ⟨rfl, hb⟩; refine ⟨_, rfl, ?_⟩; have n_ := Aside0.mk (Kd.C_below (by repeat (first | exact HRL.out | (with_reducible refine Kd.C_alloc ?_ _) | (with_reducible refine Kd.C_drewN ?_ _) | (with_reducible refine Kd.C_drew ?_))) hb); clear HRL; have HRL := n_; clear n_; have n_ := Aside0.mk (Kd.C_below (by repeat (first | exact HRf.out | (with_reducible refine Kd.C_alloc ?_ _) | (with_reducible refine Kd.C_drewN ?_ _) | (with_reducible refine Kd.C_drew ?_))) hb); clear HRf; have HRf := n_; clear n_; have n_ := Aside0.mk (below_step (by repeat (first | (with_reducible first | exact HB.out | apply below_alloc | apply pw_below_drewN | apply below_drew1) | exact HB.out)) hb); clear HB; have HB := n_; clear n_ hb) | ((with_reducible refine gate_callee (f := 17) rfl ?_); refine goesL_ (some 51) rfl rfl Try.func17 (by kernel_rfl) rfl #[.int .i64 (wrap64 (2 + t)), .slice Af f.length cf] rfl (by (try simp only [List.map_toArray, List.map_cons, List.map_nil]); first | done | rfl | (simp only [List.length_drop, List.length_take]; rfl)) ?_; (with_reducible refine (shuffle_Inverse.calls k _ _ _ f i 0 _ ?side1 ?side2 HIv.out).mono ?_); (case side1 => exact (by repeat (first | exact HRf.out | (with_reducible refine Kd.C_alloc ?_ _) | (with_reducible refine Kd.C_drewN ?_ _) | (with_reducible refine Kd.C_drew ?_)))); (case side2 => exact HCf.out); rintro e w_ ⟨v_, rfl, ho0, hb⟩; refine ⟨_, rfl, ?_⟩; obtain ⟨Ai, ci, rfl⟩ := Kd.R_slice ho0; have n_ := Kd.R_reads' ho0; have HRi := Aside0.mk n_.2.2; have HCi := Aside0.mk n_.2.1; clear n_ ho0; have n_ := Aside0.mk (Kd.C_below (by repeat (first | exact HRf.out | (with_reducible refine Kd.C_alloc ?_ _) | (with_reducible refine Kd.C_drewN ?_ _) | (with_reducible refine Kd.C_drew ?_))) hb); clear HRf; have HRf := n_; clear n_; have n_ := Aside0.mk (below_step (by repeat (first | (with_reducible first | exact HB.out | apply below_alloc | apply pw_below_drewN | apply below_drew1) | exact HB.out)) hb); clear HB; have HB := n_; clear n_ hb) | ((with_reducible refine gate_callee (f := 18) rfl ?_); refine goesL_ (some 57) rfl rfl Try.func18 (by kernel_rfl) rfl #[.int .i64 (wrap64 (2 + t)), .slice Af f.length cf] rfl (by (try simp only [List.map_toArray, List.map_cons, List.map_nil]); first | done | rfl | (simp only [List.length_drop, List.length_take]; rfl)) ?_; (with_reducible refine (shuffle_Order.calls k _ _ _ f n 0 _ ?side1 ?side2 HOr.out).mono ?_); (case side1 => exact (by repeat (first | exact HRf.out | (with_reducible refine Kd.C_alloc ?_ _) | (with_reducible refine Kd.C_drewN ?_ _) | (with_reducible refine Kd.C_drew ?_)))); (case side2 => exact HCf.out); rintro e w_ ⟨rfl, hb⟩; refine ⟨_, rfl, ?_⟩; have n_ := Aside0.mk (Kd.C_below (by repeat (first | exact HRf.out | (with_reducible refine Kd.C_alloc ?_ _) | (with_reducible refine Kd.C_drewN ?_ _) | (with_reducible refine Kd.C_drew ?_))) hb); clear HRf; have HRf := n_; clear n_; have n_ := Aside0.mk (Kd.C_below (by repeat (first | exact HRi.out | (with_reducible refine Kd.C_alloc ?_ _) | (with_reducible refine Kd.C_drewN ?_ _) | (with_reducible refine Kd.C_drew ?_))) hb); clear HRi; have HRi := n_; clear n_; have n_ := Aside0.mk (below_step (by repeat (first | (with_reducible first | exact HB.out | apply below_alloc | apply pw_below_drewN | apply below_drew1) | exact HB.out)) hb); clear HB; have HB := n_; clear n_ hb) | ((with_reducible refine gate_callee (f := 19) rfl ?_); refine goesL_ (some 63) rfl rfl Try.func19 (by kernel_rfl) rfl #[.int .i64 (wrap64 (2 + t)), .slice Af f.length cf] rfl (by (try simp only [List.map_toArray, List.map_cons, List.map_nil]); first | done | rfl | (simp only [List.length_drop, List.length_take]; rfl)) ?_; (with_reducible refine (shuffle_Cycles.calls k _ _ _ f c 0 _ ?side1 ?side2 HCy.out).mono ?_); (case side1 => exact (by repeat (first | exact HRf.out | (with_reducible refine Kd.C_alloc ?_ _) | (with_reducible refine Kd.C_drewN ?_ _) | (with_reducible refine Kd.C_drew ?_)))); (case side2 => exact HCf.out); rintro e w_ ⟨v_, rfl, ho0, hb⟩; refine ⟨_, rfl, ?_⟩; obtain ⟨Ac, cc, rfl⟩ := Kd.R_slice ho0; have n_ := Kd.R_reads' ho0; have HRc := Aside0.mk n_.2.2; have HCc := Aside0.mk n_.2.1; clear n_ ho0; have n_ := Aside0.mk (Kd.C_below (by repeat (first | exact HRf.out | (with_reducible refine Kd.C_alloc ?_ _) | (with_reducible refine Kd.C_drewN ?_ _) | (with_reducible refine Kd.C_drew ?_))) hb); clear HRf; have HRf := n_; clear n_; have n_ := Aside0.mk (Kd.C_below (by repeat (first | exact HRi.out | (with_reducible refine Kd.C_alloc ?_ _) | (with_reducible refine Kd.C_drewN ?_ _) | (with_reducible refine Kd.C_drew ?_))) hb); clear HRi; have HRi := n_; clear n_; have n_ := Aside0.mk (below_step (by repeat (first | (with_reducible first | exact HB.out | apply below_alloc | apply pw_below_drewN | apply below_drew1) | exact HB.out)) hb); clear HB; have HB := n_; clear n_ hb))
  refine (galloonref06_Function.calls k _ _ _ f true _ (by repeat (first | exact HRf.out | (with_reducible refine Kd.C_alloc ?_ _) | (with_reducible refine Kd.C_drewN ?_ _) | (with_reducible refine Kd.C_drew ?_))) HCf.out HFn.out).mono ?_
  rintro e w_ ⟨rfl, ⟨q1, rfl⟩⟩
  dsimp only
  go_wp2_with (first | ((with_reducible refine gate_callee (f := 18) rfl ?_); refine goesL_ (some 124) rfl rfl Try.func18 (by kernel_rfl) rfl #[.int .i64 (wrap64 (2 + t)), .slice Ai i.length ci] rfl (by (try simp only [List.map_toArray, List.map_cons, List.map_nil]); first | done | rfl | (simp only [List.length_drop, List.length_take]; rfl)) ?_; (with_reducible refine (shuffle_Order.calls k _ _ _ i n 0 _ ?side1 ?side2 HOri.out).mono ?_); (case side1 => exact (by repeat (first | exact HRi.out | (with_reducible refine Kd.C_alloc ?_ _) | (with_reducible refine Kd.C_drewN ?_ _) | (with_reducible refine Kd.C_drew ?_)))); (case side2 => exact HCi.out); rintro e w_ ⟨rfl, hb⟩; refine ⟨_, rfl, ?_⟩; have n_ := Aside0.mk (Kd.C_below (by repeat (first | exact HRf.out | (with_reducible refine Kd.C_alloc ?_ _) | (with_reducible refine Kd.C_drewN ?_ _) | (with_reducible refine Kd.C_drew ?_))) hb); clear HRf; have HRf := n_; clear n_; have n_ := Aside0.mk (Kd.C_below (by repeat (first | exact HRi.out | (with_reducible refine Kd.C_alloc ?_ _) | (with_reducible refine Kd.C_drewN ?_ _) | (with_reducible refine Kd.C_drew ?_))) hb); clear HRi; have HRi := n_; clear n_; have n_ := Aside0.mk (Kd.C_below (by repeat (first | exact HRc.out | (with_reducible refine Kd.C_alloc ?_ _) | (with_reducible refine Kd.C_drewN ?_ _) | (with_reducible refine Kd.C_drew ?_))) hb); clear HRc; have HRc := n_; clear n_; have n_ := Aside0.mk (below_step (by repeat (first | (with_reducible first | exact HB.out | apply below_alloc | apply pw_below_drewN | apply below_drew1) | exact HB.out)) hb); clear HB; have HB := n_; clear n_ hb) | ((with_reducible refine gate_callee (f := 19) rfl ?_); refine goesL_ (some 130) rfl rfl Try.func19 (by kernel_rfl) rfl #[.int .i64 (wrap64 (2 + t)), .slice Ai i.length ci] rfl (by (try simp only [List.map_toArray, List.map_cons, List.map_nil]); first | done | rfl | (simp only [List.length_drop, List.length_take]; rfl)) ?_; (with_reducible refine (shuffle_Cycles.calls k _ _ _ i c 0 _ ?side1 ?side2 HCyi.out).mono ?_); (case side1 => exact (by repeat (first | exact HRi.out | (with_reducible refine Kd.C_alloc ?_ _) | (with_reducible refine Kd.C_drewN ?_ _) | (with_reducible refine Kd.C_drew ?_)))); (case side2 => exact HCi.out); rintro e w_ ⟨v_, rfl, ho0, hb⟩; refine ⟨_, rfl, ?_⟩; obtain ⟨Ad, cd, rfl⟩ := Kd.R_slice ho0; have n_ := Kd.R_reads' ho0; have HRd := Aside0.mk n_.2.2; have HCd := Aside0.mk n_.2.1; clear n_ ho0; have n_ := Aside0.mk (Kd.C_below (by repeat (first | exact HRf.out | (with_reducible refine Kd.C_alloc ?_ _) | (with_reducible refine Kd.C_drewN ?_ _) | (with_reducible refine Kd.C_drew ?_))) hb); clear HRf; have HRf := n_; clear n_; have n_ := Aside0.mk (Kd.C_below (by repeat (first | exact HRi.out | (with_reducible refine Kd.C_alloc ?_ _) | (with_reducible refine Kd.C_drewN ?_ _) | (with_reducible refine Kd.C_drew ?_))) hb); clear HRi; have HRi := n_; clear n_; have n_ := Aside0.mk (Kd.C_below (by repeat (first | exact HRc.out | (with_reducible refine Kd.C_alloc ?_ _) | (with_reducible refine Kd.C_drewN ?_ _) | (with_reducible refine Kd.C_drew ?_))) hb); clear HRc; have HRc := n_; clear n_; have n_ := Aside0.mk (below_step (by repeat (first | (with_reducible first | exact HB.out | apply below_alloc | apply pw_below_drewN | apply below_drew1) | exact HB.out)) hb); clear HB; have HB := n_; clear n_ hb) | ((with_reducible refine gate_callee (f := 10) rfl ?_); refine goesL_ (some 136) rfl rfl Try.func10 (by kernel_rfl) rfl #[.int .i64 (wrap64 (2 + t)), .slice Ai i.length ci] rfl (by (try simp only [List.map_toArray, List.map_cons, List.map_nil]); first | done | rfl | (simp only [List.length_drop, List.length_take]; rfl)) ?_; (with_reducible refine (shuffle_Form.calls k _ _ _ i fm 0 _ ?side1 ?side2 HFo.out).mono ?_); (case side1 => exact (by repeat (first | exact HRi.out | (with_reducible refine Kd.C_alloc ?_ _) | (with_reducible refine Kd.C_drewN ?_ _) | (with_reducible refine Kd.C_drew ?_)))); (case side2 => exact HCi.out); rintro e w_ ⟨v_, rfl, ho0, hb⟩; refine ⟨_, rfl, ?_⟩; obtain ⟨Am, cm, rfl⟩ := Kd.R_slice ho0; have n_ := Kd.R_reads' ho0; have HRm := Aside0.mk n_.2.2; have HCm := Aside0.mk n_.2.1; clear n_ ho0; have n_ := Aside0.mk (Kd.C_below (by repeat (first | exact HRf.out | (with_reducible refine Kd.C_alloc ?_ _) | (with_reducible refine Kd.C_drewN ?_ _) | (with_reducible refine Kd.C_drew ?_))) hb); clear HRf; have HRf := n_; clear n_; have n_ := Aside0.mk (Kd.C_below (by repeat (first | exact HRi.out | (with_reducible refine Kd.C_alloc ?_ _) | (with_reducible refine Kd.C_drewN ?_ _) | (with_reducible refine Kd.C_drew ?_))) hb); clear HRi; have HRi := n_; clear n_; have n_ := Aside0.mk (Kd.C_below (by repeat (first | exact HRc.out | (with_reducible refine Kd.C_alloc ?_ _) | (with_reducible refine Kd.C_drewN ?_ _) | (with_reducible refine Kd.C_drew ?_))) hb); clear HRc; have HRc := n_; clear n_; have n_ := Aside0.mk (Kd.C_below (by repeat (first | exact HRd.out | (with_reducible refine Kd.C_alloc ?_ _) | (with_reducible refine Kd.C_drewN ?_ _) | (with_reducible refine Kd.C_drew ?_))) hb); clear HRd; have HRd := n_; clear n_; have n_ := Aside0.mk (below_step (by repeat (first | (with_reducible first | exact HB.out | apply below_alloc | apply pw_below_drewN | apply below_drew1) | exact HB.out)) hb); clear HB; have HB := n_; clear n_ hb) | ((with_reducible refine gate_callee (f := 11) rfl ?_); refine goesL_ (some 143) rfl rfl Try.func11 (by kernel_rfl) rfl #[.int .i64 (wrap64 (2 + t)), .slice Af f.length cf, .slice Ai i.length ci] rfl (by (try simp only [List.map_toArray, List.map_cons, List.map_nil]); first | done | rfl | (simp only [List.length_drop, List.length_take]; rfl)) ?_; (with_reducible refine (shuffle_After.calls k _ _ _ f _ _ i a 0 _ ?side1 ?side2 ?side3 ?side4 HAf.out).mono ?_); (case side1 => exact (by repeat (first | exact HRf.out | (with_reducible refine Kd.C_alloc ?_ _) | (with_reducible refine Kd.C_drewN ?_ _) | (with_reducible refine Kd.C_drew ?_)))); (case side2 => exact HCf.out); (case side3 => exact (by repeat (first | exact HRi.out | (with_reducible refine Kd.C_alloc ?_ _) | (with_reducible refine Kd.C_drewN ?_ _) | (with_reducible refine Kd.C_drew ?_)))); (case side4 => exact HCi.out); rintro e wa ⟨v_, rfl, ho0, hb⟩; refine ⟨_, rfl, ?_⟩; obtain ⟨Aa, ca, rfl⟩ := Kd.R_slice ho0; have n_ := Kd.R_reads' ho0; have HRa := Aside0.mk n_.2.2; have HCa := Aside0.mk n_.2.1; clear n_ ho0; have n_ := Aside0.mk (Kd.C_below (by repeat (first | exact HRf.out | (with_reducible refine Kd.C_alloc ?_ _) | (with_reducible refine Kd.C_drewN ?_ _) | (with_reducible refine Kd.C_drew ?_))) hb); clear HRf; have HRf := n_; clear n_; have n_ := Aside0.mk (Kd.C_below (by repeat (first | exact HRi.out | (with_reducible refine Kd.C_alloc ?_ _) | (with_reducible refine Kd.C_drewN ?_ _) | (with_reducible refine Kd.C_drew ?_))) hb); clear HRi; have HRi := n_; clear n_; have n_ := Aside0.mk (Kd.C_below (by repeat (first | exact HRc.out | (with_reducible refine Kd.C_alloc ?_ _) | (with_reducible refine Kd.C_drewN ?_ _) | (with_reducible refine Kd.C_drew ?_))) hb); clear HRc; have HRc := n_; clear n_; have n_ := Aside0.mk (Kd.C_below (by repeat (first | exact HRd.out | (with_reducible refine Kd.C_alloc ?_ _) | (with_reducible refine Kd.C_drewN ?_ _) | (with_reducible refine Kd.C_drew ?_))) hb); clear HRd; have HRd := n_; clear n_; have n_ := Aside0.mk (below_step (by repeat (first | (with_reducible first | exact HB.out | apply below_alloc | apply pw_below_drewN | apply below_drew1) | exact HB.out)) hb); clear HB; have HB := n_; clear n_ hb))
  refine (galloonlaw06_ints.calls k _ _ c _ _ c true _ (by repeat (first | exact HRc.out | (with_reducible refine Kd.C_alloc ?_ _) | (with_reducible refine Kd.C_drewN ?_ _) | (with_reducible refine Kd.C_drew ?_))) HCc.out (by repeat (first | exact HRd.out | (with_reducible refine Kd.C_alloc ?_ _) | (with_reducible refine Kd.C_drewN ?_ _) | (with_reducible refine Kd.C_drew ?_))) HCd.out HIn.out).mono ?_
  rintro e w_ ⟨rfl, ⟨q2, rfl⟩⟩
  have hmne : ((a.length : Int) != wrap64 (2 + t)) = false := bne_eq_false_iff_eq.2 Hal.out
  dsimp only
  go_wp2
  have HB9 := Aside0.mk (pw_below_drewN HB.out q2)
  have HRc9 := Aside0.mk (Kd.C_drewN HRc.out q2)
  have HRa9 := Aside0.mk (Kd.C_drewN HRa.out q2)
  clear HB HRc HRa HRf HRi HRd HRm HRL HR1
  go_loopg [25, 26, 27] c.length (fun gg u25 u26 u27 wr => ∃ (j : Nat) (jx : Int), u27 = .int .i64 jx ∧ u25 = .int .i64 (S j) ∧ u26 = .int .i64 (A j) ∧ Aside0 (jx = (j : Int)) ∧ Aside0 (j ≤ c.length ∧ c.length - j ≤ gg) ∧ Aside0 (Kd.C (Kd.int .i64) wr Ac c.length c) ∧ Aside0 (Kd.C (Kd.int .i64) wr Aa a.length a) ∧ Aside0 (Below w.heap.size w wr))
  case atStart => exact ⟨0, 0, rfl, by rw [HS0.out], by rw [HA0.out], ⟨rfl⟩, ⟨by omega, by omega⟩, HRc9, HRa9, HB9⟩
  case round => as_aux_lemma =>
    clear HRc9 HRa9 HB9
    obtain ⟨j, jx, rfl, rfl, rfl, HJX, HJ, HRc, HRa, HB⟩ := hrel
    have hjx := HJX.out
    by_cases hj : j < c.length
    · as_aux_lemma =>
      have HJL := Aside0.mk hj
      have hjz : decide (jx < (c.length : Int)) = true := decide_eq_true (by omega)
      obtain ⟨hc1, hc2, hc3⟩ := Hcv.out j hj
      obtain ⟨hs1, gq, hg1, hg2, hg3⟩ := Hst.out j hj
      rw [← hjx] at hc1 hc2 hc3 hs1 hg1 hg3
      obtain ⟨ad, e, g0⟩ := Kd.at_int HRc.out jx (by omega) (by omega)
      cases e
      have HG := Aside0.mk hg1
      have HN := Aside0.mk (⟨hs1, hg3⟩ : S (j + 1) = wrap64 (S j + rd c jx) ∧ A (j + 1) = wrap64 (wrap64 (Int.tdiv (A j) gq) * rd c jx))
      have hj0 : 0 ≤ jx := by omega
      have hj1 : jx < (c.length : Int) := by omega
      have hlt1 : decide (rd c jx < 1) = false := decide_eq_false (by omega)
      have hlt2 : decide (wrap64 (2 + t) < rd c jx) = false := decide_eq_false (by omega)
      have hgz : (gq == 0) = false := beq_eq_false_iff_ne.2 hg2
      have hnx : wrap64 (jx + 1) = ((j + 1 : Nat) : Int) := by have := Hcl.out; unfold wrap64; omega
      obtain ⟨s0, hs0e⟩ : ∃ s0, s0 = S j := ⟨_, rfl⟩
      obtain ⟨q0, hq0e⟩ : ∃ q0, q0 = A j := ⟨_, rfl⟩
      have HN2 := HN.out
      have HG2 := HG.out
      rw [← hs0e, ← hq0e] at HN2
      rw [← hq0e] at HG2
      rw [← hs0e, ← hq0e]
      clear HN HG hs0e hq0e
      have HN := Aside0.mk HN2
      have HG := Aside0.mk HG2
      have HNX := Aside0.mk hnx
      clear HN2 HG2 hnx
      by_cases hp : 0 < j
      · as_aux_lemma =>
        have hpz : decide (0 < jx) = true := decide_eq_true (by omega)
        have hpm : wrap64 (jx - 1) = ((j - 1 : Nat) : Int) := by have := HJ.out.1; have := Hcl.out; unfold wrap64; omega
        obtain ⟨jp, hjp⟩ : ∃ jp : Int, jp = ((j - 1 : Nat) : Int) := ⟨_, rfl⟩
        have hcmp := hc3 hp
        rw [← hjp] at hpm hcmp
        have hpw : IntKind.i64.wrap (jx - 1) = jp := (i64_w _).trans hpm
        have hcz : decide (rd c jx < rd c jp) = false := decide_eq_false (by omega)
        obtain ⟨ap, e, g1⟩ := Kd.at_int HRc.out jp (by omega) (by omega)
        injection e with e
        subst e
        have hp0 : 0 ≤ jp := by omega
        have hp1 : jp < (c.length : Int) := by omega
        clear hc1 hc2 hc3 hs1 hg1 hg3 hcmp hjp hjx hp hj
        go_wp2
        refine start_ (n := 29) (S := fun w' => w'.cell? (ad.add (jx).toNat) = some (.int .i64 (rd c jx)) ∧ w'.cell? (ad.add (jx).toNat) = some (.int .i64 (rd c jx)) ∧ w'.cell? (ad.add (jp).toNat) = some (.int .i64 (rd c jp)) ∧ w'.cell? (ad.add (jx).toNat) = some (.int .i64 (rd c jx))) (ds := []) #[false,false,false,false,false,false,false,false,false,false,false,false,false,false,false,false,false,false,false,false,false,false,false,false,false,false,false,false,false] (by kernel_rfl) rfl rfl ⟨g0, g0, g1, g0⟩ (fun hHeld => ?_); refine with_tabW galloonlaw06_ShuffleInverted.tab22 galloonlaw06_ShuffleInverted.bits22 (fun HT_ HW_ => ?_)
        refine pure_ (i := 0) (N := some 195) (v := ?_) (a' := ?_) #[true,false,false,false,false,false,false,false,false,false,false,false,false,false,false,false,false,false,false,false,false,false,false,false,false,false,false,false,false] rfl rfl (any_of HT_.out (by kernel_rfl)) (fun _ _ _ h => h) (Or.inl ⟨by rfl, ?_⟩) ?_ ?_
        rotate_left
        ·
         intro w'
         go_simp
         with_reducible rfl
        rotate_left
        ·
         simp only [Act.put, Hand.s0_, List.set_cons_zero, Hand.s1_, i64_w, i32_w]
         rfl
        refine pure_ (i := 1) (N := some 196) (v := ?_) (a' := ?_) #[true,true,false,false,false,false,false,false,false,false,false,false,false,false,false,false,false,false,false,false,false,false,false,false,false,false,false,false,false] rfl rfl (any_of HT_.out (by kernel_rfl)) (fun _ _ _ h => h) (Or.inl ⟨by rfl, ?_⟩) ?_ ?_
        rotate_left
        ·
         intro w'
         go_simp
         with_reducible rfl
        rotate_left
        ·
         simp only [Act.put, Hand.s0_, List.set_cons_zero, Hand.s1_, i64_w, i32_w]
         rfl
        refine pure_ (i := 2) (N := some 197) (v := ?_) (a' := ?_) #[true,true,true,false,false,false,false,false,false,false,false,false,false,false,false,false,false,false,false,false,false,false,false,false,false,false,false,false,false] rfl rfl (any_of HT_.out (by kernel_rfl)) (fun _ _ _ h => h) (Or.inl ⟨by rfl, ?_⟩) ?_ ?_
        rotate_left
        ·
         intro w'
         go_simp
         with_reducible rfl
        rotate_left
        ·
         simp only [Act.put, Hand.s0_, List.set_cons_zero, Hand.s1_, i64_w, i32_w]
         rfl
        refine take_ (i := 3) (N := some 198) (v := ?_) (a' := ?_) #[true,true,true,true,false,false,false,false,false,false,false,false,false,false,false,false,false,false,false,false,false,false,false,false,false,false,false,false,false] rfl rfl (take_ofW HT_.out HW_.out (by kernel_rfl)) (fun _ _ _ h => h) (Or.inl ⟨by rfl, ?_⟩) hHeld ?_ ?_
        rotate_left
        ·
         rintro w' ⟨s0, s1, s2, s3⟩
         go_simp
         with_reducible rfl
        rotate_left
        ·
         simp only [Act.put, Hand.s0_, List.set_cons_zero, Hand.s1_, i64_w, i32_w]
         rfl
        refine pure_ (i := 4) (N := some 199) (v := ?_) (a' := ?_) #[true,true,true,true,true,false,false,false,false,false,false,false,false,false,false,false,false,false,false,false,false,false,false,false,false,false,false,false,false] rfl rfl (any_of HT_.out (by kernel_rfl)) (fun _ _ _ h => h) (Or.inl ⟨by rfl, ?_⟩) ?_ ?_
        rotate_left
        ·
         intro w'
         go_simp
         with_reducible rfl
        rotate_left
        ·
         simp only [Act.put, Hand.s0_, List.set_cons_zero, Hand.s1_, i64_w, i32_w]
         rfl
        refine pure_ (i := 5) (N := some 200) (v := ?_) (a' := ?_) #[true,true,true,true,true,true,false,false,false,false,false,false,false,false,false,false,false,false,false,false,false,false,false,false,false,false,false,false,false] rfl rfl (any_of HT_.out (by kernel_rfl)) (fun _ _ _ h => h) (Or.inl ⟨by rfl, ?_⟩) ?_ ?_
        rotate_left
        ·
         intro w'
         go_simp
         with_reducible rfl
        rotate_left
        ·
         simp only [Act.put, Hand.s0_, List.set_cons_zero, Hand.s1_, i64_w, i32_w]
         rfl
        refine pure_ (i := 6) (N := some 201) (v := ?_) (a' := ?_) #[true,true,true,true,true,true,true,false,false,false,false,false,false,false,false,false,false,false,false,false,false,false,false,false,false,false,false,false,false] rfl rfl (any_of HT_.out (by kernel_rfl)) (fun _ _ _ h => h) (Or.inl ⟨by rfl, ?_⟩) ?_ ?_
        rotate_left
        ·
         intro w'
         go_simp
         with_reducible rfl
        rotate_left
        ·
         simp only [Act.put, Hand.s0_, List.set_cons_zero, Hand.s1_, i64_w, i32_w]
         rfl
        refine pure_ (i := 7) (N := some 202) (v := ?_) (a' := ?_) #[true,true,true,true,true,true,true,true,false,false,false,false,false,false,false,false,false,false,false,false,false,false,false,false,false,false,false,false,false] rfl rfl (any_of HT_.out (by kernel_rfl)) (fun _ _ _ h => h) (Or.inl ⟨by rfl, ?_⟩) ?_ ?_
        rotate_left
        ·
         intro w'
         go_simp
         with_reducible rfl
        rotate_left
        ·
         simp only [Act.put, Hand.s0_, List.set_cons_zero, Hand.s1_, i64_w, i32_w]
         rfl
        refine pure_ (i := 8) (N := some 203) (v := ?_) (a' := ?_) #[true,true,true,true,true,true,true,true,true,false,false,false,false,false,false,false,false,false,false,false,false,false,false,false,false,false,false,false,false] rfl rfl (any_of HT_.out (by kernel_rfl)) (fun _ _ _ h => h) (Or.inl ⟨by rfl, ?_⟩) ?_ ?_
        rotate_left
        ·
         intro w'
         go_simp
         with_reducible rfl
        rotate_left
        ·
         simp only [Act.put, Hand.s0_, List.set_cons_zero, Hand.s1_, i64_w, i32_w]
         rfl
        refine pure_ (i := 10) (N := some 205) (v := ?_) (a' := ?_) #[true,true,true,true,true,true,true,true,true,false,true,false,false,false,false,false,false,false,false,false,false,false,false,false,false,false,false,false,false] rfl rfl (any_of HT_.out (by kernel_rfl)) (fun _ _ _ h => h) (Or.inl ⟨by rfl, ?_⟩) ?_ ?_
        rotate_left
        ·
         intro w'
         go_simp
         with_reducible rfl
        rotate_left
        ·
         simp only [Act.put, Hand.s0_, List.set_cons_zero, Hand.s1_, i64_w, i32_w]
         rfl
        refine take_ (i := 9) (N := some 204) (v := ?_) (a' := ?_) #[true,true,true,true,true,true,true,true,true,true,true,false,false,false,false,false,false,false,false,false,false,false,false,false,false,false,false,false,false] rfl rfl (take_ofW HT_.out HW_.out (by kernel_rfl)) (fun _ _ _ h => h) (Or.inl ⟨by rfl, ?_⟩) hHeld ?_ ?_
        rotate_left
        ·
         rintro w' ⟨s0, s1, s2, s3⟩
         go_simp
         with_reducible rfl
        rotate_left
        ·
         simp only [Act.put, Hand.s0_, List.set_cons_zero, Hand.s1_, i64_w, i32_w]
         rfl
        refine pure_ (i := 11) (N := some 206) (v := ?_) (a' := ?_) #[true,true,true,true,true,true,true,true,true,true,true,true,false,false,false,false,false,false,false,false,false,false,false,false,false,false,false,false,false] rfl rfl (any_of HT_.out (by kernel_rfl)) (fun _ _ _ h => h) (Or.inl ⟨by rfl, ?_⟩) ?_ ?_
        rotate_left
        ·
         intro w'
         go_simp
         with_reducible rfl
        rotate_left
        ·
         simp only [Act.put, Hand.s0_, List.set_cons_zero, Hand.s1_, i64_w, i32_w]
         rfl
        refine pure_ (i := 12) (N := some 207) (v := ?_) (a' := ?_) #[true,true,true,true,true,true,true,true,true,true,true,true,true,false,false,false,false,false,false,false,false,false,false,false,false,false,false,false,false] rfl rfl (any_of HT_.out (by kernel_rfl)) (fun _ _ _ h => h) (Or.inl ⟨by rfl, ?_⟩) ?_ ?_
        rotate_left
        ·
         intro w'
         go_simp
         with_reducible rfl
        rotate_left
        ·
         simp only [Act.put, Hand.s0_, List.set_cons_zero, Hand.s1_, i64_w, i32_w]
         rfl
        refine pure_ (i := 13) (N := some 208) (v := ?_) (a' := ?_) #[true,true,true,true,true,true,true,true,true,true,true,true,true,true,false,false,false,false,false,false,false,false,false,false,false,false,false,false,false] rfl rfl (any_of HT_.out (by kernel_rfl)) (fun _ _ _ h => h) (Or.inl ⟨by rfl, ?_⟩) ?_ ?_
        rotate_left
        ·
         intro w'
         go_simp
         with_reducible rfl
        rotate_left
        ·
         simp only [Act.put, Hand.s0_, List.set_cons_zero, Hand.s1_, i64_w, i32_w]
         rfl
        refine pure_ (i := 14) (N := some 209) (v := ?_) (a' := ?_) #[true,true,true,true,true,true,true,true,true,true,true,true,true,true,true,false,false,false,false,false,false,false,false,false,false,false,false,false,false] rfl rfl (any_of HT_.out (by kernel_rfl)) (fun _ _ _ h => h) (Or.inl ⟨by rfl, ?_⟩) ?_ ?_
        rotate_left
        ·
         intro w'
         go_simp
         with_reducible rfl
        rotate_left
        ·
         simp only [Act.put, Hand.s0_, List.set_cons_zero, Hand.s1_, i64_w, i32_w]
         rfl
        refine pure_ (i := 15) (N := some 210) (v := ?_) (a' := ?_) #[true,true,true,true,true,true,true,true,true,true,true,true,true,true,true,true,false,false,false,false,false,false,false,false,false,false,false,false,false] rfl rfl (any_of HT_.out (by kernel_rfl)) (fun _ _ _ h => h) (Or.inl ⟨by rfl, ?_⟩) ?_ ?_
        rotate_left
        ·
         intro w'
         go_simp
         with_reducible rfl
        rotate_left
        ·
         simp only [Act.put, Hand.s0_, List.set_cons_zero, Hand.s1_, i64_w, i32_w]
         rfl
        refine pure_ (i := 16) (N := some 211) (v := ?_) (a' := ?_) #[true,true,true,true,true,true,true,true,true,true,true,true,true,true,true,true,true,false,false,false,false,false,false,false,false,false,false,false,false] rfl rfl (any_of HT_.out (by kernel_rfl)) (fun _ _ _ h => h) (Or.inl ⟨by rfl, ?_⟩) ?_ ?_
        rotate_left
        ·
         intro w'
         go_simp
         with_reducible rfl
        rotate_left
        ·
         simp only [Act.put, Hand.s0_, List.set_cons_zero, Hand.s1_, i64_w, i32_w]
         rfl
        refine pure_ (i := 17) (N := some 212) (v := ?_) (a' := ?_) #[true,true,true,true,true,true,true,true,true,true,true,true,true,true,true,true,true,true,false,false,false,false,false,false,false,false,false,false,false] rfl rfl (any_of HT_.out (by kernel_rfl)) (fun _ _ _ h => h) (Or.inl ⟨by rfl, ?_⟩) ?_ ?_
        rotate_left
        ·
         intro w'
         go_simp
         with_reducible rfl
        rotate_left
        ·
         simp only [Act.put, Hand.s0_, List.set_cons_zero, Hand.s1_, i64_w, i32_w]
         rfl
        refine pure_ (i := 18) (N := some 213) (v := ?_) (a' := ?_) #[true,true,true,true,true,true,true,true,true,true,true,true,true,true,true,true,true,true,true,false,false,false,false,false,false,false,false,false,false] rfl rfl (any_of HT_.out (by kernel_rfl)) (fun _ _ _ h => h) (Or.inl ⟨by rfl, ?_⟩) ?_ ?_
        rotate_left
        ·
         intro w'
         go_simp
         with_reducible rfl
        rotate_left
        ·
         simp only [Act.put, Hand.s0_, List.set_cons_zero, Hand.s1_, i64_w, i32_w]
         rfl
        refine pure_ (i := 19) (N := some 214) (v := ?_) (a' := ?_) #[true,true,true,true,true,true,true,true,true,true,true,true,true,true,true,true,true,true,true,true,false,false,false,false,false,false,false,false,false] rfl rfl (any_of HT_.out (by kernel_rfl)) (fun _ _ _ h => h) (Or.inl ⟨by rfl, ?_⟩) ?_ ?_
        rotate_left
        ·
         intro w'
         go_simp
         with_reducible rfl
        rotate_left
        ·
         simp only [Act.put, Hand.s0_, List.set_cons_zero, Hand.s1_, i64_w, i32_w]
         rfl
        refine pure_ (i := 20) (N := some 215) (v := ?_) (a' := ?_) #[true,true,true,true,true,true,true,true,true,true,true,true,true,true,true,true,true,true,true,true,true,false,false,false,false,false,false,false,false] rfl rfl (any_of HT_.out (by kernel_rfl)) (fun _ _ _ h => h) (Or.inl ⟨by rfl, ?_⟩) ?_ ?_
        rotate_left
        ·
         intro w'
         go_simp
         with_reducible rfl
        rotate_left
        ·
         simp only [Act.put, Hand.s0_, List.set_cons_zero, Hand.s1_, i64_w, i32_w]
         rfl
        refine pure_ (i := 22) (N := some 217) (v := ?_) (a' := ?_) #[true,true,true,true,true,true,true,true,true,true,true,true,true,true,true,true,true,true,true,true,true,false,true,false,false,false,false,false,false] rfl rfl (any_of HT_.out (by kernel_rfl)) (fun _ _ _ h => h) (Or.inl ⟨by rfl, ?_⟩) ?_ ?_
        rotate_left
        ·
         intro w'
         go_simp
         with_reducible rfl
        rotate_left
        ·
         simp only [Act.put, Hand.s0_, List.set_cons_zero, Hand.s1_, i64_w, i32_w]
         rfl
        refine pure_ (i := 23) (N := some 218) (v := ?_) (a' := ?_) #[true,true,true,true,true,true,true,true,true,true,true,true,true,true,true,true,true,true,true,true,true,false,true,true,false,false,false,false,false] rfl rfl (any_of HT_.out (by kernel_rfl)) (fun _ _ _ h => h) (Or.inl ⟨by rfl, ?_⟩) ?_ ?_
        rotate_left
        ·
         intro w'
         go_simp
         with_reducible rfl
        rotate_left
        ·
         simp only [Act.put, Hand.s0_, List.set_cons_zero, Hand.s1_, i64_w, i32_w]
         rfl
        refine pure_ (i := 24) (N := some 219) (v := ?_) (a' := ?_) #[true,true,true,true,true,true,true,true,true,true,true,true,true,true,true,true,true,true,true,true,true,false,true,true,true,false,false,false,false] rfl rfl (any_of HT_.out (by kernel_rfl)) (fun _ _ _ h => h) (Or.inl ⟨by rfl, ?_⟩) ?_ ?_
        rotate_left
        ·
         intro w'
         go_simp
         with_reducible rfl
        rotate_left
        ·
         simp only [Act.put, Hand.s0_, List.set_cons_zero, Hand.s1_, i64_w, i32_w]
         rfl
        refine take_ (i := 21) (N := some 216) (v := ?_) (a' := ?_) #[true,true,true,true,true,true,true,true,true,true,true,true,true,true,true,true,true,true,true,true,true,true,true,true,true,false,false,false,false] rfl rfl (take_ofW HT_.out HW_.out (by kernel_rfl)) (fun _ _ _ h => h) (Or.inl ⟨by rfl, ?_⟩) hHeld ?_ ?_
        rotate_left
        ·
         rintro w' ⟨s0, s1, s2, s3⟩
         go_simp
         with_reducible rfl
        rotate_left
        ·
         simp only [Act.put, Hand.s0_, List.set_cons_zero, Hand.s1_, i64_w, i32_w]
         rfl
        refine take_ (i := 25) (N := some 220) (v := ?_) (a' := ?_) #[true,true,true,true,true,true,true,true,true,true,true,true,true,true,true,true,true,true,true,true,true,true,true,true,true,true,false,false,false] rfl rfl (take_ofW HT_.out HW_.out (by kernel_rfl)) (fun _ _ _ h => h) (Or.inl ⟨by rfl, ?_⟩) hHeld ?_ ?_
        rotate_left
        ·
         rintro w' ⟨s0, s1, s2, s3⟩
         go_simp
         with_reducible rfl
        rotate_left
        ·
         simp only [Act.put, Hand.s0_, List.set_cons_zero, Hand.s1_, i64_w, i32_w]
         rfl
        refine pure_ (i := 26) (N := some 221) (v := ?_) (a' := ?_) #[true,true,true,true,true,true,true,true,true,true,true,true,true,true,true,true,true,true,true,true,true,true,true,true,true,true,true,false,false] rfl rfl (any_of HT_.out (by kernel_rfl)) (fun _ _ _ h => h) (Or.inl ⟨by rfl, ?_⟩) ?_ ?_
        rotate_left
        ·
         intro w'
         go_simp
         with_reducible rfl
        rotate_left
        ·
         simp only [Act.put, Hand.s0_, List.set_cons_zero, Hand.s1_, i64_w, i32_w]
         rfl
        refine pure_ (i := 27) (N := some 222) (v := ?_) (a' := ?_) #[true,true,true,true,true,true,true,true,true,true,true,true,true,true,true,true,true,true,true,true,true,true,true,true,true,true,true,true,false] rfl rfl (any_of HT_.out (by kernel_rfl)) (fun _ _ _ h => h) (Or.inl ⟨by rfl, ?_⟩) ?_ ?_
        rotate_left
        ·
         intro w'
         go_simp
         with_reducible rfl
        rotate_left
        ·
         simp only [Act.put, Hand.s0_, List.set_cons_zero, Hand.s1_, i64_w, i32_w]
         rfl
        refine pure_ (i := 28) (N := some 223) (v := ?_) (a' := ?_) #[true,true,true,true,true,true,true,true,true,true,true,true,true,true,true,true,true,true,true,true,true,true,true,true,true,true,true,true,true] rfl rfl (any_of HT_.out (by kernel_rfl)) (fun _ _ _ h => h) (Or.inl ⟨by rfl, ?_⟩) ?_ ?_
        rotate_left
        ·
         intro w'
         go_simp
         with_reducible rfl
        rotate_left
        ·
         simp only [Act.put, Hand.s0_, List.set_cons_zero, Hand.s1_, i64_w, i32_w]
         rfl
        refine done_ (done_of HT_.out (by kernel_rfl)) ?_
        try go_wp2
        refine start_ (n := 14) (S := fun w' => w'.cell? (ad.add (jx).toNat) = some (.int .i64 (rd c jx)) ∧ w'.cell? (ad.add (jx).toNat) = some (.int .i64 (rd c jx))) (ds := []) #[false,false,false,false,false,false,false,false,false,false,false,false,false,false] (by kernel_rfl) rfl rfl ⟨g0, g0⟩ (fun hHeld => ?_); refine with_tabW galloonlaw06_ShuffleInverted.tab25 galloonlaw06_ShuffleInverted.bits25 (fun HT_ HW_ => ?_)
        refine pure_ (i := 0) (N := some 230) (v := ?_) (a' := ?_) #[true,false,false,false,false,false,false,false,false,false,false,false,false,false] rfl rfl (any_of HT_.out (by kernel_rfl)) (fun _ _ _ h => h) (Or.inl ⟨by rfl, ?_⟩) ?_ ?_
        rotate_left
        ·
         intro w'
         go_simp
         with_reducible rfl
        rotate_left
        ·
         simp only [Act.put, Hand.s0_, List.set_cons_zero, Hand.s1_, i64_w, i32_w]
         rfl
        refine pure_ (i := 1) (N := some 231) (v := ?_) (a' := ?_) #[true,true,false,false,false,false,false,false,false,false,false,false,false,false] rfl rfl (any_of HT_.out (by kernel_rfl)) (fun _ _ _ h => h) (Or.inl ⟨by rfl, ?_⟩) ?_ ?_
        rotate_left
        ·
         intro w'
         go_simp
         with_reducible rfl
        rotate_left
        ·
         simp only [Act.put, Hand.s0_, List.set_cons_zero, Hand.s1_, i64_w, i32_w]
         rfl
        refine pure_ (i := 2) (N := some 232) (v := ?_) (a' := ?_) #[true,true,true,false,false,false,false,false,false,false,false,false,false,false] rfl rfl (any_of HT_.out (by kernel_rfl)) (fun _ _ _ h => h) (Or.inl ⟨by rfl, ?_⟩) ?_ ?_
        rotate_left
        ·
         intro w'
         go_simp
         with_reducible rfl
        rotate_left
        ·
         simp only [Act.put, Hand.s0_, List.set_cons_zero, Hand.s1_, i64_w, i32_w]
         rfl
        refine pure_ (i := 3) (N := some 233) (v := ?_) (a' := ?_) #[true,true,true,true,false,false,false,false,false,false,false,false,false,false] rfl rfl (any_of HT_.out (by kernel_rfl)) (fun _ _ _ h => h) (Or.inl ⟨by rfl, ?_⟩) ?_ ?_
        rotate_left
        ·
         intro w'
         go_simp
         with_reducible rfl
        rotate_left
        ·
         simp only [Act.put, Hand.s0_, List.set_cons_zero, Hand.s1_, i64_w, i32_w]
         rfl
        refine pure_ (i := 4) (N := some 234) (v := ?_) (a' := ?_) #[true,true,true,true,true,false,false,false,false,false,false,false,false,false] rfl rfl (any_of HT_.out (by kernel_rfl)) (fun _ _ _ h => h) (Or.inl ⟨by rfl, ?_⟩) ?_ ?_
        rotate_left
        ·
         intro w'
         go_simp
         with_reducible rfl
        rotate_left
        ·
         simp only [Act.put, Hand.s0_, List.set_cons_zero, Hand.s1_, i64_w, i32_w]
         rfl
        refine pure_ (i := 8) (N := some 238) (v := ?_) (a' := ?_) #[true,true,true,true,true,false,false,false,true,false,false,false,false,false] rfl rfl (any_of HT_.out (by kernel_rfl)) (fun _ _ _ h => h) (Or.inl ⟨by rfl, ?_⟩) ?_ ?_
        rotate_left
        ·
         intro w'
         go_simp
         with_reducible rfl
        rotate_left
        ·
         simp only [Act.put, Hand.s0_, List.set_cons_zero, Hand.s1_, i64_w, i32_w]
         rfl
        refine pure_ (i := 9) (N := some 239) (v := ?_) (a' := ?_) #[true,true,true,true,true,false,false,false,true,true,false,false,false,false] rfl rfl (any_of HT_.out (by kernel_rfl)) (fun _ _ _ h => h) (Or.inl ⟨by rfl, ?_⟩) ?_ ?_
        rotate_left
        ·
         intro w'
         go_simp
         with_reducible rfl
        rotate_left
        ·
         simp only [Act.put, Hand.s0_, List.set_cons_zero, Hand.s1_, i64_w, i32_w]
         rfl
        refine pure_ (i := 10) (N := some 240) (v := ?_) (a' := ?_) #[true,true,true,true,true,false,false,false,true,true,true,false,false,false] rfl rfl (any_of HT_.out (by kernel_rfl)) (fun _ _ _ h => h) (Or.inl ⟨by rfl, ?_⟩) ?_ ?_
        rotate_left
        ·
         intro w'
         go_simp
         with_reducible rfl
        rotate_left
        ·
         simp only [Act.put, Hand.s0_, List.set_cons_zero, Hand.s1_, i64_w, i32_w]
         rfl
        refine take_ (i := 5) (N := some 235) (v := ?_) (a' := ?_) #[true,true,true,true,true,true,false,false,true,true,true,false,false,false] rfl rfl (take_ofW HT_.out HW_.out (by kernel_rfl)) (fun _ _ _ h => h) (Or.inl ⟨by rfl, ?_⟩) hHeld ?_ ?_
        rotate_left
        ·
         rintro w' ⟨s0, s1⟩
         go_simp
         with_reducible rfl
        rotate_left
        ·
         simp only [Act.put, Hand.s0_, List.set_cons_zero, Hand.s1_, i64_w, i32_w]
         rfl
        refine take_ (i := 11) (N := some 241) (v := ?_) (a' := ?_) #[true,true,true,true,true,true,false,false,true,true,true,true,false,false] rfl rfl (take_ofW HT_.out HW_.out (by kernel_rfl)) (fun _ _ _ h => h) (Or.inl ⟨by rfl, ?_⟩) hHeld ?_ ?_
        rotate_left
        ·
         rintro w' ⟨s0, s1⟩
         go_simp
         with_reducible rfl
        rotate_left
        ·
         simp only [Act.put, Hand.s0_, List.set_cons_zero, Hand.s1_, i64_w, i32_w]
         rfl
        refine one_ (i := 6) (N := some 236) #[true,true,true,true,true,true,true,false,true,true,true,true,false,false] rfl rfl (one_of HT_.out (by kernel_rfl)) (by decide) (fun K hK => ?_)
        refine goes_ Try.func28 (by kernel_rfl) rfl #[.int .i64 q0, .int .i64 (rd c jx)] (by rfl) rfl rfl (by (try simp only [List.map_toArray, List.map_cons, List.map_nil]); first | done | rfl | (simp only [List.length_drop, List.length_take]; rfl)) ?_
        with_reducible refine (galloonref06_Gcd.calls k q0 (rd c jx) gq _ HG.out).mono ?_
        rintro e w' ⟨rfl, ⟨nd, rfl⟩⟩
        refine ⟨_, rfl, ?_⟩
        refine hK.out _ _ ⟨hHeld.1, hHeld.2⟩ (fun hHeld => ?_)
        clear hK K
        refine norm_ (a' := ?_) ?_ ?_
        rotate_left
        ·
         show Act.put _ (some 236) _ = _
         simp only [Act.put, Hand.s0_, List.set_cons_zero, Hand.s1_, i64_w, i32_w]
         rfl
        refine pure_ (i := 7) (N := some 237) (v := ?_) (a' := ?_) #[true,true,true,true,true,true,true,true,true,true,true,true,false,false] rfl rfl (any_of HT_.out (by kernel_rfl)) (fun _ _ _ h => h) (Or.inl ⟨by rfl, ?_⟩) ?_ ?_
        rotate_left
        ·
         intro w'
         go_simp
         with_reducible rfl
        rotate_left
        ·
         simp only [Act.put, Hand.s0_, List.set_cons_zero, Hand.s1_, i64_w, i32_w]
         rfl
        refine pure_ (i := 12) (N := some 242) (v := ?_) (a' := ?_) #[true,true,true,true,true,true,true,true,true,true,true,true,true,false] rfl rfl (any_of HT_.out (by kernel_rfl)) (fun _ _ _ h => h) (Or.inl ⟨by rfl, ?_⟩) ?_ ?_
        rotate_left
        ·
         intro w'
         go_simp
         with_reducible rfl
        rotate_left
        ·
         simp only [Act.put, Hand.s0_, List.set_cons_zero, Hand.s1_, i64_w, i32_w]
         rfl
        refine pure_ (i := 13) (N := some 26) (v := ?_) (a' := ?_) #[true,true,true,true,true,true,true,true,true,true,true,true,true,true] rfl rfl (any_of HT_.out (by kernel_rfl)) (fun _ _ _ h => h) (Or.inl ⟨by rfl, ?_⟩) ?_ ?_
        rotate_left
        ·
         intro w'
         go_simp
         with_reducible rfl
        rotate_left
        ·
         simp only [Act.put, Hand.s0_, List.set_cons_zero, Hand.s1_, i64_w, i32_w]
         rfl
        refine done_ (done_of HT_.out (by kernel_rfl)) ?_
        try go_wp2
        go_roundg (c.length - (j + 1))
        case measure => have h1 := HJ.out; have h2 := HJL.out; omega
        case rel => exact ⟨j + 1, _, rfl, by rw [HN.out.1], by rw [HN.out.2], ⟨HNX.out⟩, ⟨by have h1 := HJ.out; have h2 := HJL.out; omega, Nat.le_refl _⟩, ⟨by repeat (first | exact HRc.out | (with_reducible refine Kd.C_drewN ?_ _) | (with_reducible refine Kd.C_drew ?_))⟩, ⟨by repeat (first | exact HRa.out | (with_reducible refine Kd.C_drewN ?_ _) | (with_reducible refine Kd.C_drew ?_))⟩, ⟨(by repeat (first | (with_reducible first | exact HB.out | apply below_alloc | apply pw_below_drewN | apply below_drew1) | exact HB.out))⟩⟩
      · as_aux_lemma =>
        have hpz : decide (0 < jx) = false := decide_eq_false (by omega)
        clear hc1 hc2 hc3 hs1 hg1 hg3 hjx hp hj
        go_wp2
        refine start_ (n := 29) (S := fun w' => w'.cell? (ad.add (jx).toNat) = some (.int .i64 (rd c jx)) ∧ w'.cell? (ad.add (jx).toNat) = some (.int .i64 (rd c jx))) (ds := []) #[false,false,false,false,false,false,false,false,false,false,false,false,false,false,false,false,false,false,false,false,false,false,false,false,false,false,false,false,false] (by kernel_rfl) rfl rfl ⟨g0, g0⟩ (fun hHeld => ?_); refine with_tabW galloonlaw06_ShuffleInverted.tab22 galloonlaw06_ShuffleInverted.bits22 (fun HT_ HW_ => ?_)
        refine pure_ (i := 0) (N := some 195) (v := ?_) (a' := ?_) #[true,false,false,false,false,false,false,false,false,false,false,false,false,false,false,false,false,false,false,false,false,false,false,false,false,false,false,false,false] rfl rfl (any_of HT_.out (by kernel_rfl)) (fun _ _ _ h => h) (Or.inl ⟨by rfl, ?_⟩) ?_ ?_
        rotate_left
        ·
         intro w'
         go_simp
         with_reducible rfl
        rotate_left
        ·
         simp only [Act.put, Hand.s0_, List.set_cons_zero, Hand.s1_, i64_w, i32_w]
         rfl
        refine pure_ (i := 1) (N := some 196) (v := ?_) (a' := ?_) #[true,true,false,false,false,false,false,false,false,false,false,false,false,false,false,false,false,false,false,false,false,false,false,false,false,false,false,false,false] rfl rfl (any_of HT_.out (by kernel_rfl)) (fun _ _ _ h => h) (Or.inl ⟨by rfl, ?_⟩) ?_ ?_
        rotate_left
        ·
         intro w'
         go_simp
         with_reducible rfl
        rotate_left
        ·
         simp only [Act.put, Hand.s0_, List.set_cons_zero, Hand.s1_, i64_w, i32_w]
         rfl
        refine pure_ (i := 2) (N := some 197) (v := ?_) (a' := ?_) #[true,true,true,false,false,false,false,false,false,false,false,false,false,false,false,false,false,false,false,false,false,false,false,false,false,false,false,false,false] rfl rfl (any_of HT_.out (by kernel_rfl)) (fun _ _ _ h => h) (Or.inl ⟨by rfl, ?_⟩) ?_ ?_
        rotate_left
        ·
         intro w'
         go_simp
         with_reducible rfl
        rotate_left
        ·
         simp only [Act.put, Hand.s0_, List.set_cons_zero, Hand.s1_, i64_w, i32_w]
         rfl
        refine take_ (i := 3) (N := some 198) (v := ?_) (a' := ?_) #[true,true,true,true,false,false,false,false,false,false,false,false,false,false,false,false,false,false,false,false,false,false,false,false,false,false,false,false,false] rfl rfl (take_ofW HT_.out HW_.out (by kernel_rfl)) (fun _ _ _ h => h) (Or.inl ⟨by rfl, ?_⟩) hHeld ?_ ?_
        rotate_left
        ·
         rintro w' ⟨s0, s1⟩
         go_simp
         with_reducible rfl
        rotate_left
        ·
         simp only [Act.put, Hand.s0_, List.set_cons_zero, Hand.s1_, i64_w, i32_w]
         rfl
        refine pure_ (i := 4) (N := some 199) (v := ?_) (a' := ?_) #[true,true,true,true,true,false,false,false,false,false,false,false,false,false,false,false,false,false,false,false,false,false,false,false,false,false,false,false,false] rfl rfl (any_of HT_.out (by kernel_rfl)) (fun _ _ _ h => h) (Or.inl ⟨by rfl, ?_⟩) ?_ ?_
        rotate_left
        ·
         intro w'
         go_simp
         with_reducible rfl
        rotate_left
        ·
         simp only [Act.put, Hand.s0_, List.set_cons_zero, Hand.s1_, i64_w, i32_w]
         rfl
        refine pure_ (i := 5) (N := some 200) (v := ?_) (a' := ?_) #[true,true,true,true,true,true,false,false,false,false,false,false,false,false,false,false,false,false,false,false,false,false,false,false,false,false,false,false,false] rfl rfl (any_of HT_.out (by kernel_rfl)) (fun _ _ _ h => h) (Or.inl ⟨by rfl, ?_⟩) ?_ ?_
        rotate_left
        ·
         intro w'
         go_simp
         with_reducible rfl
        rotate_left
        ·
         simp only [Act.put, Hand.s0_, List.set_cons_zero, Hand.s1_, i64_w, i32_w]
         rfl
        refine pure_ (i := 6) (N := some 201) (v := ?_) (a' := ?_) #[true,true,true,true,true,true,true,false,false,false,false,false,false,false,false,false,false,false,false,false,false,false,false,false,false,false,false,false,false] rfl rfl (any_of HT_.out (by kernel_rfl)) (fun _ _ _ h => h) (Or.inl ⟨by rfl, ?_⟩) ?_ ?_
        rotate_left
        ·
         intro w'
         go_simp
         with_reducible rfl
        rotate_left
        ·
         simp only [Act.put, Hand.s0_, List.set_cons_zero, Hand.s1_, i64_w, i32_w]
         rfl
        refine pure_ (i := 7) (N := some 202) (v := ?_) (a' := ?_) #[true,true,true,true,true,true,true,true,false,false,false,false,false,false,false,false,false,false,false,false,false,false,false,false,false,false,false,false,false] rfl rfl (any_of HT_.out (by kernel_rfl)) (fun _ _ _ h => h) (Or.inl ⟨by rfl, ?_⟩) ?_ ?_
        rotate_left
        ·
         intro w'
         go_simp
         with_reducible rfl
        rotate_left
        ·
         simp only [Act.put, Hand.s0_, List.set_cons_zero, Hand.s1_, i64_w, i32_w]
         rfl
        refine pure_ (i := 8) (N := some 203) (v := ?_) (a' := ?_) #[true,true,true,true,true,true,true,true,true,false,false,false,false,false,false,false,false,false,false,false,false,false,false,false,false,false,false,false,false] rfl rfl (any_of HT_.out (by kernel_rfl)) (fun _ _ _ h => h) (Or.inl ⟨by rfl, ?_⟩) ?_ ?_
        rotate_left
        ·
         intro w'
         go_simp
         with_reducible rfl
        rotate_left
        ·
         simp only [Act.put, Hand.s0_, List.set_cons_zero, Hand.s1_, i64_w, i32_w]
         rfl
        refine pure_ (i := 10) (N := some 205) (v := ?_) (a' := ?_) #[true,true,true,true,true,true,true,true,true,false,true,false,false,false,false,false,false,false,false,false,false,false,false,false,false,false,false,false,false] rfl rfl (any_of HT_.out (by kernel_rfl)) (fun _ _ _ h => h) (Or.inl ⟨by rfl, ?_⟩) ?_ ?_
        rotate_left
        ·
         intro w'
         go_simp
         with_reducible rfl
        rotate_left
        ·
         simp only [Act.put, Hand.s0_, List.set_cons_zero, Hand.s1_, i64_w, i32_w]
         rfl
        refine take_ (i := 9) (N := some 204) (v := ?_) (a' := ?_) #[true,true,true,true,true,true,true,true,true,true,true,false,false,false,false,false,false,false,false,false,false,false,false,false,false,false,false,false,false] rfl rfl (take_ofW HT_.out HW_.out (by kernel_rfl)) (fun _ _ _ h => h) (Or.inl ⟨by rfl, ?_⟩) hHeld ?_ ?_
        rotate_left
        ·
         rintro w' ⟨s0, s1⟩
         go_simp
         with_reducible rfl
        rotate_left
        ·
         simp only [Act.put, Hand.s0_, List.set_cons_zero, Hand.s1_, i64_w, i32_w]
         rfl
        refine pure_ (i := 11) (N := some 206) (v := ?_) (a' := ?_) #[true,true,true,true,true,true,true,true,true,true,true,true,false,false,false,false,false,false,false,false,false,false,false,false,false,false,false,false,false] rfl rfl (any_of HT_.out (by kernel_rfl)) (fun _ _ _ h => h) (Or.inl ⟨by rfl, ?_⟩) ?_ ?_
        rotate_left
        ·
         intro w'
         go_simp
         with_reducible rfl
        rotate_left
        ·
         simp only [Act.put, Hand.s0_, List.set_cons_zero, Hand.s1_, i64_w, i32_w]
         rfl
        refine pure_ (i := 12) (N := some 207) (v := ?_) (a' := ?_) #[true,true,true,true,true,true,true,true,true,true,true,true,true,false,false,false,false,false,false,false,false,false,false,false,false,false,false,false,false] rfl rfl (any_of HT_.out (by kernel_rfl)) (fun _ _ _ h => h) (Or.inl ⟨by rfl, ?_⟩) ?_ ?_
        rotate_left
        ·
         intro w'
         go_simp
         with_reducible rfl
        rotate_left
        ·
         simp only [Act.put, Hand.s0_, List.set_cons_zero, Hand.s1_, i64_w, i32_w]
         rfl
        refine pure_ (i := 13) (N := some 208) (v := ?_) (a' := ?_) #[true,true,true,true,true,true,true,true,true,true,true,true,true,true,false,false,false,false,false,false,false,false,false,false,false,false,false,false,false] rfl rfl (any_of HT_.out (by kernel_rfl)) (fun _ _ _ h => h) (Or.inl ⟨by rfl, ?_⟩) ?_ ?_
        rotate_left
        ·
         intro w'
         go_simp
         with_reducible rfl
        rotate_left
        ·
         simp only [Act.put, Hand.s0_, List.set_cons_zero, Hand.s1_, i64_w, i32_w]
         rfl
        refine pure_ (i := 14) (N := some 209) (v := ?_) (a' := ?_) #[true,true,true,true,true,true,true,true,true,true,true,true,true,true,true,false,false,false,false,false,false,false,false,false,false,false,false,false,false] rfl rfl (any_of HT_.out (by kernel_rfl)) (fun _ _ _ h => h) (Or.inl ⟨by rfl, ?_⟩) ?_ ?_
        rotate_left
        ·
         intro w'
         go_simp
         with_reducible rfl
        rotate_left
        ·
         simp only [Act.put, Hand.s0_, List.set_cons_zero, Hand.s1_, i64_w, i32_w]
         rfl
        refine pure_ (i := 15) (N := some 210) (v := ?_) (a' := ?_) #[true,true,true,true,true,true,true,true,true,true,true,true,true,true,true,true,false,false,false,false,false,false,false,false,false,false,false,false,false] rfl rfl (any_of HT_.out (by kernel_rfl)) (fun _ _ _ h => h) (Or.inl ⟨by rfl, ?_⟩) ?_ ?_
        rotate_left
        ·
         intro w'
         go_simp
         with_reducible rfl
        rotate_left
        ·
         simp only [Act.put, Hand.s0_, List.set_cons_zero, Hand.s1_, i64_w, i32_w]
         rfl
        refine pure_ (i := 16) (N := some 211) (v := ?_) (a' := ?_) #[true,true,true,true,true,true,true,true,true,true,true,true,true,true,true,true,true,false,false,false,false,false,false,false,false,false,false,false,false] rfl rfl (any_of HT_.out (by kernel_rfl)) (fun _ _ _ h => h) (Or.inl ⟨by rfl, ?_⟩) ?_ ?_
        rotate_left
        ·
         intro w'
         go_simp
         with_reducible rfl
        rotate_left
        ·
         simp only [Act.put, Hand.s0_, List.set_cons_zero, Hand.s1_, i64_w, i32_w]
         rfl
        refine pure_ (i := 17) (N := some 212) (v := undef) (a' := ?_) #[true,true,true,true,true,true,true,true,true,true,true,true,true,true,true,true,true,true,false,false,false,false,false,false,false,false,false,false,false] rfl rfl (any_of HT_.out (by kernel_rfl)) (fun _ _ _ h => h) (Or.inr ⟨by rfl, rfl⟩) ?_ ?_
        rotate_left
        ·
         simp only [Act.put, Hand.s0_, List.set_cons_zero, Hand.s1_, i64_w, i32_w]
         rfl
        refine pure_ (i := 18) (N := some 213) (v := undef) (a' := ?_) #[true,true,true,true,true,true,true,true,true,true,true,true,true,true,true,true,true,true,true,false,false,false,false,false,false,false,false,false,false] rfl rfl (any_of HT_.out (by kernel_rfl)) (fun _ _ _ h => h) (Or.inr ⟨by rfl, rfl⟩) ?_ ?_
        rotate_left
        ·
         simp only [Act.put, Hand.s0_, List.set_cons_zero, Hand.s1_, i64_w, i32_w]
         rfl
        refine pure_ (i := 19) (N := some 214) (v := undef) (a' := ?_) #[true,true,true,true,true,true,true,true,true,true,true,true,true,true,true,true,true,true,true,true,false,false,false,false,false,false,false,false,false] rfl rfl (any_of HT_.out (by kernel_rfl)) (fun _ _ _ h => h) (Or.inr ⟨by rfl, rfl⟩) ?_ ?_
        rotate_left
        ·
         simp only [Act.put, Hand.s0_, List.set_cons_zero, Hand.s1_, i64_w, i32_w]
         rfl
        refine pure_ (i := 20) (N := some 215) (v := undef) (a' := ?_) #[true,true,true,true,true,true,true,true,true,true,true,true,true,true,true,true,true,true,true,true,true,false,false,false,false,false,false,false,false] rfl rfl (any_of HT_.out (by kernel_rfl)) (fun _ _ _ h => h) (Or.inr ⟨by rfl, rfl⟩) ?_ ?_
        rotate_left
        ·
         simp only [Act.put, Hand.s0_, List.set_cons_zero, Hand.s1_, i64_w, i32_w]
         rfl
        refine pure_ (i := 21) (N := some 216) (v := undef) (a' := ?_) #[true,true,true,true,true,true,true,true,true,true,true,true,true,true,true,true,true,true,true,true,true,true,false,false,false,false,false,false,false] rfl rfl (any_of HT_.out (by kernel_rfl)) (fun _ _ _ h => h) (Or.inr ⟨by rfl, rfl⟩) ?_ ?_
        rotate_left
        ·
         simp only [Act.put, Hand.s0_, List.set_cons_zero, Hand.s1_, i64_w, i32_w]
         rfl
        refine pure_ (i := 22) (N := some 217) (v := undef) (a' := ?_) #[true,true,true,true,true,true,true,true,true,true,true,true,true,true,true,true,true,true,true,true,true,true,true,false,false,false,false,false,false] rfl rfl (any_of HT_.out (by kernel_rfl)) (fun _ _ _ h => h) (Or.inr ⟨by rfl, rfl⟩) ?_ ?_
        rotate_left
        ·
         simp only [Act.put, Hand.s0_, List.set_cons_zero, Hand.s1_, i64_w, i32_w]
         rfl
        refine pure_ (i := 23) (N := some 218) (v := undef) (a' := ?_) #[true,true,true,true,true,true,true,true,true,true,true,true,true,true,true,true,true,true,true,true,true,true,true,true,false,false,false,false,false] rfl rfl (any_of HT_.out (by kernel_rfl)) (fun _ _ _ h => h) (Or.inr ⟨by rfl, rfl⟩) ?_ ?_
        rotate_left
        ·
         simp only [Act.put, Hand.s0_, List.set_cons_zero, Hand.s1_, i64_w, i32_w]
         rfl
        refine pure_ (i := 24) (N := some 219) (v := undef) (a' := ?_) #[true,true,true,true,true,true,true,true,true,true,true,true,true,true,true,true,true,true,true,true,true,true,true,true,true,false,false,false,false] rfl rfl (any_of HT_.out (by kernel_rfl)) (fun _ _ _ h => h) (Or.inr ⟨by rfl, rfl⟩) ?_ ?_
        rotate_left
        ·
         simp only [Act.put, Hand.s0_, List.set_cons_zero, Hand.s1_, i64_w, i32_w]
         rfl
        refine pure_ (i := 25) (N := some 220) (v := undef) (a' := ?_) #[true,true,true,true,true,true,true,true,true,true,true,true,true,true,true,true,true,true,true,true,true,true,true,true,true,true,false,false,false] rfl rfl (any_of HT_.out (by kernel_rfl)) (fun _ _ _ h => h) (Or.inr ⟨by rfl, rfl⟩) ?_ ?_
        rotate_left
        ·
         simp only [Act.put, Hand.s0_, List.set_cons_zero, Hand.s1_, i64_w, i32_w]
         rfl
        refine pure_ (i := 26) (N := some 221) (v := undef) (a' := ?_) #[true,true,true,true,true,true,true,true,true,true,true,true,true,true,true,true,true,true,true,true,true,true,true,true,true,true,true,false,false] rfl rfl (any_of HT_.out (by kernel_rfl)) (fun _ _ _ h => h) (Or.inr ⟨by rfl, rfl⟩) ?_ ?_
        rotate_left
        ·
         simp only [Act.put, Hand.s0_, List.set_cons_zero, Hand.s1_, i64_w, i32_w]
         rfl
        refine pure_ (i := 27) (N := some 222) (v := ?_) (a' := ?_) #[true,true,true,true,true,true,true,true,true,true,true,true,true,true,true,true,true,true,true,true,true,true,true,true,true,true,true,true,false] rfl rfl (any_of HT_.out (by kernel_rfl)) (fun _ _ _ h => h) (Or.inl ⟨by rfl, ?_⟩) ?_ ?_
        rotate_left
        ·
         intro w'
         go_simp
         with_reducible rfl
        rotate_left
        ·
         simp only [Act.put, Hand.s0_, List.set_cons_zero, Hand.s1_, i64_w, i32_w]
         rfl
        refine pure_ (i := 28) (N := some 223) (v := ?_) (a' := ?_) #[true,true,true,true,true,true,true,true,true,true,true,true,true,true,true,true,true,true,true,true,true,true,true,true,true,true,true,true,true] rfl rfl (any_of HT_.out (by kernel_rfl)) (fun _ _ _ h => h) (Or.inl ⟨by rfl, ?_⟩) ?_ ?_
        rotate_left
        ·
         intro w'
         go_simp
         with_reducible rfl
        rotate_left
        ·
         simp only [Act.put, Hand.s0_, List.set_cons_zero, Hand.s1_, i64_w, i32_w]
         rfl
        refine done_ (done_of HT_.out (by kernel_rfl)) ?_
        try go_wp2
        refine start_ (n := 14) (S := fun w' => w'.cell? (ad.add (jx).toNat) = some (.int .i64 (rd c jx)) ∧ w'.cell? (ad.add (jx).toNat) = some (.int .i64 (rd c jx))) (ds := []) #[false,false,false,false,false,false,false,false,false,false,false,false,false,false] (by kernel_rfl) rfl rfl ⟨g0, g0⟩ (fun hHeld => ?_); refine with_tabW galloonlaw06_ShuffleInverted.tab25 galloonlaw06_ShuffleInverted.bits25 (fun HT_ HW_ => ?_)
        refine pure_ (i := 0) (N := some 230) (v := ?_) (a' := ?_) #[true,false,false,false,false,false,false,false,false,false,false,false,false,false] rfl rfl (any_of HT_.out (by kernel_rfl)) (fun _ _ _ h => h) (Or.inl ⟨by rfl, ?_⟩) ?_ ?_
        rotate_left
        ·
         intro w'
         go_simp
         with_reducible rfl
        rotate_left
        ·
         simp only [Act.put, Hand.s0_, List.set_cons_zero, Hand.s1_, i64_w, i32_w]
         rfl
        refine pure_ (i := 1) (N := some 231) (v := ?_) (a' := ?_) #[true,true,false,false,false,false,false,false,false,false,false,false,false,false] rfl rfl (any_of HT_.out (by kernel_rfl)) (fun _ _ _ h => h) (Or.inl ⟨by rfl, ?_⟩) ?_ ?_
        rotate_left
        ·
         intro w'
         go_simp
         with_reducible rfl
        rotate_left
        ·
         simp only [Act.put, Hand.s0_, List.set_cons_zero, Hand.s1_, i64_w, i32_w]
         rfl
        refine pure_ (i := 2) (N := some 232) (v := ?_) (a' := ?_) #[true,true,true,false,false,false,false,false,false,false,false,false,false,false] rfl rfl (any_of HT_.out (by kernel_rfl)) (fun _ _ _ h => h) (Or.inl ⟨by rfl, ?_⟩) ?_ ?_
        rotate_left
        ·
         intro w'
         go_simp
         with_reducible rfl
        rotate_left
        ·
         simp only [Act.put, Hand.s0_, List.set_cons_zero, Hand.s1_, i64_w, i32_w]
         rfl
        refine pure_ (i := 3) (N := some 233) (v := ?_) (a' := ?_) #[true,true,true,true,false,false,false,false,false,false,false,false,false,false] rfl rfl (any_of HT_.out (by kernel_rfl)) (fun _ _ _ h => h) (Or.inl ⟨by rfl, ?_⟩) ?_ ?_
        rotate_left
        ·
         intro w'
         go_simp
         with_reducible rfl
        rotate_left
        ·
         simp only [Act.put, Hand.s0_, List.set_cons_zero, Hand.s1_, i64_w, i32_w]
         rfl
        refine pure_ (i := 4) (N := some 234) (v := ?_) (a' := ?_) #[true,true,true,true,true,false,false,false,false,false,false,false,false,false] rfl rfl (any_of HT_.out (by kernel_rfl)) (fun _ _ _ h => h) (Or.inl ⟨by rfl, ?_⟩) ?_ ?_
        rotate_left
        ·
         intro w'
         go_simp
         with_reducible rfl
        rotate_left
        ·
         simp only [Act.put, Hand.s0_, List.set_cons_zero, Hand.s1_, i64_w, i32_w]
         rfl
        refine pure_ (i := 8) (N := some 238) (v := ?_) (a' := ?_) #[true,true,true,true,true,false,false,false,true,false,false,false,false,false] rfl rfl (any_of HT_.out (by kernel_rfl)) (fun _ _ _ h => h) (Or.inl ⟨by rfl, ?_⟩) ?_ ?_
        rotate_left
        ·
         intro w'
         go_simp
         with_reducible rfl
        rotate_left
        ·
         simp only [Act.put, Hand.s0_, List.set_cons_zero, Hand.s1_, i64_w, i32_w]
         rfl
        refine pure_ (i := 9) (N := some 239) (v := ?_) (a' := ?_) #[true,true,true,true,true,false,false,false,true,true,false,false,false,false] rfl rfl (any_of HT_.out (by kernel_rfl)) (fun _ _ _ h => h) (Or.inl ⟨by rfl, ?_⟩) ?_ ?_
        rotate_left
        ·
         intro w'
         go_simp
         with_reducible rfl
        rotate_left
        ·
         simp only [Act.put, Hand.s0_, List.set_cons_zero, Hand.s1_, i64_w, i32_w]
         rfl
        refine pure_ (i := 10) (N := some 240) (v := ?_) (a' := ?_) #[true,true,true,true,true,false,false,false,true,true,true,false,false,false] rfl rfl (any_of HT_.out (by kernel_rfl)) (fun _ _ _ h => h) (Or.inl ⟨by rfl, ?_⟩) ?_ ?_
        rotate_left
        ·
         intro w'
         go_simp
         with_reducible rfl
        rotate_left
        ·
         simp only [Act.put, Hand.s0_, List.set_cons_zero, Hand.s1_, i64_w, i32_w]
         rfl
        refine take_ (i := 5) (N := some 235) (v := ?_) (a' := ?_) #[true,true,true,true,true,true,false,false,true,true,true,false,false,false] rfl rfl (take_ofW HT_.out HW_.out (by kernel_rfl)) (fun _ _ _ h => h) (Or.inl ⟨by rfl, ?_⟩) hHeld ?_ ?_
        rotate_left
        ·
         rintro w' ⟨s0, s1⟩
         go_simp
         with_reducible rfl
        rotate_left
        ·
         simp only [Act.put, Hand.s0_, List.set_cons_zero, Hand.s1_, i64_w, i32_w]
         rfl
        refine take_ (i := 11) (N := some 241) (v := ?_) (a' := ?_) #[true,true,true,true,true,true,false,false,true,true,true,true,false,false] rfl rfl (take_ofW HT_.out HW_.out (by kernel_rfl)) (fun _ _ _ h => h) (Or.inl ⟨by rfl, ?_⟩) hHeld ?_ ?_
        rotate_left
        ·
         rintro w' ⟨s0, s1⟩
         go_simp
         with_reducible rfl
        rotate_left
        ·
         simp only [Act.put, Hand.s0_, List.set_cons_zero, Hand.s1_, i64_w, i32_w]
         rfl
        refine one_ (i := 6) (N := some 236) #[true,true,true,true,true,true,true,false,true,true,true,true,false,false] rfl rfl (one_of HT_.out (by kernel_rfl)) (by decide) (fun K hK => ?_)
        refine goes_ Try.func28 (by kernel_rfl) rfl #[.int .i64 q0, .int .i64 (rd c jx)] (by rfl) rfl rfl (by (try simp only [List.map_toArray, List.map_cons, List.map_nil]); first | done | rfl | (simp only [List.length_drop, List.length_take]; rfl)) ?_
        with_reducible refine (galloonref06_Gcd.calls k q0 (rd c jx) gq _ HG.out).mono ?_
        rintro e w' ⟨rfl, ⟨nd, rfl⟩⟩
        refine ⟨_, rfl, ?_⟩
        refine hK.out _ _ ⟨hHeld.1, hHeld.2⟩ (fun hHeld => ?_)
        clear hK K
        refine norm_ (a' := ?_) ?_ ?_
        rotate_left
        ·
         show Act.put _ (some 236) _ = _
         simp only [Act.put, Hand.s0_, List.set_cons_zero, Hand.s1_, i64_w, i32_w]
         rfl
        refine pure_ (i := 7) (N := some 237) (v := ?_) (a' := ?_) #[true,true,true,true,true,true,true,true,true,true,true,true,false,false] rfl rfl (any_of HT_.out (by kernel_rfl)) (fun _ _ _ h => h) (Or.inl ⟨by rfl, ?_⟩) ?_ ?_
        rotate_left
        ·
         intro w'
         go_simp
         with_reducible rfl
        rotate_left
        ·
         simp only [Act.put, Hand.s0_, List.set_cons_zero, Hand.s1_, i64_w, i32_w]
         rfl
        refine pure_ (i := 12) (N := some 242) (v := ?_) (a' := ?_) #[true,true,true,true,true,true,true,true,true,true,true,true,true,false] rfl rfl (any_of HT_.out (by kernel_rfl)) (fun _ _ _ h => h) (Or.inl ⟨by rfl, ?_⟩) ?_ ?_
        rotate_left
        ·
         intro w'
         go_simp
         with_reducible rfl
        rotate_left
        ·
         simp only [Act.put, Hand.s0_, List.set_cons_zero, Hand.s1_, i64_w, i32_w]
         rfl
        refine pure_ (i := 13) (N := some 26) (v := ?_) (a' := ?_) #[true,true,true,true,true,true,true,true,true,true,true,true,true,true] rfl rfl (any_of HT_.out (by kernel_rfl)) (fun _ _ _ h => h) (Or.inl ⟨by rfl, ?_⟩) ?_ ?_
        rotate_left
        ·
         intro w'
         go_simp
         with_reducible rfl
        rotate_left
        ·
         simp only [Act.put, Hand.s0_, List.set_cons_zero, Hand.s1_, i64_w, i32_w]
         rfl
        refine done_ (done_of HT_.out (by kernel_rfl)) ?_
        try go_wp2
        go_roundg (c.length - (j + 1))
        case measure => have h1 := HJ.out; have h2 := HJL.out; omega
        case rel => exact ⟨j + 1, _, rfl, by rw [HN.out.1], by rw [HN.out.2], ⟨HNX.out⟩, ⟨by have h1 := HJ.out; have h2 := HJL.out; omega, Nat.le_refl _⟩, ⟨by repeat (first | exact HRc.out | (with_reducible refine Kd.C_drewN ?_ _) | (with_reducible refine Kd.C_drew ?_))⟩, ⟨by repeat (first | exact HRa.out | (with_reducible refine Kd.C_drewN ?_ _) | (with_reducible refine Kd.C_drew ?_))⟩, ⟨(by repeat (first | (with_reducible first | exact HB.out | apply below_alloc | apply pw_below_drewN | apply below_drew1) | exact HB.out))⟩⟩
    · as_aux_lemma =>
      have hjz : decide (jx < (c.length : Int)) = false := decide_eq_false (by omega)
      have hje : j = c.length := by have := HJ.out.1; omega
      subst hje
      go_wp2
      have HS2 := HSn.out
      have HA2 := HAn.out
      go_loopg [28] a.length (fun gg u28 wr => ∃ z : Nat, u28 = .int .i64 (z : Int) ∧ Aside0 (z ≤ a.length ∧ a.length - z ≤ gg) ∧ Aside0 (Kd.C (Kd.int .i64) wr Aa a.length a) ∧ Aside0 (Below w.heap.size w wr))
      case atStart => exact ⟨0, rfl, ⟨by omega, by omega⟩, HRa, HB⟩
      case round => as_aux_lemma =>
        clear HRa HB
        obtain ⟨z, rfl, HZ, HRa, HB⟩ := hrel
        have hal := Hal.out
        by_cases hz : z < a.length
        · as_aux_lemma =>
          have hzz : decide ((z : Int) < wrap64 (2 + t)) = true := decide_eq_true (by omega)
          obtain ⟨az, e, g0⟩ := Kd.at_int HRa.out (z : Int) (by omega) (by omega)
          cases e
          have hz0 : 0 ≤ (z : Int) := Int.natCast_nonneg z
          have hz1 : (z : Int) < (a.length : Int) := by omega
          rw [Hav.out z hz, Int.toNat_natCast] at g0
          have hnx : wrap64 ((z : Int) + 1) = ((z + 1 : Nat) : Int) := by have := Hal2.out; unfold wrap64; omega
          clear hal
          go_wp2
          go_roundg (a.length - (z + 1))
          case measure => have := HZ.out; omega
          case rel => exact ⟨z + 1, by first | rfl | (push_cast; rfl) | (rw [← hnx]) | (rw [← hnx]; rfl), ⟨by omega, by have := HZ.out; omega⟩, ⟨by repeat (first | exact HRa.out | (with_reducible refine Kd.C_drewN ?_ _) | (with_reducible refine Kd.C_drew ?_))⟩, ⟨(by repeat (first | (with_reducible first | exact HB.out | apply below_alloc | apply pw_below_drewN | apply below_drew1) | exact HB.out))⟩⟩
        · as_aux_lemma =>
          have hzz : decide ((z : Int) < wrap64 (2 + t)) = false := decide_eq_false (by omega)
          have he1 : (S c.length == wrap64 (2 + t)) = true := beq_iff_eq.2 HS2
          have he2 : (A c.length == n) = true := beq_iff_eq.2 HA2
          clear hal HS2 HA2
          go_wp2_with (fail)
          refine (galloonlaw06_awake.calls k true _ HAw.out).mono ?_
          rintro e wz ⟨rfl, hb⟩
          have HB2 := Aside0.mk (below_step (by repeat (first | (with_reducible first | exact HB.out | apply below_alloc | apply pw_below_drewN | apply below_drew1) | exact HB.out)) hb)
          clear HB hb
          dsimp only
          go_wp2
          go_ret
          exact ⟨rfl, HB2.out⟩

def galloonlaw06_ShuffleInverted.Pure : Prop := ∀ (a0 : Int) (l1 : List Int), (Lit.int .i64 a0).wf = true → l1.length ≤ maxLen → l1.length * 8 ≤ 140737488351232 → (∀ x ∈ l1, (Lit.int .i64 x).wf = true) → ∃ k, galloonlaw06_ShuffleInverted.OkA k a0 l1 ∨ galloonlaw06_ShuffleInverted.OkB k a0 l1
theorem galloonlaw06_ShuffleInverted.walk (P : galloonlaw06_ShuffleInverted.Pure) (a0 : Int) (a1 : Option Addr) (len1 cap1 : Nat) (z1 : List Int) (w : World) (w0 : (Lit.int .i64 a0).wf = true) (w1 : (a1 = none ∧ len1 = 0 ∧ cap1 = 0 ∧ z1 = []) ∨ ∃ x, a1 = some x ∧ len1 ≤ cap1 ∧ cap1 ≤ maxLen ∧ z1.length = cap1 ∧ (∀ i, i < z1.length → w.cell? (x.add i) = some (.int .i64 (z1.getD i 0))) ∧ ∀ n ∈ z1, (Lit.int .i64 n).wf = true) (y1 : len1 * 8 ≤ 140737488351232) :
    Calls Try.prog 5 #[.int .i64 a0, .slice a1 len1 cap1] w fun e w' => e = .returned (.bool true) ∧ Below w.heap.size w w' := by
  obtain ⟨l1, rfl, hr1, hm1, hw1, hc1⟩ := ReadsInt.ofRowC w1
  obtain ⟨k, h⟩ := P a0 l1 w0 hm1 y1 hw1
  rcases h with h | h
  · exact galloonlaw06_ShuffleInverted.callsA k a0 _ _ l1 w (Kd.C_of_reads (d := (0 : Int)) (h1 := fun _ => rfl) hr1) hc1 h
  · exact galloonlaw06_ShuffleInverted.callsB k a0 _ _ l1 w (Kd.C_of_reads (d := (0 : Int)) (h1 := fun _ => rfl) hr1) hc1 h

end Go.Proofs.Ytpkmmbicpijgpaa.F
