-- The numbers of the boxes (function 65, a printed section moved out, and its closed form), the greatest of a list (69), Check, Loads, IsFilling.
import Derived.Test.YtcjglbipkghhnaaHandL
import Derived.Deep.WholeRow
namespace Go.Proofs.Ytcjglbipkghhnaa.Hand
open Go.BigFrame Go.RowKit Go.Shelf Go.Proofs.Ytcjglbipkghhnaa.P Go.Proofs.YtcjglbipkghhnaaW.PrintWords Go.Proofs.YtcjglbipkghhnaaW.PrintLast Go.Proofs.YtcjglbipkghhnaaW.PrintMore
attribute [local go_sem] max2_int min2_int max_two min_two max_three min_three max_four min_four
set_option linter.unusedVariables false
set_option linter.unusedSimpArgs false
/-! ### witP: function 54 -/
def witP.f (a0 : Int) (a1 : Int) (a2 : Int) : Option (Bool) := if a0 ≥ a1 then (some (decide (a0 ≤ a2))) else (some false)
set_option maxHeartbeats 8000000 in
set_option maxRecDepth 100000 in
theorem witP.calls (a0 : Int) (a1 : Int) (a2 : Int) (r : Bool) (w : World) (h : witP.f a0 a1 a2 = some r) :
  Calls Try.prog 55 #[.int .i64 a0, .int .i64 a1, .int .i64 a2] w fun e w' => e = .returned (.bool r) ∧ Drawn0 w w' := by
 have H : (if a0 ≥ a1 then (some (decide (a0 ≤ a2))) else (some false)) = some r := h
 clear h
 by_cases c4 : a0 ≥ a1
 ·
  rw [if_pos c4] at H
  have c4b0 : decide (a1 ≤ a0) = true := decide_eq_true c4
  clear c4
  obtain rfl := Option.some.inj H
  go_enter Try.func55, Try.ntmps55
  go_wp2
  go_ret
  exact ⟨by first | rfl | (simp; done) | (simp [*]; done), by repeat (first | exact Drawn0.refl _ | apply Drawn0.step)⟩
 ·
  rw [if_neg c4] at H
  have c4b0 : decide (a1 ≤ a0) = false := decide_eq_false c4
  clear c4
  obtain rfl := Option.some.inj H
  go_enter Try.func55, Try.ntmps55
  go_wp2
  go_ret
  exact ⟨by first | rfl | (simp; done) | (simp [*]; done), by repeat (first | exact Drawn0.refl _ | apply Drawn0.step)⟩

/-! ### boxP: function 65 -/
def boxP.l0 : Nat → Int → Int → List Int → Int → Int → Option (Int × Bool)
 | 0, _, _, _, _, _ => none
 | k + 1, x1, x6, x9, x10, x11 => if x11 < x10 then (if 0 ≤ x11 then (if x11 < (x9.length : Int) then ((witP.f (rd x9 x11) x1 x6).bind fun t330 => (if t330 = true then (boxP.l0 k x1 (mx x6 (wrap64 ((rd x9 x11) + 1))) x9 x10 (wrap64 (x11 + 1))) else (some (0, false)))) else (none)) else (none)) else (some (x6, true))
def boxP.f (k : Nat) (l0 : List Int) (a1 : Int) : Option (Int × Bool) := boxP.l0 k a1 0 l0 (l0.length : Int) 0
theorem boxP.mono_l : ∀ k, (∀ y0 y1 y2 y3 y4, LeO (boxP.l0 k y0 y1 y2 y3 y4) (boxP.l0 (k + 1) y0 y1 y2 y3 y4))
 | 0 => fun _ _ _ _ _ r h => by simp [boxP.l0] at h
 | k + 1 => by
  have ih0 := boxP.mono_l k
  ·
   intro y0 y1 y2 y3 y4
   unfold boxP.l0
   repeat' first
   | (with_reducible exact ih0 _ _ _ _ _)
   | (with_reducible exact LeO.refl _)
   | (with_reducible exact LeO.none _)
   | (with_reducible refine LeO.ite ?_ ?_)
   | (with_reducible refine LeO.bind ?_ (fun _ => ?_))
   | exact ih0 _ _ _ _ _
   | exact LeO.none _
   | refine LeO.ite ?_ ?_
   | refine LeO.bind ?_ (fun _ => ?_)
theorem boxP.mono : ∀ a0 a1 k, LeO (boxP.f k a0 a1) (boxP.f (k + 1) a0 a1) := by
 intro a0 a1 k
 have ih0 := boxP.mono_l k
 unfold boxP.f
 repeat' first
   | (with_reducible exact ih0 _ _ _ _ _)
   | (with_reducible exact LeO.refl _)
   | (with_reducible exact LeO.none _)
   | (with_reducible refine LeO.ite ?_ ?_)
   | (with_reducible refine LeO.bind ?_ (fun _ => ?_))
   | exact ih0 _ _ _ _ _
   | exact LeO.none _
   | refine LeO.ite ?_ ?_
   | refine LeO.bind ?_ (fun _ => ?_)
set_option maxHeartbeats 8000000 in
set_option maxRecDepth 100000 in
theorem boxP.calls (k : Nat) (A0 : Option Addr) (c0 : Nat) (l0 : List Int) (a1 : Int) (r1 : Int) (r2 : Bool) (w : World) (hr0 : Kd.C (Kd.int .i64) w A0 l0.length l0) (hc0 : l0.length ≤ c0) (h : boxP.f k l0 a1 = some (r1, r2)) :
  Calls Try.prog 66 #[.slice A0 l0.length c0, .int .i64 a1] w fun e w' => e = .returned (.tuple #[.int .i64 r1, .bool r2]) ∧ Below w.heap.size w w' := by
 have HR0 := Aside0.mk hr0
 have HC0 := Aside0.mk hc0
 clear hr0 hc0
 have HB := Aside0.mk (Below.refl w.heap.size w)
 have H : (boxP.l0 k a1 0 l0 (l0.length : Int) 0) = some (r1, r2) := h
 clear h
 have H' := Aside0.mk H
 clear H
 go_enter Try.func66, Try.ntmps66
 go_wp2
 go_loopg [6, 11] k (fun kq v6 v11 w' => ∃ (x6_1 : Int) (x11_1 : Int), v6 = .int .i64 x6_1 ∧ v11 = .int .i64 x11_1 ∧ Aside0 (boxP.l0 kq a1 x6_1 l0 (l0.length : Int) x11_1 = some (r1, r2)) ∧ Aside0 (kq ≤ k) ∧ Aside0 (Below w.heap.size w w'))
 case atStart => exact ⟨(0), (0), (by first | rfl | (simp; done) | (simp [*]; done)), (by first | rfl | (simp; done) | (simp [*]; done)), H', ⟨Nat.le_refl _⟩, ⟨by repeat (first | (with_reducible first | exact HB.out | apply below_alloc | apply pw_below_drewN | apply below_drew1) | exact HB.out)⟩⟩
 case round =>
  as_aux_lemma =>
  clear H'
  try clear p2
  obtain ⟨x6_1, x11_1, rfl, rfl, HA, HK1, HB⟩ := hrel
  cases gk with
  | zero => exact absurd HA.out (by simp [boxP.l0])
  | succ k1 =>
   have H := HA.out
   clear HA
   simp only [boxP.l0] at H
   by_cases c3 : x11_1 < (l0.length : Int)
   ·
    rw [if_pos c3] at H
    have c3b0 : decide (x11_1 < (l0.length : Int)) = true := decide_eq_true c3
    clear c3
    by_cases c4 : 0 ≤ x11_1
    ·
     rw [if_pos c4] at H
     have c4b0 : decide (0 ≤ x11_1) = true := decide_eq_true c4
     clear c4
     by_cases c5 : x11_1 < (l0.length : Int)
     ·
      rw [if_pos c5] at H
      have c5b0 : decide (x11_1 < (l0.length : Int)) = true := decide_eq_true c5
      clear c5
      replace H := Option.bind_eq_some_iff.mp H
      obtain ⟨t330, A60, H⟩ := H
      replace H : (if t330 = true then (boxP.l0 k1 a1 (mx x6_1 (wrap64 ((rd l0 x11_1) + 1))) l0 (l0.length : Int) (wrap64 (x11_1 + 1))) else (some (0, false))) = some (r1, r2) := H
      have A6 := Aside0.mk A60
      clear A60
      by_cases c7 : t330 = true
      ·
       subst c7
       have H1 : (boxP.l0 k1 a1 (mx x6_1 (wrap64 ((rd l0 x11_1) + 1))) l0 (l0.length : Int) (wrap64 (x11_1 + 1))) = some (r1, r2) := by rw [if_pos rfl] at H; exact H
       clear H
       have H := H1
       clear H1
       obtain ⟨ji8, hji8⟩ : ∃ j_ : Int, (mx x6_1 (wrap64 ((rd l0 x11_1) + 1))) = j_ := ⟨_, rfl⟩
       replace H : (boxP.l0 k1 a1 ji8 l0 (l0.length : Int) (wrap64 (x11_1 + 1))) = some (r1, r2) := by first | (rw [hji8] at H; exact H) | (simp only [hji8] at H ⊢; exact H)
       (try rw [hji8] at A6)
       have hji8_ : (if x6_1 < (wrap64 ((rd l0 x11_1) + 1)) then (wrap64 ((rd l0 x11_1) + 1)) else x6_1) = ji8 := hji8
       have H' := Aside0.mk H
       clear H
       have p329 : 0 ≤ (x11_1 : Int) := of_decide_eq_true (by assumption)
       have q329 : x11_1 < (l0.length : Int) := of_decide_eq_true (by assumption)
       obtain ⟨ad329, e329, hx329_0⟩ := Kd.at_int HR0.out x11_1 p329 q329
       cases e329
       replace hx329_0 := (HB.out.cell (World.block_lt_of_cell? w _ hx329_0)).trans hx329_0
       replace p329 := eq_true p329
       replace q329 := eq_true q329
       go_wp2_with (first | ((with_reducible refine gate_callee (f := 55) rfl ?_); refine goesL_ (some 18) rfl rfl Try.func55 (by kernel_rfl) rfl #[.int .i64 (rd l0 x11_1), .int .i64 a1, .int .i64 x6_1] rfl (by (try simp only [List.map_toArray, List.map_cons, List.map_nil]); first | done | rfl | (simp only [List.length_drop, List.length_take]; rfl)) ?_; (with_reducible refine (witP.calls (rd l0 x11_1) a1 x6_1 true _ A6.out).mono ?_); rintro e w' ⟨rfl, ⟨nd, rfl⟩⟩; refine ⟨_, rfl, ?_⟩))
       go_roundg k1
       case measure => have := HK1.out; omega
       case rel => exact ⟨(ji8), (wrap64 (x11_1 + 1)), (by first | rfl | (simp; done) | (simp only [← hji8] <;> (first | rfl | simp)) | (simp [*]; done)), (by first | rfl | (simp; done) | (simp [*]; done)), H', ⟨by have := HK1.out; omega⟩, ⟨by repeat (first | (with_reducible first | exact HB.out | apply below_alloc | apply pw_below_drewN | apply below_drew1) | exact HB.out)⟩⟩
      ·
       replace c7 := Bool.eq_false_iff.mpr c7
       subst c7
       have H1 : (some (0, false)) = some (r1, r2) := by rw [if_neg (show ¬ (false = true) by decide)] at H; exact H
       clear H
       have H := H1
       clear H1
       simp only [Option.some.injEq, Prod.mk.injEq] at H
       obtain ⟨rfl, rfl⟩ := H
       have p329 : 0 ≤ (x11_1 : Int) := of_decide_eq_true (by assumption)
       have q329 : x11_1 < (l0.length : Int) := of_decide_eq_true (by assumption)
       obtain ⟨ad329, e329, hx329_0⟩ := Kd.at_int HR0.out x11_1 p329 q329
       cases e329
       replace hx329_0 := (HB.out.cell (World.block_lt_of_cell? w _ hx329_0)).trans hx329_0
       replace p329 := eq_true p329
       replace q329 := eq_true q329
       go_wp2_with (first | ((with_reducible refine gate_callee (f := 55) rfl ?_); refine goesL_ (some 18) rfl rfl Try.func55 (by kernel_rfl) rfl #[.int .i64 (rd l0 x11_1), .int .i64 a1, .int .i64 x6_1] rfl (by (try simp only [List.map_toArray, List.map_cons, List.map_nil]); first | done | rfl | (simp only [List.length_drop, List.length_take]; rfl)) ?_; (with_reducible refine (witP.calls (rd l0 x11_1) a1 x6_1 false _ A6.out).mono ?_); rintro e w' ⟨rfl, ⟨nd, rfl⟩⟩; refine ⟨_, rfl, ?_⟩))
       go_ret2
       exact ⟨by first | rfl | (simp [errW_none, errW_some] <;> rfl) | (simp [*, errW_none, errW_some] <;> rfl), by repeat (first | (with_reducible first | exact HB.out | apply below_alloc | apply pw_below_drewN | apply below_drew1) | exact HB.out)⟩
     ·
      rw [if_neg c5] at H
      exact absurd H (by simp)
    ·
     rw [if_neg c4] at H
     exact absurd H (by simp)
   ·
    rw [if_neg c3] at H
    have c3b0 : decide (x11_1 < (l0.length : Int)) = false := decide_eq_false c3
    clear c3
    simp only [Option.some.injEq, Prod.mk.injEq] at H
    obtain ⟨rfl, rfl⟩ := H
    go_wp2
    go_ret2
    exact ⟨by first | rfl | (simp [errW_none, errW_some] <;> rfl) | (simp [*, errW_none, errW_some] <;> rfl), by repeat (first | (with_reducible first | exact HB.out | apply below_alloc | apply pw_below_drewN | apply below_drew1) | exact HB.out)⟩

/-- How many boxes a list uses, in the order of their first uses. -/
def boxF (least : Int) : Int → List Int → Int × Bool
  | n, [] => (n, true)
  | n, b :: t => if least ≤ b ∧ b ≤ n then boxF least (mx n (b + 1)) t else (0, false)
theorem boxP_at (least : Int) (hle : -1 ≤ least) (l : List Int) (hl : l.length ≤ 1000) : ∀ (m j : Nat) (n : Int), j + m = l.length → 0 ≤ n → n ≤ j → boxP.l0 (m + 1) least n l (l.length : Int) (j : Int) = some (boxF least n (l.drop j)) := by
  intro m
  induction m with
  | zero =>
    intro j n h h0 h1
    rw [boxP.l0, if_neg (by omega), List.drop_of_length_le (by omega)]
    rfl
  | succ m ih =>
    intro j n h h0 h1
    have hj : j < l.length := by omega
    rw [boxP.l0, if_pos (by omega), if_pos (by omega), if_pos (by omega), rd_dropR l j hj, boxF, witP.f]
    by_cases hb : least ≤ rd l (j : Int) ∧ rd l (j : Int) ≤ n
    · rw [if_pos (by omega), if_pos hb]
      have hm0 : 0 ≤ mx n (rd l (j : Int) + 1) := by unfold mx; split <;> omega
      have hm1 : mx n (rd l (j : Int) + 1) ≤ ((j + 1 : Nat) : Int) := by unfold mx; split <;> omega
      have hw1 : wrap64 (rd l (j : Int) + 1) = rd l (j : Int) + 1 := wrap_in (by omega) (by omega)
      have hw2 : wrap64 ((j : Int) + 1) = ((j + 1 : Nat) : Int) := by rw [wrap_in (by omega) (by omega)]; omega
      have hih := ih (j + 1) (mx n (rd l (j : Int) + 1)) (by omega) hm0 hm1
      rw [decide_eq_true hb.2, Option.bind_some, if_pos rfl, hw1, hw2, hih]
    · rw [if_neg hb]
      by_cases hc : rd l (j : Int) ≥ least
      · rw [if_pos hc, decide_eq_false (show ¬ rd l (j : Int) ≤ n by omega), Option.bind_some, if_neg (by decide)]
      · rw [if_neg hc, Option.bind_some, if_neg (by decide)]
theorem boxF_true {least : Int} : ∀ (l : List Int) (n r : Int), boxF least n l = (r, true) → n ≤ r ∧ r ≤ n + l.length ∧ ∀ b ∈ l, least ≤ b ∧ b < r
  | [], n, r, h => by
    rw [boxF] at h
    injection h with h _
    subst h
    exact ⟨Int.le_refl _, by simp, by simp⟩
  | b :: t, n, r, h => by
    rw [boxF] at h
    by_cases hb : least ≤ b ∧ b ≤ n
    · rw [if_pos hb] at h
      obtain ⟨h1, h2, h3⟩ := boxF_true t _ r h
      have hm : n ≤ mx n (b + 1) ∧ b + 1 ≤ mx n (b + 1) ∧ mx n (b + 1) ≤ n + 1 := by unfold mx; split <;> omega
      refine ⟨by omega, by rw [List.length_cons]; push_cast; omega, fun c hc => ?_⟩
      rcases List.mem_cons.1 hc with rfl | hc
      · omega
      · exact h3 c hc
    · rw [if_neg hb] at h; cases h
theorem boxes_calls (A0 : Option Addr) (c0 : Nat) (l : List Int) (least : Int) (hle : -1 ≤ least) (w : World) (hr0 : Kd.C (Kd.int .i64) w A0 l.length l) (hc0 : l.length ≤ c0) (hl : l.length ≤ 1000) :
    Calls Try.prog 66 #[.slice A0 l.length c0, .int .i64 least] w fun e w' => e = .returned (.tuple #[.int .i64 (boxF least 0 l).1, .bool (boxF least 0 l).2]) ∧ Below w.heap.size w w' :=
  boxP.calls (l.length + 1) A0 c0 l least _ _ w hr0 hc0 (boxP_at least hle l hl l.length 0 0 (by omega) (Int.le_refl _) (Int.le_refl _))

def maxF (x : List Int) : Int := (x.drop 1).foldl mx (rd x 0)
set_option maxHeartbeats 4000000 in
set_option maxRecDepth 100000 in
theorem max_calls (A0 : Option Addr) (c0 : Nat) (x : List Int) (w : World) (hr0 : Kd.C (Kd.int .i64) w A0 x.length x) (hp : 0 < x.length) (hl : x.length ≤ 1000) :
    Calls Try.prog 70 #[.slice A0 x.length c0] w fun e w' => e = .returned (.int .i64 (maxF x)) ∧ Below w.heap.size w w' := by
  have HR0 := Aside0.mk hr0
  obtain ⟨ad, e, g0⟩ := Kd.at_int hr0 0 (by omega) (by omega)
  cases e
  rw [show (0 : Int).toNat = 0 from rfl, Addr.add_zero'] at g0
  have hz : decide ((x.length : Int) < 1) = false := decide_eq_false (by omega)
  have hpos : (0 : Int) < (x.length : Int) := by omega
  clear hr0
  go_enter Try.func70, Try.ntmps70
  go_wp2
  go_loopg [3, 4] x.length (fun gg u3 u4 wr => ∃ (j : Nat) (m : Int), u4 = .int .i64 (j : Int) ∧ u3 = .int .i64 m ∧ Aside0 (1 ≤ j ∧ j ≤ x.length ∧ x.length - j ≤ gg ∧ (x.drop j).foldl mx m = maxF x) ∧ Aside0 (Below w.heap.size w wr))
  case atStart => exact ⟨1, rd x 0, rfl, rfl, ⟨by omega, by omega, by omega, rfl⟩, ⟨Below.refl _ _⟩⟩
  case round =>
    obtain ⟨j, m, rfl, rfl, HJ, HB⟩ := hrel
    by_cases hlt : j < x.length
    · have hltz : decide ((j : Int) < (x.length : Int)) = true := decide_eq_true (by omega)
      obtain ⟨a1, e, g1⟩ := Kd.at_int (Kd.C_below HR0.out HB.out) (j : Int) (by omega) (by omega)
      cases e
      rw [Int.toNat_natCast] at g1
      have hj0 : 0 ≤ (j : Int) := Int.natCast_nonneg j
      have hj1 : (j : Int) < (x.length : Int) := by omega
      have HD : Aside0 ((x.drop j).foldl mx m = (x.drop (j + 1)).foldl mx (mx m (rd x (j : Int)))) := ⟨by rw [rd_dropR _ _ hlt]; rfl⟩
      generalize rd x (j : Int) = v at g1 HD
      by_cases hm : m < v
      · go_wp2
        go_roundg (x.length - (j + 1))
        case measure => have := HJ.out.2.2.1; omega
        case rel => exact ⟨j + 1, v, by push_cast; rfl, rfl, ⟨by omega, by omega, by omega, by have h := HD.out; rw [show mx m v = v from if_pos hm] at h; exact h.symm.trans HJ.out.2.2.2⟩, HB⟩
      · go_wp2
        go_roundg (x.length - (j + 1))
        case measure => have := HJ.out.2.2.1; omega
        case rel => exact ⟨j + 1, m, by push_cast; rfl, rfl, ⟨by omega, by omega, by omega, by have h := HD.out; rw [show mx m v = m from if_neg (Int.not_lt.2 hm)] at h; exact h.symm.trans HJ.out.2.2.2⟩, HB⟩
    · have hltz : decide ((j : Int) < (x.length : Int)) = false := decide_eq_false (by omega)
      have e : m = maxF x := by
        have h := HJ.out.2.2.2
        rw [List.drop_eq_nil_of_le (by omega)] at h
        exact h
      have HE := Aside0.mk e
      clear e
      go_wp2
      go_ret
      exact ⟨by rw [← HE.out]; rfl, HB.out⟩

theorem C_of_blk {W : World} {g t : Nat} {x : List Int} (hb : W.heap[g]? = some (.cells (enc x) t (0, 0))) (hl : x.length ≤ 1000) (n : Nat) (hn : n ≤ x.length) : Kd.C (Kd.int .i64) W (some ⟨g, 0, none⟩) (x.take n).length (x.take n) := by
  refine ⟨rfl, by simp; omega, fun _ => ⟨_, rfl, fun j p hj => ⟨[.int .i64 p], rfl, rfl, fun i u hu => ?_⟩⟩⟩
  cases i with
  | succ i => simp at hu
  | zero =>
    simp at hu
    subst hu
    have hjl : j < (x.take n).length := by
      rcases Nat.lt_or_ge j (x.take n).length with h | h
      · exact h
      · rw [List.getElem?_eq_none h] at hj; cases hj
    have hjx : j < x.length := by simp at hjl; omega
    rw [show (Kd.int IntKind.i64).sz = 1 from rfl, Nat.mul_one, Nat.add_zero, add_plain, cell_of_encL hb hjx]
    rw [List.getElem?_eq_getElem hjl] at hj
    injection hj with hj
    rw [← hj]
    simp [hjx]

end Go.Proofs.Ytcjglbipkghhnaa.Hand
