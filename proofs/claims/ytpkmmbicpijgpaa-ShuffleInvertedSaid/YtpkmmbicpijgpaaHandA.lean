import Derived.Test.YtpkmmbicpijgpaaProg
import Derived.Below
import Derived.Deep.Draws
import Derived.Deep.AppendLies
import Derived.Maps.AppendAt
import Derived.OwnWalk
import Derived.Laws.BytesArg
import Derived.Laws.MakeOwn
import Derived.Laws.OwnMore
import Derived.Deep.OwnRows
import Derived.Tactics
import Derived.Lib.ConvBytes
import Derived.Laws.Slices
import Derived.WalkKit
import Derived.KernelRfl
import Derived.RowKit3
import Derived.Deep.LoopGhost
import Derived.Deep.QuietTactic
import Derived.BigQuiet
import Derived.WideLaws
import Derived.Deep.DeepCutAuto
import Derived.Deep.CutBlock
import Derived.Deep.RegionHeld3
import Derived.Laws.Rows
import Derived.Lib.AppendStr
import Derived.ArgAppend
import Derived.Laws.IdiomCopy
import Derived.OrdersHeld
import Derived.Laws.BitsLemmas
import Derived.RowKit
import Derived.Test.YtpkmmbicpijgpaaWWords
import Derived.Test.YtpkmmbicpijgpaaWLast
import Derived.Test.YtpkmmbicpijgpaaWTab
import Derived.Test.YtpkmmbicpijgpaaWFour
import Derived.Test.YtpkmmbicpijgpaaWQPut
import Derived.Test.YtpkmmbicpijgpaaWApart
import Derived.Test.YtpkmmbicpijgpaaWArr
import Derived.Test.YtpkmmbicpijgpaaWZeros
import Derived.Test.YtpkmmbicpijgpaaWFoot
import Derived.Test.YtpkmmbicpijgpaaWKept
import Derived.Test.YtpkmmbicpijgpaaWShare
import Derived.Test.YtpkmmbicpijgpaaWN
import Derived.Test.YtpkmmbicpijgpaaWFootNe
import Derived.Test.YtpkmmbicpijgpaaWAt
import Derived.Test.YtpkmmbicpijgpaaWEqStruct
import Derived.Test.YtpkmmbicpijgpaaWRepsOne
import Derived.Test.YtpkmmbicpijgpaaWInv
import Derived.Test.YtpkmmbicpijgpaaWInvWords
import Derived.Test.YtpkmmbicpijgpaaWGuard
import Derived.Test.YtpkmmbicpijgpaaWNEv
import Derived.Test.YtpkmmbicpijgpaaWMore
import Derived.RangeFuncNested
import Derived.RangeFuncBound
import Derived.RangeFuncCalls
import Derived.RangeFuncLeaves
import Derived.RangeFuncBox
import Derived.Shelf.Abstract
import Derived.Shelf.RegionOpen
import Derived.OwnWalkIn
import Derived.TacticsInMore
import Derived.LoopNIn
import Derived.LoopIn
import Derived.Lib.SliceRun

namespace Go.Proofs.Ytpkmmbicpijgpaa.Hand
open Go.RowKit Go.Shelf Go.Proofs.YtpkmmbicpijgpaaW.PrintWords Go.Proofs.YtpkmmbicpijgpaaW.PrintLast Go.Proofs.YtpkmmbicpijgpaaW.PrintMore
set_option linter.unusedVariables false
set_option linter.unusedSimpArgs false

/-- What is asked of a predicate handed over: it answers p, and at most draws. -/
def Answers (g : Nat) (lb : Array Value) (p : Int → Bool) (w : World) : Prop :=
  ∀ (x : Int) (n : Nat), Calls Try.prog g (#[.int .i64 x] ++ lb) (w.drewN n) fun e w' => e = .returned (.bool (p x)) ∧ ∃ m, w' = (w.drewN n).drewN m

theorem any_take_succ (p : Int → Bool) (l : List Int) (k : Nat) (h : k < l.length) : (l.take (k + 1)).any p = ((l.take k).any p || p (rd l k)) := by
  have e : rd l (k : Int) = l[k] := by simp [rd, h]
  rw [List.take_succ_eq_append_getElem h, e, List.any_append]
  simp only [List.any_cons, List.any_nil, Bool.or_false]

set_option maxHeartbeats 2000000 in
theorem indexFunc (g : Nat) (lb : Array Value) (p : Int → Bool) (eg : ∀ args w, (callFunc g args).run Try.prog w = .ok (.enter g args) w) (A0 : Option Addr) (c0 : Nat) (l0 : List Int) (w : World) (hr0 : Kd.C (Kd.int .i64) w A0 l0.length l0) (hp : Answers g lb p w) :
    Calls Try.prog 64 #[.slice A0 l0.length c0, .func (.func g) #[] lb] w fun e w' => (∃ k : Int, e = .returned (.int .i64 k) ∧ Aside0 (decide (0 ≤ k) = l0.any p)) ∧ Drawn0 w w' := by
  have hlen : l0.length ≤ 9223372036854775807 := hr0.2.1
  have HR0 := Aside0.mk hr0
  clear hr0
  have HP := Aside0.mk hp
  clear hp
  go_enter Try.func64, Try.ntmps64
  go_wp2
  go_loopg [5, 8] l0.length (fun gg _ s8 wr => ∃ kk : Nat, s8 = .int .i64 kk ∧ Aside0 (kk ≤ l0.length ∧ l0.length - kk ≤ gg ∧ (l0.take kk).any p = false) ∧ Drawn0 w wr)
  case atStart => exact ⟨0, rfl, ⟨Nat.zero_le _, by omega, rfl⟩, Drawn0.refl _⟩
  case round =>
    obtain ⟨kk, rfl, A, ⟨q, rfl⟩⟩ := hrel
    by_cases hlt : kk < l0.length
    · have hltz : (kk : Int) < (l0.length : Int) := by omega
      obtain ⟨ad, e, hx⟩ := Kd.at_int HR0.out (kk : Int) (by omega) hltz
      cases e
      rw [Int.toNat_natCast] at hx
      have hcall := HP.out (rd l0 kk)
      have hany := any_take_succ p l0 kk hlt
      have B := Aside0.mk hany
      clear hany
      cases hq : p (rd l0 kk) with
      | true =>
        rw [hq] at hcall
        go_wp2_with (go_at_fn g; refine (hcall _).mono ?_; rintro e w' ⟨rfl, q', rfl⟩)
        go_ret
        refine ⟨⟨_, rfl, ⟨?_⟩⟩, by repeat (first | exact Drawn0.refl _ | apply Drawn0.step)⟩
        have h1 : (l0.take (kk + 1)).any p = true := by rw [B.out, hq]; simp
        have h2 : l0.any p = true := by
          rw [← List.take_append_drop (kk + 1) l0, List.any_append, h1]; rfl
        rw [h2]; simp
      | false =>
        rw [hq] at hcall
        go_wp2_with (go_at_fn g; refine (hcall _).mono ?_; rintro e w' ⟨rfl, q', rfl⟩)
        go_roundg (l0.length - (kk + 1))
        case measure => have := A.out.2.1; omega
        case rel =>
          exact ⟨kk + 1, by go_num, ⟨by omega, by omega, by rw [B.out, A.out.2.2, hq]; rfl⟩, by repeat (first | exact Drawn0.refl _ | apply Drawn0.step)⟩
    · have hltz : ¬ (kk : Int) < (l0.length : Int) := by omega
      go_wp2
      go_ret
      refine ⟨⟨_, rfl, ⟨?_⟩⟩, by repeat (first | exact Drawn0.refl _ | apply Drawn0.step)⟩
      have h2 := A.out.2.2
      rw [List.take_of_length_le (by omega)] at h2
      rw [h2]; simp

set_option maxHeartbeats 2000000 in
theorem containsFunc (g : Nat) (lb : Array Value) (p : Int → Bool) (eg : ∀ args w, (callFunc g args).run Try.prog w = .ok (.enter g args) w) (A0 : Option Addr) (c0 : Nat) (l0 : List Int) (w : World) (hr0 : Kd.C (Kd.int .i64) w A0 l0.length l0) (hp : Answers g lb p w) :
    Calls Try.prog 54 #[.slice A0 l0.length c0, .func (.func g) #[] lb] w fun e w' => e = .returned (.bool (l0.any p)) ∧ Drawn0 w w' := by
  have HC := Aside0.mk (indexFunc g lb p eg A0 c0 l0 w hr0 hp)
  clear hr0 hp
  go_enter Try.func54, Try.ntmps54
  go_wp2_with (go_at_call 64; refine HC.out.mono ?_; rintro e w' ⟨⟨k, rfl, HK⟩, ⟨q, rfl⟩⟩)
  go_ret
  exact ⟨by show Ending.returned (.bool (decide (0 ≤ k))) = _; rw [HK.out], by repeat (first | exact Drawn0.refl _ | apply Drawn0.step)⟩

set_option maxHeartbeats 2000000 in
theorem nonzero (w : World) : Answers 55 #[] (fun x => x != 0) w := by
  intro x n
  go_enter Try.func55, Try.ntmps55
  go_wp2
  go_ret
  exact ⟨rfl, 0, rfl⟩

/-! ### areRemainders -/
def within (x lo hi : Int) : Bool := if x ≥ lo then decide (x ≤ hi) else false

set_option maxHeartbeats 2000000 in
theorem within_calls (a0 a1 a2 : Int) (w : World) :
    Calls Try.prog 61 #[.int .i64 a0, .int .i64 a1, .int .i64 a2] w fun e w' => e = .returned (.bool (within a0 a1 a2)) ∧ ∃ m, w' = w.drewN m := by
  unfold within
  by_cases c : a0 ≥ a1
  · rw [if_pos c]
    have c4b0 : decide (a1 ≤ a0) = true := decide_eq_true c
    clear c
    go_enter Try.func61, Try.ntmps61
    go_wp2
    go_ret
    exact ⟨rfl, 0, rfl⟩
  · rw [if_neg c]
    have c4b0 : decide (a1 ≤ a0) = false := decide_eq_false c
    clear c
    go_enter Try.func61, Try.ntmps61
    go_wp2
    go_ret
    exact ⟨rfl, 0, rfl⟩

set_option maxHeartbeats 2000000 in
theorem outside (m : Int) (B : Nat) (w : World) (hc : w.cell? ⟨B, 0, none⟩ = some (.int .i64 m)) : Answers 62 #[.pointer (some ⟨B, 0, none⟩)] (fun x => !(within x 0 (wrap64 (m - 1)))) w := by
  intro x n
  have hc' : (w.drewN n).cell? ⟨B, 0, none⟩ = some (.int .i64 m) := hc
  generalize w.drewN n = W at hc' ⊢
  clear hc
  go_enter Try.func62, Try.ntmps62
  go_wp2_with (go_at_call 61; refine (within_calls _ _ _ _).mono ?_; rintro e w' ⟨rfl, q, rfl⟩)
  go_ret
  exact ⟨rfl, q, rfl⟩

def remF (m : Int) (l : List Int) : Bool := l.all fun x => within x 0 (wrap64 (m - 1))
theorem remF_eq (m : Int) (l : List Int) : (!(l.any fun x => !(within x 0 (wrap64 (m - 1))))) = remF m l := by
  unfold remF
  rw [List.all_eq_not_any_not]

set_option maxHeartbeats 2000000 in
theorem rem_calls (a0 : Int) (A1 : Option Addr) (c1 : Nat) (l1 : List Int) (w : World) (hr1 : Kd.C (Kd.int .i64) w A1 l1.length l1) :
    Calls Try.prog 47 #[.int .i64 a0, .slice A1 l1.length c1] w fun e w' => e = .returned (.bool (remF a0 l1)) ∧ Below w.heap.size w w' := by
  have hw : Below w.heap.size w (w.alloc (.cells #[.int .i64 a0] 3)) := (Below.refl _ w).alloc (Nat.le_refl _) _
  have HC := Aside0.mk (containsFunc 62 #[.pointer (some ⟨w.heap.size, 0, none⟩)] _ (enters_of Try.func62 (by kernel_rfl) rfl) A1 c1 l1 _ (Kd.C_below hr1 hw) (outside a0 w.heap.size _ (Boxed.new w 3 (.int .i64 a0)).cell))
  have HW := Aside0.mk hw
  clear hr1 hw
  go_enter Try.func47, Try.ntmps47
  go_wp2_with (go_at_call 54; refine HC.out.mono ?_; rintro e w' ⟨rfl, ⟨q, rfl⟩⟩)
  go_ret
  exact ⟨by show Ending.returned (.bool (!_)) = _; rw [remF_eq], pw_below_drewN HW.out _⟩

/-! ### slices.Clone -/
theorem infoI : (Try.prog.info? 3).map (fun i => (i.zero, i.size, i.bytes)) = some (some (.int .i64 0), 1, 8) := by kernel_rfl

/-! ### slices.Backward, and the value of a polynomial -/
def back (l : List Int) (k : Nat) : List (Int × Int) := (List.range k).map fun (j : Nat) => (((l.length : Int) - 1 - (j : Int)), rd l ((l.length : Int) - 1 - (j : Int)))
theorem back_succ (l : List Int) (k : Nat) : back l (k + 1) = back l k ++ [((l.length : Int) - 1 - (k : Int), rd l ((l.length : Int) - 1 - (k : Int)))] := by simp [back, List.range_succ]
theorem back_length (l : List Int) (k : Nat) : (back l k).length = k := by simp [back]

/-- What the loop's body must keep: what lay below n₀, and the box of the slice. -/
structure Keeps (n₀ Bs : Nat) (A B : World) : Prop where
  below : Below n₀ A B
  box : B.heap[Bs]? = A.heap[Bs]?
theorem keeps_t {n₀ Bs : Nat} {A B C : World} (h : Keeps n₀ Bs A B) (k : Keeps n₀ Bs B C) : Keeps n₀ Bs A C := ⟨h.below.trans k.below, k.box.trans h.box⟩
theorem keeps_b {n₀ Bs : Nat} {w : World} (hn : n₀ ≤ w.heap.size) (hs : Bs < w.heap.size) (W : World) (l : Nat) (o o' : Obj) (hl : w.heap.size ≤ l) (h : W.heap[l]? = some o) (h1 : o.isCells = false) (h2 : o.isWalk = false) : Keeps n₀ Bs W (W.putObj l o') :=
  ⟨belowK_b hn W l o o' hl h h1 h2, (belowK_b (n₀ := Bs + 1) hs W l o o' hl h h1 h2).block Bs (Nat.lt_succ_self _)⟩

attribute [local go_sem] Oper.semAt_some

set_option maxRecDepth 100000 in
set_option maxHeartbeats 4000000 in
theorem back1_in (F : Fence) (n : Nat) (h76 : F.fn 63) (hro : F.round = none) (hn : 1 ≤ n) (l Bs n₀ : Nat) (A0 : Option Addr) (c0 : Nat) (l0 : List Int) (W0 : World) (hn₀ : n₀ = W0.heap.size) (hr0 : Kd.C (Kd.int .i64) W0 A0 l0.length l0)
    (J Jx : List (Int × Int) → World → Prop)
    (hY : ∀ pre x W, J pre W → pre.length < l0.length → YieldAt F (n - 1) Try.prog l #[.int .i64 x.1, .int .i64 x.2] W fun e W' =>
      (e = .returned (.bool true) ∧ J (pre ++ [x]) W' ∧ Keeps n₀ Bs W W') ∨ (e = .returned (.bool false) ∧ Jx (pre ++ [x]) W'))
    (W : World) (hW : Below n₀ W0 W) (hBs : Boxed W Bs 22 (.slice A0 l0.length c0)) (h0 : J [] W) :
    CallsIn F n Try.prog 63 #[.func (.yield l) #[] #[], .pointer (some ⟨Bs, 0, none⟩)] W fun e W' => (∃ v, e = .returned v) ∧
      ((∃ ys, ys = back l0 l0.length ∧ J ys W') ∨ (∃ pre, (∃ k, k ≤ l0.length ∧ pre = back l0 k) ∧ Jx pre W')) := by
  have hlen : l0.length ≤ 9223372036854775807 := hr0.2.1
  have HR0 := Aside0.mk hr0
  have HS := Aside0.mk hn₀
  have HB0 := Aside0.mk hBs
  have hcell := hBs.cell
  clear hr0 hn₀ hBs
  refine callsIn_of_wp Try.func63 rfl h76 ?_ hro
  simp only [Try.ntmps63, List.size_toArray, List.length_cons, List.length_nil, Nat.reduceAdd, Nat.reduceSub, Array.replicate_succ, Array.replicate_zero, List.push_toArray, List.append_toArray, List.nil_append, List.cons_append]
  gi_wp2
  gi_loopw [3] (fun i wr => ∃ (k : Nat) (x : Int), i = .int .i64 x ∧ Aside0 (x = (l0.length : Int) - 1 - (k : Int) ∧ k ≤ l0.length) ∧ Aside0 (J (back l0 k) wr) ∧ Aside0 (Keeps n₀ Bs W wr))
    (fun i _ => (intOf i + 1).toNat)
  case atStart => exact ⟨0, (l0.length : Int) - 1, rfl, ⟨by omega, Nat.zero_le _⟩, ⟨h0⟩, ⟨Below.refl _ _, rfl⟩⟩
  case round =>
    obtain ⟨k, x, rfl, HX, HJ, HK⟩ := hrel
    have HBx : Boxed wr Bs 22 (.slice A0 l0.length c0) := HK.out.box.trans HB0.out
    have hcx := HBx.cell
    by_cases hlt : 0 ≤ x
    · have hlt1 : x < (l0.length : Int) := by have := HX.out.1; omega
      have hb : Below W0.heap.size W0 wr := by rw [← HS.out]; exact hW.trans HK.out.below
      obtain ⟨ad, e, hx⟩ := Kd.at_int (Kd.C_below HR0.out hb) _ hlt hlt1
      cases e
      obtain ⟨fn, tmps, assign, body, hy, hR⟩ := hY _ (x, rd l0 x) wr HJ.out (by rw [back_length]; have := HX.out.1; omega)
      dsimp only at hy
      have HN : Aside0 (back l0 (k + 1) = back l0 k ++ [(x, rd l0 x)]) := ⟨by rw [back_succ, HX.out.1]⟩
      clear HBx hb
      gi_wp2
      refine hR.mono ?_
      rintro e W3 (⟨rfl, hJ3, hk3⟩ | ⟨rfl, hJx3⟩)
      · rw [← HN.out] at hJ3
        have HJ3 := Aside0.mk hJ3
        have HK3 := Aside0.mk hk3
        clear hJ3 hk3
        gi_wp2
        go_roundw
        case rel => exact ⟨k + 1, x - 1, rfl, ⟨by have := HX.out.1; omega, by have := HX.out.1; omega⟩, HJ3, ⟨keeps_t HK.out HK3.out⟩⟩
        case measure => simp [intOf]; omega
      · rw [← HN.out] at hJx3
        have HJ3 := Aside0.mk hJx3
        clear hJx3
        gi_wp2
        refine bodyPost_ret (results_none rfl _ _ _) rfl ?_
        exact ⟨⟨_, rfl⟩, .inr ⟨_, ⟨k + 1, by have := HX.out.1; omega, rfl⟩, HJ3.out⟩⟩
    · have e : k = l0.length := by have := HX.out; omega
      subst e
      gi_wp2
      go_end0
      exact ⟨⟨_, rfl⟩, .inl HJ.out⟩

theorem back_stops (F : Fence) (n : Nat) (h76 : F.fn 63) (hro : F.round = none) (hn : 1 ≤ n) (Bs n₀ : Nat) (A0 : Option Addr) (c0 : Nat) (l0 : List Int) (W0 w : World) (hn₀ : n₀ = W0.heap.size) (hr0 : Kd.C (Kd.int .i64) W0 A0 l0.length l0) (hw : Below n₀ W0 w) (hB : Boxed w Bs 22 (.slice A0 l0.length c0)) :
    SeqStopsK F n Try.prog 63 #[.pointer (some ⟨Bs, 0, none⟩)] (fun x : Int × Int => #[Value.int .i64 x.1, Value.int .i64 x.2]) (Keeps n₀ Bs) (fun ys => ys = back l0 l0.length) (fun pre => ∃ k, k ≤ l0.length ∧ pre = back l0 k) l0.length w := fun l J Jx W hW _ _ hY h0 =>
  back1_in F n h76 hro hn l Bs n₀ A0 c0 l0 W0 hn₀ hr0 J Jx hY W (hw.trans (hW.mono (by rw [hn₀]; exact below_size (by rw [← hn₀]; exact hw)))) ((hW.block Bs hB.lt).trans hB) h0

set_option maxHeartbeats 1000000 in
theorem back_in (F : Fence) (n : Nat) (h70 : F.fn 48) (hro : F.round = none) (a : Option Addr) (len cap : Nat) (w : World) :
    CallsIn F n Try.prog 48 #[.slice a len cap] w fun e w' => e = .returned (.func (.func 63) #[] #[.pointer (some ⟨w.heap.size, 0, none⟩)]) ∧ w' = w.alloc (.cells #[.slice a len cap] 22) := by
  refine callsIn_of_wp Try.func48 rfl h70 ?_ hro
  simp only [Try.ntmps48, List.size_toArray, List.length_cons, List.length_nil, Nat.reduceAdd, Nat.reduceSub, Array.replicate_succ, Array.replicate_zero, List.push_toArray, List.append_toArray, List.nil_append, List.cons_append]
  gi_wp2
  go_ret
  exact ⟨rfl, rfl⟩

/-- One step of a polynomial's value. -/
def horner (m x : Int) (out c : Int) : Int := Int.tmod (wrap64 (wrap64 (out * x) + c)) m
def atList (m x : Int) (l : List (Int × Int)) : Int := l.foldl (fun out p => horner m x out p.2) 0
theorem atList_snoc (m x : Int) (l : List (Int × Int)) (p : Int × Int) : atList m x (l ++ [p]) = horner m x (atList m x l) p.2 := by simp [atList]

set_option maxRecDepth 100000 in
set_option maxHeartbeats 4000000 in
theorem at_in (F : Fence) (n : Nat) (h57 : F.fn 30) (h70 : F.fn 48) (h76 : F.fn 63) (hro : F.round = none) (hn : 3 ≤ n) (m : Int) (hm : m ≠ 0) (A1 : Option Addr) (c1 : Nat) (l1 : List Int) (x : Int) (w : World) (hr1 : Kd.C (Kd.int .i64) w A1 l1.length l1) :
    CallsIn F n Try.prog 30 #[.int .i64 m, .slice A1 l1.length c1, .int .i64 x] w fun e w' => e = .returned (.int .i64 (atList m x (back l1 l1.length))) ∧ Below w.heap.size w w' := by
  have h1 : 1 ≤ n := by omega
  have hm1 : (m == 0) = false := beq_eq_false_iff_ne.mpr hm
  have hm2 : (m != 0) = true := bne_iff_ne.mpr hm
  have HM := Aside0.mk hm
  have HR := Aside0.mk hr1
  clear hr1
  refine callsIn_of_wp_marks Try.func30 rfl h57 ?_ hro
  simp only [Try.ntmps30, List.size_toArray, List.length_cons, List.length_nil, Nat.reduceAdd, Nat.reduceSub, Array.replicate_succ, Array.replicate_zero, List.push_toArray, List.append_toArray, List.nil_append, List.cons_append]
  gi_wp2_with (gi_at_call 48; refine (back_in F (n - 1) h70 hro _ _ _ _).mono ?_; rintro e w' ⟨rfl, rfl⟩)
  have bM := Boxed.new w 3 (.int .i64 m)
  have bX := Boxed.new (w.alloc (.cells #[.int .i64 m] 3)) 3 (.int .i64 x)
  have bO := Boxed.new ((w.alloc (.cells #[.int .i64 m] 3)).alloc (.cells #[.int .i64 x] 3)) 3 (.int .i64 0)
  have bS := Boxed.new (((w.alloc (.cells #[.int .i64 m] 3)).alloc (.cells #[.int .i64 x] 3)).alloc (.cells #[.int .i64 0] 3)) 22 (.slice A1 l1.length c1)
  simp only [World.size_alloc] at bX bO bS
  have hB0 : Below w.heap.size w ((((w.alloc (.cells #[.int .i64 m] 3)).alloc (.cells #[.int .i64 x] 3)).alloc (.cells #[.int .i64 0] 3)).alloc (.cells #[.slice A1 l1.length c1] 22)) :=
    ((((Below.refl _ w).alloc (Nat.le_refl _) _).alloc (by simp) _).alloc (by simp; omega) _).alloc (by simp; omega) _
  refine wpIn_rangeFunc_ownG hro h1 (gf := 63) (lb := #[.pointer (some ⟨w.heap.size + 1 + 1 + 1, 0, none⟩)]) rfl h76 (enters_of Try.func63 (by kernel_rfl) rfl)
    (back_stops F (n - 1) h76 hro (by omega) (w.heap.size + 1 + 1 + 1) w.heap.size A1 c1 l1 w _ rfl HR.out hB0 bS) keeps_t (keeps_b (by simp; omega) (by simp)) (Below.refl _ _) (fun _ => rfl)
    (fun pre W => (W.cell? ⟨w.heap.size, 0, none⟩ = some (.int .i64 m) ∧ W.cell? ⟨w.heap.size + 1, 0, none⟩ = some (.int .i64 x) ∧ W.cell? ⟨w.heap.size + 1 + 1, 0, none⟩ = some (.int .i64 (atList m x pre)) ∧ W.frozen? ⟨w.heap.size + 1 + 1, 0, none⟩ = false) ∧ Below w.heap.size w W)
    (fun _ _ _ => False)
    (OwnFrom.and (Own.from (fun s A B row hs hg hr => ⟨cell_kept hs.1 hg hr, cell_kept hs.2.1 hg hr, cell_kept hs.2.2.1 hg hr, (frozen_kept hs.2.2.1 hg hr).trans hs.2.2.2⟩) _) (ownFrom_below (Nat.le_refl _) (by simp; omega)))
    (fun _ _ _ _ _ hs _ _ => hs)
    ⟨⟨(((bM.alloc _).alloc _).alloc _).cell, ((bX.alloc _).alloc _).cell, (bO.alloc _).cell, (bO.alloc _).frozen⟩, hB0⟩
    (fun p => { tmps := #[.int .i64 m, .slice A1 l1.length c1, .int .i64 x, .pointer (some ⟨w.heap.size, 0, none⟩), undef, .pointer (some ⟨w.heap.size + 1, 0, none⟩), .int .i64 0, .pointer (some ⟨w.heap.size + 1 + 1, 0, none⟩), undef, .int .i64 p.2, .slice A1 l1.length c1, .func (.func 63) #[] #[.pointer (some ⟨w.heap.size + 1 + 1 + 1, 0, none⟩)], .int .i64 p.1, .int .i64 p.2, undef, undef, undef, undef, undef, undef, undef, undef], defers := [] }) ?assign ?body ?done ?stop
  case assign =>
    intro l x W K hK
    gi_wp2
    exact hK
  case body =>
    rintro l pre p W ⟨⟨hcm, hcx, hco, hfo⟩, hB⟩ _
    have HB := Aside0.mk hB
    have HN := Aside0.mk (atList_snoc m x pre p)
    clear hB bM bX bO bS hB0
    gi_wp2
    refine ⟨(KeepsOthers.setCell _ _ _).from _, ⟨(Below.refl w.heap.size W).setCell (p := ⟨w.heap.size + 1 + 1, 0, none⟩) (by simp; omega) _, Below.heap_setCell W ⟨w.heap.size + 1 + 1, 0, none⟩ _ _ (by simp)⟩, ⟨?_, ?_, ?_, ?_⟩, HB.out.setCell (p := ⟨w.heap.size + 1 + 1, 0, none⟩) (by simp; omega) _⟩
    · exact (World.cell?_setCell_other (h := fun e => by simp at e) ..).trans hcm
    · exact (World.cell?_setCell_other (h := fun e => by simp at e) ..).trans hcx
    · rw [HN.out]; exact World.cell?_setCell_same' _ _ _ (by rw [hco]; rfl)
    · rw [World.frozen?_setCell]; exact hfo
  case done =>
    rintro D ys W hD rfl ⟨⟨hcm, hcx, hco, hfo⟩, hB⟩ hK
    have HB := Aside0.mk hB
    clear hB
    gi_wp2
    refine ⟨by simp, .inl ⟨_, _, rfl, run_takeDeferred hK, ?_⟩⟩
    exact ⟨_, results_tmp rfl _ _ _, rfl, HB.out.trans (belowK_b (w := w) (Nat.le_refl _) W D _ _ (by simp at hD; omega) hK rfl rfl)⟩
  case stop =>
    rintro D c pre W _ _ h _
    exact h.elim

/-- The value of a polynomial, where the modulus is not 0. -/
def atF (m : Int) (l : List Int) (x : Int) : Option Int := if m = 0 then none else some (atList m x (back l l.length))

theorem at_calls (m : Int) (A1 : Option Addr) (c1 : Nat) (l1 : List Int) (x r : Int) (w : World) (hr1 : Kd.C (Kd.int .i64) w A1 l1.length l1) (h : atF m l1 x = some r) :
    Calls Try.prog 30 #[.int .i64 m, .slice A1 l1.length c1, .int .i64 x] w fun e w' => e = .returned (.int .i64 r) ∧ Below w.heap.size w w' := by
  unfold atF at h
  split at h
  · cases h
  · rename_i hm
    cases h
    exact (callsIn_wide (n := 3)).1 (at_in Fence.wide 3 trivial trivial trivial rfl (by omega) m hm A1 c1 l1 x w hr1)

set_option maxHeartbeats 2000000 in
theorem clone_calls (A0 : Option Addr) (c0 : Nat) (l0 : List Int) (w : World) (hr0 : Kd.C (Kd.int .i64) w A0 l0.length l0) (hl : l0.length ≤ 17592186044416) :
    Calls Try.prog 49 #[.slice A0 l0.length c0] w fun e w' => ∃ v0_ : Value, e = .returned v0_ ∧ Kd.R (Kd.int .i64) 3 w' w.heap.size (fun _ => True) v0_ l0 ∧ Below w.heap.size w w' := by
  have q22 : ∀ (w : World) (a : Option Addr) (n c n' c' : Nat), (binOp .eql 22 (.slice a n c) (.slice none n' c')).run Try.prog w = .ok (.bool a.isNone) w := fun w a n c n' c' => Lib.run_eql_slice_nil w _ _ a n c n' c' Try.underlying22
  cases A0 with
  | none =>
    have e : l0 = [] := by
      cases l0 with
      | nil => rfl
      | cons x l =>
        obtain ⟨ad, e, _⟩ := hr0.2.2 (by simp)
        cases e
    subst e
    clear hr0
    go_enter Try.func49, Try.ntmps49
    go_wp2
    go_ret
    exact ⟨_, rfl, Kd.R_nil _ _ _ _ _, Below.refl _ _⟩
  | some ad =>
    have HR := Aside0.mk hr0
    clear hr0
    go_enter Try.func49, Try.ntmps49
    go_wp2_with (at_builtin; go_loud (refine Kd.R_append_row (w0 := w) (h1 := fun _ => rfl) (Value.int .i64) 0 w.heap.size rfl (.tmp 5) (.tmp 6) 22 3 (.int .i64 0) 8 rfl Try.underlying22 infoI rfl (by decide) _ [] l0 (some ad) l0.length c0 (fun _ => True) rfl rfl (fun _ _ => trivial) (Kd.R_of_own (World.ownsRow_made w #[] 0 (Nat.le_refl _) (Nat.zero_le _) (by simp)) (fun _ _ => trivial)) ?cR ?cB ?cS ?cL ?_))
    case cR => exact Kd.C_below HR.out ((Below.refl _ w).alloc (Nat.le_refl _) _)
    case cB => exact (Below.refl _ w).alloc (Nat.le_refl _) _
    case cS => simp
    case cL => simp; omega
    intro v1 w1 hR hB hg _
    have HR1 := Aside0.mk hR
    have HB1 := Aside0.mk hB
    clear hR hB
    go_wp2
    go_ret
    exact ⟨v1, rfl, HR1.out, HB1.out⟩

end Go.Proofs.Ytpkmmbicpijgpaa.Hand
