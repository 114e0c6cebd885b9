import Derived.Test.YtcjglbipkghhnaaWAll
import Derived.Test.YtcjglbipkghhnaaProg
import Derived.Below
import Derived.Deep.Draws
import Derived.Deep.AppendLies
import Derived.Maps.AppendAt
import Derived.OwnWalk
import Derived.Laws.BytesArg
import Derived.Laws.MakeOwn
import Derived.Laws.OwnMore
import Derived.Deep.OwnRows
import Derived.Tactics
import Derived.Lib.ConvBytes
import Derived.Laws.Slices
import Derived.WalkKit
import Derived.KernelRfl
import Derived.RowKit3
import Derived.Deep.LoopGhost
import Derived.Deep.QuietTactic
import Derived.BigQuiet
import Derived.WideLaws
import Derived.Deep.DeepCutAuto
import Derived.Deep.CutBlock
import Derived.Deep.RegionHeld3
import Derived.Laws.Rows
import Derived.Lib.AppendStr
import Derived.ArgAppend
import Derived.Laws.IdiomCopy
import Derived.OrdersHeld
import Derived.Laws.BitsLemmas
import Derived.RowKit
import Derived.RangeFuncNested
import Derived.RangeFuncBound
import Derived.RangeFuncCalls
import Derived.RangeFuncLeaves
import Derived.RangeFuncBox
import Derived.Shelf.Abstract
import Derived.Shelf.RegionOpen
import Derived.OwnWalkIn
import Derived.TacticsInMore
import Derived.LoopNIn
import Derived.LoopIn
import Derived.Lib.SliceRun

namespace Go.Proofs.Ytcjglbipkghhnaa.Hand
open Go.RowKit Go.Shelf Go.Proofs.YtcjglbipkghhnaaW.PrintWords Go.Proofs.YtcjglbipkghhnaaW.PrintLast Go.Proofs.YtcjglbipkghhnaaW.PrintMore
set_option linter.unusedVariables false
set_option linter.unusedSimpArgs false

/-- What is asked of a predicate handed over: it answers p, and at most draws. -/
def Answers (g : Nat) (lb : Array Value) (p : Int → Bool) (w : World) : Prop :=
  ∀ (x : Int) (n : Nat), Calls Try.prog g (#[.int .i64 x] ++ lb) (w.drewN n) fun e w' => e = .returned (.bool (p x)) ∧ ∃ m, w' = (w.drewN n).drewN m

theorem any_take_succ (p : Int → Bool) (l : List Int) (k : Nat) (h : k < l.length) : (l.take (k + 1)).any p = ((l.take k).any p || p (rd l k)) := by
  have e : rd l (k : Int) = l[k] := by simp [rd, h]
  rw [List.take_succ_eq_append_getElem h, e, List.any_append]
  simp only [List.any_cons, List.any_nil, Bool.or_false]

set_option maxHeartbeats 2000000 in
theorem indexFunc (g : Nat) (lb : Array Value) (p : Int → Bool) (eg : ∀ args w, (callFunc g args).run Try.prog w = .ok (.enter g args) w) (A0 : Option Addr) (c0 : Nat) (l0 : List Int) (w : World) (hr0 : Kd.C (Kd.int .i64) w A0 l0.length l0) (hp : Answers g lb p w) :
    Calls Try.prog 90 #[.slice A0 l0.length c0, .func (.func g) #[] lb] w fun e w' => (∃ k : Int, e = .returned (.int .i64 k) ∧ Aside0 (decide (0 ≤ k) = l0.any p)) ∧ Drawn0 w w' := by
  have hlen : l0.length ≤ 9223372036854775807 := hr0.2.1
  have HR0 := Aside0.mk hr0
  clear hr0
  have HP := Aside0.mk hp
  clear hp
  go_enter Try.func90, Try.ntmps90
  go_wp2
  go_loopg [5, 8] l0.length (fun gg _ s8 wr => ∃ kk : Nat, s8 = .int .i64 kk ∧ Aside0 (kk ≤ l0.length ∧ l0.length - kk ≤ gg ∧ (l0.take kk).any p = false) ∧ Drawn0 w wr)
  case atStart => exact ⟨0, rfl, ⟨Nat.zero_le _, by omega, rfl⟩, Drawn0.refl _⟩
  case round =>
    obtain ⟨kk, rfl, A, ⟨q, rfl⟩⟩ := hrel
    by_cases hlt : kk < l0.length
    · have hltz : (kk : Int) < (l0.length : Int) := by omega
      obtain ⟨ad, e, hx⟩ := Kd.at_int HR0.out (kk : Int) (by omega) hltz
      cases e
      rw [Int.toNat_natCast] at hx
      have hcall := HP.out (rd l0 kk)
      have hany := any_take_succ p l0 kk hlt
      have B := Aside0.mk hany
      clear hany
      cases hq : p (rd l0 kk) with
      | true =>
        rw [hq] at hcall
        go_wp2_with (go_at_fn g; refine (hcall _).mono ?_; rintro e w' ⟨rfl, q', rfl⟩)
        go_ret
        refine ⟨⟨_, rfl, ⟨?_⟩⟩, by repeat (first | exact Drawn0.refl _ | apply Drawn0.step)⟩
        have h1 : (l0.take (kk + 1)).any p = true := by rw [B.out, hq]; simp
        have h2 : l0.any p = true := by
          rw [← List.take_append_drop (kk + 1) l0, List.any_append, h1]; rfl
        rw [h2]; simp
      | false =>
        rw [hq] at hcall
        go_wp2_with (go_at_fn g; refine (hcall _).mono ?_; rintro e w' ⟨rfl, q', rfl⟩)
        go_roundg (l0.length - (kk + 1))
        case measure => have := A.out.2.1; omega
        case rel =>
          exact ⟨kk + 1, by go_num, ⟨by omega, by omega, by rw [B.out, A.out.2.2, hq]; rfl⟩, by repeat (first | exact Drawn0.refl _ | apply Drawn0.step)⟩
    · have hltz : ¬ (kk : Int) < (l0.length : Int) := by omega
      go_wp2
      go_ret
      refine ⟨⟨_, rfl, ⟨?_⟩⟩, by repeat (first | exact Drawn0.refl _ | apply Drawn0.step)⟩
      have h2 := A.out.2.2
      rw [List.take_of_length_le (by omega)] at h2
      rw [h2]; simp

set_option maxHeartbeats 2000000 in
theorem containsFunc (g : Nat) (lb : Array Value) (p : Int → Bool) (eg : ∀ args w, (callFunc g args).run Try.prog w = .ok (.enter g args) w) (A0 : Option Addr) (c0 : Nat) (l0 : List Int) (w : World) (hr0 : Kd.C (Kd.int .i64) w A0 l0.length l0) (hp : Answers g lb p w) :
    Calls Try.prog 81 #[.slice A0 l0.length c0, .func (.func g) #[] lb] w fun e w' => e = .returned (.bool (l0.any p)) ∧ Drawn0 w w' := by
  have HC := Aside0.mk (indexFunc g lb p eg A0 c0 l0 w hr0 hp)
  clear hr0 hp
  go_enter Try.func81, Try.ntmps81
  go_wp2_with (go_at_call 90; refine HC.out.mono ?_; rintro e w' ⟨⟨k, rfl, HK⟩, ⟨q, rfl⟩⟩)
  go_ret
  exact ⟨by show Ending.returned (.bool (decide (0 ≤ k))) = _; rw [HK.out], by repeat (first | exact Drawn0.refl _ | apply Drawn0.step)⟩

/-! ### arePieces -/
def within (x lo hi : Int) : Bool := if x ≥ lo then decide (x ≤ hi) else false

set_option maxHeartbeats 2000000 in
theorem within_calls (a0 a1 a2 : Int) (w : World) :
    Calls Try.prog 55 #[.int .i64 a0, .int .i64 a1, .int .i64 a2] w fun e w' => e = .returned (.bool (within a0 a1 a2)) ∧ ∃ m, w' = w.drewN m := by
  unfold within
  by_cases c : a0 ≥ a1
  · rw [if_pos c]
    have c4b0 : decide (a1 ≤ a0) = true := decide_eq_true c
    clear c
    go_enter Try.func55, Try.ntmps55
    go_wp2
    go_ret
    exact ⟨rfl, 0, rfl⟩
  · rw [if_neg c]
    have c4b0 : decide (a1 ≤ a0) = false := decide_eq_false c
    clear c
    go_enter Try.func55, Try.ntmps55
    go_wp2
    go_ret
    exact ⟨rfl, 0, rfl⟩

set_option maxHeartbeats 2000000 in
theorem outside (m : Int) (B : Nat) (w : World) (hc : w.cell? ⟨B, 0, none⟩ = some (.int .i64 m)) : Answers 82 #[.pointer (some ⟨B, 0, none⟩)] (fun x => !(within x 1 m)) w := by
  intro x n
  have hc' : (w.drewN n).cell? ⟨B, 0, none⟩ = some (.int .i64 m) := hc
  generalize w.drewN n = W at hc' ⊢
  clear hc
  go_enter Try.func82, Try.ntmps82
  go_wp2_with (go_at_call 55; refine (within_calls _ _ _ _).mono ?_; rintro e w' ⟨rfl, q, rfl⟩)
  go_ret
  exact ⟨rfl, q, rfl⟩

def pieF (m : Int) (l : List Int) : Bool := within m 1 100 && (decide ((l.length : Int) ≤ 12) && l.all fun x => within x 1 m)

set_option maxHeartbeats 2000000 in
theorem pie_calls (a0 : Int) (A1 : Option Addr) (c1 : Nat) (l1 : List Int) (w : World) (hr1 : Kd.C (Kd.int .i64) w A1 l1.length l1) :
    Calls Try.prog 54 #[.int .i64 a0, .slice A1 l1.length c1] w fun e w' => e = .returned (.bool (pieF a0 l1)) ∧ Below w.heap.size w w' := by
  have hw : Below w.heap.size w (w.alloc (.cells #[.int .i64 a0] 3)) := (Below.refl _ w).alloc (Nat.le_refl _) _
  have hall : (!(l1.any fun x => !(within x 1 a0))) = l1.all fun x => within x 1 a0 := by rw [List.all_eq_not_any_not]
  have hlen : l1.length ≤ 9223372036854775807 := hr1.2.1
  have HALL := Aside0.mk hall
  have HW := Aside0.mk hw
  have HC := Aside0.mk fun q => containsFunc 82 #[.pointer (some ⟨w.heap.size, 0, none⟩)] _ (enters_of Try.func82 (by kernel_rfl) rfl) A1 c1 l1 ((w.alloc (.cells #[.int .i64 a0] 3)).drewN q) (Kd.C_below hr1 (pw_below_drewN hw q)) (outside a0 w.heap.size _ (Boxed.new w 3 (.int .i64 a0)).cell)
  clear hall hw hr1
  unfold pieF
  by_cases h1 : within a0 1 100 = true
  · by_cases h2 : (l1.length : Int) ≤ 12
    · have d2 : decide ((l1.length : Int) ≤ 12) = true := decide_eq_true h2
      clear h2
      go_enter Try.func54, Try.ntmps54
      go_wp2_with (first | (go_at_call 55; refine (within_calls _ _ _ _).mono ?_; rintro e w' ⟨rfl, q, rfl⟩) | (go_at_call 81; refine (HC.out _).mono ?_; rintro e w' ⟨rfl, ⟨q2, rfl⟩⟩))
      go_ret
      exact ⟨by show Ending.returned (.bool (!_)) = _; rw [HALL.out, h1, d2]; rfl, by repeat (first | exact HW.out | apply below_drew1 | apply pw_below_drewN)⟩
    · have d2 : decide ((l1.length : Int) ≤ 12) = false := decide_eq_false h2
      clear h2
      go_enter Try.func54, Try.ntmps54
      go_wp2_with (go_at_call 55; refine (within_calls _ _ _ _).mono ?_; rintro e w' ⟨rfl, q, rfl⟩)
      go_ret
      exact ⟨by rw [h1, d2]; rfl, by repeat (first | exact HW.out | apply below_drew1 | apply pw_below_drewN)⟩
  · have h1 : within a0 1 100 = false := by simpa using h1
    go_enter Try.func54, Try.ntmps54
    go_wp2_with (go_at_call 55; refine (within_calls _ _ _ _).mono ?_; rintro e w' ⟨rfl, q, rfl⟩)
    go_ret
    exact ⟨by rw [h1]; rfl, by repeat (first | exact HW.out | apply below_drew1 | apply pw_below_drewN)⟩

/-! ### slices.Clone -/
theorem infoI : (Try.prog.info? 3).map (fun i => (i.zero, i.size, i.bytes)) = some (some (.int .i64 0), 1, 8) := by kernel_rfl

set_option maxHeartbeats 2000000 in
theorem clone_calls (A0 : Option Addr) (c0 : Nat) (l0 : List Int) (w : World) (hr0 : Kd.C (Kd.int .i64) w A0 l0.length l0) (hl : l0.length ≤ 17592186044416) :
    Calls Try.prog 71 #[.slice A0 l0.length c0] w fun e w' => ∃ v0_ : Value, e = .returned v0_ ∧ Kd.R (Kd.int .i64) 3 w' w.heap.size (fun _ => True) v0_ l0 ∧ Below w.heap.size w w' := by
  have q22 : ∀ (w : World) (a : Option Addr) (n c n' c' : Nat), (binOp .eql 22 (.slice a n c) (.slice none n' c')).run Try.prog w = .ok (.bool a.isNone) w := fun w a n c n' c' => Lib.run_eql_slice_nil w _ _ a n c n' c' Try.underlying22
  cases A0 with
  | none =>
    have e : l0 = [] := by
      cases l0 with
      | nil => rfl
      | cons x l =>
        obtain ⟨ad, e, _⟩ := hr0.2.2 (by simp)
        cases e
    subst e
    clear hr0
    go_enter Try.func71, Try.ntmps71
    go_wp2
    go_ret
    exact ⟨_, rfl, Kd.R_nil _ _ _ _ _, Below.refl _ _⟩
  | some ad =>
    have HR := Aside0.mk hr0
    clear hr0
    go_enter Try.func71, Try.ntmps71
    go_wp2_with (at_builtin; go_loud (refine Kd.R_append_row (w0 := w) (h1 := fun _ => rfl) (Value.int .i64) 0 w.heap.size rfl (.tmp 5) (.tmp 6) 22 3 (.int .i64 0) 8 rfl Try.underlying22 infoI rfl (by decide) _ [] l0 (some ad) l0.length c0 (fun _ => True) rfl rfl (fun _ _ => trivial) (Kd.R_of_own (World.ownsRow_made w #[] 0 (Nat.le_refl _) (Nat.zero_le _) (by simp)) (fun _ _ => trivial)) ?cR ?cB ?cS ?cL ?_))
    case cR => exact Kd.C_below HR.out ((Below.refl _ w).alloc (Nat.le_refl _) _)
    case cB => exact (Below.refl _ w).alloc (Nat.le_refl _) _
    case cS => simp
    case cL => simp; omega
    intro v1 w1 hR hB hg _
    have HR1 := Aside0.mk hR
    have HB1 := Aside0.mk hB
    clear hR hB
    go_wp2
    go_ret
    exact ⟨v1, rfl, HR1.out, HB1.out⟩

end Go.Proofs.Ytcjglbipkghhnaa.Hand
