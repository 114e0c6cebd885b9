-- Falling (47).
import Derived.Test.YtcjglbipkghhnaaHandZ
namespace Go.Proofs.Ytcjglbipkghhnaa.Hand
open Go.RowKit Go.Shelf Go.Proofs.Ytcjglbipkghhnaa.P Go.Proofs.YtcjglbipkghhnaaW.PrintWords Go.Proofs.YtcjglbipkghhnaaW.PrintLast Go.Proofs.YtcjglbipkghhnaaW.PrintMore
attribute [local go_sem] Oper.semAt_some
set_option linter.unusedVariables false
set_option linter.unusedSimpArgs false

theorem sink_ok (l : List Int) (Q : Int → Prop) : ∀ (j : Nat) (xs : List Int), (j = 0 ∨ j < xs.length) → (∀ x ∈ xs, Q x) → (sink l j xs).length = xs.length ∧ ∀ x ∈ sink l j xs, Q x
  | 0, xs, _, h => ⟨rfl, h⟩
  | j + 1, xs, hj, h => by
    have hj : j + 1 < xs.length := by omega
    rw [sink]
    split
    · have h1 := h _ (rd_memR (l := xs) (j := j) (by omega))
      have h2 := h _ (rd_memR (l := xs) (j := j + 1) hj)
      obtain ⟨i1, i2⟩ := sink_ok l Q j ((xs.set (j + 1) (rd xs (j : Int))).set j (rd xs ((j + 1 : Nat) : Int))) (by simp; omega) (fun x hx => by
        rcases set_mem hx with hx | hx
        · rcases set_mem hx with hx | hx
          · exact h x hx
          · rw [hx]; exact h1
        · rw [hx]; exact h2)
      exact ⟨by rw [i1]; simp, i2⟩
    · exact ⟨rfl, h⟩
theorem sortG_ok (l : List Int) (Q : Int → Prop) (xs : List Int) (h : ∀ x ∈ xs, Q x) : ∀ m, m < xs.length → (sortG l xs m).length = xs.length ∧ ∀ x ∈ sortG l xs m, Q x
  | 0, _ => ⟨rfl, h⟩
  | m + 1, hm => by
    obtain ⟨i1, i2⟩ := sortG_ok l Q xs h m (by omega)
    rw [sortG_succ]
    obtain ⟨k1, k2⟩ := sink_ok l Q (m + 1) (sortG l xs m) (by omega) i2
    exact ⟨by rw [k1, i1], k2⟩
theorem fitF_length (room : Int) (l : List Int) (p : Int → Int → Bool) (o : List Int) : (fitF room l p o).length = l.length := by
  have key : ∀ (o : List Int) (st : List Int × List Int × Nat), (o.foldl (fitStep room l p) st).1.length = st.1.length := by
    intro o
    induction o with
    | nil => intro st; rfl
    | cons i o ih =>
      intro st
      rw [List.foldl_cons, ih]
      unfold fitStep
      dsimp only
      split <;> simp
  unfold fitF
  rw [key]
  simp
def fallF (room : Int) (l : List Int) : List Int × Int := if pieF room l = true then (renamedF (fitF room l (fun _ _ => false) (sortG l (places l.length) (l.length - 1))), 0) else ([], 2)

set_option maxHeartbeats 8000000 in
set_option maxRecDepth 100000 in
theorem ins92_nil (A : Option Addr) (c P : Nat) (w : World) : Calls Try.prog 93 #[.slice A 0 c, .int .i64 0, .int .i64 0, .func (.func 77) #[] #[.pointer (some ⟨P, 0, none⟩)]] w fun e w' => e = .returned (.tuple #[]) ∧ w' = w := by
  refine (callsIn_wide (n := 5)).1 ?_
  refine callsIn_of_wp Try.func93 rfl trivial ?_ rfl
  simp only [Try.ntmps93, List.size_toArray, List.length_cons, List.length_nil, Nat.reduceAdd, Nat.reduceSub, Array.replicate_succ, Array.replicate_zero, List.push_toArray, List.append_toArray, List.nil_append, List.cons_append]
  gi_wp2
  gi_loopw [8] (fun u wr => u = .int .i64 1 ∧ Aside0 (wr = w)) (fun _ _ => 0)
  case atStart => exact ⟨rfl, ⟨rfl⟩⟩
  case round =>
    obtain ⟨rfl, HW⟩ := hrel
    obtain rfl := HW.out
    gi_wp2
    exact bodyPost_end (results_none rfl _ _ _) rfl ⟨rfl, rfl⟩
set_option maxHeartbeats 8000000 in
set_option maxRecDepth 100000 in
theorem stab87_nil (A : Option Addr) (c P : Nat) (w : World) : Calls Try.prog 88 #[.slice A 0 c, .int .i64 0, .func (.func 77) #[] #[.pointer (some ⟨P, 0, none⟩)]] w fun e w' => e = .returned (.tuple #[]) ∧ w' = w := by
  refine (callsIn_wide (n := 5)).1 ?_
  refine callsIn_of_wp Try.func88 rfl trivial ?_ rfl
  simp only [Try.ntmps88, List.size_toArray, List.length_cons, List.length_nil, Nat.reduceAdd, Nat.reduceSub, Array.replicate_succ, Array.replicate_zero, List.push_toArray, List.append_toArray, List.nil_append, List.cons_append]
  gi_wp2
  gi_loopw [7, 8] (fun u v wr => u = .int .i64 0 ∧ v = .int .i64 20 ∧ Aside0 (wr = w)) (fun _ _ _ => 0)
  case atStart => exact ⟨rfl, rfl, ⟨rfl⟩⟩
  case round =>
    obtain ⟨rfl, rfl, HW⟩ := hrel
    obtain rfl := HW.out
    gi_wp2
    refine ⟨trivial, ((callsIn_wide (n := 5 - 1)).2 (ins92_nil A c P wr)).mono ?_⟩
    rintro e w5 ⟨rfl, rfl⟩
    gi_wp2
    gi_loopw [6] (fun u wr => u = .int .i64 20 ∧ Aside0 (wr = w5)) (fun _ _ => 0)
    case atStart => exact ⟨rfl, ⟨rfl⟩⟩
    case round =>
      obtain ⟨rfl, HW5⟩ := hrel
      obtain rfl := HW5.out
      gi_wp2
      exact bodyPost_end (results_none rfl _ _ _) rfl ⟨rfl, rfl⟩
set_option maxHeartbeats 8000000 in
set_option maxRecDepth 100000 in
theorem sort75_nil (A : Option Addr) (c P : Nat) (w : World) : Calls Try.prog 76 #[.slice A 0 c, .func (.func 77) #[] #[.pointer (some ⟨P, 0, none⟩)]] w fun e w' => e = .returned (.tuple #[]) ∧ w' = w := by
  refine (callsIn_wide (n := 5)).1 ?_
  refine callsIn_of_wp Try.func76 rfl trivial ?_ rfl
  simp only [Try.ntmps76, List.size_toArray, List.length_cons, List.length_nil, Nat.reduceAdd, Nat.reduceSub, Array.replicate_succ, Array.replicate_zero, List.push_toArray, List.append_toArray, List.nil_append, List.cons_append]
  gi_wp2
  refine ⟨trivial, ((callsIn_wide (n := 5 - 1)).2 (stab87_nil A c P w)).mono ?_⟩
  rintro e w5 ⟨rfl, rfl⟩
  gi_wp2
  exact bodyPost_end (results_none rfl _ _ _) rfl ⟨rfl, rfl⟩

set_option maxHeartbeats 8000000 in
set_option maxRecDepth 100000 in
theorem fall_calls (a0 : Int) (A0 : Option Addr) (c0 : Nat) (l0 : List Int) (w : World) (hr0 : Kd.C (Kd.int .i64) w A0 l0.length l0) (hc0 : l0.length ≤ c0) :
    Calls Try.prog 48 #[.int .i64 a0, .slice A0 l0.length c0] w fun e w' => ∃ v0_ : Value, e = .returned (.tuple #[v0_, .int .i64 (fallF a0 l0).2]) ∧ Kd.R (Kd.int .i64) 3 w' w.heap.size (fun _ => True) v0_ (fallF a0 l0).1 ∧ Below w.heap.size w w' := by
  have hmix : Try.prog.follows .mixedOrders = true := by kernel_rfl
  have HR := Aside0.mk hr0
  clear hr0
  have bP0 := Boxed.new w 22 (.slice A0 l0.length c0)
  have hB0 : Below w.heap.size w (w.alloc (.cells #[.slice A0 l0.length c0] 22)) := (Below.refl _ w).alloc (Nat.le_refl _) _
  have hcP := bP0.cell
  have HP0 := Aside0.mk bP0
  have HB0 := Aside0.mk hB0
  clear bP0 hB0
  refine (callsIn_wide (n := 5)).1 ?_
  refine callsIn_of_wp Try.func48 rfl trivial ?_ rfl
  simp only [Try.ntmps48, List.size_toArray, List.length_cons, List.length_nil, Nat.reduceAdd, Nat.reduceSub, Array.replicate_succ, Array.replicate_zero, List.push_toArray, List.append_toArray, List.nil_append, List.cons_append]
  gi_wp2
  refine ⟨trivial, ((callsIn_wide (n := 5 - 1)).2 (pie_calls a0 A0 c0 l0 _ (Kd.C_below HR.out HB0.out))).mono ?_⟩
  rintro e w1 ⟨rfl, hb1⟩
  have bP1 := belowB hb1 HP0.out
  have HB1 := Aside0.mk (below_step HB0.out hb1)
  clear hcP hb1
  have hcP := bP1.cell
  cases hp : pieF a0 l0 with
  | false =>
    have e1 : fallF a0 l0 = ([], 2) := by unfold fallF; rw [hp]; rfl
    gi_wp2
    rw [e1]
    refine bodyPost_ret (results_tmp2 rfl _ _ _) rfl ?_
    exact ⟨_, rfl, Kd.R_nil _ _ _ _ _, HB1.out⟩
  | true =>
    have hroom : (1 ≤ a0 ∧ a0 ≤ 100) ∧ l0.length ≤ 12 ∧ ∀ x ∈ l0, 1 ≤ x ∧ x ≤ a0 := by
      have h := hp
      unfold pieF at h
      simp only [Bool.and_eq_true, decide_eq_true_eq, List.all_eq_true] at h
      obtain ⟨h1, h2, h3⟩ := h
      have hw : ∀ x lo hi : Int, within x lo hi = true → lo ≤ x ∧ x ≤ hi := by
        intro x lo hi hx
        unfold within at hx
        split at hx
        · simp only [decide_eq_true_eq] at hx; omega
        · cases hx
      exact ⟨hw _ _ _ h1, by omega, fun x hx => hw _ _ _ (h3 x hx)⟩
    obtain ⟨hr1, hlen, hall⟩ := hroom
    gi_wp2
    refine ⟨trivial, ((callsIn_wide (n := 5 - 1)).2 (ord_calls A0 c0 l0 _ (Kd.C_below HR.out HB1.out) hc0 (by omega))).mono ?_⟩
    rintro e w2 ⟨v, rfl, hv, hb2⟩
    have bP2 := belowB hb2 bP1
    have HB2 := Aside0.mk (below_step HB1.out hb2)
    have hs1 : w.heap.size < w1.heap.size := bP1.lt
    have hin : ∀ x ∈ places l0.length, 0 ≤ x ∧ x < (l0.length : Int) := places_in
    obtain ⟨A, c, rfl⟩ := Kd.R_slice hv
    rw [places_length]
    have HC : Aside0 (Calls Try.prog 76 #[.slice A l0.length c, .func (.func 77) #[] #[.pointer (some ⟨w.heap.size, 0, none⟩)]] w2 fun e w' => e = .returned (.tuple #[]) ∧ Aside0 (Kd.R (Kd.int .i64) 3 w' w.heap.size (fun _ => True) (.slice A l0.length c) (sortG l0 (places l0.length) (l0.length - 1)) ∧ Below w.heap.size w w' ∧ Boxed w' w.heap.size 22 (.slice A0 l0.length c0))) := ⟨by
      by_cases hn : l0.length = 0
      · have h := sort75_nil A c w.heap.size w2
        rw [places_length] at hv
        have hv2 := Kd.R_lower hv (base' := w.heap.size) (by omega)
        rw [hn] at hv2 ⊢
        exact h.mono fun e w' he => ⟨he.1, ⟨by rw [he.2]; exact hv2, by rw [he.2]; exact HB2.out, by rw [he.2, ← hn]; exact bP2⟩⟩
      · obtain ⟨g, c', e, hg1, hg2, _⟩ := Kd.R_form hv (by rw [places_length]; omega)
        rw [places_length] at e hv
        injection e with e1 e2 e3
        subst e1 e3
        exact (sort75 l0 A0 c0 w.heap.size w HR.out g l0.length c (by omega) hlen (places l0.length) (places_length _) hin w2 HB2.out bP2 (by omega) (by omega) (Kd.R_lower hv (by omega))).mono fun e w' he => ⟨he.1, ⟨he.2⟩⟩⟩
    have hsl : (sortG l0 (places l0.length) (l0.length - 1)).length = l0.length ∧ ∀ x ∈ sortG l0 (places l0.length) (l0.length - 1), 0 ≤ x ∧ x < (l0.length : Int) := by
      by_cases hn : l0.length = 0
      · rw [hn]; exact ⟨rfl, fun x hx => by cases hx⟩
      · obtain ⟨s1, s2⟩ := sortG_ok l0 (fun x => 0 ≤ x ∧ x < (l0.length : Int)) (places l0.length) hin (l0.length - 1) (by rw [places_length]; omega)
        exact ⟨by rw [s1, places_length], s2⟩
    clear hcP hv hb2
    have hcP := bP2.cell
    gi_wp2
    refine ⟨trivial, ((callsIn_wide (n := 5 - 1)).2 HC.out).mono ?_⟩
    rintro e w3 ⟨rfl, H3⟩
    obtain ⟨h31, h32, h33⟩ := H3.out
    generalize hso : sortG l0 (places l0.length) (l0.length - 1) = so at hsl h31
    obtain ⟨sl1, sl2⟩ := hsl
    clear hcP
    have hcP := h33.cell
    have HB3 := Aside0.mk h32
    have HF := Aside0.mk (fit73_calls a0 A0 c0 l0 A c so w3 (Kd.C_below HR.out h32) (Kd.R_reads' h31).2.2 (by omega) hr1.2 hlen (by rw [sl1]; exact hlen) hall sl2)
    rw [sl1] at HF
    have e1 : fallF a0 l0 = (renamedF (fitF a0 l0 (fun _ _ => false) so), 0) := by unfold fallF; rw [if_pos hp, hso]
    have hfl : (fitF a0 l0 (fun _ _ => false) so).length = l0.length := fitF_length _ _ _ _
    clear hso h31 h32 h33 sl2
    gi_wp2
    refine ⟨trivial, ((callsIn_wide (n := 5 - 1)).2 HF.out).mono ?_⟩
    rintro e w4 ⟨v4, rfl, hv4, hb4⟩
    obtain ⟨A4, c4, rfl⟩ := Kd.R_slice hv4
    have HB4 := Aside0.mk (below_step HB3.out hb4)
    have HV4 := Aside0.mk hv4
    have HN := Aside0.mk (renamed_calls A4 c4 (fitF a0 l0 (fun _ _ => false) so) w4 (Kd.R_reads' hv4).2.2 (by rw [hfl]; omega))
    rw [hfl] at HN
    clear hv4 hb4
    gi_wp2
    refine ⟨trivial, ((callsIn_wide (n := 5 - 1)).2 HN.out).mono ?_⟩
    rintro e w5 ⟨v5, rfl, hv5, hb5⟩
    have HB5 := Aside0.mk (below_step HB4.out hb5)
    have HV5 := Aside0.mk hv5
    clear hv5 hb5
    gi_wp2
    rw [e1]
    refine bodyPost_ret (results_tmp2 rfl _ _ _) rfl ?_
    exact ⟨_, rfl, Kd.R_lower HV5.out HB4.out.size, HB5.out⟩

end Go.Proofs.Ytcjglbipkghhnaa.Hand
