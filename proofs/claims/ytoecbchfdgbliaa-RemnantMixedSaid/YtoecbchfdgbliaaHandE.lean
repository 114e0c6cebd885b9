-- Ways (42).
import Derived.Test.YtoecbchfdgbliaaHandJ
import Derived.Test.YtoecbchfdgbliaaHandX
namespace Go.Proofs.Ytoecbchfdgbliaa.Hand
open Go.RowKit Go.Shelf Go.Proofs.Ytoecbchfdgbliaa.P Go.Proofs.YtoecbchfdgbliaaW.PrintWords Go.Proofs.YtoecbchfdgbliaaW.PrintLast Go.Proofs.YtoecbchfdgbliaaW.PrintMore
attribute [local go_sem] Oper.semAt_some
set_option linter.unusedVariables false
set_option linter.unusedSimpArgs false

/-- The number of right packings of a set; the first number bounds the sets. -/
def wy (fit : Nat → Bool) : Nat → Nat → Int
  | 0, s => if s = 0 then 1 else 0
  | N + 1, s => if s = 0 then 1 else wloop fit (wy fit N) (lowN s) (restN s) (restN s + 1) (restN s) 0
def wayN (fit : Nat → Bool) (s : Nat) : Int := wy fit s s
theorem wloop_congr (fit : Nat → Bool) (Wy Wy' : Nat → Int) (low rest : Nat) (h : ∀ x, x ≤ rest → Wy x = Wy' x) : ∀ (k t : Nat) (acc : Int), wloop fit Wy low rest k t acc = wloop fit Wy' low rest k t acc
  | 0, _, _ => rfl
  | k + 1, t, acc => by
    rw [wloop, wloop, h (rest - t) (Nat.sub_le _ _)]
    by_cases e : t = 0
    · rw [if_pos e, if_pos e]
    · rw [if_neg e, if_neg e]; exact wloop_congr fit Wy Wy' low rest h k _ _
theorem rest_lt {s : Nat} (h : 0 < s) : restN s < s := by
  have : s &&& (s - 1) ≤ s - 1 := Nat.and_le_right
  unfold restN; omega
theorem wy_fuel (fit : Nat → Bool) : ∀ (N N' s : Nat), s ≤ N → s ≤ N' → wy fit N s = wy fit N' s
  | 0, N', s, h, _ => by
    obtain rfl : s = 0 := by omega
    cases N' with
    | zero => rfl
    | succ N' => rw [wy, wy, if_pos rfl, if_pos rfl]
  | N + 1, 0, s, _, h => by
    obtain rfl : s = 0 := by omega
    rw [wy, wy, if_pos rfl, if_pos rfl]
  | N + 1, N' + 1, s, h, h' => by
    rw [wy, wy]
    by_cases e : s = 0
    · rw [if_pos e, if_pos e]
    · rw [if_neg e, if_neg e]
      have hr := rest_lt (s := s) (by omega)
      exact wloop_congr fit _ _ _ _ (fun x hx => wy_fuel fit N N' x (by omega) (by omega)) _ _ _
theorem wayN_zero (fit : Nat → Bool) : wayN fit 0 = 1 := rfl
theorem wayN_rec (fit : Nat → Bool) {s : Nat} (h : 0 < s) : wayN fit s = wloop fit (wayN fit) (lowN s) (restN s) (restN s + 1) (restN s) 0 := by
  obtain ⟨m, rfl⟩ : ∃ m, s = m + 1 := ⟨s - 1, by omega⟩
  have hr := rest_lt (s := m + 1) (by omega)
  unfold wayN
  rw [wy, if_neg (by omega)]
  exact wloop_congr fit _ _ _ _ (fun x hx => wy_fuel fit _ _ x (by omega) (by omega)) _ _ _

/-- The sum of the sizes of a set's pieces among the first ones. -/
def szN (l : List Int) (s : Nat) : Nat → Int
  | 0 => 0
  | m + 1 => szN l s m + (if (s / 2 ^ m) % 2 = 1 then rd l (m : Int) else 0)
def fitN (room : Int) (l : List Int) (s : Nat) : Bool := decide (szN l s l.length ≤ room)
def waysF (room : Int) (l : List Int) : Int × Int := if pieF room l = true then (wayN (fitN room l) (2 ^ l.length - 1), 0) else (0, 2)

theorem szN_bound {l : List Int} (h : ∀ x ∈ l, 1 ≤ x ∧ x ≤ 100) (s : Nat) : ∀ m, m ≤ l.length → 0 ≤ szN l s m ∧ szN l s m ≤ 100 * m
  | 0, _ => by rw [szN]; omega
  | m + 1, hm => by
    have h1 := szN_bound h s m (by omega)
    have h2 := h _ (rd_memR (l := l) (j := m) (by omega))
    rw [szN]
    split <;> omega
set_option maxRecDepth 100000 in
theorem and1_all : ∀ a : Fin 64, ∀ b : Fin 64, bits .and .i64 (((64 * a.val + b.val : Nat)) : Int) 1 = (((64 * a.val + b.val) % 2 : Nat) : Int) := by decide +kernel
theorem and1 {s i : Nat} (hs : s < 4096) : bits .and .i64 ((s : Int) / 2 ^ i) 1 = (((s / 2 ^ i) % 2 : Nat) : Int) := by
  have hx : s / 2 ^ i < 4096 := Nat.lt_of_le_of_lt (Nat.div_le_self _ _) hs
  have e : (s : Int) / 2 ^ i = ((s / 2 ^ i : Nat) : Int) := by push_cast; rfl
  rw [e]
  generalize s / 2 ^ i = x at hx
  have e : x = 64 * (x / 64) + x % 64 := by omega
  have := and1_all ⟨x / 64, by omega⟩ ⟨x % 64, by omega⟩
  simp only [← e] at this
  exact this
theorem rd_setE (x : List Int) (i j : Nat) (v : Int) (hi : i < x.length) : rd (x.set i v) (j : Int) = if j = i then v else rd x (j : Int) := by
  unfold rd
  rw [Int.toNat_natCast, List.getD_eq_getElem?_getD, List.getD_eq_getElem?_getD, List.getElem?_set]
  by_cases h : i = j
  · subst h; simp [hi]
  · rw [if_neg h, if_neg (Ne.symm h)]

set_option maxHeartbeats 4000000 in
set_option maxRecDepth 100000 in
theorem ways42_calls (a0 : Int) (A0 : Option Addr) (c0 : Nat) (l0 : List Int) (w : World) (hr0 : Kd.C (Kd.int .i64) w A0 l0.length l0) (hc0 : l0.length ≤ c0) :
    Calls Try.prog 42 #[.int .i64 a0, .slice A0 l0.length c0] w fun e w' => e = .returned (.tuple #[.int .i64 (waysF a0 l0).1, .int .i64 (waysF a0 l0).2]) ∧ Below w.heap.size w w' := by
  have hmix : Try.prog.follows .mixedOrders = true := by kernel_rfl
  have HR := Aside0.mk hr0
  clear hr0
  refine (callsIn_wide (n := 5)).1 ?_
  refine callsIn_of_wp Try.func42 rfl trivial ?_ rfl
  simp only [Try.ntmps42, List.size_toArray, List.length_cons, List.length_nil, Nat.reduceAdd, Nat.reduceSub, Array.replicate_succ, Array.replicate_zero, List.push_toArray, List.append_toArray, List.nil_append, List.cons_append]
  gi_wp2
  refine ⟨trivial, ((callsIn_wide (n := 5 - 1)).2 (pie_calls a0 A0 c0 l0 _ (Kd.C_below HR.out (by repeat (first | exact Below.refl _ _ | apply below_alloc))))).mono ?_⟩
  rintro e w1 ⟨rfl, hb1⟩
  have bR1 : Boxed w1 w.heap.size 3 (.int .i64 a0) := belowB hb1 (Boxed.new w 3 (.int .i64 a0))
  have HB1 := Aside0.mk (below_step (show Below w.heap.size w (w.alloc (.cells #[.int .i64 a0] 3)) from (by repeat (first | exact Below.refl _ _ | apply below_alloc))) hb1)
  clear hb1
  cases hp : pieF a0 l0 with
  | false =>
    have e1 : waysF a0 l0 = (0, 2) := by unfold waysF; rw [hp]; rfl
    gi_wp2
    rw [e1]
    refine bodyPost_ret (results_tmp2 rfl _ _ _) rfl ?_
    exact ⟨rfl, HB1.out⟩
  | true =>
    have hlen : l0.length ≤ 12 := by
      unfold pieF at hp
      simp only [Bool.and_eq_true, decide_eq_true_eq] at hp
      omega
    have hall : ∀ x ∈ l0, 1 ≤ x ∧ x ≤ 100 := by
      intro x hx
      unfold pieF at hp
      simp only [Bool.and_eq_true, decide_eq_true_eq, List.all_eq_true] at hp
      have h1 := hp.2.2 x hx
      have h2 := hp.1
      unfold within at h1 h2
      split at h2
      · split at h1
        · simp only [decide_eq_true_eq] at h1 h2; omega
        · cases h1
      · cases h2
    have hpw : 2 ^ l0.length ≤ 4096 := Nat.le_trans (Nat.pow_le_pow_right (by decide) hlen) (by decide)
    have hpos : 0 < 2 ^ l0.length := Nat.pow_pos (by decide)
    have hsh : wrap64 ((2 : Int) ^ l0.length) = ((2 ^ l0.length : Nat) : Int) := by
      rw [show (2 : Int) ^ l0.length = ((2 ^ l0.length : Nat) : Int) by push_cast; rfl]
      unfold wrap64; omega
    have HPW := Aside0.mk (rfl : 2 ^ l0.length = 2 ^ l0.length)
    generalize hm : 2 ^ l0.length = m at hsh hpw hpos
    have HM := Aside0.mk hm
    clear hm HPW
    have hmk := fun W => make_run m (by omega) W
    gi_wp2
    have hrow0 : ((w1.alloc (.cells (enc (List.replicate m 0)) 3)).alloc (.cells #[.slice (some ⟨w1.heap.size, 0, none⟩) m m] 22)).heap[w1.heap.size]? = some (.cells (enc (List.replicate m 0)) 3 (0, 0)) :=
      (Below.heap_alloc _ _ _ (by simp)).trans (heap_alloc_new w1 _)
    have hS0 := Boxed.new (w1.alloc (.cells (enc (List.replicate m 0)) 3)) 22 (.slice (some ⟨w1.heap.size, 0, none⟩) m m)
    rw [World.size_alloc] at hS0
    have hB0 : Below w.heap.size w ((w1.alloc (.cells (enc (List.replicate m 0)) 3)).alloc (.cells #[.slice (some ⟨w1.heap.size, 0, none⟩) m m] 22)) := (HB1.out.alloc HB1.out.size _).alloc (by have := HB1.out.size; simp; omega) _
    have hlt1 : w.heap.size < w1.heap.size := bR1.lt
    have HROW0 := Aside0.mk hrow0
    have HS0 := Aside0.mk hS0
    have HB0 := Aside0.mk hB0
    have HR0 := Aside0.mk ((bR1.alloc (.cells (enc (List.replicate m 0)) 3)).alloc (.cells #[.slice (some ⟨w1.heap.size, 0, none⟩) m m] 22))
    clear hrow0 hS0 hB0 hmk
    gi_loopw [22] (fun u wr => ∃ (s : Nat) (X : List Int), u = .int .i64 (s : Int) ∧ Aside0 (s ≤ m ∧ X.length = m ∧ (∀ j : Nat, j < s → rd X (j : Int) = szN l0 j l0.length) ∧ ∀ j : Nat, s ≤ j → rd X (j : Int) = 0) ∧ Aside0 (wr.heap[w1.heap.size]? = some (.cells (enc X) 3 (0, 0))) ∧
        Aside0 (Boxed wr (w1.heap.size + 1) 22 (.slice (some ⟨w1.heap.size, 0, none⟩) m m)) ∧ Aside0 (Boxed wr w.heap.size 3 (.int .i64 a0)) ∧ Aside0 (Below w.heap.size w wr))
      (fun u _ => m - (intOf u).toNat)
    case atStart => exact ⟨0, List.replicate m 0, rfl, ⟨Nat.zero_le _, by simp, fun j h => by omega, fun j _ => by unfold rd; rw [Int.toNat_natCast, List.getD_eq_getElem?_getD, List.getElem?_replicate]; split <;> rfl⟩, HROW0, HS0, HR0, HB0⟩
    case round =>
      obtain ⟨s, X, rfl, HX, HROW, HS, HR3, HB⟩ := hrel
      by_cases hlt : s < m
      · have hltz : decide ((s : Int) < (m : Int)) = true := decide_eq_true (by omega)
        gi_wp2
        gi_loopw [27] (fun u wr => ∃ (i : Nat) (Y : List Int), u = .int .i64 (i : Int) ∧ Aside0 (i ≤ l0.length ∧ Y.length = m ∧ (∀ j : Nat, j < s → rd Y (j : Int) = szN l0 j l0.length) ∧ rd Y (s : Int) = szN l0 s i ∧ ∀ j : Nat, s < j → rd Y (j : Int) = 0) ∧ Aside0 (wr.heap[w1.heap.size]? = some (.cells (enc Y) 3 (0, 0))) ∧
            Aside0 (Boxed wr (w1.heap.size + 1) 22 (.slice (some ⟨w1.heap.size, 0, none⟩) m m)) ∧ Aside0 (Boxed wr w.heap.size 3 (.int .i64 a0)) ∧ Aside0 (Below w.heap.size w wr))
          (fun u _ => l0.length - (intOf u).toNat)
        case atStart => exact ⟨0, X, rfl, ⟨Nat.zero_le _, HX.out.2.1, HX.out.2.2.1, HX.out.2.2.2 s (Nat.le_refl _), fun j hj => HX.out.2.2.2 j (by omega)⟩, HROW, HS, HR3, HB⟩
        case round =>
          obtain ⟨i, Y, rfl, HY, HROWY, HSY, HRY, HBY⟩ := hrel
          by_cases hil : i < l0.length
          · have hilz : decide ((i : Int) < (l0.length : Int)) = true := decide_eq_true (by omega)
            obtain ⟨ad, e, g0⟩ := Kd.at_int (Kd.C_below HR.out HBY.out) (i : Int) (by omega) (by omega)
            cases e
            rw [Int.toNat_natCast] at g0
            have hcS := HSY.out.cell
            have hxc := cell_of_encL HROWY.out (i := s) (by rw [HY.out.2.1]; exact hlt)
            have hfx := frozen_of_row wr w1.heap.size s _ 3 HROWY.out
            have hb1 := and1 (s := s) (i := i) (by omega)
            have hq := hall _ (rd_memR (l := l0) (j := i) hil)
            have hyb := szN_bound hall s i (by omega)
            rw [← HY.out.2.2.2.1] at hyb
            have hyv : rd Y (s : Int) = Y.getD s 0 := rfl
            rw [hyv] at hyb
            have HYV := Aside0.mk hyv
            clear hyv
            have HQ : Aside0 (∃ q, rd l0 (i : Int) = q) := ⟨_, rfl⟩
            generalize hqv : rd l0 (i : Int) = q at g0 hq
            generalize hyw : Y.getD s 0 = y at hxc hyb HYV
            have HQV := Aside0.mk hqv
            clear hqv hyw
            have hw : wrap64 (y + q) = y + q := by unfold wrap64; omega
            have hw2 : IntKind.i64.wrap (y + q) = y + q := (i64_w _).trans hw
            by_cases hbit : (s / 2 ^ i) % 2 = 1
            · rw [hbit] at hb1
              have hb1 : bits .and .i64 ((s : Int) / 2 ^ i) 1 = 1 := hb1
              have HBIT := Aside0.mk hbit
              clear hbit
              gi_wp2
              refine ⟨⟨i + 1, Y.set s (y + q), by push_cast; rfl, ⟨by omega, by simp [HY.out.2.1], fun j hj => ?_, ?_, fun j hj => ?_⟩, ⟨?_⟩, ⟨?_⟩, ⟨?_⟩, ⟨HBY.out.setCell (p := ⟨w1.heap.size, s, none⟩) (Nat.le_of_lt hlt1) _⟩⟩, by simp [intOf]; omega⟩
              · rw [rd_setE _ _ _ _ (by rw [HY.out.2.1]; exact hlt), if_neg (by omega)]; exact HY.out.2.2.1 j hj
              · rw [rd_setE _ _ _ _ (by rw [HY.out.2.1]; exact hlt), if_pos rfl, szN, if_pos HBIT.out, ← HY.out.2.2.2.1, HYV.out, HQV.out]
              · rw [rd_setE _ _ _ _ (by rw [HY.out.2.1]; exact hlt), if_neg (by omega)]; exact HY.out.2.2.2.2 j hj
              · refine (heap_setCell_same _ w1.heap.size s (enc Y) 3 _ HROWY.out).trans ?_
                rw [enc_set]
              · exact (Below.heap_setCell _ ⟨w1.heap.size, s, none⟩ _ _ (show w1.heap.size + 1 ≠ w1.heap.size by omega)).trans HSY.out
              · exact (Below.heap_setCell _ ⟨w1.heap.size, s, none⟩ _ _ (show w.heap.size ≠ w1.heap.size by omega)).trans HRY.out
            · replace hb1 : bits .and .i64 ((s : Int) / 2 ^ i) 1 = 0 := by rw [hb1]; omega
              have HBIT := Aside0.mk hbit
              clear hbit
              gi_wp2
              refine ⟨⟨i + 1, Y, by push_cast; rfl, ⟨by omega, HY.out.2.1, HY.out.2.2.1, ?_, HY.out.2.2.2.2⟩, HROWY, HSY, HRY, HBY⟩, by simp [intOf]; omega⟩
              rw [szN, if_neg HBIT.out, Int.add_zero]
              exact HY.out.2.2.2.1
          · have hilz : decide ((i : Int) < (l0.length : Int)) = false := decide_eq_false (by omega)
            gi_wp2
            have e : i = l0.length := by have := HY.out.1; omega
            refine ⟨⟨s + 1, Y, by push_cast; rfl, ⟨by omega, HY.out.2.1, fun j hj => ?_, fun j hj => HY.out.2.2.2.2 j (by omega)⟩, HROWY, HSY, HRY, HBY⟩, by simp [intOf]; omega⟩
            by_cases ej : j = s
            · rw [ej, HY.out.2.2.2.1, e]
            · exact HY.out.2.2.1 j (by omega)
      · have hltz : decide ((s : Int) < (m : Int)) = false := decide_eq_false (by omega)
        have hmm := @run_makeMap Try.prog
        have hb0 : (wr.alloc (Obj.map #[] 0)).heap[wr.heap.size]? = some (mp .u64 .i64 []) := heap_alloc_new wr _
        have hup := update_run (P := Try.prog) (T := 78) Try.underlying78 Try.underlying77 hb0 0 1 rfl
        have hb1 := put_same hb0 (mp .u64 .i64 ([] ++ [((0 : Int), (1 : Int))]))
        have hgl : wr.grownBy ((wr.alloc (Obj.map #[] 0)).putObj wr.heap.size (mp .u64 .i64 ([] ++ [((0 : Int), (1 : Int))]))) none := grown_of (put_below ((Below.refl _ wr).alloc (Nat.le_refl _) _) (Nat.le_refl _) _)
        have HSZ : Aside0 (((wr.alloc (Obj.map #[] 0)).putObj wr.heap.size (mp .u64 .i64 ([] ++ [((0 : Int), (1 : Int))]))).heap.size = wr.heap.size + 1) := ⟨by simp [World.putObj]⟩
        have HB1' := Aside0.mk hb1
        have HGL := Aside0.mk hgl
        clear hb0 hb1 hgl
        rw [List.nil_append] at hup HB1' HGL HSZ
        generalize hW1 : (wr.alloc (Obj.map #[] 0)).putObj wr.heap.size (mp .u64 .i64 [((0 : Int), (1 : Int))]) = W1 at hup HB1' HGL HSZ
        clear hW1
        have bN := Boxed.new (W1.alloc (.cells #[.map (some wr.heap.size)] 78)) 79 .nilFunc
        have bE := Boxed.new (W1.alloc (.cells #[.map (some wr.heap.size)] 78)) 79 (.func (.func 71) #[] #[.pointer (some ⟨W1.heap.size, 0, none⟩), .pointer (some ⟨w1.heap.size + 1, 0, none⟩), .pointer (some ⟨w.heap.size, 0, none⟩), .pointer (some ⟨W1.heap.size + 1, 0, none⟩)])
        rw [World.size_alloc] at bN bE
        have hcx := bN.cell
        have hfx := bN.frozen
        have hcx2 := bE.cell
        have BE := Aside0.mk bE
        have hsf := fun (a : Addr) (c : Array Value) (w : World) => run_store Try.prog w a (.func (.func 71) #[] c) .plain rfl
        clear bN bE
        gi_wp2
        have hl1 : w1.heap.size < wr.heap.size := (Array.getElem?_eq_some_iff.1 HROW.out).1
        have hz := HSZ.out
        have b3 : ∀ {b t v}, Boxed wr b t v → Boxed ((W1.alloc (.cells #[.map (some wr.heap.size)] 78)).alloc (.cells #[.func (.func 71) #[] #[.pointer (some ⟨W1.heap.size, 0, none⟩), .pointer (some ⟨w1.heap.size + 1, 0, none⟩), .pointer (some ⟨w.heap.size, 0, none⟩), .pointer (some ⟨W1.heap.size + 1, 0, none⟩)]] 79)) b t v :=
          fun h => ((h.kept HGL.out (by simp)).alloc _).alloc _
        have bK3 : Boxed ((W1.alloc (.cells #[.map (some wr.heap.size)] 78)).alloc (.cells #[.func (.func 71) #[] #[.pointer (some ⟨W1.heap.size, 0, none⟩), .pointer (some ⟨w1.heap.size + 1, 0, none⟩), .pointer (some ⟨w.heap.size, 0, none⟩), .pointer (some ⟨W1.heap.size + 1, 0, none⟩)]] 79)) W1.heap.size 78 (.map (some wr.heap.size)) := (Boxed.new W1 78 _).alloc _
        have hm3 : ((W1.alloc (.cells #[.map (some wr.heap.size)] 78)).alloc (.cells #[.func (.func 71) #[] #[.pointer (some ⟨W1.heap.size, 0, none⟩), .pointer (some ⟨w1.heap.size + 1, 0, none⟩), .pointer (some ⟨w.heap.size, 0, none⟩), .pointer (some ⟨W1.heap.size + 1, 0, none⟩)]] 79)).heap[wr.heap.size]? = some (mp .u64 .i64 [((0 : Int), (1 : Int))]) :=
          ((Below.heap_alloc _ _ _ (by simp; omega)).trans (Below.heap_alloc _ _ _ (by omega))).trans HB1'.out
        have hg3 : wr.grownBy ((W1.alloc (.cells #[.map (some wr.heap.size)] 78)).alloc (.cells #[.func (.func 71) #[] #[.pointer (some ⟨W1.heap.size, 0, none⟩), .pointer (some ⟨w1.heap.size + 1, 0, none⟩), .pointer (some ⟨w.heap.size, 0, none⟩), .pointer (some ⟨W1.heap.size + 1, 0, none⟩)]] 79)) none :=
          grown_trans HGL.out (grown_of (((Below.refl _ W1).alloc (Nat.le_refl _) _).alloc (by simp) _))
        have bS3 := b3 HS.out
        have bR3 := b3 HR3.out
        have bE3 := BE.out
        have hrow3 := blk_grown HROW.out hg3 (by simp)
        have hB3 := HB.out.grown hg3 HB.out.size (fun k e => by cases e)
        clear b3 hg3 hcx hfx hcx2 hup hsf hmm
        generalize (W1.alloc (.cells #[.map (some wr.heap.size)] 78)).alloc (.cells #[.func (.func 71) #[] #[.pointer (some ⟨W1.heap.size, 0, none⟩), .pointer (some ⟨w1.heap.size + 1, 0, none⟩), .pointer (some ⟨w.heap.size, 0, none⟩), .pointer (some ⟨W1.heap.size + 1, 0, none⟩)]] 79) = W3 at *
        have hgd : W3.grownBy (World.drew W3) none := grown_of (below_drew (Below.refl _ W3))
        have es : s = m := by have := HX.out.1; omega
        have hcall := ways_calls W1.heap.size (w1.heap.size + 1) w.heap.size (W1.heap.size + 1) wr.heap.size w1.heap.size 5 a0 l0.length hlen X (by rw [HM.out]; exact HX.out.2.1) (fitN a0 l0) (fun j hj => by
            unfold fitN; rw [HX.out.2.2.1 j (by have := HM.out; omega)]) (wayN (fitN a0 l0)) (fun j h0 _ => wayN_rec _ h0) m (m - 1) [((0 : Int), (1 : Int))] (World.drew W3) (by omega) (by have := HM.out; omega)
          (bK3.kept hgd (by simp)) (by rw [HM.out]; exact bS3.kept hgd (by simp)) (bR3.kept hgd (by simp)) (bE3.kept hgd (by simp)) (blk_grown hrow3 hgd (by simp))
          ⟨blk_grown hm3 hgd (by simp), rfl, fun x v hx => by
            by_cases e : x = 0
            · subst e; exact (Option.some.inj hx).symm
            · have hb : ((0 : Int) == (x : Int)) = false := beq_eq_false_iff_ne.mpr (by omega)
              simp [look, hb] at hx⟩
        have HC := Aside0.mk (hcall.mono (R' := fun e W' => e = .returned (.int .i64 (wayN (fitN a0 l0) (m - 1))) ∧ Aside0 (Below w.heap.size w W')) (fun e W' h => ⟨h.1, ⟨(hB3.grown hgd hB3.size (fun k e => by cases e)).grown h.2.2 (by have := hB3.size; have := hgd.size; omega) (fun k e => by have := HB.out.size; injection e with e; omega)⟩⟩))
        have hcE := bE3.cell
        have hcE2 := (bE3.kept hgd (by simp)).cell
        have hun : IntKind.u64.wrap ((2 : Int) ^ l0.length) = (m : Int) := by
          rw [show (2 : Int) ^ l0.length = ((2 ^ l0.length : Nat) : Int) by push_cast; rfl, HM.out]
          exact IntWalk.u64_in _ ⟨by omega, by omega⟩
        have hum : IntKind.u64.wrap ((m : Int) - 1) = ((m - 1 : Nat) : Int) := by
          rw [show (m : Int) - 1 = ((m - 1 : Nat) : Int) by omega]
          exact IntWalk.u64_in _ ⟨by omega, by omega⟩
        clear hcall bK3 bS3 bR3 bE3 hrow3 hm3 hgd hB3 hz es hl1
        refine wpIn_wide.2 ?_
        go_region_law (go_simp; go_at_call 71; with_reducible refine HC.out.mono ?_; rintro e W5 ⟨rfl, HB5⟩)
        all_goals
          gi_wp2
          refine bodyPost_ret (results_tmp2 rfl _ _ _) rfl ?_
          have e1 : waysF a0 l0 = (wayN (fitN a0 l0) (m - 1), 0) := by unfold waysF; rw [if_pos hp, HM.out]
          rw [e1]
          exact ⟨rfl, HB5.out⟩
end Go.Proofs.Ytoecbchfdgbliaa.Hand
