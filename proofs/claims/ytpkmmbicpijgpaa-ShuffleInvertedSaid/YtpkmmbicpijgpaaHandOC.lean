-- Order (function 18) and Cycles (19): a range over a map, in whatever order.
import Derived.Test.YtpkmmbicpijgpaaHandCY
import Derived.Test.YtpkmmbicpijgpaaHandSO
import Derived.Maps.RangeRun
namespace Go.Proofs.Ytpkmmbicpijgpaa.Hand
open Go.RowKit Go.Shelf Go.Proofs.YtpkmmbicpijgpaaW.PrintWords Go.Proofs.YtpkmmbicpijgpaaW.PrintLast Go.Proofs.YtpkmmbicpijgpaaW.PrintMore
open Go.ChangeMaps (setBlock)
attribute [local go_sem] max2_int min2_int max_two min_two max_three min_three max_four min_four
set_option linter.unusedVariables false
set_option linter.unusedSimpArgs false

/-! ### the entries of a map, each once, in whatever order -/
def keyN : Value → Nat
  | .int _ n => n.toNat
  | _ => 1
def lcmSeen : List MapEntry → Array Nat → Nat
  | [], _ => 1
  | x :: l, seen => if seen.contains x.born then Nat.lcm (keyN x.key) (lcmSeen l seen) else lcmSeen l seen
def lcmK (L : List (Int × Int)) : Nat := L.foldr (fun p a => Nat.lcm p.1.toNat a) 1
theorem lcmSeen_other (seen : Array Nat) (b : Nat) : ∀ (es : List MapEntry), b ∉ es.map (·.born) → lcmSeen es (seen.push b) = lcmSeen es seen
  | [], _ => rfl
  | x :: l, h => by
    have hx : (x.born == b) = false := by
      cases hc : x.born == b with
      | false => rfl
      | true => exact absurd (List.mem_cons.2 (Or.inl (beq_iff_eq.1 hc).symm)) h
    have ih := lcmSeen_other seen b l (fun e => h (List.mem_cons.2 (Or.inr e)))
    simp only [lcmSeen, contains_push, hx, Bool.or_false, ih]
theorem lcmSeen_push (seen : Array Nat) (e : MapEntry) (hs : seen.contains e.born = false) : ∀ (es : List MapEntry), (es.map (·.born)).Nodup → e ∈ es → lcmSeen es (seen.push e.born) = Nat.lcm (lcmSeen es seen) (keyN e.key)
  | x :: l, hn, he => by
    have hn' : x.born ∉ l.map (·.born) ∧ (l.map (·.born)).Nodup := List.nodup_cons.1 hn
    rcases List.mem_cons.1 he with rfl | h
    · simp only [lcmSeen, contains_push, hs, beq_self_eq_true, Bool.or_true, if_true, Bool.false_eq_true, if_false, lcmSeen_other seen e.born l hn'.1]
      exact Nat.lcm_comm _ _
    · have hx : (x.born == e.born) = false := by
        cases hc : x.born == e.born with
        | false => rfl
        | true => exact absurd (by rw [beq_iff_eq.1 hc]; exact List.mem_map.2 ⟨e, h, rfl⟩) hn'.1
      simp only [lcmSeen, contains_push, hx, Bool.or_false, lcmSeen_push seen e hs l hn'.2 h]
      split
      · rw [Nat.lcm_assoc]
      · rfl
theorem lcmSeen_none : ∀ (es : List MapEntry), lcmSeen es #[] = 1
  | [] => rfl
  | x :: l => by
    have : (#[] : Array Nat).contains x.born = false := by simp
    simp only [lcmSeen, this, Bool.false_eq_true, if_false, lcmSeen_none l]
theorem lcmSeen_full (seen : Array Nat) : ∀ (es : List MapEntry), (∀ x ∈ es, seen.contains x.born = true) → lcmSeen es seen = es.foldr (fun e a => Nat.lcm (keyN e.key) a) 1
  | [], _ => rfl
  | x :: l, h => by
    simp only [lcmSeen, h x (List.mem_cons.2 (Or.inl rfl)), if_true, List.foldr_cons, lcmSeen_full seen l (fun y hy => h y (List.mem_cons.2 (Or.inr hy)))]
theorem lcmSeen_dvd (seen : Array Nat) : ∀ (es : List MapEntry), lcmSeen es seen ∣ es.foldr (fun e a => Nat.lcm (keyN e.key) a) 1
  | [] => Nat.dvd_refl _
  | x :: l => by
    rw [lcmSeen, List.foldr_cons]
    split
    · exact Nat.lcm_dvd (Nat.dvd_lcm_left _ _) (Nat.dvd_trans (lcmSeen_dvd seen l) (Nat.dvd_lcm_right _ _))
    · exact Nat.dvd_trans (lcmSeen_dvd seen l) (Nat.dvd_lcm_right _ _)
theorem ents_toList (qk qv : IntKind) (L : List (Int × Int)) : (ents qk qv L).toList = L.zipIdx.map (ent qk qv) := by simp [ents]
theorem ents_fold (qk qv : IntKind) : ∀ (L : List (Int × Int)) (n : Nat), ((L.zipIdx n).map (ent qk qv)).foldr (fun e a => Nat.lcm (keyN e.key) a) 1 = lcmK L
  | [], _ => rfl
  | p :: L, n => by
    rw [List.zipIdx_cons, List.map_cons, List.foldr_cons, ents_fold qk qv L (n + 1)]
    rfl
theorem ents_born (qk qv : IntKind) : ∀ (L : List (Int × Int)) (n : Nat), ((L.zipIdx n).map (ent qk qv)).map (·.born) = List.range' n L.length
  | [], _ => rfl
  | p :: L, n => by
    rw [List.zipIdx_cons, List.map_cons, List.map_cons, ents_born qk qv L (n + 1), List.length_cons, List.range'_succ]
    rfl
theorem ents_nodup (qk qv : IntKind) (L : List (Int × Int)) : ((ents qk qv L).toList.map (·.born)).Nodup := by
  rw [ents_toList, ents_born]; exact List.nodup_range'
theorem ents_old (qk qv : IntKind) (L : List (Int × Int)) : ∀ x ∈ (ents qk qv L).toList, x.born < L.length := by
  intro x hx
  have h : x.born ∈ (ents qk qv L).toList.map (·.born) := List.mem_map_of_mem hx
  rw [ents_toList, ents_born] at h
  have := List.mem_range'_1.1 h
  omega
theorem ents_mem {qk qv : IntKind} {L : List (Int × Int)} {x : MapEntry} (hx : x ∈ (ents qk qv L).toList) : ∃ p ∈ L, x.key = .int qk p.1 ∧ x.val = .int qv p.2 := by
  rw [ents_toList] at hx
  obtain ⟨⟨p, i⟩, h1, rfl⟩ := List.mem_map.1 hx
  exact ⟨p, (List.mem_zipIdx h1).2.2 ▸ List.getElem_mem _, rfl, rfl⟩
theorem setBlock_same {w : World} {r : Nat} {o1 : Obj} (h : w.heap[r]? = some o1) (o : Obj) : (setBlock w r o).heap[r]? = some o := by
  have hr := (Array.getElem?_eq_some_iff.1 h).1
  simp [setBlock, hr]
theorem setBlock_other (w : World) {r k : Nat} (o : Obj) (h : k ≠ r) : (setBlock w r o).heap[k]? = w.heap[k]? := by
  simp only [setBlock]
  rw [Array.getElem?_setIfInBounds_ne (fun e => h e.symm)]
theorem setBlock_below {w0 w : World} {B r : Nat} (h : Below B w0 w) (hr : B ≤ r) (o : Obj) : Below B w0 (setBlock w r o) :=
  ⟨h.os, h.tape, h.output, by simpa [setBlock] using h.size, fun k hk => (setBlock_other w o (by omega)).trans (h.block k hk)⟩

/-- The order: no product too great. -/
def okOrd (L : List (Int × Int)) : Bool := (L.all fun p => decide (1 ≤ p.1 ∧ p.1 ≤ 64)) && decide (lcmK L ≤ 1099511627776)
def orderF (k : Nat) (l : List Int) : Option (Int × Int) := (cycF k l).bind fun L => if 70 ≤ k ∧ okOrd L = true then some ((lcmK L : Int), 0) else none
theorem lcm_step {a n : Nat} (ha : 1 ≤ a) (hn : 1 ≤ n) : a / Nat.gcd a n * n = Nat.lcm a n := by
  unfold Nat.lcm
  have h := Nat.gcd_dvd_left a n
  rw [Nat.mul_comm a n, Nat.mul_div_assoc n h, Nat.mul_comm]

set_option maxHeartbeats 8000000 in
set_option maxRecDepth 100000 in
theorem order_calls (k : Nat) (m : Int) (A : Option Addr) (c : Nat) (l : List Int) (w : World) (hr : Kd.C (Kd.int .i64) w A l.length l) (isP : Bool)
    (hp : Calls Try.prog 37 #[.int .i64 m, .slice A l.length c] w fun e w' => e = .returned (.bool isP) ∧ Below w.heap.size w w')
    (hg : ∀ (a b : Nat) (w : World), 1 ≤ a → a ≤ 1099511627776 → 1 ≤ b → b ≤ 64 → Calls Try.prog 39 #[.int .i64 (a : Int), .int .i64 (b : Int)] w fun e w' => e = .returned (.int .i64 ((Nat.gcd a b : Nat) : Int)) ∧ ∃ q, w' = w.drewN q)
    (r : Int × Int) (hf : (if isP = true then orderF k l else some (0, 2)) = some r) :
    Calls Try.prog 18 #[.int .i64 m, .slice A l.length c] w fun e w' => e = .returned (.tuple #[.int .i64 r.1, .int .i64 r.2]) ∧ Below w.heap.size w w' := by
  have HR := Aside0.mk hr
  have HP := Aside0.mk hp
  have HG := Aside0.mk hg
  clear hr hp hg
  cases isP with
  | false =>
    obtain rfl := Option.some.inj hf
    go_enter Try.func18, Try.ntmps18
    go_wp2_with (go_at_call 37; refine HP.out.mono ?_; rintro e w1 ⟨rfl, hb1⟩)
    go_ret2
    exact ⟨rfl, hb1⟩
  | true =>
    rw [if_pos rfl] at hf
    obtain ⟨L, hL, h2⟩ := Option.bind_eq_some_iff.1 hf
    have hc : 70 ≤ k ∧ okOrd L = true := by
      by_cases e : 70 ≤ k ∧ okOrd L = true
      · exact e
      · rw [if_neg e] at h2; cases h2
    rw [if_pos hc] at h2
    obtain rfl := Option.some.inj h2
    have HL := Aside0.mk hL
    obtain ⟨hk1, hk2⟩ : (∀ p ∈ L, 1 ≤ p.1 ∧ p.1 ≤ 64) ∧ lcmK L ≤ 1099511627776 := by
      have h := hc.2
      unfold okOrd at h
      rw [Bool.and_eq_true] at h
      exact ⟨fun p hp => of_decide_eq_true (List.all_eq_true.1 h.1 p hp), of_decide_eq_true h.2⟩
    have HK := Aside0.mk hk1
    have HK2 := Aside0.mk hk2
    clear hL h2 hf hc hk1 hk2
    go_enter Try.func18, Try.ntmps18
    go_wp2_with (first | (go_at_call 37; refine HP.out.mono ?_; rintro e w1 ⟨rfl, hb1⟩) | (go_at_call 38; refine (cycles_calls k A c l L _ (Kd.C_below HR.out hb1) HL.out).mono ?_; rintro e w2 ⟨b, rfl, hb0, hm, hb2⟩; have hrg := run_range_map (P := Try.prog) w2 54 3 3 b _ _ Try.underlying54 hm))
    have HM0 : Aside0 ((w2.alloc (Obj.mapIter (some b) L.length #[] L.length)).heap[b]? = some (mp .i64 .i64 L)) := ⟨by rw [heap_alloc_old w2 _ (Array.getElem?_eq_some_iff.1 hm).1]; exact hm⟩
    have HBL : Aside0 (b < w2.heap.size ∧ w.heap.size ≤ w2.heap.size) := ⟨(Array.getElem?_eq_some_iff.1 hm).1, Nat.le_trans hb1.size hb2.size⟩
    have HB0 : Aside0 (Below w.heap.size w (w2.alloc (Obj.mapIter (some b) L.length #[] L.length))) := ⟨below_alloc (below_step hb1 hb2) _⟩
    clear hm hb0 hb1 hb2 hrg
    go_loopg [6] L.length (fun gg u6 wr => ∃ (seen : Array Nat) (c0 acc : Nat), u6 = .int .i64 (acc : Int) ∧ Aside0 ((leftOf (ents .i64 .i64 L) seen).size ≤ gg ∧ acc = lcmSeen (ents .i64 .i64 L).toList seen ∧ L.length ≤ c0) ∧
      Aside0 (wr.heap[w2.heap.size]? = some (.mapIter (some b) L.length seen c0)) ∧ Aside0 (wr.heap[b]? = some (mp .i64 .i64 L)) ∧ Aside0 (Below w.heap.size w wr))
    case atStart =>
      refine ⟨#[], L.length, 1, rfl, ⟨?_, by rw [lcmSeen_none], Nat.le_refl _⟩, ⟨heap_alloc_new w2 _⟩, HM0, HB0⟩
      have h1 : (ents .i64 .i64 L).size = L.length := by simp [ents]
      unfold leftOf
      have := Array.size_filter_le (p := fun e : MapEntry => !(#[] : Array Nat).contains e.born) (xs := ents .i64 .i64 L)
      omega
    case round => as_aux_lemma =>
      clear HM0 HB0
      obtain ⟨seen, c0, acc, rfl, HA, HI, HM, HB⟩ := hrel
      have law := run_next_at (P := Try.prog) wr 0 w2.heap.size b L.length c0 seen (ents .i64 .i64 L) L.length HI.out HM.out (ents_old .i64 .i64 L) HA.out.2.2
      rcases law with ⟨h0, hrun⟩ | ⟨e, he, w3, hal, hrun⟩
      · as_aux_lemma =>
        have hnx : ∀ ty, (Instr.next (.pointer (some ⟨w2.heap.size, 0, none⟩)) false ty).run Try.prog wr = _ := fun _ => hrun
        have hacc : acc = lcmK L := by
          rw [HA.out.2.1, lcmSeen_full seen _ (all_seen _ seen h0), ents_toList, ents_fold]
        subst hacc
        go_wp2
        go_ret2
        exact ⟨rfl, HB.out⟩
      · as_aux_lemma =>
        obtain ⟨p, hp, hke, hva⟩ := ents_mem (mem_left he).1
        have hp1 := HK.out p hp
        obtain ⟨n, hn⟩ := Int.eq_ofNat_of_zero_le (show 0 ≤ p.1 by omega)
        rw [hke, hva, hn] at hrun
        have hnx : ∀ ty, (Instr.next (.pointer (some ⟨w2.heap.size, 0, none⟩)) false ty).run Try.prog wr = _ := fun _ => hrun
        have hi3 : w3.heap = wr.heap := by rcases hal with rfl | rfl <;> rfl
        have hb3 : Below w.heap.size w w3 := by
          rcases hal with rfl | rfl
          · exact HB.out
          · exact below_drew1 HB.out
        have hI3 : w3.heap[w2.heap.size]? = some (.mapIter (some b) L.length seen c0) := by rw [hi3]; exact HI.out
        have hI4 := setBlock_same hI3 (.mapIter (some b) L.length (seen.push e.born) L.length)
        have hM4 : (setBlock w3 w2.heap.size (.mapIter (some b) L.length (seen.push e.born) L.length)).heap[b]? = some (mp .i64 .i64 L) := by
          rw [setBlock_other _ _ (by have := HBL.out; omega), hi3]; exact HM.out
        have hen := run_entry_at (P := Try.prog) _ w2.heap.size b L.length seen (ents .i64 .i64 L) L.length e hI4 hM4 (mem_left he).1 (ents_nodup .i64 .i64 L)
        rw [hke, hva, hn] at hen
        have hB4 := setBlock_below hb3 HBL.out.2 (Obj.mapIter (some b) L.length (seen.push e.born) L.length)
        have hacc := HA.out.2.1
        have hdv : acc ∣ lcmK L := by
          rw [hacc]
          have := lcmSeen_dvd seen (ents .i64 .i64 L).toList
          rwa [ents_toList, ents_fold, ← ents_toList .i64 .i64] at this
        have hpos : ∀ (L : List (Int × Int)), (∀ p ∈ L, 1 ≤ p.1 ∧ p.1 ≤ 64) → 0 < lcmK L := by
          intro L
          induction L with
          | nil => intro _; exact Nat.one_pos
          | cons p L ih =>
            intro h
            have h1 := h p List.mem_cons_self
            exact Nat.lcm_pos (by omega) (ih fun q hq => h q (List.mem_cons_of_mem _ hq))
        have hlp := hpos L HK.out
        have ha1 : 1 ≤ acc := Nat.pos_of_dvd_of_pos hdv hlp
        have ha2 : acc ≤ 1099511627776 := Nat.le_trans (Nat.le_of_dvd hlp hdv) HK2.out
        have hn1 : 1 ≤ n := by omega
        have hn2 : n ≤ 64 := by omega
        have hpush := lcmSeen_push seen e (mem_left he).2 (ents .i64 .i64 L).toList (ents_nodup .i64 .i64 L) (mem_left he).1
        rw [hke, hn, ← hacc] at hpush
        have hdv2 : lcmSeen (ents .i64 .i64 L).toList (seen.push e.born) ∣ lcmK L := by
          have := lcmSeen_dvd (seen.push e.born) (ents .i64 .i64 L).toList
          rwa [ents_toList, ents_fold, ← ents_toList .i64 .i64] at this
        have hle2 := Nat.le_trans (Nat.le_of_dvd hlp hdv2) HK2.out
        have hsh := left_shrinks (ents .i64 .i64 L) seen e he
        have hkn : keyN (.int .i64 (n : Int)) = n := rfl
        rw [hkn] at hpush
        rw [hpush] at hle2
        have hstep := lcm_step ha1 hn1
        have hgp : 0 < Nat.gcd acc n := Nat.gcd_pos_of_pos_left _ ha1
        have HAN := Aside0.mk (⟨ha1, ha2, hn1, hn2, hle2, hstep, hgp⟩ : 1 ≤ acc ∧ acc ≤ 1099511627776 ∧ 1 ≤ n ∧ n ≤ 64 ∧ Nat.lcm acc n ≤ 1099511627776 ∧ acc / Nat.gcd acc n * n = Nat.lcm acc n ∧ 0 < Nat.gcd acc n)
        have HPU := Aside0.mk hpush
        have HSH := Aside0.mk hsh
        have HI4 := Aside0.mk hI4
        have HM4 := Aside0.mk hM4
        have HB4 := Aside0.mk hB4
        clear hB4 hacc hdv hpos hlp ha1 ha2 hn1 hn2 hpush hdv2 hle2 hsh hkn hstep hgp hI4 hM4 hI3 hb3 hi3 hp1 hke hva hn hp HI HM HB
        go_wp2_with (go_at_call 39; refine (HG.out acc n _ HAN.out.1 HAN.out.2.1 HAN.out.2.2.1 HAN.out.2.2.2.1).mono ?_; rintro e' w5 ⟨rfl, ⟨q, rfl⟩⟩)
        case isTrue => exfalso; have := HAN.out.1; simp_all
        have hq1 : acc / Nat.gcd acc n ≤ acc := Nat.div_le_self _ _
        have hv : wrap64 (wrap64 ((acc : Int) / ((Nat.gcd acc n : Nat) : Int)) * (n : Int)) = ((Nat.lcm acc n : Nat) : Int) := by
          have h := HAN.out
          rw [show (acc : Int) / ((Nat.gcd acc n : Nat) : Int) = ((acc / Nat.gcd acc n : Nat) : Int) from rfl]
          have h5 := h.2.2.2.2.2.1
          have h6 := h.2.2.2.2.1
          have h7 := h.2.1
          generalize acc / Nat.gcd acc n = z at *
          rw [show wrap64 (z : Int) = (z : Int) by unfold wrap64; omega, show (z : Int) * (n : Int) = ((z * n : Nat) : Int) by push_cast; rfl, h5]
          unfold wrap64
          omega
        rw [hv]
        go_roundg ((leftOf (ents .i64 .i64 L) (seen.push e.born)).size)
        case measure => have h1 := HA.out.1; have h2 := HSH.out; omega
        case rel => exact ⟨seen.push e.born, L.length, Nat.lcm acc n, rfl, ⟨Nat.le_refl _, HPU.out.symm, Nat.le_refl _⟩, ⟨HI4.out⟩, ⟨HM4.out⟩, ⟨pw_below_drewN HB4.out q⟩⟩

/-! ### the lengths, each as often as it occurs -/
def rowOf (e : MapEntry) : List Int := match e.key, e.val with
  | .int _ n, .int _ v => List.replicate v.toNat n
  | _, _ => []
def rowsL (L : List (Int × Int)) : List Int := L.flatMap fun p => List.replicate p.2.toNat p.1
def okCyc (L : List (Int × Int)) : Bool := (L.all fun p => decide (1 ≤ p.2 ∧ p.2 ≤ 64)) && decide ((rowsL L).length ≤ 1000)
def cyclesF (k : Nat) (l : List Int) : Option (List Int × Int) := (cycF k l).bind fun L => if okCyc L = true then some (sortI (rowsL L), 0) else none
theorem ents_rows (qk qv : IntKind) : ∀ (L : List (Int × Int)) (n : Nat), ((L.zipIdx n).map (ent qk qv)).flatMap rowOf = rowsL L
  | [], _ => rfl
  | p :: L, n => by
    rw [List.zipIdx_cons, List.map_cons, List.flatMap_cons, ents_rows qk qv L (n + 1)]
    rfl
theorem flat_length_le {es acc : List MapEntry} (hn : acc.Nodup) (hs : ∀ e ∈ acc, e ∈ es) : (acc.flatMap rowOf).length ≤ (es.flatMap rowOf).length := by
  induction acc generalizing es with
  | nil => simp
  | cons a acc ih =>
    have ha := hs a List.mem_cons_self
    have hn' := List.nodup_cons.1 hn
    obtain ⟨s, t, rfl⟩ := List.append_of_mem ha
    have h := ih (es := s ++ t) hn'.2 (fun e he => by
      have h1 := hs e (List.mem_cons_of_mem _ he)
      rcases List.mem_append.1 h1 with h1 | h1
      · exact List.mem_append_left _ h1
      · rcases List.mem_cons.1 h1 with h1 | h1
        · exact absurd (h1 ▸ he) hn'.1
        · exact List.mem_append_right _ h1)
    simp only [List.flatMap_cons, List.flatMap_append, List.length_append] at h ⊢
    omega
theorem entry_eq {l : List MapEntry} (hn : (l.map (·.born)).Nodup) {x e : MapEntry} (hx : x ∈ l) (he : e ∈ l) (h : x.born = e.born) : x = e := born_inj hn hx he h
theorem le_tr (a b c : Int) : decide (a ≤ b) = true → decide (b ≤ c) = true → decide (a ≤ c) = true := by
  simp only [decide_eq_true_eq]; omega
theorem le_tot (a b : Int) : (decide (a ≤ b) || decide (b ≤ a)) = true := by
  simp only [Bool.or_eq_true, decide_eq_true_eq]; omega
/-- Two rows in ascending order with the same numbers are the same. -/
theorem sorted_perm : ∀ {l l' : List Int}, l.Perm l' → l.Pairwise (fun x y => x ≤ y) → l'.Pairwise (fun x y => x ≤ y) → l = l'
  | [], l', h, _, _ => (h.symm.eq_nil).symm
  | a :: l, [], h, _, _ => absurd h.eq_nil (by simp)
  | a :: l, b :: l', h, h1, h2 => by
    have ha := List.pairwise_cons.1 h1
    have hb := List.pairwise_cons.1 h2
    have e : a = b := by
      have m1 : a ∈ b :: l' := h.subset List.mem_cons_self
      have m2 : b ∈ a :: l := h.symm.subset List.mem_cons_self
      rcases List.mem_cons.1 m1 with e | m1
      · exact e
      · rcases List.mem_cons.1 m2 with e | m2
        · exact e.symm
        · have := ha.1 b m2
          have := hb.1 a m1
          omega
    subst e
    rw [sorted_perm (List.Perm.cons_inv h) ha.2 hb.2]
theorem sortI_sorted (l : List Int) : (sortI l).Pairwise fun x y => x ≤ y := by
  have h := List.pairwise_mergeSort (le := fun x y : Int => decide (x ≤ y)) le_tr le_tot l
  exact h.imp fun h => of_decide_eq_true h
theorem sortI_perm {l l' : List Int} (h : l.Perm l') : sortI l = sortI l' :=
  sorted_perm ((List.mergeSort_perm _ _).trans (h.trans (List.mergeSort_perm _ _).symm)) (sortI_sorted l) (sortI_sorted l')

theorem size_alloc_ (w : World) (o : Obj) : (w.alloc o).heap.size = w.heap.size + 1 := by simp
theorem set_R {α : Type} {d : Kd α} {e base : Nat} {ok : Nat → Prop} {v : Value} {xs : List α} {w : World} {r : Nat} {m : Option Nat} {s c : Nat} {seen : Array Nat} (hb : w.heap[r]? = some (.mapIter m s seen c)) (h : Kd.R d e w base ok v xs) (o : Obj) : Kd.R d e (setBlock w r o) base ok v xs := by
  refine Kd.R_mono (Kd.R_move (Kd.R_bound h) (fun k hk => setBlock_other w o (fun e => ?_))) (fun _ hk => hk.1)
  subst e
  obtain ⟨_, _, _, q, _, cells, hc⟩ := hk
  rw [hb] at hc
  cases hc
/-- What is no row stays where a row grows. -/
theorem keep_obj {W w1 : World} {v : Value} {b : Nat} {o : Obj} {base : Nat} {ok : Nat → Prop} {xs : List Int} (hg : W.grownBy w1 v.ownBlock) (hm : W.heap[b]? = some o) (ho : Kd.R (Kd.int .i64) 3 W base ok v xs) (hno : ∀ cells, o ≠ .cells cells 3 (0, 0)) : w1.heap[b]? = some o := by
  have hlt : b < W.heap.size := (Array.getElem?_eq_some_iff.1 hm).1
  refine (hg.block b hlt (fun e => ?_)).trans hm
  obtain ⟨cells, hc⟩ := Kd.R_typed ho b e.symm
  rw [hm] at hc
  exact hno cells (Option.some.inj hc)

set_option maxHeartbeats 8000000 in
set_option maxRecDepth 100000 in
theorem cyc_calls (k : Nat) (m : Int) (A : Option Addr) (c : Nat) (l : List Int) (w : World) (hr : Kd.C (Kd.int .i64) w A l.length l) (isP : Bool)
    (hp : Calls Try.prog 37 #[.int .i64 m, .slice A l.length c] w fun e w' => e = .returned (.bool isP) ∧ Below w.heap.size w w')
    (r : List Int × Int) (hf : (if isP = true then cyclesF k l else some ([], 2)) = some r) :
    Calls Try.prog 19 #[.int .i64 m, .slice A l.length c] w fun e w' => ∃ v0_ : Value, e = .returned (.tuple #[v0_, .int .i64 r.2]) ∧ Kd.R (Kd.int .i64) 3 w' w.heap.size (fun _ => True) v0_ r.1 ∧ Below w.heap.size w w' := by
  have hmix : Try.prog.follows .mixedOrders = true := by kernel_rfl
  have HR := Aside0.mk hr
  have HP := Aside0.mk hp
  clear hr hp
  cases isP with
  | false =>
    obtain rfl := Option.some.inj hf
    go_enter Try.func19, Try.ntmps19
    go_wp2_with (go_at_call 37; refine HP.out.mono ?_; rintro e w1 ⟨rfl, hb1⟩)
    go_ret2
    exact ⟨_, rfl, Kd.R_nil _ _ _ _ _, hb1⟩
  | true =>
    rw [if_pos rfl] at hf
    obtain ⟨L, hL, h2⟩ := Option.bind_eq_some_iff.1 hf
    have hc : okCyc L = true := by
      by_cases e : okCyc L = true
      · exact e
      · rw [if_neg e] at h2; cases h2
    rw [if_pos hc] at h2
    obtain rfl := Option.some.inj h2
    have HL := Aside0.mk hL
    obtain ⟨hk1, hk2⟩ : (∀ p ∈ L, 1 ≤ p.2 ∧ p.2 ≤ 64) ∧ (rowsL L).length ≤ 1000 := by
      unfold okCyc at hc
      rw [Bool.and_eq_true] at hc
      exact ⟨fun p hp => of_decide_eq_true (List.all_eq_true.1 hc.1 p hp), of_decide_eq_true hc.2⟩
    have HK := Aside0.mk hk1
    have HK2 := Aside0.mk hk2
    clear hL h2 hf hc hk1 hk2
    go_enter Try.func19, Try.ntmps19
    go_wp2_with (first | (go_at_call 37; refine HP.out.mono ?_; rintro e w1 ⟨rfl, hb1⟩) | (go_at_call 38; refine (cycles_calls k A c l L _ (Kd.C_below HR.out hb1) HL.out).mono ?_; rintro e w2 ⟨b, rfl, hb0, hm, hb2⟩; have hrg := run_range_map (P := Try.prog) w2 54 3 3 b _ _ Try.underlying54 hm))
    have HM0 : Aside0 ((w2.alloc (Obj.mapIter (some b) L.length #[] L.length)).heap[b]? = some (mp .i64 .i64 L)) := ⟨by rw [heap_alloc_old w2 _ (Array.getElem?_eq_some_iff.1 hm).1]; exact hm⟩
    have HBL : Aside0 (b < w2.heap.size ∧ w.heap.size ≤ w2.heap.size) := ⟨(Array.getElem?_eq_some_iff.1 hm).1, Nat.le_trans hb1.size hb2.size⟩
    have HB0 : Aside0 (Below w.heap.size w (w2.alloc (Obj.mapIter (some b) L.length #[] L.length))) := ⟨below_alloc (below_step hb1 hb2) _⟩
    clear hm hb0 hb1 hb2 hrg
    go_loopg [6] L.length (fun gg u6 wr => ∃ (seen : Array Nat) (c0 : Nat) (acc : List MapEntry) (xs : List Int) (A6 : Option Addr) (c6 : Nat), u6 = .slice A6 xs.length c6 ∧ Aside0 (Kd.R (Kd.int .i64) 3 wr w.heap.size (fun _ => True) (.slice A6 xs.length c6) xs) ∧
      Aside0 ((leftOf (ents .i64 .i64 L) seen).size ≤ gg ∧ L.length ≤ c0) ∧ Aside0 (xs = acc.flatMap rowOf ∧ acc.Nodup ∧ ∀ e, e ∈ acc ↔ e ∈ (ents .i64 .i64 L).toList ∧ seen.contains e.born = true) ∧
      Aside0 (wr.heap[w2.heap.size]? = some (.mapIter (some b) L.length seen c0)) ∧ Aside0 (wr.heap[b]? = some (mp .i64 .i64 L)) ∧ Aside0 (Below w.heap.size w wr))
    case atStart =>
      refine ⟨#[], L.length, [], [], none, 0, rfl, ⟨Kd.R_nil _ _ _ _ _⟩, ⟨?_, Nat.le_refl _⟩, ⟨rfl, List.nodup_nil, fun e => by simp⟩, ⟨heap_alloc_new w2 _⟩, HM0, HB0⟩
      have h1 : (ents .i64 .i64 L).size = L.length := by simp [ents]
      unfold leftOf
      have := Array.size_filter_le (p := fun e : MapEntry => !(#[] : Array Nat).contains e.born) (xs := ents .i64 .i64 L)
      omega
    case round => as_aux_lemma =>
      clear HM0 HB0
      obtain ⟨seen, c0, acc, xs, A6, c6, rfl, HX, HA, HAC, HI, HM, HB⟩ := hrel
      have law := run_next_at (P := Try.prog) wr 0 w2.heap.size b L.length c0 seen (ents .i64 .i64 L) L.length HI.out HM.out (ents_old .i64 .i64 L) HA.out.2
      have hxl : xs.length ≤ 1000 := by
        have h1 := flat_length_le HAC.out.2.1 (fun e he => ((HAC.out.2.2 e).1 he).1)
        rw [← HAC.out.1, ents_toList, ents_rows] at h1
        have := HK2.out
        omega
      have HXL := Aside0.mk hxl
      clear hxl
      rcases law with ⟨h0, hrun⟩ | ⟨e, he, w3, hal, hrun⟩
      · as_aux_lemma =>
        have hnx : ∀ ty, (Instr.next (.pointer (some ⟨w2.heap.size, 0, none⟩)) false ty).run Try.prog wr = _ := fun _ => hrun
        have hpm : sortI xs = sortI (rowsL L) := by
          refine sortI_perm ?_
          have h1 : acc.Perm (ents .i64 .i64 L).toList := (List.perm_ext_iff_of_nodup HAC.out.2.1 (List.Pairwise.of_map (·.born) (fun a b h e => h (e ▸ rfl)) (ents_nodup .i64 .i64 L))).2 fun e => by
            rw [HAC.out.2.2 e]
            exact ⟨fun h => h.1, fun h => ⟨h, all_seen _ seen h0 e h⟩⟩
          have h2 := List.Perm.flatMap_right rowOf h1
          rw [← HAC.out.1, ents_toList, ents_rows] at h2
          exact h2
        have HPM := Aside0.mk hpm
        clear hpm
        go_wp2_with (go_at_call 41; refine (sort_calls HX.out (by have := HXL.out; omega)).mono ?_; rintro e w4 ⟨rfl, hR4, hB4⟩)
        go_ret2
        exact ⟨_, rfl, by rw [← HPM.out]; exact hR4, hB4 _ _ (Nat.le_refl _) HB.out⟩
      · as_aux_lemma =>
        obtain ⟨p, hp, hke, hva⟩ := ents_mem (mem_left he).1
        have hp1 := HK.out p hp
        obtain ⟨n, hn⟩ : ∃ n : Int, n = p.1 := ⟨_, rfl⟩
        obtain ⟨many, hmany⟩ := Int.eq_ofNat_of_zero_le (show 0 ≤ p.2 by omega)
        rw [hke, hva, hmany, ← hn] at hrun
        have hnx : ∀ ty, (Instr.next (.pointer (some ⟨w2.heap.size, 0, none⟩)) false ty).run Try.prog wr = _ := fun _ => hrun
        have hi3 : w3.heap = wr.heap := by rcases hal with rfl | rfl <;> rfl
        have hb3 : Below w.heap.size w w3 := by
          rcases hal with rfl | rfl
          · exact HB.out
          · exact below_drew1 HB.out
        have hX3 : Kd.R (Kd.int .i64) 3 w3 w.heap.size (fun _ => True) (.slice A6 xs.length c6) xs := by
          rcases hal with rfl | rfl
          · exact HX.out
          · exact Kd.R_drew HX.out
        have hI3 : w3.heap[w2.heap.size]? = some (.mapIter (some b) L.length seen c0) := by rw [hi3]; exact HI.out
        have hI4 := setBlock_same hI3 (.mapIter (some b) L.length (seen.push e.born) L.length)
        have hM4 : (setBlock w3 w2.heap.size (.mapIter (some b) L.length (seen.push e.born) L.length)).heap[b]? = some (mp .i64 .i64 L) := by
          rw [setBlock_other _ _ (by have := HBL.out; omega), hi3]; exact HM.out
        have hen := run_entry_at (P := Try.prog) _ w2.heap.size b L.length seen (ents .i64 .i64 L) L.length e hI4 hM4 (mem_left he).1 (ents_nodup .i64 .i64 L)
        rw [hke, hva, hmany, ← hn] at hen
        have hB4 := setBlock_below hb3 HBL.out.2 (Obj.mapIter (some b) L.length (seen.push e.born) L.length)
        have hX4 := set_R hI3 hX3 (Obj.mapIter (some b) L.length (seen.push e.born) L.length)
        have hrow : rowOf e = List.replicate many n := by
          unfold rowOf
          rw [hke, hva, hmany, ← hn]
          rfl
        have HROW := Aside0.mk hrow
        have HE := Aside0.mk he
        have HN := Aside0.mk (⟨by omega, by omega⟩ : 1 ≤ many ∧ many ≤ 64)
        obtain ⟨w5, hw5⟩ : ∃ w5, w5 = setBlock w3 w2.heap.size (.mapIter (some b) L.length (seen.push e.born) L.length) := ⟨_, rfl⟩
        rw [← hw5] at hI4 hM4 hen hB4 hX4 hrun hnx
        have HI4 := Aside0.mk hI4
        have HM4 := Aside0.mk hM4
        have HB4 := Aside0.mk hB4
        have HX4 := Aside0.mk hX4
        clear hB4 hX4 hrow he hI4 hM4 hI3 hb3 hi3 hp1 hke hva hn hmany hp HI HM HB HX hX3 hw5 hal hrun
        go_wp2_with (first
          | (go_at_call 40; refine (repeat_calls ⟨w5.heap.size, 0, none⟩ 1 n many _ ?cell HN.out.1 HN.out.2).mono ?_; (case cell => rw [cell_of_row _ w5.heap.size 0 _ 3 (0, 0) (heap_alloc_new w5 _)]; rfl); rintro e' w6 ⟨v6, rfl, hR6, hB6⟩; obtain ⟨A7, c7, rfl⟩ := Kd.R_slice hR6; have HX6 := Aside0.mk (Kd.R_below (Kd.R_alloc HX4.out _) hB6); have HB6 := Aside0.mk (below_step (below_alloc HB4.out _) hB6); have hC6 := (Kd.R_reads' hR6).2.2; rw [List.length_replicate] at hC6; have HC6 := Aside0.mk hC6; have HI6 := Aside0.mk ((hB6.block _ (by rw [size_alloc_]; have := (Array.getElem?_eq_some_iff.1 HI4.out).1; omega)).trans ((heap_alloc_old w5 _ (Array.getElem?_eq_some_iff.1 HI4.out).1).trans HI4.out)); have HM6 := Aside0.mk ((hB6.block _ (by rw [size_alloc_]; have := (Array.getElem?_eq_some_iff.1 HM4.out).1; omega)).trans ((heap_alloc_old w5 _ (Array.getElem?_eq_some_iff.1 HM4.out).1).trans HM4.out)); clear hC6 hB6 hR6 HI4 HM4)
          | (at_builtin; refine Kd.R_append_row (w0 := w) (h1 := fun _ => rfl) (Value.int .i64) 0 w.heap.size rfl (.tmp 21) (.tmp 25) 22 3 (.int .i64 0) 8 rfl Try.underlying22 infoI rfl (by decide) _ xs (List.replicate many n) A7 many c7 (fun _ => True) rfl rfl (fun _ _ => trivial) HX6.out HC6.out HB6.out ?cS ?cL ?_; (case cS => exact HB6.out.size); (case cL => have := HXL.out; have := HN.out; omega); intro v8 w8 hR8 hB8 hg8 hat8))
        have hIn := keep_obj hg8 HI6.out HX6.out (fun _ h => by cases h)
        have hMn := keep_obj hg8 HM6.out HX6.out (fun _ h => by cases h)
        obtain ⟨A8, c8, rfl⟩ := Kd.R_slice hR8
        have hsh := left_shrinks (ents .i64 .i64 L) seen e HE.out
        have hml := mem_left HE.out
        have hb := HAC.out
        go_roundg ((leftOf (ents .i64 .i64 L) (seen.push e.born)).size)
        case measure => have h1 := HA.out.1; omega
        case rel =>
          refine ⟨seen.push e.born, L.length, acc ++ [e], xs ++ List.replicate many n, A8, c8, rfl, ⟨hR8⟩, ⟨Nat.le_refl _, Nat.le_refl _⟩, ⟨?_, ?_, fun x => ?_⟩, ⟨hIn⟩, ⟨hMn⟩, ⟨hB8⟩⟩
          · rw [List.flatMap_append, ← hb.1, List.flatMap_cons, List.flatMap_nil, List.append_nil, HROW.out]
          · refine List.nodup_append.2 ⟨hb.2.1, by simp, fun a ha b hb' hab => ?_⟩
            rw [List.mem_singleton.1 hb'] at hab
            subst hab
            have := ((hb.2.2 a).1 ha).2
            rw [hml.2] at this
            cases this
          · rw [List.mem_append, hb.2.2 x, contains_push, List.mem_singleton, Bool.or_eq_true, beq_iff_eq]
            constructor
            · rintro (⟨h1, h2⟩ | rfl)
              · exact ⟨h1, .inl h2⟩
              · exact ⟨hml.1, .inr rfl⟩
            · rintro ⟨h1, h2 | h2⟩
              · exact .inl ⟨h1, h2⟩
              · exact .inr (born_inj (ents_nodup .i64 .i64 L) h1 hml.1 h2)

end Go.Proofs.Ytpkmmbicpijgpaa.Hand
