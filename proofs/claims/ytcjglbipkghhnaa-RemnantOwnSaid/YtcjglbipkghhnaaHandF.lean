import Derived.Test.YtcjglbipkghhnaaHandP
import Derived.Deep.QuietTactic
import Derived.BigQuiet
namespace Go.Proofs.Ytcjglbipkghhnaa.Hand
open Go.BigFrame Go.RowKit Go.Shelf Go.Proofs.Ytcjglbipkghhnaa.P Go.Proofs.YtcjglbipkghhnaaW.PrintWords Go.Proofs.YtcjglbipkghhnaaW.PrintLast Go.Proofs.YtcjglbipkghhnaaW.PrintMore
attribute [local go_sem] max2_int min2_int max_two min_two max_three min_three max_four min_four
set_option linter.unusedVariables false
set_option linter.unusedSimpArgs false

/-- One box more is looked at. -/
def scanStep (x : List Int) (room sz : Int) (p : Int → Int → Bool) (best : Int) (b : Nat) : Int :=
  if x.getD b 0 + sz ≤ room ∧ (best < 0 ∨ p (x.getD b 0) (x.getD best.toNat 0) = true) then (b : Int) else best
def scan (x : List Int) (room sz : Int) (p : Int → Int → Bool) (n : Nat) : Int := (List.range n).foldl (scanStep x room sz p) (-1)
/-- One piece more is put. -/
def fitStep (room : Int) (pieces : List Int) (p : Int → Int → Bool) (st : List Int × List Int × Nat) (i : Int) : List Int × List Int × Nat :=
  let best := scan st.2.1 room (rd pieces i) p st.2.2
  let b : Nat := if best < 0 then st.2.2 else best.toNat
  (st.1.set i.toNat (b : Int), st.2.1.set b (st.2.1.getD b 0 + rd pieces i), if best < 0 then st.2.2 + 1 else st.2.2)
def fitF (room : Int) (pieces : List Int) (p : Int → Int → Bool) (order : List Int) : List Int := (order.foldl (fitStep room pieces p) (List.replicate pieces.length 0, List.replicate 12 0, 0)).1

def FitOK (room : Int) (len j : Nat) (st : List Int × List Int × Nat) : Prop := st.1.length = len ∧ st.2.1.length = 12 ∧ st.2.2 ≤ j ∧ (∀ b, b < 12 → 0 ≤ st.2.1.getD b 0 ∧ st.2.1.getD b 0 ≤ room) ∧ ∀ b, st.2.2 ≤ b → b < 12 → st.2.1.getD b 0 = 0
theorem fitStep_new {room : Int} {pieces : List Int} {p : Int → Int → Bool} {out x : List Int} {n : Nat} {i : Int} (hs : scan x room (rd pieces i) p n = -1) :
    fitStep room pieces p (out, x, n) i = (out.set i.toNat (n : Int), x.set n (x.getD n 0 + rd pieces i), n + 1) := by
  simp only [fitStep, hs, show ((-1 : Int) < 0) from by decide, if_true]
theorem fitStep_old {room : Int} {pieces : List Int} {p : Int → Int → Bool} {out x : List Int} {n b : Nat} {i : Int} (hs : scan x room (rd pieces i) p n = (b : Int)) :
    fitStep room pieces p (out, x, n) i = (out.set i.toNat (b : Int), x.set b (x.getD b 0 + rd pieces i), n) := by
  simp only [fitStep, hs, show ¬((b : Int) < 0) from by omega, if_false, Int.toNat_natCast]
theorem getD_set' (x : List Int) (b c : Nat) (v : Int) : (x.set b v).getD c 0 = if b = c ∧ b < x.length then v else x.getD c 0 := by
  rw [List.getD_eq_getElem?_getD, List.getElem?_set, List.getD_eq_getElem?_getD]
  by_cases h : b = c
  · subst h
    by_cases hb : b < x.length
    · simp [hb]
    · simp [hb]
  · simp [h]
theorem fitOK_put {room : Int} {len j : Nat} {out x : List Int} {n : Nat} (h : FitOK room len j (out, x, n)) {b n' i : Nat} {v sz : Int} (hb : b < 12) (hn' : n' ≤ j + 1) (hnn : n ≤ n') (hbn : b < n') (hs0 : 0 ≤ sz) (hle : x.getD b 0 + sz ≤ room) :
    FitOK room len (j + 1) (out.set i v, x.set b (x.getD b 0 + sz), n') := by
  obtain ⟨h1, h2, h3, h4, h5⟩ := h
  dsimp only at h1 h2 h3 h4 h5
  refine ⟨by simpa using h1, by simpa using h2, hn', fun c hc => ?_, fun c hc hc' => ?_⟩
  · show 0 ≤ (x.set b _).getD c 0 ∧ (x.set b _).getD c 0 ≤ room
    rw [getD_set']
    have hb4 := h4 b hb
    split
    · exact ⟨by omega, hle⟩
    · exact h4 c hc
  · show (x.set b _).getD c 0 = 0
    have hc2 : n' ≤ c := hc
    rw [getD_set', if_neg (by omega)]
    exact h5 c (by omega) hc'
theorem repl_getD (n b : Nat) : (List.replicate n (0 : Int)).getD b 0 = 0 := by
  rw [List.getD_eq_getElem?_getD, List.getElem?_replicate]; split <;> rfl
theorem fitOK_start (room : Int) (len : Nat) (h0 : 0 ≤ room) : FitOK room len 0 (List.replicate len 0, List.replicate 12 0, 0) :=
  ⟨by simp, by simp, Nat.le_refl _, fun b hb => by rw [show ((List.replicate 12 (0 : Int)).getD b 0) = 0 from repl_getD 12 b]; exact ⟨Int.le_refl 0, h0⟩, fun b _ hb => repl_getD 12 b⟩

theorem scan_succ (x : List Int) (room sz : Int) (p : Int → Int → Bool) (n : Nat) : scan x room sz p (n + 1) = scanStep x room sz p (scan x room sz p n) n := by
  rw [scan, List.range_succ, List.foldl_append]; rfl
theorem scan_inv (x : List Int) (room sz : Int) (p : Int → Int → Bool) (n : Nat) : scan x room sz p n = -1 ∨ (0 ≤ scan x room sz p n ∧ scan x room sz p n < (n : Int) ∧ x.getD (scan x room sz p n).toNat 0 + sz ≤ room) := by
  induction n with
  | zero => exact .inl rfl
  | succ n ih =>
    rw [scan_succ]
    generalize scan x room sz p n = c at ih
    unfold scanStep
    split
    · rename_i h
      exact .inr ⟨by omega, by omega, by rw [Int.toNat_natCast]; exact h.1⟩
    · rcases ih with h | ⟨h1, h2, h3⟩
      · exact .inl h
      · exact .inr ⟨h1, by omega, h3⟩

theorem rd_mem {l : List Int} {j : Nat} (h : j < l.length) : rd l (j : Int) ∈ l := by
  simp only [rd, Int.toNat_natCast, List.getD_eq_getElem?_getD, List.getElem?_eq_getElem h, Option.getD_some]
  exact List.getElem_mem h
theorem rd_drop' (l : List Int) (i : Nat) (h : i < l.length) : l.drop i = rd l i :: l.drop (i + 1) := by
  rw [List.drop_eq_getElem_cons h]; simp [rd, h]
theorem two_first (w : World) (o o' : Obj) : ((w.alloc o).alloc o').heap[w.heap.size]? = some o := (Below.heap_alloc (w.alloc o) o' w.heap.size (by simp)).trans (heap_alloc_new w o)
theorem two_second (w : World) (o o' : Obj) : ((w.alloc o).alloc o').heap[w.heap.size + 1]? = some o' := by
  have := heap_alloc_new (w.alloc o) o'
  simpa using this
theorem cell_of_encT {w : World} {b t : Nat} {l : List Int} (hb : w.heap[b]? = some (.cells (enc l) t (0, 0))) {i : Nat} (hi : i < l.length) : w.cell? ⟨b, i, none⟩ = some (.int .i64 (l.getD i 0)) := by
  rw [cell_of_row w b i (enc l) t (0, 0) hb]; exact enc_get hi

/-! ### fit with function 73 -/
theorem better73 (a b : Int) (w : World) : Calls Try.prog 74 #[.int .i64 a, .int .i64 b] w fun e w' => e = .returned (.bool ((fun _ _ => false) a b)) ∧ w' = w := by
  go_enter Try.func74, Try.ntmps74
  go_wp2
  go_ret
  exact ⟨rfl, rfl⟩

set_option maxHeartbeats 8000000 in
set_option maxRecDepth 100000 in
theorem fit73_calls (room : Int) (A1 : Option Addr) (c1 : Nat) (l1 : List Int) (A2 : Option Addr) (c2 : Nat) (l2 : List Int) (w : World) (hr1 : Kd.C (Kd.int .i64) w A1 l1.length l1) (hr2 : Kd.C (Kd.int .i64) w A2 l2.length l2)
    (h0 : 0 ≤ room) (h100 : room ≤ 100) (h12 : l1.length ≤ 12) (h12' : l2.length ≤ 12) (hp : ∀ x ∈ l1, 1 ≤ x ∧ x ≤ room) (ho : ∀ i ∈ l2, 0 ≤ i ∧ i < (l1.length : Int)) :
    Calls Try.prog 73 #[.int .i64 room, .slice A1 l1.length c1, .slice A2 l2.length c2, .func (.func 74) #[] #[]] w fun e w' => ∃ v0_ : Value, e = .returned v0_ ∧ Kd.R (Kd.int .i64) 3 w' w.heap.size (fun _ => True) v0_ (fitF room l1 (fun _ _ => false) l2) ∧ Below w.heap.size w w' := by
  have HR1 := Aside0.mk hr1
  have HR2 := Aside0.mk hr2
  have HP := Aside0.mk hp
  have HO := Aside0.mk ho
  have hmk := make_run l1.length (by omega)
  clear hr1 hr2 hp ho
  go_enter Try.func73, Try.ntmps73
  go_wp2
  go_loopg [11, 21] l2.length (fun gg u11 u21 wr => ∃ (j : Nat) (st : List Int × List Int × Nat), u21 = .int .i64 (j : Int) ∧ u11 = .int .i64 (st.2.2 : Int) ∧ Aside0 (j ≤ l2.length ∧ l2.length - j ≤ gg ∧ FitOK room l1.length j st ∧ ((l2.drop j).foldl (fitStep room l1 (fun _ _ => false)) st).1 = fitF room l1 (fun _ _ => false) l2) ∧
    Aside0 (wr.heap[w.heap.size]? = some (.cells (enc st.1) 3 (0, 0))) ∧ Aside0 (wr.heap[w.heap.size + 1]? = some (.cells (enc st.2.1) 74 (0, 0))) ∧ Aside0 (Below w.heap.size w wr))
  case atStart => exact ⟨0, (List.replicate l1.length 0, List.replicate 12 0, 0), rfl, rfl, ⟨by omega, by omega, fitOK_start room l1.length h0, rfl⟩, ⟨two_first w _ _⟩, ⟨two_second w _ _⟩, ⟨((Below.refl _ w).alloc (Nat.le_refl _) _).alloc (by simp) _⟩⟩
  case round => as_aux_lemma =>
    obtain ⟨j, ⟨out, x, n⟩, rfl, rfl, HJ, HBO, HBX, HB⟩ := hrel
    dsimp only at HBO HBX
    obtain ⟨wo, rfl⟩ : ∃ wo : World, wo = wr := ⟨_, rfl⟩
    by_cases hlt : j < l2.length
    · as_aux_lemma =>
      have hltz : decide ((j : Int) < (l2.length : Int)) = true := decide_eq_true (by omega)
      obtain ⟨ao, e, g0⟩ := Kd.at_int (Kd.C_below HR2.out HB.out) (j : Int) (by omega) (by omega)
      cases e
      rw [Int.toNat_natCast] at g0
      have hi := HO.out _ (rd_mem hlt)
      have HD := Aside0.mk (rd_drop' l2 j hlt)
      generalize rd l2 (j : Int) = i at g0 hi HD
      obtain ⟨i, rfl⟩ := Int.eq_ofNat_of_zero_le hi.1
      have hil : i < l1.length := by omega
      obtain ⟨ap, e, g1⟩ := Kd.at_int (Kd.C_below HR1.out HB.out) (i : Int) (by omega) (by omega)
      cases e
      rw [Int.toNat_natCast] at g1
      have hsz := HP.out _ (rd_mem hil)
      have HSZ := Aside0.mk (rfl : rd l1 (i : Int) = rd l1 (i : Int))
      obtain ⟨sz, hszv⟩ : ∃ sz, rd l1 (i : Int) = sz := ⟨_, rfl⟩
      rw [hszv] at g1 hsz
      have HSV := Aside0.mk hszv
      clear hszv
      have hj0 : 0 ≤ (j : Int) := Int.natCast_nonneg j
      have hj1 : (j : Int) < (l2.length : Int) := by omega
      have hi0 : 0 ≤ (i : Int) := Int.natCast_nonneg i
      have hi1 : (i : Int) < (l1.length : Int) := by omega
      have HG0 := Aside0.mk g0
      have HG1 := Aside0.mk g1
      have FO := Aside0.mk HJ.out.2.2.1
      go_wp2
      have hn12 : n ≤ 11 := by
        have h : n ≤ j := FO.out.2.2.1
        omega
      go_loopg [14, 26] n (fun gg u14 u26 wr => ∃ (bb m : Nat), u26 = .int .i64 (bb : Int) ∧ u14 = .int .i64 (scan x room sz (fun _ _ => false) bb) ∧ Aside0 (bb ≤ n ∧ n - bb ≤ gg) ∧ wr = wo.drewN m)
      case atStart => exact ⟨0, 0, rfl, rfl, ⟨by omega, by omega⟩, rfl⟩
      case round => as_aux_lemma =>
        obtain ⟨bb, mq, rfl, rfl, HBB, rfl⟩ := hrel
        have hbb := HBB.out.1
        by_cases hb : bb < n
        · as_aux_lemma =>
          have hbz : decide ((bb : Int) < (n : Int)) = true := decide_eq_true (by omega)
          have hx0 := cell_of_encT HBX.out (i := bb) (by rw [FO.out.2.1]; omega)
          obtain ⟨hxa, hxb⟩ := FO.out.2.2.2.1 bb (by omega)
          have HSS := Aside0.mk (scan_succ x room sz (fun _ _ => false) bb)
          dsimp only at hxa hxb hx0
          generalize hbest : scan x room sz (fun _ _ => false) bb = best at *
          have hbi := scan_inv x room sz (fun _ _ => false) bb
          rw [hbest] at hbi
          have HBI := Aside0.mk hbi
          have HBE := Aside0.mk hbest
          clear hbi hbest
          generalize hxv : x.getD bb 0 = xb at hx0 hxa hxb
          have HXV := Aside0.mk hxv
          clear hxv
          by_cases hfit : xb + sz ≤ room
          · as_aux_lemma =>
            have hfz := decide_eq_true hfit
            by_cases hneg : best < 0
            · as_aux_lemma =>
              go_wp2
              go_quiet (fail)
              go_wp2
              go_roundg (n - (bb + 1))
              case measure => have := HBB.out; omega
              case rel => exact ⟨bb + 1, mq + nq, by push_cast; rfl, by rw [HSS.out, scanStep, if_pos ⟨by rw [HXV.out]; exact hfit, .inl hneg⟩], ⟨by omega, by omega⟩, rfl⟩
            · as_aux_lemma =>
              obtain ⟨bt, rfl⟩ := Int.eq_ofNat_of_zero_le (by omega : 0 ≤ best)
              have hbt : bt < bb := by have := HBI.out; omega
              have hnz := decide_eq_false hneg
              have hx1 := cell_of_encT HBX.out (i := bt) (by rw [FO.out.2.1]; omega)
              generalize hxw : x.getD bt 0 = xc at hx1
              have HXW := Aside0.mk hxw
              clear hxw
              go_wp2
              go_big_quiet (exact (better73 _ _ _).mono fun e w' he => ⟨he.1, _, he.2⟩)
              go_wp2
              go_roundg (n - (bb + 1))
              case measure => have := HBB.out; omega
              case rel => exact ⟨bb + 1, mq + nq, by push_cast; rfl, by rw [HSS.out, scanStep, if_neg (fun h => by rcases h.2 with h | h; · omega
                                                                                                                   · exact absurd h (by simp))], ⟨by omega, by omega⟩, rfl⟩
          · as_aux_lemma =>
            have hfz := decide_eq_false hfit
            go_wp2
            go_quiet (fail)
            go_wp2
            go_roundg (n - (bb + 1))
            case measure => have := HBB.out; omega
            case rel => exact ⟨bb + 1, mq + nq, by push_cast; rfl, by rw [HSS.out, scanStep, if_neg (fun h => by have h1 := h.1; rw [HXV.out] at h1; omega)], ⟨by omega, by omega⟩, rfl⟩
        · as_aux_lemma =>
          have hbz : decide ((bb : Int) < (n : Int)) = false := decide_eq_false (by omega)
          have hbn : bb = n := by omega
          subst hbn
          rcases scan_inv x room sz (fun _ _ => false) bb with hs | ⟨hs0, hs1, hs2⟩
          · as_aux_lemma =>
            have hx2 := cell_of_encT HBX.out (i := bb) (by rw [FO.out.2.1]; omega)
            have hfx := frozen_of_row wo (w.heap.size + 1) bb _ 74 HBX.out
            have hfo := frozen_of_row wo w.heap.size i _ 3 HBO.out
            have hco := cell_of_enc HBO.out (i := i) (by rw [FO.out.1]; exact hil)
            have hxz : x.getD bb 0 = 0 := FO.out.2.2.2.2 bb (Nat.le_refl _) (by omega)
            rw [hxz] at hx2
            rw [hs]
            have HS := Aside0.mk hs
            clear hs
            go_wp2
            go_region
            go_wp2
            go_roundg (l2.length - (j + 1))
            case measure => have := HJ.out.2.1; omega
            case rel =>
              have e := HJ.out.2.2.2
              rw [HD.out, List.foldl_cons, fitStep_new (by rw [HSV.out]; exact HS.out), HSV.out, Int.toNat_natCast] at e
              refine ⟨j + 1, (out.set i bb, x.set bb (x.getD bb 0 + sz), bb + 1), by push_cast; rfl, by push_cast; rfl, ⟨by omega, by omega, fitOK_put HJ.out.2.2.1 (by omega) (by have h : bb ≤ j := FO.out.2.2.1; omega) (by omega) (by omega) (by omega) (by rw [hxz]; omega), e⟩, ⟨?_⟩, ⟨?_⟩, ⟨?_⟩⟩
              · refine (heap_setCell_same _ w.heap.size i (enc out) 3 _ ((Below.heap_setCell _ _ _ _ (by show w.heap.size ≠ w.heap.size + 1; omega)).trans HBO.out)).trans ?_
                rw [enc_set]
              · refine (Below.heap_setCell _ _ _ _ (by show w.heap.size + 1 ≠ w.heap.size; omega)).trans ((heap_setCell_same _ (w.heap.size + 1) bb (enc x) 74 _ HBX.out).trans ?_)
                rw [enc_set, hxz, Int.zero_add]
              · exact ((pw_below_drewN HB.out _).setCell (by show w.heap.size ≤ w.heap.size + 1; omega) _).setCell (Nat.le_refl _) _
          · as_aux_lemma =>
            obtain ⟨bt, hbt⟩ := Int.eq_ofNat_of_zero_le hs0
            rw [hbt] at hs1 hs2
            have hs2 : x.getD bt 0 + sz ≤ room := hs2
            have hx2 := cell_of_encT HBX.out (i := bt) (by rw [FO.out.2.1]; omega)
            obtain ⟨hxa, hxb⟩ := FO.out.2.2.2.1 bt (by omega)
            have hfx := frozen_of_row wo (w.heap.size + 1) bt _ 74 HBX.out
            have hfo := frozen_of_row wo w.heap.size i _ 3 HBO.out
            have hco := cell_of_enc HBO.out (i := i) (by rw [FO.out.1]; exact hil)
            dsimp only at hxa hxb hx2 hfx hfo hco
            generalize hxv : x.getD bt 0 = xb at hx2 hxa hxb hs2
            have HXV := Aside0.mk hxv
            rw [hbt]
            have HS := Aside0.mk hbt
            clear hbt hxv hs0
            have hnz : decide ((bt : Int) < 0) = false := decide_eq_false (by omega)
            go_wp2
            go_region
            go_wp2
            go_roundg (l2.length - (j + 1))
            case measure => have := HJ.out.2.1; omega
            case rel =>
              have e := HJ.out.2.2.2
              rw [HD.out, List.foldl_cons, fitStep_old (b := bt) (by rw [HSV.out]; exact HS.out), HSV.out, Int.toNat_natCast] at e
              refine ⟨j + 1, (out.set i bt, x.set bt (x.getD bt 0 + sz), bb), by push_cast; rfl, rfl, ⟨by omega, by omega, fitOK_put HJ.out.2.2.1 (by omega) (by have h : bb ≤ j := FO.out.2.2.1; omega) (Nat.le_refl _) (by omega) (by omega) (by rw [HXV.out]; omega), e⟩, ⟨?_⟩, ⟨?_⟩, ⟨?_⟩⟩
              · refine (heap_setCell_same _ w.heap.size i (enc out) 3 _ ((Below.heap_setCell _ _ _ _ (by show w.heap.size ≠ w.heap.size + 1; omega)).trans HBO.out)).trans ?_
                rw [enc_set]
              · refine (Below.heap_setCell _ _ _ _ (by show w.heap.size + 1 ≠ w.heap.size; omega)).trans ((heap_setCell_same _ (w.heap.size + 1) bt (enc x) 74 _ HBX.out).trans ?_)
                rw [enc_set, HXV.out]
              · exact ((pw_below_drewN HB.out _).setCell (by show w.heap.size ≤ w.heap.size + 1; omega) _).setCell (Nat.le_refl _) _
    · as_aux_lemma =>
      have hltz : decide ((j : Int) < (l2.length : Int)) = false := decide_eq_false (by omega)
      go_wp2
      go_ret
      have e := HJ.out.2.2.2
      rw [List.drop_eq_nil_of_le (by omega)] at e
      have e : out = fitF room l1 (fun _ _ => false) l2 := e
      have hol : out.length = l1.length := HJ.out.2.2.1.1
      rw [← e]
      refine ⟨_, rfl, ?_, HB.out⟩
      exact R_of_blk HBO.out hol (by simp [maxLen]; omega) (Nat.le_refl _)

/-! ### fit with function 74 -/
theorem better74 (a b : Int) (w : World) : Calls Try.prog 75 #[.int .i64 a, .int .i64 b] w fun e w' => e = .returned (.bool ((fun a b => decide (b < a)) a b)) ∧ w' = w := by
  go_enter Try.func75, Try.ntmps75
  go_wp2
  go_ret
  exact ⟨rfl, rfl⟩

set_option maxHeartbeats 8000000 in
set_option maxRecDepth 100000 in
theorem fit74_calls (room : Int) (A1 : Option Addr) (c1 : Nat) (l1 : List Int) (A2 : Option Addr) (c2 : Nat) (l2 : List Int) (w : World) (hr1 : Kd.C (Kd.int .i64) w A1 l1.length l1) (hr2 : Kd.C (Kd.int .i64) w A2 l2.length l2)
    (h0 : 0 ≤ room) (h100 : room ≤ 100) (h12 : l1.length ≤ 12) (h12' : l2.length ≤ 12) (hp : ∀ x ∈ l1, 1 ≤ x ∧ x ≤ room) (ho : ∀ i ∈ l2, 0 ≤ i ∧ i < (l1.length : Int)) :
    Calls Try.prog 73 #[.int .i64 room, .slice A1 l1.length c1, .slice A2 l2.length c2, .func (.func 75) #[] #[]] w fun e w' => ∃ v0_ : Value, e = .returned v0_ ∧ Kd.R (Kd.int .i64) 3 w' w.heap.size (fun _ => True) v0_ (fitF room l1 (fun a b => decide (b < a)) l2) ∧ Below w.heap.size w w' := by
  have HR1 := Aside0.mk hr1
  have HR2 := Aside0.mk hr2
  have HP := Aside0.mk hp
  have HO := Aside0.mk ho
  have hmk := make_run l1.length (by omega)
  clear hr1 hr2 hp ho
  go_enter Try.func73, Try.ntmps73
  go_wp2
  go_loopg [11, 21] l2.length (fun gg u11 u21 wr => ∃ (j : Nat) (st : List Int × List Int × Nat), u21 = .int .i64 (j : Int) ∧ u11 = .int .i64 (st.2.2 : Int) ∧ Aside0 (j ≤ l2.length ∧ l2.length - j ≤ gg ∧ FitOK room l1.length j st ∧ ((l2.drop j).foldl (fitStep room l1 (fun a b => decide (b < a))) st).1 = fitF room l1 (fun a b => decide (b < a)) l2) ∧
    Aside0 (wr.heap[w.heap.size]? = some (.cells (enc st.1) 3 (0, 0))) ∧ Aside0 (wr.heap[w.heap.size + 1]? = some (.cells (enc st.2.1) 74 (0, 0))) ∧ Aside0 (Below w.heap.size w wr))
  case atStart => exact ⟨0, (List.replicate l1.length 0, List.replicate 12 0, 0), rfl, rfl, ⟨by omega, by omega, fitOK_start room l1.length h0, rfl⟩, ⟨two_first w _ _⟩, ⟨two_second w _ _⟩, ⟨((Below.refl _ w).alloc (Nat.le_refl _) _).alloc (by simp) _⟩⟩
  case round => as_aux_lemma =>
    obtain ⟨j, ⟨out, x, n⟩, rfl, rfl, HJ, HBO, HBX, HB⟩ := hrel
    dsimp only at HBO HBX
    obtain ⟨wo, rfl⟩ : ∃ wo : World, wo = wr := ⟨_, rfl⟩
    by_cases hlt : j < l2.length
    · as_aux_lemma =>
      have hltz : decide ((j : Int) < (l2.length : Int)) = true := decide_eq_true (by omega)
      obtain ⟨ao, e, g0⟩ := Kd.at_int (Kd.C_below HR2.out HB.out) (j : Int) (by omega) (by omega)
      cases e
      rw [Int.toNat_natCast] at g0
      have hi := HO.out _ (rd_mem hlt)
      have HD := Aside0.mk (rd_drop' l2 j hlt)
      generalize rd l2 (j : Int) = i at g0 hi HD
      obtain ⟨i, rfl⟩ := Int.eq_ofNat_of_zero_le hi.1
      have hil : i < l1.length := by omega
      obtain ⟨ap, e, g1⟩ := Kd.at_int (Kd.C_below HR1.out HB.out) (i : Int) (by omega) (by omega)
      cases e
      rw [Int.toNat_natCast] at g1
      have hsz := HP.out _ (rd_mem hil)
      have HSZ := Aside0.mk (rfl : rd l1 (i : Int) = rd l1 (i : Int))
      obtain ⟨sz, hszv⟩ : ∃ sz, rd l1 (i : Int) = sz := ⟨_, rfl⟩
      rw [hszv] at g1 hsz
      have HSV := Aside0.mk hszv
      clear hszv
      have hj0 : 0 ≤ (j : Int) := Int.natCast_nonneg j
      have hj1 : (j : Int) < (l2.length : Int) := by omega
      have hi0 : 0 ≤ (i : Int) := Int.natCast_nonneg i
      have hi1 : (i : Int) < (l1.length : Int) := by omega
      have HG0 := Aside0.mk g0
      have HG1 := Aside0.mk g1
      have FO := Aside0.mk HJ.out.2.2.1
      go_wp2
      have hn12 : n ≤ 11 := by
        have h : n ≤ j := FO.out.2.2.1
        omega
      go_loopg [14, 26] n (fun gg u14 u26 wr => ∃ (bb m : Nat), u26 = .int .i64 (bb : Int) ∧ u14 = .int .i64 (scan x room sz (fun a b => decide (b < a)) bb) ∧ Aside0 (bb ≤ n ∧ n - bb ≤ gg) ∧ wr = wo.drewN m)
      case atStart => exact ⟨0, 0, rfl, rfl, ⟨by omega, by omega⟩, rfl⟩
      case round => as_aux_lemma =>
        obtain ⟨bb, mq, rfl, rfl, HBB, rfl⟩ := hrel
        have hbb := HBB.out.1
        by_cases hb : bb < n
        · as_aux_lemma =>
          have hbz : decide ((bb : Int) < (n : Int)) = true := decide_eq_true (by omega)
          have hx0 := cell_of_encT HBX.out (i := bb) (by rw [FO.out.2.1]; omega)
          obtain ⟨hxa, hxb⟩ := FO.out.2.2.2.1 bb (by omega)
          have HSS := Aside0.mk (scan_succ x room sz (fun a b => decide (b < a)) bb)
          dsimp only at hxa hxb hx0
          generalize hbest : scan x room sz (fun a b => decide (b < a)) bb = best at *
          have hbi := scan_inv x room sz (fun a b => decide (b < a)) bb
          rw [hbest] at hbi
          have HBI := Aside0.mk hbi
          have HBE := Aside0.mk hbest
          clear hbi hbest
          generalize hxv : x.getD bb 0 = xb at hx0 hxa hxb
          have HXV := Aside0.mk hxv
          clear hxv
          by_cases hfit : xb + sz ≤ room
          · as_aux_lemma =>
            have hfz := decide_eq_true hfit
            by_cases hneg : best < 0
            · as_aux_lemma =>
              go_wp2
              go_quiet (fail)
              go_wp2
              go_roundg (n - (bb + 1))
              case measure => have := HBB.out; omega
              case rel => exact ⟨bb + 1, mq + nq, by push_cast; rfl, by rw [HSS.out, scanStep, if_pos ⟨by rw [HXV.out]; exact hfit, .inl hneg⟩], ⟨by omega, by omega⟩, rfl⟩
            · as_aux_lemma =>
              obtain ⟨bt, rfl⟩ := Int.eq_ofNat_of_zero_le (by omega : 0 ≤ best)
              have hbt : bt < bb := by have := HBI.out; omega
              have hnz := decide_eq_false hneg
              have hx1 := cell_of_encT HBX.out (i := bt) (by rw [FO.out.2.1]; omega)
              generalize hxw : x.getD bt 0 = xc at hx1
              have HXW := Aside0.mk hxw
              clear hxw
              by_cases hp : xc < xb
              · as_aux_lemma =>
                have hpz := decide_eq_true hp
                go_wp2
                go_big_quiet (exact (better74 _ _ _).mono fun e w' he => ⟨he.1, _, he.2⟩)
                go_wp2
                go_roundg (n - (bb + 1))
                case measure => have := HBB.out; omega
                case rel => exact ⟨bb + 1, mq + nq, by push_cast; rfl, by rw [HSS.out, scanStep, if_pos ⟨by rw [HXV.out]; exact hfit, .inr (by rw [HXV.out, Int.toNat_natCast, HXW.out]; exact hpz)⟩], ⟨by omega, by omega⟩, rfl⟩
              · as_aux_lemma =>
                have hpz := decide_eq_false hp
                go_wp2
                go_big_quiet (exact (better74 _ _ _).mono fun e w' he => ⟨he.1, _, he.2⟩)
                go_wp2
                go_roundg (n - (bb + 1))
                case measure => have := HBB.out; omega
                case rel => exact ⟨bb + 1, mq + nq, by push_cast; rfl, by rw [HSS.out, scanStep, if_neg (fun h => by rcases h.2 with h | h; · omega
                                                                                                                     · rw [HXV.out, Int.toNat_natCast, HXW.out] at h; exact absurd h (by rw [hpz]; exact Bool.false_ne_true))], ⟨by omega, by omega⟩, rfl⟩
          · as_aux_lemma =>
            have hfz := decide_eq_false hfit
            go_wp2
            go_quiet (fail)
            go_wp2
            go_roundg (n - (bb + 1))
            case measure => have := HBB.out; omega
            case rel => exact ⟨bb + 1, mq + nq, by push_cast; rfl, by rw [HSS.out, scanStep, if_neg (fun h => by have h1 := h.1; rw [HXV.out] at h1; omega)], ⟨by omega, by omega⟩, rfl⟩
        · as_aux_lemma =>
          have hbz : decide ((bb : Int) < (n : Int)) = false := decide_eq_false (by omega)
          have hbn : bb = n := by omega
          subst hbn
          rcases scan_inv x room sz (fun a b => decide (b < a)) bb with hs | ⟨hs0, hs1, hs2⟩
          · as_aux_lemma =>
            have hx2 := cell_of_encT HBX.out (i := bb) (by rw [FO.out.2.1]; omega)
            have hfx := frozen_of_row wo (w.heap.size + 1) bb _ 74 HBX.out
            have hfo := frozen_of_row wo w.heap.size i _ 3 HBO.out
            have hco := cell_of_enc HBO.out (i := i) (by rw [FO.out.1]; exact hil)
            have hxz : x.getD bb 0 = 0 := FO.out.2.2.2.2 bb (Nat.le_refl _) (by omega)
            rw [hxz] at hx2
            rw [hs]
            have HS := Aside0.mk hs
            clear hs
            go_wp2
            go_region
            go_wp2
            go_roundg (l2.length - (j + 1))
            case measure => have := HJ.out.2.1; omega
            case rel =>
              have e := HJ.out.2.2.2
              rw [HD.out, List.foldl_cons, fitStep_new (by rw [HSV.out]; exact HS.out), HSV.out, Int.toNat_natCast] at e
              refine ⟨j + 1, (out.set i bb, x.set bb (x.getD bb 0 + sz), bb + 1), by push_cast; rfl, by push_cast; rfl, ⟨by omega, by omega, fitOK_put HJ.out.2.2.1 (by omega) (by have h : bb ≤ j := FO.out.2.2.1; omega) (by omega) (by omega) (by omega) (by rw [hxz]; omega), e⟩, ⟨?_⟩, ⟨?_⟩, ⟨?_⟩⟩
              · refine (heap_setCell_same _ w.heap.size i (enc out) 3 _ ((Below.heap_setCell _ _ _ _ (by show w.heap.size ≠ w.heap.size + 1; omega)).trans HBO.out)).trans ?_
                rw [enc_set]
              · refine (Below.heap_setCell _ _ _ _ (by show w.heap.size + 1 ≠ w.heap.size; omega)).trans ((heap_setCell_same _ (w.heap.size + 1) bb (enc x) 74 _ HBX.out).trans ?_)
                rw [enc_set, hxz, Int.zero_add]
              · exact ((pw_below_drewN HB.out _).setCell (by show w.heap.size ≤ w.heap.size + 1; omega) _).setCell (Nat.le_refl _) _
          · as_aux_lemma =>
            obtain ⟨bt, hbt⟩ := Int.eq_ofNat_of_zero_le hs0
            rw [hbt] at hs1 hs2
            have hs2 : x.getD bt 0 + sz ≤ room := hs2
            have hx2 := cell_of_encT HBX.out (i := bt) (by rw [FO.out.2.1]; omega)
            obtain ⟨hxa, hxb⟩ := FO.out.2.2.2.1 bt (by omega)
            have hfx := frozen_of_row wo (w.heap.size + 1) bt _ 74 HBX.out
            have hfo := frozen_of_row wo w.heap.size i _ 3 HBO.out
            have hco := cell_of_enc HBO.out (i := i) (by rw [FO.out.1]; exact hil)
            dsimp only at hxa hxb hx2 hfx hfo hco
            generalize hxv : x.getD bt 0 = xb at hx2 hxa hxb hs2
            have HXV := Aside0.mk hxv
            rw [hbt]
            have HS := Aside0.mk hbt
            clear hbt hxv hs0
            have hnz : decide ((bt : Int) < 0) = false := decide_eq_false (by omega)
            go_wp2
            go_region
            go_wp2
            go_roundg (l2.length - (j + 1))
            case measure => have := HJ.out.2.1; omega
            case rel =>
              have e := HJ.out.2.2.2
              rw [HD.out, List.foldl_cons, fitStep_old (b := bt) (by rw [HSV.out]; exact HS.out), HSV.out, Int.toNat_natCast] at e
              refine ⟨j + 1, (out.set i bt, x.set bt (x.getD bt 0 + sz), bb), by push_cast; rfl, rfl, ⟨by omega, by omega, fitOK_put HJ.out.2.2.1 (by omega) (by have h : bb ≤ j := FO.out.2.2.1; omega) (Nat.le_refl _) (by omega) (by omega) (by rw [HXV.out]; omega), e⟩, ⟨?_⟩, ⟨?_⟩, ⟨?_⟩⟩
              · refine (heap_setCell_same _ w.heap.size i (enc out) 3 _ ((Below.heap_setCell _ _ _ _ (by show w.heap.size ≠ w.heap.size + 1; omega)).trans HBO.out)).trans ?_
                rw [enc_set]
              · refine (Below.heap_setCell _ _ _ _ (by show w.heap.size + 1 ≠ w.heap.size; omega)).trans ((heap_setCell_same _ (w.heap.size + 1) bt (enc x) 74 _ HBX.out).trans ?_)
                rw [enc_set, HXV.out]
              · exact ((pw_below_drewN HB.out _).setCell (by show w.heap.size ≤ w.heap.size + 1; omega) _).setCell (Nat.le_refl _) _
    · as_aux_lemma =>
      have hltz : decide ((j : Int) < (l2.length : Int)) = false := decide_eq_false (by omega)
      go_wp2
      go_ret
      have e := HJ.out.2.2.2
      rw [List.drop_eq_nil_of_le (by omega)] at e
      have e : out = fitF room l1 (fun a b => decide (b < a)) l2 := e
      have hol : out.length = l1.length := HJ.out.2.2.1.1
      rw [← e]
      refine ⟨_, rfl, ?_, HB.out⟩
      exact R_of_blk HBO.out hol (by simp [maxLen]; omega) (Nat.le_refl _)

end Go.Proofs.Ytcjglbipkghhnaa.Hand
