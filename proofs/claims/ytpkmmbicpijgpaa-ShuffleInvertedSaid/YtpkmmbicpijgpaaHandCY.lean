-- How many cycles of each length a permutation has (function 38).
import Derived.Test.YtpkmmbicpijgpaaHandM
import Derived.Test.YtpkmmbicpijgpaaHandP
namespace Go.Proofs.Ytpkmmbicpijgpaa.Hand
open Go.RowKit Go.Shelf Go.Proofs.YtpkmmbicpijgpaaW.PrintWords Go.Proofs.YtpkmmbicpijgpaaW.PrintLast Go.Proofs.YtpkmmbicpijgpaaW.PrintMore
attribute [local go_sem] max2_int min2_int max_two min_two max_three min_three max_four min_four
set_option linter.unusedVariables false
set_option linter.unusedSimpArgs false

/-- An entry is put, or laid anew at the end. -/
def upd : List (Int × Int) → Int → Int → List (Int × Int)
  | [], k, v => [(k, v)]
  | (a, b) :: L, k, v => if a = k then (a, v) :: L else (a, b) :: upd L k v
theorem upd_none {k v : Int} : ∀ {L : List (Int × Int)}, look L k = none → upd L k v = L ++ [(k, v)]
  | [], _ => rfl
  | (a, b) :: L, h => by
    by_cases e : a = k
    · subst e; simp [look] at h
    · have h2 : look L k = none := by simpa [look, e] using h
      rw [upd, if_neg e, upd_none h2]; rfl
theorem ents_some (qk qv : IntKind) (k v : Int) : ∀ (L : List (Int × Int)) (n i : Nat) (u : Int), look L k = some u →
    ∃ j, Instr.findNow (.int qk) (.int qk k) ((L.zipIdx n).map (ent qk qv)) i = some (some (i + j, .int qv u)) ∧ ((L.zipIdx n).map (ent qk qv))[j]?.map (·.key) = some (.int qk k) ∧
      ((L.zipIdx n).map (ent qk qv)).modify j (fun e => { e with key := .int qk k, val := .int qv v }) = ((upd L k v).zipIdx n).map (ent qk qv)
  | [], _, _, _, h => by simp [look] at h
  | (a, b) :: L, n, i, u, h => by
    by_cases e : a = k
    · subst e
      have hu : b = u := by simpa [look] using h
      subst hu
      refine ⟨0, ?_, ?_, ?_⟩
      · rw [List.zipIdx_cons, List.map_cons]; simp [Instr.findNow, Instr.sameNow, ent]
      · rw [List.zipIdx_cons, List.map_cons]; simp [ent]
      · rw [upd, if_pos rfl, List.zipIdx_cons, List.map_cons, List.zipIdx_cons, List.map_cons]; simp [ent]
    · have h2 : look L k = some u := by simpa [look, e] using h
      obtain ⟨j, h3, h4, h5⟩ := ents_some qk qv k v L (n + 1) (i + 1) u h2
      refine ⟨j + 1, ?_, ?_, ?_⟩
      · rw [List.zipIdx_cons, List.map_cons]
        have : (k == a) = false := beq_eq_false_iff_ne.2 (fun e' => e e'.symm)
        simp only [Instr.findNow, Instr.sameNow, ent, if_true, this]
        rw [show i + (j + 1) = i + 1 + j by omega]
        exact h3
      · rw [List.zipIdx_cons, List.map_cons, List.getElem?_cons_succ]; exact h4
      · rw [upd, if_neg e, List.zipIdx_cons, List.map_cons, List.zipIdx_cons, List.map_cons, List.modify_succ_cons, h5]
theorem upd_length {k v u : Int} : ∀ {L : List (Int × Int)}, look L k = some u → (upd L k v).length = L.length
  | [], h => by simp [look] at h
  | (a, b) :: L, h => by
    by_cases e : a = k
    · rw [upd, if_pos e]; rfl
    · have h2 : look L k = some u := by simpa [look, e] using h
      rw [upd, if_neg e, List.length_cons, upd_length h2]; rfl
section
variable {P : Program} {w : World} {T kt et : TypeId} {qk qv : IntKind} {b : Nat} {L : List (Int × Int)}
theorem put_run (ht : P.underlying T = some (.map kt et)) (hk : P.underlying kt = some (.int qk)) (hb : w.heap[b]? = some (mp qk qv L)) (k v : Int) :
    (Instr.mapUpdate T (.map (some b)) (.int qk k) (.int qv v)).run P w = .ok () (w.putObj b (mp qk qv (upd L k v))) := by
  cases hl : look L k with
  | none => rw [upd_none hl]; exact update_run ht hk hb k v hl
  | some u =>
    obtain ⟨j, h1, h2, h3⟩ := ents_some qk qv k v L 0 0 u hl
    rw [Nat.zero_add] at h1
    have hf := Go.MapKept.run_findKey (P := P) (w := w) hk (k := .int qk k) (l := (ents qk qv L).toList) (by simpa [ents] using h1)
    have hc : (Instr.checkKey false 10000 kt (.int qk k)).run P w = .ok () w := Go.MapKept.run_checkKey (P := P) (w := w) hk (k := .int qk k) rfl false 9999
    have hg := Go.MapKept.run_getObj_map (P := P) (w := w) (r := b) (es := ents qk qv L) (clock := L.length) hb
    have hs := Go.MapKept.run_setObj_map (P := P) (w := w) (r := b) (es := ents qk qv L) (clock := L.length) (mp qk qv (upd L k v)) hb
    have hkey : ((ents qk qv L)[j]?.map (·.key)).getD (.int qk k) = .int qk k := by
      have : (ents qk qv L)[j]?.map (·.key) = some (.int qk k) := by rw [← h2]; simp [ents]
      rw [this]; rfl
    have hst : (Instr.keyThatStays (.int qk k) (.int qk k)).run P w = .ok (.int qk k) w := Go.MapKept.run_keyThatStays (P := P) (w := w) (d := .int qk) rfl
    have e2 : Obj.map ((ents qk qv L).modify j fun e => { e with key := .int qk k, val := .int qv v }) L.length = mp qk qv (upd L k v) := by
      unfold mp
      rw [upd_length hl]
      congr 1
      apply Array.toList_inj.1
      rw [Array.toList_modify]
      simp only [ents]
      exact h3
    simp [Instr.mapUpdate, run_underlying ht, Result.andThen, hg, hf, hc, hkey, hst, e2, hs]
    rfl
end

/-- One more of this length. -/
def bump (L : List (Int × Int)) (n : Int) : List (Int × Int) := upd L n (wrap64 ((look L n).getD 0 + 1))
/-- The walk along a cycle. -/
def cyc_in (f : List Int) : Nat → List Int → Int → Int → Option (List Int × Int)
  | 0, _, _, _ => none
  | k + 1, s, n, y => if 0 ≤ y ∧ y < 64 ∧ y < (f.length : Int) then (if rd s y = 0 then cyc_in f k (s.set y.toNat 1) (wrap64 (n + 1)) (rd f y) else some (s, n)) else none
/-- All places, d of them to come. -/
def cyc_out (f : List Int) (k : Nat) : Nat → List Int → List (Int × Int) → Option (List (Int × Int))
  | 0, _, L => some L
  | d + 1, s, L => (cyc_in f k s 0 ((f.length - (d + 1) : Nat) : Int)).bind fun t => cyc_out f k d t.1 (if 0 < t.2 then bump L t.2 else L)
def cycF (k : Nat) (f : List Int) : Option (List (Int × Int)) := if f.length ≤ 64 then cyc_out f k f.length (List.replicate 64 0) [] else none

theorem cyc_in_length (f : List Int) : ∀ k s n y r, cyc_in f k s n y = some r → r.1.length = s.length
  | 0, _, _, _, _, h => by cases h
  | k + 1, s, n, y, r, h => by
    rw [cyc_in] at h
    split at h
    · split at h
      · have := cyc_in_length f k _ _ _ r h
        rw [List.length_set] at this
        exact this
      · cases h; rfl
    · cases h
theorem zero3 (w : World) : (zeroValue 3).run Try.prog w = .ok (.int .i64 0) w := by kernel_rfl
theorem cell_of_encL {w : World} {b t : Nat} {l : List Int} (hb : w.heap[b]? = some (.cells (enc l) t (0, 0))) {i : Nat} (hi : i < l.length) : w.cell? ⟨b, i, none⟩ = some (.int .i64 (l.getD i 0)) := by
  rw [cell_of_row w b i (enc l) t (0, 0) hb]; exact enc_get hi
theorem two_first' (w : World) (o o' : Obj) : ((w.alloc o).alloc o').heap[w.heap.size]? = some o := (Below.heap_alloc (w.alloc o) o' w.heap.size (by simp)).trans (heap_alloc_new w o)
theorem two_second' (w : World) (o o' : Obj) : ((w.alloc o).alloc o').heap[w.heap.size + 1]? = some o' := by
  have := heap_alloc_new (w.alloc o) o'
  simpa using this

set_option maxHeartbeats 8000000 in
set_option maxRecDepth 100000 in
theorem cycles_calls (k : Nat) (A0 : Option Addr) (c0 : Nat) (l0 : List Int) (L : List (Int × Int)) (w : World) (hr0 : Kd.C (Kd.int .i64) w A0 l0.length l0) (h : cycF k l0 = some L) :
    Calls Try.prog 38 #[.slice A0 l0.length c0] w fun e w' => ∃ b, e = .returned (.map (some b)) ∧ w.heap.size ≤ b ∧ w'.heap[b]? = some (mp .i64 .i64 L) ∧ Below w.heap.size w w' := by
  unfold cycF at h
  have hl : l0.length ≤ 64 := by
    by_cases e : l0.length ≤ 64
    · exact e
    · rw [if_neg e] at h; cases h
  rw [if_pos hl] at h
  have HR0 := Aside0.mk hr0
  have HH := Aside0.mk h
  clear hr0 h
  have hmm := @run_makeMap Try.prog
  go_enter Try.func38, Try.ntmps38
  go_wp2
  go_loopg [11] l0.length (fun gg u11 wr => ∃ (j : Nat) (s : List Int) (L' : List (Int × Int)), u11 = .int .i64 (j : Int) ∧ Aside0 (j ≤ l0.length ∧ l0.length - j ≤ gg ∧ s.length = 64 ∧ cyc_out l0 k (l0.length - j) s L' = some L) ∧
    Aside0 (wr.heap[w.heap.size]? = some (mp .i64 .i64 L')) ∧ Aside0 (wr.heap[w.heap.size + 1]? = some (.cells (enc s) 67 (0, 0))) ∧ Aside0 (Below w.heap.size w wr))
  case atStart => exact ⟨0, List.replicate 64 0, [], rfl, ⟨by omega, by omega, by simp, HH.out⟩, ⟨two_first' w _ _⟩, ⟨two_second' w _ _⟩, ⟨((Below.refl _ w).alloc (Nat.le_refl _) _).alloc (by simp) _⟩⟩
  case round => as_aux_lemma =>
    obtain ⟨j, s, L', rfl, HJ, HM, HS, HB⟩ := hrel
    by_cases hlt : j < l0.length
    · as_aux_lemma =>
      have hltz : decide ((j : Int) < (l0.length : Int)) = true := decide_eq_true (by omega)
      obtain ⟨s', n', hin, hout⟩ : ∃ s' n', cyc_in l0 k s 0 (j : Int) = some (s', n') ∧ cyc_out l0 k (l0.length - (j + 1)) s' (if 0 < n' then bump L' n' else L') = some L := by
        have h := HJ.out.2.2.2
        rw [show l0.length - j = (l0.length - (j + 1)) + 1 by omega, cyc_out] at h
        obtain ⟨⟨s', n'⟩, h1, h2⟩ := Option.bind_eq_some_iff.1 h
        rw [show l0.length - (l0.length - (j + 1) + 1) = j by omega] at h1
        exact ⟨s', n', h1, h2⟩
      have HIN := Aside0.mk (⟨HJ.out.2.2.1, hin⟩ : s.length = 64 ∧ cyc_in l0 k s 0 (j : Int) = some (s', n'))
      have HOUT := Aside0.mk hout
      have hs' := cyc_in_length _ _ _ _ _ _ hin
      have HSL := Aside0.mk (hs'.trans HJ.out.2.2.1)
      clear hin hout hs'
      go_wp2
      go_loopg [6, 7] k (fun gg u6 u7 wr => ∃ (kq : Nat) (n y : Int) (s : List Int), u6 = .int .i64 n ∧ u7 = .int .i64 y ∧ Aside0 (kq ≤ gg ∧ s.length = 64 ∧ cyc_in l0 kq s n y = some (s', n')) ∧
        Aside0 (wr.heap[w.heap.size]? = some (mp .i64 .i64 L')) ∧ Aside0 (wr.heap[w.heap.size + 1]? = some (.cells (enc s) 67 (0, 0))) ∧ Aside0 (Below w.heap.size w wr))
      case atStart => exact ⟨k, 0, j, s, rfl, rfl, ⟨Nat.le_refl _, HIN.out⟩, HM, HS, HB⟩
      case round => as_aux_lemma =>
        clear HM HS HB
        obtain ⟨kq, n, y, s, rfl, rfl, HI, HM, HS, HB⟩ := hrel
        have hi := HI.out.2.2
        have hsl := HI.out.2.1
        cases kq with
        | zero => cases hi
        | succ kq =>
          rw [cyc_in] at hi
          by_cases hy : 0 ≤ y ∧ y < 64 ∧ y < (l0.length : Int)
          · rw [if_pos hy] at hi
            obtain ⟨hy0, hy1, hy2⟩ := hy
            obtain ⟨m, rfl⟩ := Int.eq_ofNat_of_zero_le hy0
            have hc := cell_of_encL HS.out (i := m) (by omega)
            have hf := frozen_of_row wr (w.heap.size + 1) m _ 67 HS.out
            rw [show s.getD m 0 = rd s (m : Int) from rfl] at hc
            obtain ⟨v, hv⟩ : ∃ v, v = rd s (m : Int) := ⟨_, rfl⟩
            rw [← hv] at hc hi
            by_cases hz : v = 0
            · as_aux_lemma =>
              rw [if_pos hz] at hi
              subst hz
              have HVV := Aside0.mk hv
              clear hv
              have HI2 := Aside0.mk hi
              have HBW := Aside0.mk (HB.out.setCell (p := ⟨w.heap.size + 1, m, none⟩) (by show w.heap.size ≤ w.heap.size + 1; omega) (.int .i64 1))
              obtain ⟨a1, e, g1⟩ := Kd.at_int (Kd.C_below HR0.out HBW.out) (m : Int) (by omega) (by omega)
              cases e
              rw [Int.toNat_natCast] at g1
              clear hi
              go_wp2
              go_roundg kq
              case measure => have := HI.out.1; omega
              case rel =>
                refine ⟨kq, _, _, _, rfl, rfl, ⟨Nat.le_refl _, by rw [List.length_set]; exact hsl, HI2.out⟩, ⟨?_⟩, ⟨?_⟩, HBW⟩
                · exact (Below.heap_setCell _ _ _ _ (by show w.heap.size ≠ w.heap.size + 1; omega)).trans HM.out
                · rw [heap_setCell_same _ (w.heap.size + 1) m (enc s) 67 _ HS.out, enc_set, Int.toNat_natCast]
            · as_aux_lemma =>
              rw [if_neg hz] at hi
              have hzz : decide (v = 0) = false := decide_eq_false hz
              have HVV := Aside0.mk hv
              clear hv
              injection hi with hi
              injection hi with e1 e2
              subst e1 e2
              have hnz : ∀ (P : Prop) [Decidable P], P → True := fun _ _ _ => trivial
              by_cases hn : 0 < n
              · as_aux_lemma =>
                have hnz : decide (n > 0) = true := decide_eq_true hn
                have HOU := HOUT.out
                rw [if_pos hn] at HOU
                have HO2 := Aside0.mk HOU
                have hlk := lookup_run1 (P := Try.prog) (T := 54) Try.underlying54 Try.underlying3 (zero3 wr) HM.out n
                have hup := put_run (P := Try.prog) (T := 54) Try.underlying54 Try.underlying3 HM.out n (wrap64 ((look L' n).getD 0 + 1))
                have HM2 := Aside0.mk (put_same HM.out (mp .i64 .i64 (bump L' n)))
                have HB2 := Aside0.mk (put_below HB.out (Nat.le_refl _) (mp .i64 .i64 (bump L' n)))
                clear HOU
                go_wp2
                go_roundg (l0.length - (j + 1))
                case measure => have := HJ.out.2.1; omega
                case rel => exact ⟨j + 1, s, bump L' n, by push_cast; rfl, ⟨by omega, by omega, hsl, HO2.out⟩, HM2, ⟨(World.putObj_heap_other (by omega)).trans HS.out⟩, HB2⟩
              · as_aux_lemma =>
                have hnz : decide (n > 0) = false := decide_eq_false hn
                have HOU := HOUT.out
                rw [if_neg hn] at HOU
                have HO2 := Aside0.mk HOU
                clear HOU
                go_wp2
                go_roundg (l0.length - (j + 1))
                case measure => have := HJ.out.2.1; omega
                case rel => exact ⟨j + 1, s, L', by push_cast; rfl, ⟨by omega, by omega, hsl, HO2.out⟩, HM, HS, HB⟩
          · rw [if_neg hy] at hi; cases hi
    · as_aux_lemma =>
      have hltz : decide ((j : Int) < (l0.length : Int)) = false := decide_eq_false (by omega)
      have hL : L' = L := by
        have h := HJ.out.2.2.2
        rw [show l0.length - j = 0 by omega] at h
        exact Option.some.inj h
      subst hL
      go_wp2
      go_ret
      exact ⟨w.heap.size, rfl, Nat.le_refl _, HM.out, HB.out⟩

end Go.Proofs.Ytpkmmbicpijgpaa.Hand
