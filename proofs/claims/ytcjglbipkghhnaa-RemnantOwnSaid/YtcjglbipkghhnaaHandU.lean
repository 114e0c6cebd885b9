import Derived.Test.YtcjglbipkghhnaaHandM
namespace Go.Proofs.Ytcjglbipkghhnaa.Hand
open Go.RowKit Go.Shelf Go.Proofs.YtcjglbipkghhnaaW.PrintWords Go.Proofs.YtcjglbipkghhnaaW.PrintLast Go.Proofs.YtcjglbipkghhnaaW.PrintMore
set_option linter.unusedVariables false
set_option linter.unusedSimpArgs false

/-- The names so far, and those of the numbers to come. -/
def nmStep (L : List (Int × Int)) (b d : Int) : List (Int × Int) := if (look L b).isSome = true then L else L ++ [(b, (L.length : Int) - d)]
def nmL (d : Int) : List (Int × Int) → List Int → List Int
  | _, [] => []
  | L, b :: l => (look (nmStep L b d) b).getD 0 :: nmL d (nmStep L b d) l
def usedF (l : List Int) : List Int := nmL 1 [(-1, -1)] l
def renamedF (l : List Int) : List Int := nmL 0 [] l

theorem zero3 (w : World) : (zeroValue 3).run Try.prog w = .ok (.int .i64 0) w := by kernel_rfl
theorem rd_drop (l : List Int) (i : Nat) (h : i < l.length) : l.drop i = rd l i :: l.drop (i + 1) := by
  rw [List.drop_eq_getElem_cons h]; simp [rd, h]

/-- A map stays where a row grows. -/
theorem keep_map {W w1 : World} {v : Value} {b : Nat} {L : List (Int × Int)} {qk qv : IntKind} {base : Nat} {ok : Nat → Prop} {xs : List Int} (hg : W.grownBy w1 v.ownBlock) (hm : W.heap[b]? = some (mp qk qv L)) (ho : Kd.R (Kd.int .i64) 3 W base ok v xs) : w1.heap[b]? = some (mp qk qv L) := by
  have hlt : b < W.heap.size := (Array.getElem?_eq_some_iff.1 hm).1
  refine (hg.block b hlt (fun e => ?_)).trans hm
  obtain ⟨cells, hc⟩ := Kd.R_typed ho b e.symm
  rw [hm] at hc
  cases hc

set_option maxHeartbeats 4000000 in
set_option maxRecDepth 100000 in
theorem used_calls (A0 : Option Addr) (c0 : Nat) (l0 : List Int) (w : World) (hr0 : Kd.C (Kd.int .i64) w A0 l0.length l0) (hl0 : l0.length ≤ 1000) :
    Calls Try.prog 65 #[.slice A0 l0.length c0] w fun e w' => ∃ v0_ : Value, e = .returned v0_ ∧ Kd.R (Kd.int .i64) 3 w' w.heap.size (fun _ => True) v0_ (usedF l0) ∧ Below w.heap.size w w' := by
  have HR0 := Aside0.mk hr0
  clear hr0
  have hmm := @run_makeMap Try.prog
  have hb0 : (w.alloc (Obj.map #[] 0)).heap[w.heap.size]? = some (mp .i64 .i64 []) := heap_alloc_new w _
  have hup := update_run (P := Try.prog) (T := 91) Try.underlying91 Try.underlying3 hb0 (-1) (-1) rfl
  have hb1 := put_same hb0 (mp .i64 .i64 ([] ++ [((-1 : Int), (-1 : Int))]))
  have hbel : Below w.heap.size w ((w.alloc (Obj.map #[] 0)).putObj w.heap.size (mp .i64 .i64 ([] ++ [((-1 : Int), (-1 : Int))]))) := put_below ((Below.refl _ w).alloc (Nat.le_refl _) _) (Nat.le_refl _) _
  have HB1 := Aside0.mk hb1
  have HBEL := Aside0.mk hbel
  clear hb0 hb1 hbel
  rw [List.nil_append] at hup HB1 HBEL
  generalize hW1 : (w.alloc (Obj.map #[] 0)).putObj w.heap.size (mp .i64 .i64 [((-1 : Int), (-1 : Int))]) = W1 at hup HB1 HBEL
  clear hW1
  go_enter Try.func65, Try.ntmps65
  go_wp2
  go_loopg [4, 13] l0.length (fun gg u4 u13 wr => ∃ (i : Nat) (L : List (Int × Int)) (out : List Int), u13 = .int .i64 (i : Int) ∧ Aside0 (i ≤ l0.length ∧ l0.length - i ≤ gg ∧ out.length = i ∧ 1 ≤ L.length ∧ L.length ≤ i + 1 ∧ out ++ nmL 1 L (l0.drop i) = usedF l0) ∧
    Aside0 (Kd.R (Kd.int .i64) 3 wr w.heap.size (fun _ => True) u4 out) ∧ Aside0 (wr.heap[w.heap.size]? = some (mp .i64 .i64 L)) ∧ Aside0 (Below w.heap.size w wr))
  case atStart => exact ⟨0, [(-1, -1)], [], rfl, ⟨by omega, by omega, rfl, by simp, by simp, rfl⟩, ⟨Kd.R_nil _ _ _ _ _⟩, HB1, HBEL⟩
  case round => as_aux_lemma =>
    obtain ⟨i, L, out, rfl, HI, HO, HM, HB⟩ := hrel
    by_cases hlt : i < l0.length
    · have hltz : decide ((i : Int) < (l0.length : Int)) = true := decide_eq_true (by omega)
      obtain ⟨ad, e, h0⟩ := Kd.at_int (Kd.C_below HR0.out HB.out) (i : Int) (by omega) (by omega)
      cases e
      rw [Int.toNat_natCast] at h0
      have hj0 : 0 ≤ (i : Int) := Int.natCast_nonneg i
      have hj1 : (i : Int) < (l0.length : Int) := by omega
      have HD := Aside0.mk (rd_drop l0 i hlt)
      generalize rd l0 (i : Int) = b at h0 HD
      have hlk := lookup_run (P := Try.prog) (w := wr) (T := 91) Try.underlying91 Try.underlying3 (zero3 wr) HM.out b
      cases hl : look L b with
      | some v =>
        have hlk1 := lookup_run1 (P := Try.prog) (w := wr) (T := 91) Try.underlying91 Try.underlying3 (zero3 wr) HM.out b
        rw [hl] at hlk hlk1
        have hlk : (Instr.lookup 91 (Value.map (some w.heap.size)) (Value.int IntKind.i64 b) true).run Try.prog wr = .ok (.tuple #[.int .i64 v, .bool true]) wr := hlk
        have hlk1 : (Instr.lookup 91 (Value.map (some w.heap.size)) (Value.int IntKind.i64 b) false).run Try.prog wr = .ok (.int .i64 v) wr := hlk1
        have HL := Aside0.mk hl
        clear hl
        go_wp2_with ((with_reducible refine gate_builtin (b := .append) (xs := #[.tmp 30, .tmp 34]) rfl ?_); at_builtin; refine Kd.R_append (Kd.int .i64) (w0 := w) w.heap.size rfl (.tmp 30) (.tmp 34) 22 3 (.int .i64 0) 8 rfl Try.underlying22 infoI rfl (by decide) (by omega) u4 out v [.int .i64 v] (fun _ => True) (fun _ => False) rfl rfl ?aP (fun _ hk => hk.elim) ?aF ?aO ?aB ?aS ?aL ?_; (case aP => exact rfl); (case aB => exact HB.out); (case aF => exact (fun _ _ => trivial)); (case aO => exact HO.out); (case aS => exact HB.out.size); (case aL => have := HI.out; omega); intro v4 w4 ho hb hg hat; have HO4 := Aside0.mk ho; have HB4 := Aside0.mk hb; have HG4 := Aside0.mk hg; clear ho hb hg hat)
        go_roundg (l0.length - (i + 1))
        case measure => have := HI.out.2.1; omega
        case rel =>
          have hmm4 := keep_map HG4.out HM.out HO.out
          refine ⟨i + 1, L, out ++ [v], by go_num, ⟨by omega, by omega, by simp; exact HI.out.2.2.1, HI.out.2.2.2.1, by have := HI.out.2.2.2.2.1; omega, ?_⟩, HO4, ⟨hmm4⟩, HB4⟩
          have e := HI.out.2.2.2.2.2
          rw [HD.out, nmL, show nmStep L b 1 = L by unfold nmStep; rw [HL.out]; rfl, HL.out] at e
          simpa using e
      | none =>
        have hlen := len_run (P := Try.prog) (w := wr) (T := 91) Try.underlying91 HM.out 3
        have hup2 := update_run (P := Try.prog) (w := wr) (T := 91) Try.underlying91 Try.underlying3 HM.out b ((L.length : Int) - 1) hl
        have hM2 := put_same HM.out (mp .i64 .i64 (L ++ [(b, (L.length : Int) - 1)]))
        have hB2 := put_below HB.out (Nat.le_refl _) (mp .i64 .i64 (L ++ [(b, (L.length : Int) - 1)]))
        have hO2 := put_R HM.out HO.out (mp .i64 .i64 (L ++ [(b, (L.length : Int) - 1)]))
        have hlk1 := lookup_run1 (P := Try.prog) (w := wr.putObj w.heap.size (mp .i64 .i64 (L ++ [(b, (L.length : Int) - 1)]))) (T := 91) Try.underlying91 Try.underlying3 (zero3 _) hM2 b
        have hsn : look (L ++ [(b, (L.length : Int) - 1)]) b = some ((L.length : Int) - 1) := by rw [look_snoc hl, if_pos rfl]
        rw [hl] at hlk
        rw [hsn] at hlk1
        have hlk : (Instr.lookup 91 (Value.map (some w.heap.size)) (Value.int IntKind.i64 b) true).run Try.prog wr = .ok (.tuple #[.int .i64 0, .bool false]) wr := hlk
        have HL := Aside0.mk hl
        have HSN := Aside0.mk hsn
        have HM2 := Aside0.mk hM2
        have HB2 := Aside0.mk hB2
        have HO2 := Aside0.mk hO2
        have hL1 : 1 ≤ (L.length : Int) := by have := HI.out; omega
        have hL2 : (L.length : Int) ≤ 1001 := by have := HI.out; omega
        clear hl hsn hM2 hB2 hO2
        simp only [Option.getD_some] at hlk1
        generalize hW2 : wr.putObj w.heap.size (mp .i64 .i64 (L ++ [(b, (L.length : Int) - 1)])) = W2 at hup2 hlk1 HM2 HB2 HO2
        clear hW2
        go_wp2_with ((with_reducible refine gate_builtin (b := .append) (xs := #[.tmp 30, .tmp 34]) rfl ?_); at_builtin; refine Kd.R_append (Kd.int .i64) (w0 := w) w.heap.size rfl (.tmp 30) (.tmp 34) 22 3 (.int .i64 0) 8 rfl Try.underlying22 infoI rfl (by decide) (by omega) u4 out ((L.length : Int) - 1) [.int .i64 ((L.length : Int) - 1)] (fun _ => True) (fun _ => False) rfl rfl ?aP (fun _ hk => hk.elim) ?aF ?aO ?aB ?aS ?aL ?_; (case aP => exact rfl); (case aB => exact HB2.out); (case aF => exact (fun _ _ => trivial)); (case aO => exact HO2.out); (case aS => exact HB2.out.size); (case aL => have := HI.out; omega); intro v4 w4 ho hb hg hat; have HO4 := Aside0.mk ho; have HB4 := Aside0.mk hb; have HG4 := Aside0.mk hg; clear ho hb hg hat)
        go_roundg (l0.length - (i + 1))
        case measure => have := HI.out.2.1; omega
        case rel =>
          have hmm4 := keep_map HG4.out HM2.out HO2.out
          refine ⟨i + 1, L ++ [(b, (L.length : Int) - 1)], out ++ [(L.length : Int) - 1], by go_num, ⟨by omega, by omega, by simp; exact HI.out.2.2.1, by simp, by have := HI.out.2.2.2.2.1; simp; omega, ?_⟩, HO4, ⟨hmm4⟩, HB4⟩
          have e := HI.out.2.2.2.2.2
          rw [HD.out, nmL, show nmStep L b 1 = L ++ [(b, (L.length : Int) - 1)] by unfold nmStep; rw [HL.out]; rfl, HSN.out] at e
          simpa using e
    · have hltz : decide ((i : Int) < (l0.length : Int)) = false := decide_eq_false (by omega)
      go_wp2
      go_ret
      refine ⟨_, rfl, ?_, HB.out⟩
      have e := HI.out.2.2.2.2.2
      rw [List.drop_eq_nil_of_le (by omega), nmL, List.append_nil] at e
      rw [← e]
      exact HO.out

set_option maxHeartbeats 4000000 in
set_option maxRecDepth 100000 in
theorem renamed_calls (A0 : Option Addr) (c0 : Nat) (l0 : List Int) (w : World) (hr0 : Kd.C (Kd.int .i64) w A0 l0.length l0) (hl0 : l0.length ≤ 1000) :
    Calls Try.prog 79 #[.slice A0 l0.length c0] w fun e w' => ∃ v0_ : Value, e = .returned v0_ ∧ Kd.R (Kd.int .i64) 3 w' w.heap.size (fun _ => True) v0_ (renamedF l0) ∧ Below w.heap.size w w' := by
  have HR0 := Aside0.mk hr0
  clear hr0
  have hmm := @run_makeMap Try.prog
  have hb0 : (w.alloc (Obj.map #[] 0)).heap[w.heap.size]? = some (mp .i64 .i64 []) := heap_alloc_new w _
  have HB1 := Aside0.mk hb0
  have HBEL := Aside0.mk ((Below.refl _ w).alloc (Nat.le_refl _) (Obj.map #[] 0))
  clear hb0
  go_enter Try.func79, Try.ntmps79
  go_wp2
  go_loopg [4, 12] l0.length (fun gg u4 u12 wr => ∃ (i : Nat) (L : List (Int × Int)) (out : List Int), u12 = .int .i64 (i : Int) ∧ Aside0 (i ≤ l0.length ∧ l0.length - i ≤ gg ∧ out.length = i ∧ 0 ≤ L.length ∧ L.length ≤ i ∧ out ++ nmL 0 L (l0.drop i) = renamedF l0) ∧
    Aside0 (Kd.R (Kd.int .i64) 3 wr w.heap.size (fun _ => True) u4 out) ∧ Aside0 (wr.heap[w.heap.size]? = some (mp .i64 .i64 L)) ∧ Aside0 (Below w.heap.size w wr))
  case atStart => exact ⟨0, [], [], rfl, ⟨by omega, by omega, rfl, by simp, by simp, rfl⟩, ⟨Kd.R_nil _ _ _ _ _⟩, HB1, HBEL⟩
  case round => as_aux_lemma =>
    obtain ⟨i, L, out, rfl, HI, HO, HM, HB⟩ := hrel
    by_cases hlt : i < l0.length
    · have hltz : decide ((i : Int) < (l0.length : Int)) = true := decide_eq_true (by omega)
      obtain ⟨ad, e, h0⟩ := Kd.at_int (Kd.C_below HR0.out HB.out) (i : Int) (by omega) (by omega)
      cases e
      rw [Int.toNat_natCast] at h0
      have hj0 : 0 ≤ (i : Int) := Int.natCast_nonneg i
      have hj1 : (i : Int) < (l0.length : Int) := by omega
      have HD := Aside0.mk (rd_drop l0 i hlt)
      generalize rd l0 (i : Int) = b at h0 HD
      have hlk := lookup_run (P := Try.prog) (w := wr) (T := 91) Try.underlying91 Try.underlying3 (zero3 wr) HM.out b
      cases hl : look L b with
      | some v =>
        have hlk1 := lookup_run1 (P := Try.prog) (w := wr) (T := 91) Try.underlying91 Try.underlying3 (zero3 wr) HM.out b
        rw [hl] at hlk hlk1
        have hlk : (Instr.lookup 91 (Value.map (some w.heap.size)) (Value.int IntKind.i64 b) true).run Try.prog wr = .ok (.tuple #[.int .i64 v, .bool true]) wr := hlk
        have hlk1 : (Instr.lookup 91 (Value.map (some w.heap.size)) (Value.int IntKind.i64 b) false).run Try.prog wr = .ok (.int .i64 v) wr := hlk1
        have HL := Aside0.mk hl
        clear hl
        go_wp2_with ((with_reducible refine gate_builtin (b := .append) (xs := #[.tmp 28, .tmp 32]) rfl ?_); at_builtin; refine Kd.R_append (Kd.int .i64) (w0 := w) w.heap.size rfl (.tmp 28) (.tmp 32) 22 3 (.int .i64 0) 8 rfl Try.underlying22 infoI rfl (by decide) (by omega) u4 out v [.int .i64 v] (fun _ => True) (fun _ => False) rfl rfl ?aP (fun _ hk => hk.elim) ?aF ?aO ?aB ?aS ?aL ?_; (case aP => exact rfl); (case aB => exact HB.out); (case aF => exact (fun _ _ => trivial)); (case aO => exact HO.out); (case aS => exact HB.out.size); (case aL => have := HI.out; omega); intro v4 w4 ho hb hg hat; have HO4 := Aside0.mk ho; have HB4 := Aside0.mk hb; have HG4 := Aside0.mk hg; clear ho hb hg hat)
        go_roundg (l0.length - (i + 1))
        case measure => have := HI.out.2.1; omega
        case rel =>
          have hmm4 := keep_map HG4.out HM.out HO.out
          refine ⟨i + 1, L, out ++ [v], by go_num, ⟨by omega, by omega, by simp; exact HI.out.2.2.1, HI.out.2.2.2.1, by have := HI.out.2.2.2.2.1; omega, ?_⟩, HO4, ⟨hmm4⟩, HB4⟩
          have e := HI.out.2.2.2.2.2
          rw [HD.out, nmL, show nmStep L b 0 = L by unfold nmStep; rw [HL.out]; rfl, HL.out] at e
          simpa using e
      | none =>
        have hlen := len_run (P := Try.prog) (w := wr) (T := 91) Try.underlying91 HM.out 3
        have hup2 := update_run (P := Try.prog) (w := wr) (T := 91) Try.underlying91 Try.underlying3 HM.out b (L.length : Int) hl
        have hM2 := put_same HM.out (mp .i64 .i64 (L ++ [(b, (L.length : Int))]))
        have hB2 := put_below HB.out (Nat.le_refl _) (mp .i64 .i64 (L ++ [(b, (L.length : Int))]))
        have hO2 := put_R HM.out HO.out (mp .i64 .i64 (L ++ [(b, (L.length : Int))]))
        have hlk1 := lookup_run1 (P := Try.prog) (w := wr.putObj w.heap.size (mp .i64 .i64 (L ++ [(b, (L.length : Int))]))) (T := 91) Try.underlying91 Try.underlying3 (zero3 _) hM2 b
        have hsn : look (L ++ [(b, (L.length : Int))]) b = some (L.length : Int) := by rw [look_snoc hl, if_pos rfl]
        rw [hl] at hlk
        rw [hsn] at hlk1
        have hlk : (Instr.lookup 91 (Value.map (some w.heap.size)) (Value.int IntKind.i64 b) true).run Try.prog wr = .ok (.tuple #[.int .i64 0, .bool false]) wr := hlk
        have HL := Aside0.mk hl
        have HSN := Aside0.mk hsn
        have HM2 := Aside0.mk hM2
        have HB2 := Aside0.mk hB2
        have HO2 := Aside0.mk hO2
        have hL1 : 0 ≤ (L.length : Int) := by have := HI.out; omega
        have hL2 : (L.length : Int) ≤ 1001 := by have := HI.out; omega
        clear hl hsn hM2 hB2 hO2
        simp only [Option.getD_some] at hlk1
        generalize hW2 : wr.putObj w.heap.size (mp .i64 .i64 (L ++ [(b, (L.length : Int))])) = W2 at hup2 hlk1 HM2 HB2 HO2
        clear hW2
        go_wp2_with ((with_reducible refine gate_builtin (b := .append) (xs := #[.tmp 28, .tmp 32]) rfl ?_); at_builtin; refine Kd.R_append (Kd.int .i64) (w0 := w) w.heap.size rfl (.tmp 28) (.tmp 32) 22 3 (.int .i64 0) 8 rfl Try.underlying22 infoI rfl (by decide) (by omega) u4 out (L.length : Int) [.int .i64 (L.length : Int)] (fun _ => True) (fun _ => False) rfl rfl ?aP (fun _ hk => hk.elim) ?aF ?aO ?aB ?aS ?aL ?_; (case aP => exact rfl); (case aB => exact HB2.out); (case aF => exact (fun _ _ => trivial)); (case aO => exact HO2.out); (case aS => exact HB2.out.size); (case aL => have := HI.out; omega); intro v4 w4 ho hb hg hat; have HO4 := Aside0.mk ho; have HB4 := Aside0.mk hb; have HG4 := Aside0.mk hg; clear ho hb hg hat)
        go_roundg (l0.length - (i + 1))
        case measure => have := HI.out.2.1; omega
        case rel =>
          have hmm4 := keep_map HG4.out HM2.out HO2.out
          refine ⟨i + 1, L ++ [(b, (L.length : Int))], out ++ [(L.length : Int)], by go_num, ⟨by omega, by omega, by simp; exact HI.out.2.2.1, by omega, by have := HI.out.2.2.2.2.1; simp; omega, ?_⟩, HO4, ⟨hmm4⟩, HB4⟩
          have e := HI.out.2.2.2.2.2
          rw [HD.out, nmL, show nmStep L b 0 = L ++ [(b, (L.length : Int))] by unfold nmStep; rw [HL.out]; simp, HSN.out] at e
          simpa using e
    · have hltz : decide ((i : Int) < (l0.length : Int)) = false := decide_eq_false (by omega)
      go_wp2
      go_ret
      refine ⟨_, rfl, ?_, HB.out⟩
      have e := HI.out.2.2.2.2.2
      rw [List.drop_eq_nil_of_le (by omega), nmL, List.append_nil] at e
      rw [← e]
      exact HO.out

end Go.Proofs.Ytcjglbipkghhnaa.Hand
