import Derived.Test.YtpkmmbicpijgpaaHandA
import Derived.Maps.Own
import Derived.MapKept
namespace Go.Proofs.Ytpkmmbicpijgpaa.Hand
open Go.RowKit Go.Shelf Go.Proofs.YtpkmmbicpijgpaaW.PrintWords Go.Proofs.YtpkmmbicpijgpaaW.PrintLast Go.Proofs.YtpkmmbicpijgpaaW.PrintMore
set_option linter.unusedVariables false
set_option linter.unusedSimpArgs false

/-! ### maps from ints to ints, as lists of pairs in the order of their insertion -/
def ent (qk qv : IntKind) (p : (Int × Int) × Nat) : MapEntry := ⟨.int qk p.1.1, .int qv p.1.2, p.2⟩
def ents (qk qv : IntKind) (L : List (Int × Int)) : Array MapEntry := (L.zipIdx.map (ent qk qv)).toArray
def mp (qk qv : IntKind) (L : List (Int × Int)) : Obj := .map (ents qk qv L) L.length
def look (L : List (Int × Int)) (k : Int) : Option Int := (L.find? fun p => p.1 == k).map (·.2)

theorem findNow_ents (qk qv : IntKind) (k : Int) : ∀ (L : List (Int × Int)) (n i : Nat), ∃ r : Option (Nat × Value), Instr.findNow (.int qk) (.int qk k) ((L.zipIdx n).map (ent qk qv)) i = some r ∧ r.map Prod.snd = (look L k).map (Value.int qv)
  | [], n, i => ⟨none, rfl, rfl⟩
  | (a, b) :: L, n, i => by
    rw [List.zipIdx_cons, List.map_cons]
    by_cases h : a = k
    · subst h
      exact ⟨some (i, .int qv b), by simp [Instr.findNow, Instr.sameNow, ent], by simp [look]⟩
    · obtain ⟨r, h1, h2⟩ := findNow_ents qk qv k L (n + 1) (i + 1)
      refine ⟨r, ?_, ?_⟩
      · have : (k == a) = false := beq_eq_false_iff_ne.2 (fun e => h e.symm)
        simp only [Instr.findNow, Instr.sameNow, ent, if_true, this]
        exact h1
      · rw [h2]; simp [look, h]

theorem look_snoc {L : List (Int × Int)} {k k' v : Int} (h : look L k = none) : look (L ++ [(k, v)]) k' = if k' = k then some v else look L k' := by
  unfold look at *
  rw [List.find?_append]
  by_cases e : k' = k
  · subst e
    rw [if_pos rfl]
    have hn : L.find? (fun p => p.1 == k') = none := by simpa using h
    rw [hn]
    simp
  · rw [if_neg e]
    have : List.find? (fun p : Int × Int => p.1 == k') [(k, v)] = none := by simp [Ne.symm e]
    rw [this]
    simp

section
variable {P : Program} {w : World} {T kt et : TypeId} {qk qv : IntKind} {b : Nat} {L : List (Int × Int)}
theorem lookup_run (ht : P.underlying T = some (.map kt et)) (hk : P.underlying kt = some (.int qk)) (hz : (zeroValue et).run P w = .ok (.int qv 0) w) (hb : w.heap[b]? = some (mp qk qv L)) (k : Int) :
    (Instr.lookup T (.map (some b)) (.int qk k) true).run P w = .ok (.tuple #[.int qv ((look L k).getD 0), .bool (look L k).isSome]) w := by
  obtain ⟨r, h1, h2⟩ := findNow_ents qk qv k L 0 0
  have hf := Go.MapKept.run_findKey (P := P) (w := w) hk (k := .int qk k) (l := (ents qk qv L).toList) (by simpa [ents] using h1)
  have hc : (Instr.checkKey (ents qk qv L).isEmpty 10000 kt (.int qk k)).run P w = .ok () w := Go.MapKept.run_checkKey (P := P) (w := w) hk (k := .int qk k) rfl (ents qk qv L).isEmpty 9999
  have hg := Go.MapKept.run_getObj_map (P := P) (w := w) (r := b) (es := ents qk qv L) (clock := L.length) hb
  cases r with
  | none =>
    have hl : look L k = none := by cases hl : look L k <;> simp [hl] at h2 ⊢
    simp [Instr.lookup, run_underlying ht, Result.andThen, hg, hf, hc, hz, hl]
  | some r =>
    obtain ⟨j, u⟩ := r
    obtain ⟨v, hl, hv⟩ : ∃ v, look L k = some v ∧ u = .int qv v := by
      cases hl : look L k with
      | none => simp [hl] at h2
      | some v => exact ⟨v, rfl, by simpa [hl] using h2⟩
    subst hv
    simp [Instr.lookup, run_underlying ht, Result.andThen, hg, hf, hc, hl]
theorem lookup_run1 (ht : P.underlying T = some (.map kt et)) (hk : P.underlying kt = some (.int qk)) (hz : (zeroValue et).run P w = .ok (.int qv 0) w) (hb : w.heap[b]? = some (mp qk qv L)) (k : Int) :
    (Instr.lookup T (.map (some b)) (.int qk k) false).run P w = .ok (.int qv ((look L k).getD 0)) w := by
  obtain ⟨r, h1, h2⟩ := findNow_ents qk qv k L 0 0
  have hf := Go.MapKept.run_findKey (P := P) (w := w) hk (k := .int qk k) (l := (ents qk qv L).toList) (by simpa [ents] using h1)
  have hc : (Instr.checkKey (ents qk qv L).isEmpty 10000 kt (.int qk k)).run P w = .ok () w := Go.MapKept.run_checkKey (P := P) (w := w) hk (k := .int qk k) rfl (ents qk qv L).isEmpty 9999
  have hg := Go.MapKept.run_getObj_map (P := P) (w := w) (r := b) (es := ents qk qv L) (clock := L.length) hb
  cases r with
  | none =>
    have hl : look L k = none := by cases hl : look L k <;> simp [hl] at h2 ⊢
    simp [Instr.lookup, run_underlying ht, Result.andThen, hg, hf, hc, hz, hl]
  | some r =>
    obtain ⟨j, u⟩ := r
    obtain ⟨v, hl, hv⟩ : ∃ v, look L k = some v ∧ u = .int qv v := by
      cases hl : look L k with
      | none => simp [hl] at h2
      | some v => exact ⟨v, rfl, by simpa [hl] using h2⟩
    subst hv
    simp [Instr.lookup, run_underlying ht, Result.andThen, hg, hf, hc, hl]
theorem update_run (ht : P.underlying T = some (.map kt et)) (hk : P.underlying kt = some (.int qk)) (hb : w.heap[b]? = some (mp qk qv L)) (k v : Int) (hl : look L k = none) :
    (Instr.mapUpdate T (.map (some b)) (.int qk k) (.int qv v)).run P w = .ok () (w.putObj b (mp qk qv (L ++ [(k, v)]))) := by
  obtain ⟨r, h1, h2⟩ := findNow_ents qk qv k L 0 0
  have hf := Go.MapKept.run_findKey (P := P) (w := w) hk (k := .int qk k) (l := (ents qk qv L).toList) (by simpa [ents] using h1)
  have hc : (Instr.checkKey false 10000 kt (.int qk k)).run P w = .ok () w := Go.MapKept.run_checkKey (P := P) (w := w) hk (k := .int qk k) rfl false 9999
  have hg := Go.MapKept.run_getObj_map (P := P) (w := w) (r := b) (es := ents qk qv L) (clock := L.length) hb
  have hs := Go.MapKept.run_setObj_map (P := P) (w := w) (r := b) (es := ents qk qv L) (clock := L.length) (mp qk qv (L ++ [(k, v)])) hb
  have hr : r = none := by
    cases r with
    | none => rfl
    | some r => simp [hl] at h2
  subst hr
  have e : (ents qk qv L).push (ent qk qv ((k, v), L.length)) = ents qk qv (L ++ [(k, v)]) := by
    unfold ents
    rw [List.zipIdx_append, List.map_append]
    simp
  have e2 : Obj.map ((ents qk qv L).push ⟨.int qk k, .int qv v, L.length⟩) (L.length + 1) = mp qk qv (L ++ [(k, v)]) := by
    unfold mp
    rw [← e, List.length_append]
    rfl
  simp [Instr.mapUpdate, run_underlying ht, Result.andThen, hg, hf, hc, e2, hs]
  rfl
theorem len_run (ht : P.underlying T = some (.map kt et)) (hb : w.heap[b]? = some (mp qk qv L)) (ty : TypeId) : (Builtin.len_ #[T] ty #[.map (some b)]).run P w = .ok (.int .i64 (L.length : Int)) w := by
  have hg := Go.MapKept.run_getObj_map (P := P) (w := w) (r := b) (es := ents qk qv L) (clock := L.length) hb
  have hs : (ents qk qv L).size = L.length := by simp [ents]
  simp [Builtin.len_, run_underlying ht, Result.andThen, hg, hs, goInt]
theorem put_same (hb : w.heap[b]? = some (mp qk qv L)) (o : Obj) : (w.putObj b o).heap[b]? = some o := World.putObj_heap_same (Array.getElem?_eq_some_iff.1 hb).1
theorem put_below {B : Nat} {w0 : World} (h : Below B w0 w) (hB : B ≤ b) (o : Obj) : Below B w0 (w.putObj b o) :=
  ⟨h.os, h.tape, h.output, by simpa [World.putObj] using h.size, fun i hi => (World.putObj_heap_other (by omega)).trans (h.block i hi)⟩
theorem put_R {α : Type} {d : Kd α} {e base : Nat} {ok : Nat → Prop} {v : Value} {xs : List α} (hb : w.heap[b]? = some (mp qk qv L)) (h : Kd.R d e w base ok v xs) (o : Obj) : Kd.R d e (w.putObj b o) base ok v xs := by
  refine Kd.R_mono (Kd.R_move (Kd.R_bound h) (fun k hk => World.putObj_heap_other (fun e => ?_))) (fun _ hk => hk.1)
  subst e
  obtain ⟨_, _, _, q, _, cells, hc⟩ := hk
  rw [hb] at hc
  cases hc
end
end Go.Proofs.Ytpkmmbicpijgpaa.Hand
