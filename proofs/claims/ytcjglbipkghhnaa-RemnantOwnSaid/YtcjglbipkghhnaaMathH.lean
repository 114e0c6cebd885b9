-- Plain lemmas: boxes numbered in the order of their first uses; loads as sums.
import Derived.Test.YtcjglbipkghhnaaHandO
import Derived.Test.YtcjglbipkghhnaaHandU
namespace Go.Proofs.Ytcjglbipkghhnaa.Math
open Go.RowKit Go.Proofs.YtcjglbipkghhnaaW.PrintWords Go.Proofs.YtcjglbipkghhnaaW.PrintLast Go.Proofs.YtcjglbipkghhnaaW.PrintMore
open Go.Proofs.Ytcjglbipkghhnaa.Hand
set_option linter.unusedVariables false

/-- The names given so far: none for -1, then the boxes in the order of their first uses. -/
def namesFrom : Nat → List Int → List (Int × Int)
  | _, [] => []
  | n, k :: K => (k, (n : Int)) :: namesFrom (n + 1) K
def names (K : List Int) : List (Int × Int) := (-1, -1) :: namesFrom 0 K
def code (K : List Int) (b : Int) : Int := if b = -1 then -1 else (K.idxOf b : Int)
theorem namesFrom_length : ∀ (n : Nat) (K : List Int), (namesFrom n K).length = K.length
  | _, [] => rfl
  | n, k :: K => by rw [namesFrom, List.length_cons, List.length_cons, namesFrom_length]
theorem namesFrom_snoc : ∀ (n : Nat) (K : List Int) (b : Int), namesFrom n (K ++ [b]) = namesFrom n K ++ [(b, ((n + K.length : Nat) : Int))]
  | n, [], b => by simp [namesFrom]
  | n, k :: K, b => by
    rw [List.cons_append, namesFrom, namesFrom, namesFrom_snoc (n + 1) K b, List.cons_append, List.length_cons, show n + 1 + K.length = n + (K.length + 1) by omega]
theorem look_from : ∀ (n : Nat) (K : List Int) (b : Int), Hand.look (namesFrom n K) b = if b ∈ K then some ((n + K.idxOf b : Nat) : Int) else none
  | n, [], b => by simp [namesFrom, Hand.look]
  | n, k :: K, b => by
    have ih : ((namesFrom (n + 1) K).find? fun p => p.1 == b).map (·.2) = _ := look_from (n + 1) K b
    show ((namesFrom n (k :: K)).find? fun p => p.1 == b).map (·.2) = _
    rw [namesFrom, List.find?_cons]
    by_cases h : k = b
    · subst h
      simp
    · have hb : (k == b) = false := beq_eq_false_iff_ne.mpr h
      simp only [hb]
      rw [ih]
      have h2 : b ∈ k :: K ↔ b ∈ K := by simp [Ne.symm h]
      by_cases hm : b ∈ K
      · rw [if_pos hm, if_pos (h2.mpr hm), List.idxOf_cons, hb]
        simp only [cond_false]
        congr 2; omega
      · rw [if_neg hm, if_neg (fun k => hm (h2.mp k))]
theorem look_names (K : List Int) (hK : (-1 : Int) ∉ K) (b : Int) : Hand.look (names K) b = if b = -1 ∨ b ∈ K then some (code K b) else none := by
  unfold names
  show (((-1, -1) :: namesFrom 0 K).find? fun p => p.1 == b).map (·.2) = _
  rw [List.find?_cons]
  by_cases h : b = -1
  · subst h
    simp [code]
  · have hb : ((-1 : Int) == b) = false := beq_eq_false_iff_ne.mpr (Ne.symm h)
    have hl : ((namesFrom 0 K).find? fun p => p.1 == b).map (·.2) = _ := look_from 0 K b
    simp only [hb]
    rw [hl]
    by_cases hm : b ∈ K
    · rw [if_pos hm, if_pos (.inr hm), code, if_neg h, Nat.zero_add]
    · rw [if_neg hm, if_neg (by rintro (k | k); exact h k; exact hm k)]
theorem names_snoc (K : List Int) (b : Int) : names (K ++ [b]) = names K ++ [(b, (((names K).length : Nat) : Int) - 1)] := by
  unfold names
  rw [namesFrom_snoc, List.length_cons, namesFrom_length, List.cons_append, Nat.zero_add]
  congr 3
  push_cast
  congr 1
  omega
theorem code_append {K K' : List Int} {b : Int} (h : b = -1 ∨ b ∈ K) : code (K ++ K') b = code K b := by
  unfold code
  by_cases hb : b = -1
  · rw [if_pos hb, if_pos hb]
  · rw [if_neg hb, if_neg hb, List.idxOf_append, if_pos (h.resolve_left hb)]

/-- The boxes, numbered anew: each by its place among those in use. -/
theorem nm_map : ∀ (t K : List Int), K.Nodup → (-1 : Int) ∉ K → ∃ K', (K ++ K').Nodup ∧ (-1 : Int) ∉ K ++ K' ∧ (∀ b ∈ t, b = -1 ∨ b ∈ K ++ K') ∧ (∀ k ∈ K', k ∈ t) ∧ nmL 1 (names K) t = t.map (code (K ++ K')) ∧ boxF (-1) (K.length : Int) (t.map (code (K ++ K'))) = (((K ++ K').length : Int), true)
  | [], K, hn, hm => ⟨[], by simpa using hn, by simpa using hm, by simp, by simp, rfl, by simp [boxF]⟩
  | b :: t, K, hn, hm => by
    by_cases hb : b = -1 ∨ b ∈ K
    · obtain ⟨K', h1, h2, h3, h4, h5, h6⟩ := nm_map t K hn hm
      refine ⟨K', h1, h2, fun c hc => ?_, fun k hk => List.mem_cons_of_mem _ (h4 k hk), ?_, ?_⟩
      · rcases List.mem_cons.1 hc with rfl | hc
        · exact hb.imp id (List.mem_append_left _)
        · exact h3 c hc
      · have hs : nmStep (names K) b 1 = names K := by
          unfold nmStep
          rw [look_names K hm b, if_pos hb]
          rfl
        rw [nmL, hs, look_names K hm b, if_pos hb, h5, List.map_cons, code_append hb]
        rfl
      · rw [List.map_cons, code_append hb, boxF]
        have hc : -1 ≤ code K b ∧ code K b ≤ (K.length : Int) ∧ mx (K.length : Int) (code K b + 1) = (K.length : Int) := by
          unfold code mx
          by_cases hb1 : b = -1
          · rw [if_pos hb1]; refine ⟨by omega, by omega, ?_⟩; rw [if_neg (by omega)]
          · have := List.idxOf_lt_length_iff.2 (hb.resolve_left hb1)
            rw [if_neg hb1]; refine ⟨by omega, by omega, ?_⟩; rw [if_neg (by omega)]
        rw [if_pos ⟨hc.1, hc.2.1⟩, hc.2.2]
        exact h6
    · have hb1 : b ≠ -1 := fun e => hb (.inl e)
      have hbK : b ∉ K := fun e => hb (.inr e)
      have hn2 : (K ++ [b]).Nodup := by
        rw [List.nodup_append]
        refine ⟨hn, by simp, fun x hx y hy => ?_⟩
        rw [List.mem_singleton.1 hy]
        exact fun e => hbK (e ▸ hx)
      have hm2 : (-1 : Int) ∉ K ++ [b] := by
        intro e
        rcases List.mem_append.1 e with e | e
        · exact hm e
        · exact hb1 (List.mem_singleton.1 e).symm
      obtain ⟨K', h1, h2, h3, h4, h5, h6⟩ := nm_map t (K ++ [b]) hn2 hm2
      have ha : K ++ [b] ++ K' = K ++ (b :: K') := by simp
      rw [ha] at h1 h2 h3 h5 h6
      have hcb : code (K ++ b :: K') b = (K.length : Int) := by
        rw [← ha, code_append (.inr (List.mem_append_right _ (List.mem_singleton.2 rfl))), code, if_neg hb1, List.idxOf_append, if_neg hbK]
        simp
      refine ⟨b :: K', h1, h2, fun c hc => ?_, fun k hk => ?_, ?_, ?_⟩
      · rcases List.mem_cons.1 hc with rfl | hc
        · exact .inr (List.mem_append_right _ List.mem_cons_self)
        · exact h3 c hc
      · rcases List.mem_cons.1 hk with rfl | hk
        · exact List.mem_cons_self
        · exact List.mem_cons_of_mem _ (h4 k hk)
      · have hs : nmStep (names K) b 1 = names (K ++ [b]) := by
          unfold nmStep
          rw [look_names K hm b, if_neg hb, names_snoc]
          rfl
        rw [nmL, hs, look_names _ hm2 b, if_pos (.inr (List.mem_append_right _ (List.mem_singleton.2 rfl))), h5, List.map_cons, hcb]
        congr 1
        show code (K ++ [b]) b = _
        rw [code, if_neg hb1, List.idxOf_append, if_neg hbK]
        simp
      · rw [List.map_cons, hcb, boxF, if_pos ⟨by omega, Int.le_refl _⟩]
        have hm3 : mx (K.length : Int) ((K.length : Int) + 1) = ((K ++ [b]).length : Int) := by
          unfold mx; rw [if_pos (by omega)]; simp
        rw [hm3]
        exact h6
/-- What `used` makes of boxes. -/
theorem used_map (o : List Int) : ∃ K : List Int, K.Nodup ∧ (-1 : Int) ∉ K ∧ (∀ b ∈ o, b = -1 ∨ b ∈ K) ∧ (∀ k ∈ K, k ∈ o) ∧ usedF o = o.map (code K) ∧ boxF (-1) 0 (o.map (code K)) = ((K.length : Int), true) := by
  obtain ⟨K, h1, h2, h3, h4, h5, h6⟩ := nm_map o [] List.nodup_nil (by simp)
  exact ⟨K, by simpa using h1, by simpa using h2, by simpa using h3, h4, by simpa [usedF, names, namesFrom] using h5, by simpa using h6⟩

/-! ### Loads as sums -/
/-- The sum of the pieces that are in a box. -/
def inBox (ps o : List Int) (b : Int) (r : List Nat) : Int := (r.map fun (i : Nat) => if rd o (i : Int) = b then rd ps (i : Int) else 0).sum
theorem inBox_cons (ps o : List Int) (b : Int) (i : Nat) (r : List Nat) : inBox ps o b (i :: r) = (if rd o (i : Int) = b then rd ps (i : Int) else 0) + inBox ps o b r := by simp [inBox]
theorem load_fold (ps o : List Int) (hps : ∀ i : Nat, 0 ≤ rd ps (i : Int) ∧ rd ps (i : Int) ≤ 100) (v : Nat) : ∀ (r : List Nat) (x : List Int), v < x.length → (∀ c, 0 ≤ x.getD c 0 ∧ x.getD c 0 + 100 * r.length ≤ 1000000) →
    (r.foldl (loadStep ps o) x).getD v 0 = x.getD v 0 + inBox ps o (v : Int) r
  | [], x, _, _ => by simp [inBox]
  | i :: r, x, hv, hx => by
    have hp := hps i
    have hxi : ∀ c, 0 ≤ (loadStep ps o x i).getD c 0 ∧ (loadStep ps o x i).getD c 0 + 100 * r.length ≤ 1000000 := by
      intro c
      have h1 := hx c
      have h2 := hx (rd o (i : Int)).toNat
      rw [List.length_cons] at h1 h2
      push_cast at h1 h2
      unfold loadStep
      split
      · rw [List.getD_eq_getElem?_getD, List.getElem?_set]
        split
        · split
          · rw [Option.getD_some, wrap_in (by omega) (by omega)]; omega
          · rw [Option.getD_none]; omega
        · rw [← List.getD_eq_getElem?_getD]; omega
      · omega
    rw [List.foldl_cons, load_fold ps o hps v r _ (by rw [loadStep_length]; exact hv) hxi, inBox_cons]
    have h2 := hx (rd o (i : Int)).toNat
    rw [List.length_cons] at h2
    push_cast at h2
    unfold loadStep
    by_cases h0 : 0 ≤ rd o (i : Int)
    · rw [if_pos h0, List.getD_eq_getElem?_getD, List.getElem?_set]
      by_cases he : (rd o (i : Int)).toNat = v
      · rw [if_pos he, if_pos (by omega), if_pos (by omega), Option.getD_some, he, wrap_in (by rw [← he]; omega) (by rw [← he]; omega)]
        omega
      · rw [if_neg he, if_neg (by omega), ← List.getD_eq_getElem?_getD]
        omega
    · rw [if_neg h0, if_neg (by omega)]
      omega
theorem load_at (ps o : List Int) (hps : ∀ i : Nat, 0 ≤ rd ps (i : Int) ∧ rd ps (i : Int) ≤ 100) (hl : o.length ≤ 12) {v : Nat} (hv : v < 12) : (loadF ps o).getD v 0 = inBox ps o (v : Int) (List.range o.length) := by
  have hz : ∀ c, (List.replicate 12 (0 : Int)).getD c 0 = 0 := fun c => by rw [List.getD_eq_getElem?_getD, List.getElem?_replicate]; split <;> rfl
  rw [loadF, load_fold ps o hps v _ _ (by simp; omega) (fun c => by rw [hz c, List.length_range]; omega), hz v, Int.zero_add]

end Go.Proofs.Ytcjglbipkghhnaa.Math
