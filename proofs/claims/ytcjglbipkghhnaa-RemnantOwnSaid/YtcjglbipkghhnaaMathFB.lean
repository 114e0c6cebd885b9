-- Plain lemmas: what fit does: the loads of its boxes, all of them used; the packing of falling, and its number of boxes.
import Derived.Test.YtcjglbipkghhnaaMathFS
import Derived.Test.YtcjglbipkghhnaaMathH
import Derived.Test.YtcjglbipkghhnaaMathPM
namespace Go.Proofs.Ytcjglbipkghhnaa.Math
open Go.RowKit Go.Proofs.YtcjglbipkghhnaaW.PrintWords Go.Proofs.YtcjglbipkghhnaaW.PrintLast Go.Proofs.YtcjglbipkghhnaaW.PrintMore
open Go.Proofs.Ytcjglbipkghhnaa.Hand hiding wrap_in look
set_option linter.unusedVariables false


theorem scan_none (x : List Int) (room sz : Int) (p : Int → Int → Bool) : ∀ n, scan x room sz p n = -1 → ∀ c, c < n → room < x.getD c 0 + sz
  | 0, _, c, hc => by omega
  | n + 1, h, c, hc => by
    rw [scan_succ] at h
    have hi := scan_inv x room sz p n
    unfold scanStep at h
    by_cases hs : x.getD n 0 + sz ≤ room ∧ (scan x room sz p n < 0 ∨ p (x.getD n 0) (x.getD (scan x room sz p n).toNat 0) = true)
    · rw [if_pos hs] at h; omega
    · rw [if_neg hs] at h
      by_cases e : c = n
      · subst e
        apply Classical.byContradiction
        intro k
        exact hs ⟨by omega, .inl (by omega)⟩
      · exact scan_none x room sz p n h c (by omega)
theorem rd_setI (x : List Int) (i : Nat) (v j : Int) (hj : 0 ≤ j) (hi : i < x.length) : rd (x.set i v) j = if j = (i : Int) then v else rd x j := by
  obtain ⟨m, rfl⟩ := Int.eq_ofNat_of_zero_le hj
  unfold rd
  rw [Int.toNat_natCast, List.getD_eq_getElem?_getD, List.getD_eq_getElem?_getD, List.getElem?_set]
  by_cases h : i = m
  · subst h; simp [hi]
  · rw [if_neg h, if_neg (by omega)]
/-- What is known after the pieces A are put. -/
structure FI (room : Int) (ps A : List Int) (st : List Int × List Int × Nat) : Prop where
  ok : FitOK room ps.length A.length st
  ins : ∀ i ∈ A, 0 ≤ rd st.1 i ∧ rd st.1 i < (st.2.2 : Int)
  all : ∀ b : Nat, b < st.2.2 → ∃ i ∈ A, rd st.1 i = (b : Int)
  load : ∀ b : Nat, b < 12 → st.2.1.getD b 0 = (A.map fun i => if rd st.1 i = (b : Int) then rd ps i else 0).sum
  two : ∀ b c : Nat, b < c → c < st.2.2 → room < st.2.1.getD b 0 + st.2.1.getD c 0
theorem FI.start (room : Int) (ps : List Int) (h0 : 0 ≤ room) : FI room ps [] (List.replicate ps.length 0, List.replicate 12 0, 0) :=
  ⟨fitOK_start room ps.length h0, fun i h => (by cases h), fun b h => (by exact absurd h (Nat.not_lt_zero b)), fun b _ => repl_getD 12 b, fun b c _ h => (by exact absurd h (Nat.not_lt_zero c))⟩
theorem FI.put {room : Int} {ps A out x : List Int} {n b n' i : Nat} (h : FI room ps A (out, x, n)) (hA : ∀ j ∈ A, 0 ≤ j) (hiA : (i : Int) ∉ A) (hi : i < ps.length) (hs0 : 0 ≤ rd ps (i : Int)) (hb : b < 12)
    (hbn : (b < n ∧ n' = n) ∨ (b = n ∧ n' = n + 1)) (hle : x.getD b 0 + rd ps (i : Int) ≤ room) (hnew : b = n → ∀ c, c < n → room < x.getD c 0 + rd ps (i : Int)) :
    FI room ps (A ++ [(i : Int)]) (out.set i (b : Int), x.set b (x.getD b 0 + rd ps (i : Int)), n') := by
  obtain ⟨h1, h2, h3, h4, h5⟩ := h
  have ho : out.length = ps.length := h1.1
  have hx : x.length = 12 := h1.2.1
  have hn : n ≤ A.length := h1.2.2.1
  have hnn : ∀ c, c < 12 → 0 ≤ x.getD c 0 := fun c hc => (h1.2.2.2.1 c hc).1
  have hz : ∀ c, n ≤ c → c < 12 → x.getD c 0 = 0 := fun c hc hc' => h1.2.2.2.2 c hc hc'
  dsimp only at h2 h3 h4 h5
  have hne : ∀ j ∈ A, rd (out.set i (b : Int)) j = rd out j := fun j hj => by
    rw [rd_setI out i _ j (hA j hj) (by omega), if_neg (fun e : j = (i : Int) => hiA (by rw [← e]; exact hj))]
  have hei : rd (out.set i (b : Int)) (i : Int) = (b : Int) := by rw [rd_setI out i _ _ (by omega) (by omega), if_pos rfl]
  refine ⟨?_, fun j hj => ?_, fun c hc => ?_, fun c hc => ?_, fun c d hcd hd => ?_⟩
  · rw [List.length_append, List.length_singleton]
    exact fitOK_put h1 hb (by omega) (by omega) (by omega) hs0 hle
  · show 0 ≤ rd (out.set i (b : Int)) j ∧ rd (out.set i (b : Int)) j < (n' : Int)
    rcases List.mem_append.1 hj with hj | hj
    · rw [hne j hj]; have := h2 j hj; omega
    · rw [List.mem_singleton.1 hj, hei]; omega
  · have hc' : c < n' := hc
    show ∃ j ∈ A ++ [(i : Int)], rd (out.set i (b : Int)) j = (c : Int)
    by_cases e : c = b
    · exact ⟨(i : Int), by simp, by rw [hei, e]⟩
    · obtain ⟨j, hj, hj2⟩ := h3 c (by omega)
      exact ⟨j, List.mem_append_left _ hj, by rw [hne j hj, hj2]⟩
  · show (x.set b (x.getD b 0 + rd ps (i : Int))).getD c 0 = ((A ++ [(i : Int)]).map fun j => if rd (out.set i (b : Int)) j = (c : Int) then rd ps j else 0).sum
    have e : A.map (fun j => if rd (out.set i (b : Int)) j = (c : Int) then rd ps j else 0) = A.map (fun j => if rd out j = (c : Int) then rd ps j else 0) := List.map_congr_left fun j hj => by rw [hne j hj]
    rw [List.map_append, List.sum_append, e, ← h4 c hc, List.map_singleton, List.sum_singleton, hei, getD_set']
    by_cases k : b = c
    · subst k; rw [if_pos ⟨rfl, by omega⟩, if_pos rfl]
    · rw [if_neg (fun k' => k k'.1), if_neg (by omega), Int.add_zero]
  · have hd' : d < n' := hd
    show room < (x.set b (x.getD b 0 + rd ps (i : Int))).getD c 0 + (x.set b (x.getD b 0 + rd ps (i : Int))).getD d 0
    rw [getD_set', getD_set']
    by_cases hdn : d < n
    · have := h5 c d hcd hdn
      split <;> split <;> rename_i k1 k2
      · omega
      · rw [k1.1]; omega
      · rw [k2.1]; omega
      · omega
    · have hbd : b = n ∧ d = n := by omega
      have hw := hnew hbd.1 c (by omega)
      have hzd := hz d (by omega) (by omega)
      rw [if_neg (by omega), if_pos ⟨by omega, by omega⟩, hbd.1, ← hbd.2, hzd]
      omega
theorem FI.step {room : Int} {ps A : List Int} {p : Int → Int → Bool} {st : List Int × List Int × Nat} {i : Nat} (h : FI room ps A st) (hA : ∀ j ∈ A, 0 ≤ j) (hiA : (i : Int) ∉ A) (hi : i < ps.length) (hl : A.length < 12) (hs : 0 ≤ rd ps (i : Int) ∧ rd ps (i : Int) ≤ room) :
    FI room ps (A ++ [(i : Int)]) (fitStep room ps p st (i : Int)) := by
  obtain ⟨out, x, n⟩ := st
  have hn : n ≤ A.length := h.ok.2.2.1
  rcases scan_inv x room (rd ps (i : Int)) p n with hc | ⟨hc1, hc2, hc3⟩
  · rw [fitStep_new hc, Int.toNat_natCast]
    have hz : x.getD n 0 = 0 := h.ok.2.2.2.2 n (Nat.le_refl _) (by omega)
    exact h.put hA hiA hi hs.1 (by omega) (.inr ⟨rfl, rfl⟩) (by rw [hz]; omega) fun _ => scan_none x room _ p n hc
  · obtain ⟨b, hb⟩ := Int.eq_ofNat_of_zero_le hc1
    rw [hb, Int.toNat_natCast] at hc3
    rw [fitStep_old hb, Int.toNat_natCast]
    exact h.put hA hiA hi hs.1 (by omega) (.inl ⟨by omega, rfl⟩) hc3 fun e => by omega
theorem FI.fold {room : Int} {ps : List Int} (p : Int → Int → Bool) (hs : ∀ i : Nat, i < ps.length → 0 ≤ rd ps (i : Int) ∧ rd ps (i : Int) ≤ room) (h12 : ps.length ≤ 12) : ∀ (R A : List Int) (st : List Int × List Int × Nat), FI room ps A st → (A ++ R).Nodup → (∀ j ∈ A ++ R, 0 ≤ j ∧ j < (ps.length : Int)) → (A ++ R).length ≤ ps.length → FI room ps (A ++ R) (R.foldl (fitStep room ps p) st)
  | [], A, st, h, _, _, _ => by rw [List.append_nil]; exact h
  | i :: R, A, st, h, hn, hr, hl => by
    obtain ⟨m, hm⟩ := Int.eq_ofNat_of_zero_le (hr i (by simp)).1
    have hi := (hr i (by simp)).2
    subst hm
    have hd := List.nodup_append.1 hn
    have e : A ++ (m : Int) :: R = (A ++ [(m : Int)]) ++ R := by simp
    rw [List.length_append, List.length_cons] at hl
    rw [e, List.foldl_cons]
    refine FI.fold p hs h12 R (A ++ [(m : Int)]) _ (h.step (fun j hj => (hr j (List.mem_append_left _ hj)).1) (fun k => hd.2.2 _ k _ List.mem_cons_self rfl) (by omega) (by omega) (hs m (by omega))) (by rw [← e]; exact hn) (by rw [← e]; exact hr) (by rw [← e, List.length_append, List.length_cons]; exact hl)

/-! ### The end -/
theorem places_memF {n : Nat} {j : Int} : j ∈ places n ↔ 0 ≤ j ∧ j < (n : Int) := by
  unfold places
  rw [List.mem_map]
  constructor
  · rintro ⟨i, hi, rfl⟩
    have := List.mem_range.1 hi
    omega
  · rintro ⟨h0, h1⟩
    exact ⟨j.toNat, List.mem_range.2 (by omega), by omega⟩
theorem places_nodup (n : Nat) : (places n).Nodup := by
  unfold places
  rw [List.nodup_iff_pairwise_ne, List.pairwise_map]
  exact List.nodup_range.imp fun h => by omega
theorem placesLen (n : Nat) : (places n).length = n := by unfold places; simp
theorem fit_end {room : Int} {ps : List Int} (p : Int → Int → Bool) (h0 : 0 ≤ room) (hs : ∀ i : Nat, i < ps.length → 0 ≤ rd ps (i : Int) ∧ rd ps (i : Int) ≤ room) (h12 : ps.length ≤ 12) {O : List Int} (hO : O.Perm (places ps.length)) :
    FI room ps O (O.foldl (fitStep room ps p) (List.replicate ps.length 0, List.replicate 12 0, 0)) := by
  have h := FI.fold p hs h12 O [] _ (FI.start room ps h0) (by rw [List.nil_append]; exact hO.symm.nodup (places_nodup _)) (fun j hj => places_memF.1 (hO.mem_iff.1 hj)) (by rw [List.nil_append, hO.length_eq, placesLen]; exact Nat.le_refl _)
  rw [List.nil_append] at h
  exact h
/-- What a box holds, by the places. -/
theorem FI.sum {room : Int} {ps O : List Int} {st : List Int × List Int × Nat} (h : FI room ps O st) (hO : O.Perm (places ps.length)) {b : Nat} (hb : b < 12) : st.2.1.getD b 0 = inBox ps st.1 (b : Int) (List.range ps.length) := by
  rw [h.load b hb, perm_sum (hO.map _)]
  unfold places inBox
  rw [List.map_map]
  rfl

/-! ### Renamed -/
theorem rn_map : ∀ (F K : List Int), K.Nodup → ∃ K', (K ++ K').Nodup ∧ (∀ b ∈ F, b ∈ K ++ K') ∧ (∀ k ∈ K', k ∈ F) ∧ nmL 0 (namesFrom 0 K) F = F.map (fun b => ((K ++ K').idxOf b : Int)) ∧ boxF 0 (K.length : Int) (F.map fun b => ((K ++ K').idxOf b : Int)) = (((K ++ K').length : Int), true)
  | [], K, hK => ⟨[], by simpa using hK, fun b h => (by cases h), fun b h => (by cases h), rfl, by rw [List.map_nil, boxF, List.append_nil]⟩
  | b :: F, K, hK => by
    have hl := look_from 0 K b
    by_cases h : b ∈ K
    · rw [if_pos h] at hl
      have e : nmStep (namesFrom 0 K) b 0 = namesFrom 0 K := by unfold nmStep; rw [hl]; rfl
      obtain ⟨K', k1, k2, k3, k4, k5⟩ := rn_map F K hK
      have hi : (K ++ K').idxOf b = K.idxOf b := by rw [List.idxOf_append, if_pos h]
      have hlt := List.idxOf_lt_length_of_mem h
      refine ⟨K', k1, fun c hc => ?_, fun c hc => List.mem_cons_of_mem _ (k3 c hc), ?_, ?_⟩
      · rcases List.mem_cons.1 hc with rfl | hc
        · exact List.mem_append_left _ h
        · exact k2 c hc
      · rw [nmL, e, hl, k4, List.map_cons, hi, Nat.zero_add]; rfl
      · have hm : mx (K.length : Int) ((K.idxOf b : Int) + 1) = (K.length : Int) := by unfold mx; split <;> omega
        rw [List.map_cons, boxF, hi, if_pos (by omega), hm, k5]
    · rw [if_neg h] at hl
      have e : nmStep (namesFrom 0 K) b 0 = namesFrom 0 (K ++ [b]) := by
        unfold nmStep
        rw [hl, namesFrom_snoc, namesFrom_length, Nat.zero_add, Int.sub_zero]
        rfl
      have h2 := look_from 0 (K ++ [b]) b
      rw [if_pos (by simp), List.idxOf_append, if_neg h, List.idxOf_cons_self, Nat.zero_add, Nat.zero_add] at h2
      obtain ⟨K', k1, k2, k3, k4, k5⟩ := rn_map F (K ++ [b]) (by
        rw [List.nodup_append]
        exact ⟨hK, by simp, fun a ha c hc e => h (by rw [List.mem_singleton.1 hc] at e; exact e ▸ ha)⟩)
      have ea : K ++ [b] ++ K' = K ++ b :: K' := by simp
      rw [ea] at k1 k2 k4 k5
      have hi : (K ++ b :: K').idxOf b = K.length := by rw [List.idxOf_append, if_neg h, List.idxOf_cons_self, Nat.zero_add]
      refine ⟨b :: K', k1, fun c hc => ?_, fun c hc => ?_, ?_, ?_⟩
      · rcases List.mem_cons.1 hc with rfl | hc
        · simp
        · exact k2 c hc
      · rcases List.mem_cons.1 hc with rfl | hc
        · exact List.mem_cons_self
        · exact List.mem_cons_of_mem _ (k3 c hc)
      · rw [nmL, e, h2, k4, List.map_cons, hi]; rfl
      · have hm : mx (K.length : Int) ((K.length : Int) + 1) = ((K ++ [b]).length : Int) := by rw [List.length_append, List.length_singleton]; unfold mx; split <;> omega
        rw [List.map_cons, boxF, hi, if_pos (by omega), hm, k5]
/-- Boxes 0 to N - 1, all of them used, with new numbers. -/
theorem ren_ok {F : List Int} {N : Nat} (hin : ∀ b ∈ F, 0 ≤ b ∧ b < (N : Int)) (hall : ∀ b : Nat, b < N → (b : Int) ∈ F) : ∃ K : List Int, K.Nodup ∧ K.length = N ∧ (∀ b ∈ F, b ∈ K) ∧ (∀ k ∈ K, 0 ≤ k ∧ k < (N : Int)) ∧ renamedF F = F.map (fun b => (K.idxOf b : Int)) ∧ boxF 0 0 (renamedF F) = ((N : Int), true) := by
  obtain ⟨K, k1, k2, k3, k4, k5⟩ := rn_map F [] List.nodup_nil
  rw [List.nil_append] at k1 k2 k4 k5
  have e : renamedF F = F.map (fun b => (K.idxOf b : Int)) := k4
  have hK : K.Perm (places N) := (List.perm_ext_iff_of_nodup k1 (places_nodup N)).2 fun a => by
    rw [places_memF]
    constructor
    · intro h; exact hin a (k3 a h)
    · rintro ⟨h0, h1⟩
      obtain ⟨m, rfl⟩ := Int.eq_ofNat_of_zero_le h0
      exact k2 _ (hall m (by omega))
  have hl : K.length = N := by rw [hK.length_eq, placesLen]
  refine ⟨K, k1, hl, k2, fun k hk => hin k (k3 k hk), e, ?_⟩
  rw [e, ← hl]
  exact k5
theorem ren_load {ps F K : List Int} {N : Nat} (hps : ∀ i : Nat, 0 ≤ rd ps (i : Int) ∧ rd ps (i : Int) ≤ 100) (hF : F.length = ps.length) (h12 : F.length ≤ 12) (h1 : K.Nodup) (h2 : K.length = N) (h3 : ∀ b ∈ F, b ∈ K) (h4 : renamedF F = F.map (fun b => (K.idxOf b : Int))) {v : Nat} (hv : v < N) (hN : N ≤ 12) :
    (loadF ps (renamedF F)).getD v 0 = inBox ps F (rd K (v : Int)) (List.range ps.length) := by
  have hlen : (renamedF F).length = F.length := by rw [h4, List.length_map]
  rw [load_at ps _ hps (by omega) (by omega), hlen, hF]
  unfold inBox
  congr 1
  refine List.map_congr_left fun i hi => ?_
  have hi' : i < F.length := by rw [hF]; exact List.mem_range.1 hi
  have e1 : rd (renamedF F) (i : Int) = (K.idxOf (rd F (i : Int)) : Int) := by
    rw [h4]
    simp [rd, List.getD_eq_getElem?_getD, List.getElem?_map, List.getElem?_eq_getElem hi']
  have hm := h3 _ (rd_memR hi')
  have hlt := List.idxOf_lt_length_of_mem hm
  have hg : K[K.idxOf (rd F (i : Int))] = rd F (i : Int) := List.getElem_idxOf hlt
  have hkv : rd K (v : Int) = K[v]'(by omega) := by simp [rd, show v < K.length by omega]
  have heq : (K.idxOf (rd F (i : Int)) : Int) = (v : Int) ↔ rd F (i : Int) = rd K (v : Int) := by
    rw [hkv]
    constructor
    · intro h
      have h' : K.idxOf (rd F (i : Int)) = v := by omega
      rw [← hg]
      congr 1
    · intro h
      rw [← hg] at h
      have := (List.getElem_inj h1).1 h
      omega
  rw [e1]
  by_cases c : rd F (i : Int) = rd K (v : Int)
  · rw [if_pos c, if_pos (heq.2 c)]
  · rw [if_neg c, if_neg fun k => c (heq.1 k)]

/-! ### The sizes in the order of falling -/
theorem ord_perm {l : List Int} {room : Int} {R : Nat} (hR : (R : Int) = room) : ∀ n, (∀ i : Nat, i < n → 1 ≤ rd l (i : Int) ∧ rd l (i : Int) ≤ room) → (ordT l n room R).Perm (places n)
  | 0, _ => by rw [ord_zero]; exact List.Perm.nil
  | n + 1, h => by
    obtain ⟨H, T, h1, h2, _⟩ := ord_snoc l n room R
    have ih := ord_perm hR n fun i hi => h i (by omega)
    have hn := h n (by omega)
    rw [if_pos ⟨by omega, hn.2⟩] at h2
    rw [h1] at ih
    rw [h2, show places (n + 1) = places n ++ [(n : Int)] by simp [places, List.range_succ], List.append_assoc, List.singleton_append]
    exact List.perm_middle.trans ((ih.cons _).trans (List.perm_append_singleton _ _).symm)
theorem bucket_map (l : List Int) (s : Int) : (bucket l l.length s).map (rd l) = l.filter fun x => decide (x = s) := by
  unfold bucket
  have h := List.filter_map (f := rd l) (p := fun x => decide (x = s)) (l := places l.length)
  rw [places_map] at h
  rw [h]
  rfl
theorem filt_perm {l o : List Int} (hp : l.Perm o) (s : Int) : (l.filter fun x => decide (x = s)) = o.filter fun x => decide (x = s) := by
  have h := hp.filter fun x => decide (x = s)
  have e : ∀ l : List Int, (l.filter fun x => decide (x = s)) = List.replicate (l.filter fun x => decide (x = s)).length s := fun l => List.eq_replicate_iff.2 ⟨rfl, fun b hb => of_decide_eq_true (List.mem_filter.1 hb).2⟩
  rw [e l, e o, h.length_eq]
theorem ord_sizes {l o : List Int} (hp : l.Perm o) (room : Int) : ∀ t, (ordT l l.length room t).map (rd l) = (ordT o o.length room t).map (rd o)
  | 0 => rfl
  | t + 1 => by rw [ordT, ordT, List.map_append, List.map_append, ord_sizes hp room t, bucket_map, bucket_map, filt_perm hp]
def fitX (room : Int) (p : Int → Int → Bool) (st : List Int × Nat) (sz : Int) : List Int × Nat :=
  (st.1.set (if scan st.1 room sz p st.2 < 0 then st.2 else (scan st.1 room sz p st.2).toNat) (st.1.getD (if scan st.1 room sz p st.2 < 0 then st.2 else (scan st.1 room sz p st.2).toNat) 0 + sz), if scan st.1 room sz p st.2 < 0 then st.2 + 1 else st.2)
theorem fit_proj (room : Int) (ps : List Int) (p : Int → Int → Bool) : ∀ (O : List Int) (st : List Int × List Int × Nat), (O.foldl (fitStep room ps p) st).2 = (O.map (rd ps)).foldl (fitX room p) st.2
  | [], _ => rfl
  | i :: O, st => by rw [List.foldl_cons, List.map_cons, List.foldl_cons, fit_proj room ps p O]; rfl

/-- What Falling answers. -/
theorem fall_facts {room : Int} {l : List Int} (h1 : 1 ≤ room) (h2 : room ≤ 100) (h12 : l.length ≤ 12) (hall : ∀ x ∈ l, 1 ≤ x ∧ x ≤ room) (hok : pieF room l = true) :
    ∃ (N : Nat) (O : List Int) (st : List Int × List Int × Nat), O.Perm (places l.length) ∧ O = ordT l l.length room room.toNat ∧ FI room l O st ∧ st = O.foldl (fitStep room l fun _ _ => false) (List.replicate l.length 0, List.replicate 12 0, 0) ∧ N = st.2.2 ∧ N ≤ l.length ∧ fallF room l = (renamedF st.1, 0) ∧
      (renamedF st.1).length = l.length ∧ boxF 0 0 (renamedF st.1) = ((N : Int), true) ∧ ∃ β : Nat → Nat, ∀ v, v < N → β v < N ∧ (loadF l (renamedF st.1)).getD v 0 = st.2.1.getD (β v) 0 ∧ ∀ v', v' < N → β v = β v' → v = v' := by
  obtain ⟨R, hR⟩ := Int.eq_ofNat_of_zero_le (show 0 ≤ room by omega)
  have hp : ∀ i : Nat, i < l.length → 1 ≤ rd l (i : Int) ∧ rd l (i : Int) ≤ room := fun i hi => hall _ (rd_memR hi)
  have hs : ∀ i : Nat, i < l.length → 0 ≤ rd l (i : Int) ∧ rd l (i : Int) ≤ room := fun i hi => by have := hp i hi; omega
  have hO := ord_perm hR.symm l.length hp
  have hFI := fit_end (fun _ _ => false) (by omega) hs h12 hO
  have hsz : Sz l := ⟨h12, fun x hx => by have := hall x hx; omega⟩
  have hRt : room.toNat = R := by omega
  obtain ⟨st, hst⟩ : ∃ st, st = (ordT l l.length room R).foldl (fitStep room l fun _ _ => false) (List.replicate l.length 0, List.replicate 12 0, 0) := ⟨_, rfl⟩
  rw [← hst] at hFI
  have hF : st.1.length = l.length := hFI.ok.1
  have hN : st.2.2 ≤ l.length := by have := hFI.ok.2.2.1; rw [hO.length_eq, placesLen] at this; exact this
  have hmem : ∀ b ∈ st.1, ∃ i ∈ ordT l l.length room R, rd st.1 i = b := fun b hb => by
    obtain ⟨i, hi, rfl⟩ := List.getElem_of_mem hb
    exact ⟨(i : Int), hO.mem_iff.2 (places_memF.2 ⟨by omega, by omega⟩), by simp [rd, hi]⟩
  obtain ⟨K, k1, k2, k3, k3', k4, k5⟩ := ren_ok (F := st.1) (N := st.2.2) (fun b hb => by
    obtain ⟨i, hi, rfl⟩ := hmem b hb
    exact hFI.ins i hi) (fun b hb => by
    obtain ⟨i, hi, e⟩ := hFI.all b hb
    have hi' := places_memF.1 (hO.mem_iff.1 hi)
    obtain ⟨m, rfl⟩ := Int.eq_ofNat_of_zero_le hi'.1
    rw [← e]
    exact rd_memR (by omega))
  refine ⟨st.2.2, ordT l l.length room R, st, hO, by rw [hRt], hFI, hst, rfl, hN, ?_, by rw [k4, List.length_map, hF], k5, fun v => (rd K (v : Int)).toNat, fun v hv => ?_⟩
  · unfold fallF
    rw [if_pos hok, sort_full hR.symm hp, hst]
    rfl
  · have hk := k3' _ (rd_memR (l := K) (j := v) (by omega))
    refine ⟨by show (rd K (v : Int)).toNat < st.2.2; omega, ?_, fun v' hv' he => ?_⟩
    · show _ = st.2.1.getD (rd K (v : Int)).toNat 0
      rw [ren_load (fun i => hsz.rd i) hF (by omega) k1 k2 k3 k4 hv (by omega), hFI.sum hO (by omega), show (((rd K (v : Int)).toNat : Nat) : Int) = rd K (v : Int) by omega]
    · have hk' := k3' _ (rd_memR (l := K) (j := v') (by omega))
      have he' : (rd K (v : Int)).toNat = (rd K (v' : Int)).toNat := he
      have e1 : rd K (v : Int) = K[v]'(by omega) := by simp [rd, show v < K.length by omega]
      have e2 : rd K (v' : Int) = K[v']'(by omega) := by simp [rd, show v' < K.length by omega]
      exact (List.getElem_inj k1).1 (by rw [← e1, ← e2]; omega)

end Go.Proofs.Ytcjglbipkghhnaa.Math
