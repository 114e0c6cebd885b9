-- Plain lemmas over the names of the B print: the reference's falling.
import Derived.Test.YtcjglbipkghhnaaMathFF
import Derived.Test.YtcjglbipkghhnaaMathH
namespace Go.Proofs.Ytcjglbipkghhnaa.Math
open Go.RowKit Go.Proofs.Ytcjglbipkghhnaa.B Go.Proofs.YtcjglbipkghhnaaW.PrintWords Go.Proofs.YtcjglbipkghhnaaW.PrintLast Go.Proofs.YtcjglbipkghhnaaW.PrintMore
open Go.Proofs.Ytcjglbipkghhnaa.Hand hiding wrap_in look
set_option linter.unusedVariables false

theorem fall_l1 (room : Int) (l : List Int) (hl : l.length ≤ 12) (s : Int) : ∀ (m j : Nat) (x5 : List Int), j + m = l.length → x5.length + m ≤ 1000 → ∀ k, galloonref09_Falling.l1 (k + m + 1) room l x5 s (j : Int) = galloonref09_Falling.l0 k room l (x5 ++ ((places l.length).drop j).filter fun i => decide (rd l i = s)) (wrap64 (s - 1)) := by
  intro m
  induction m with
  | zero =>
    intro j x5 hj hx k
    rw [Nat.add_zero, galloonref09_Falling.l1, if_neg (by omega), List.drop_of_length_le (by rw [places_length]; omega)]
    simp
  | succ m ih =>
    intro j x5 hj hx k
    rw [show k + (m + 1) + 1 = (k + m + 1) + 1 by omega, galloonref09_Falling.l1, if_pos (by omega), if_pos (by omega), next (by omega), places_drop l.length j (by omega), List.filter_cons]
    by_cases h : rd l (j : Int) = s
    · rw [if_pos h, if_pos (by omega), ih (j + 1) _ (by omega) (by simp; omega) k, if_pos (decide_eq_true h), List.append_assoc]
      rfl
    · rw [if_neg h, ih (j + 1) _ (by omega) (by omega) k, if_neg (by simpa using h)]

/-- Codes in the order of the first uses. -/
def rn : List Int → List Int → List Int
  | _, [] => []
  | K, b :: F => if b ∈ K then (K.idxOf b : Int) :: rn K F else (K.length : Int) :: rn (K ++ [b]) F
theorem nmL_rn : ∀ (F K : List Int), nmL 0 (namesFrom 0 K) F = rn K F
  | [], _ => rfl
  | b :: F, K => by
    have hl := look_from 0 K b
    rw [nmL, rn]
    by_cases h : b ∈ K
    · rw [if_pos h] at hl
      have e : nmStep (namesFrom 0 K) b 0 = namesFrom 0 K := by unfold nmStep; rw [hl]; rfl
      rw [e, hl, if_pos h, nmL_rn F K, Nat.zero_add]
      rfl
    · rw [if_neg h] at hl
      have e : nmStep (namesFrom 0 K) b 0 = namesFrom 0 (K ++ [b]) := by
        unfold nmStep
        rw [hl, namesFrom_snoc, namesFrom_length, Nat.zero_add, Int.sub_zero]
        rfl
      have h2 := look_from 0 (K ++ [b]) b
      rw [if_pos (by simp), List.idxOf_append, if_neg h, List.idxOf_cons_self, Nat.zero_add, Nat.zero_add] at h2
      rw [e, h2, if_neg h, nmL_rn F (K ++ [b])]
      rfl
theorem rn_length : ∀ (F K : List Int), (rn K F).length = F.length
  | [], _ => rfl
  | b :: F, K => by
    rw [rn]
    split <;> simp [rn_length F]
theorem rn_small : ∀ (F K : List Int), ∀ c ∈ rn K F, 0 ≤ c ∧ c ≤ (K.length : Int) + F.length
  | [], _ => fun c h => by cases h
  | b :: F, K => fun c h => by
    rw [rn] at h
    split at h
    · rename_i hb
      rcases List.mem_cons.1 h with rfl | h
      · have := List.idxOf_lt_length_of_mem hb
        simp; omega
      · have := rn_small F K c h
        simp; omega
    · rcases List.mem_cons.1 h with rfl | h
      · simp; omega
      · have := rn_small F (K ++ [b]) c h
        simp at this ⊢; omega
theorem rd_mid (A : List Int) (b : Int) (C : List Int) : rd (A ++ b :: C) (A.length : Int) = b := by
  unfold rd
  rw [Int.toNat_natCast, List.getD_eq_getElem?_getD, List.getElem?_append_right (Nat.le_refl _), Nat.sub_self]
  rfl
/-- The names are searched. -/
theorem fall_l3 (A C K : List Int) (b : Int) (hK : K.length ≤ 100) (hA : A.length + C.length ≤ 100) (t : Nat) (ht : t ≤ K.length) (hno : ∀ c : Nat, c < t → rd K (c : Int) ≠ b) (hend : t = K.length ∨ (t < K.length ∧ rd K (t : Int) = b)) : ∀ (m c : Nat), c + m = t → ∀ k, 
    galloonref09_Falling.l3 (k + m + 1) (A ++ b :: C) K (A.length : Int) (c : Int) = galloonref09_Falling.l2 k (A ++ ((t : Int) - 12) :: C) (if t = K.length then K ++ [b] else K) ((A.length + 1 : Nat) : Int) := by
  have hset : ∀ v : Int, (A ++ b :: C).set ((A.length : Int)).toNat v = A ++ v :: C := fun v => by
    rw [Int.toNat_natCast, List.set_append_right _ _ (Nat.le_refl _), Nat.sub_self]; rfl
  have hlen : ((A ++ b :: C).length : Int) = A.length + C.length + 1 := by simp; omega
  intro m
  induction m with
  | zero =>
    intro c hc k
    obtain rfl : c = t := by omega
    rw [Nat.add_zero, galloonref09_Falling.l3, hlen, rd_mid, hset, next (by omega), wrap_in (n := (c : Int) - 12) (by omega) (by omega)]
    by_cases e : c = K.length
    · rw [if_neg (by omega), if_pos (by omega), if_pos (by omega), if_pos (by omega), if_pos (by omega), if_pos e]
    · obtain ⟨e1, e2⟩ := hend.resolve_left e
      rw [if_pos (by omega), if_pos (by omega), if_pos (by omega), if_pos (by omega), if_pos e2, if_neg (by omega), if_neg e]
  | succ m ih =>
    intro c hc k
    rw [show k + (m + 1) + 1 = (k + m + 1) + 1 by omega, galloonref09_Falling.l3, hlen, rd_mid, if_pos (by omega), if_pos (by omega), if_pos (by omega), if_pos (by omega), if_neg (hno c (by omega)), next (by omega), ih (c + 1) (by omega) k]
theorem fall_l4 : ∀ (D As : List Int), As.length + D.length ≤ 100 → (∀ c ∈ D, 0 ≤ c ∧ c ≤ 1000) → ∀ k, D.length < k → galloonref09_Falling.l4 k (As ++ D.map fun c => c - 12) (As.length : Int) = some (As ++ D)
  | [], As, hA, hD, k, hk => by
    obtain ⟨k, rfl⟩ : ∃ k', k = k' + 1 := ⟨k - 1, by omega⟩
    rw [galloonref09_Falling.l4, if_neg (by simp)]
    rfl
  | c :: D, As, hA, hD, k, hk => by
    rw [List.length_cons] at hA hk
    obtain ⟨k, rfl⟩ : ∃ k', k = k' + 1 := ⟨k - 1, by omega⟩
    have hc := hD c List.mem_cons_self
    have ih := fall_l4 D (As ++ [c]) (by simp; omega) (fun x hx => hD x (List.mem_cons_of_mem _ hx)) k (by omega)
    have hset : ∀ v : Int, (As ++ (c - 12) :: D.map fun c => c - 12).set ((As.length : Int)).toNat v = As ++ v :: D.map fun c => c - 12 := fun v => by
      rw [Int.toNat_natCast, List.set_append_right _ _ (Nat.le_refl _), Nat.sub_self]; rfl
    rw [List.map_cons, galloonref09_Falling.l4, if_pos (by simp; omega), if_pos (by omega), rd_mid, hset, next (by omega), wrap_in (by omega) (by omega), show c - 12 + 12 = c by omega]
    simp only [List.length_append, List.length_singleton, List.append_assoc, List.singleton_append] at ih
    exact ih
theorem fall_l2 : ∀ (F As K : List Int), As.length + F.length ≤ 50 → K.length ≤ As.length → (∀ c ∈ As, 0 ≤ c ∧ c ≤ 1000) → ∀ k, F.length * 102 + 200 < k → galloonref09_Falling.l2 k ((As.map fun c => c - 12) ++ F) K (As.length : Int) = some (As ++ rn K F)
  | [], As, K, hA, hK, hAs, k, hk => by
    obtain ⟨k, rfl⟩ : ∃ k', k = k' + 1 := ⟨k - 1, by omega⟩
    have h := fall_l4 As [] (by simp at hA ⊢; omega) hAs k (by simp at hA hk; omega)
    rw [galloonref09_Falling.l2, if_neg (by simp), List.append_nil, rn, List.append_nil]
    exact h
  | b :: F, As, K, hA, hK, hAs, k, hk => by
    rw [List.length_cons] at hA hk
    have hml : (As.map fun c => c - 12).length = As.length := List.length_map _
    have fin : ∀ (t : Nat) (K' : List Int), t ≤ K.length → K'.length ≤ As.length + 1 → ∀ k, F.length * 102 + 200 < k → galloonref09_Falling.l2 k ((As.map fun c => c - 12) ++ ((t : Int) - 12) :: F) K' ((As.length + 1 : Nat) : Int) = some (As ++ (t : Int) :: rn K' F) := fun t K' ht hK' k hk => by
      have ih := fall_l2 F (As ++ [(t : Int)]) K' (by simp; omega) (by simp; omega) (fun c hc => by
        rcases List.mem_append.1 hc with hc | hc
        · exact hAs c hc
        · rw [List.mem_singleton.1 hc]; omega) k hk
      simp only [List.length_append, List.length_singleton, List.map_append, List.map_cons, List.map_nil, List.append_assoc, List.singleton_append] at ih
      exact ih
    obtain ⟨k, rfl⟩ : ∃ k', k = k' + 1 := ⟨k - 1, by omega⟩
    rw [galloonref09_Falling.l2, if_pos (by simp; omega), rn]
    by_cases hb : b ∈ K
    · have hlt := List.idxOf_lt_length_of_mem hb
      have hget : rd K ((K.idxOf b : Nat) : Int) = b := by
        unfold rd
        rw [Int.toNat_natCast, List.getD_eq_getElem?_getD, List.getElem?_eq_getElem hlt, Option.getD_some, List.getElem_idxOf]
      have hno : ∀ c : Nat, c < K.idxOf b → rd K (c : Int) ≠ b := fun c hc e => by
        have hcl : c < K.length := by omega
        have h2 : K[c] = b := by
          unfold rd at e
          rwa [Int.toNat_natCast, List.getD_eq_getElem?_getD, List.getElem?_eq_getElem hcl, Option.getD_some] at e
        have h3 := List.not_of_lt_findIdx (p := (· == b)) (xs := K) (i := c) hc
        simp [h2] at h3
      obtain ⟨k, rfl⟩ : ∃ k', k = k' + K.idxOf b + 1 := ⟨k - K.idxOf b - 1, by omega⟩
      have e := fall_l3 (As.map fun c => c - 12) F K b (by omega) (by omega) (K.idxOf b) (by omega) hno (.inr ⟨hlt, hget⟩) (K.idxOf b) 0 (by omega) k
      rw [hml, if_neg (by omega)] at e
      rw [if_pos hb]
      exact e.trans (fin _ K (by omega) (by omega) k (by omega))
    · have hno : ∀ c : Nat, c < K.length → rd K (c : Int) ≠ b := fun c hc e => hb (e ▸ rd_memR hc)
      obtain ⟨k, rfl⟩ : ∃ k', k = k' + K.length + 1 := ⟨k - K.length - 1, by omega⟩
      have e := fall_l3 (As.map fun c => c - 12) F K b (by omega) (by omega) K.length (Nat.le_refl _) hno (.inl rfl) K.length 0 (by omega) k
      rw [hml, if_pos rfl] at e
      rw [if_neg hb]
      exact e.trans (fin _ (K ++ [b]) (Nat.le_refl _) (by simp; omega) k (by omega))
theorem renamed_eq (F : List Int) (hF : F.length ≤ 12) (k : Nat) (hk : 2000 < k) : galloonref09_Falling.l2 k F [] 0 = some (renamedF F) := by
  have h := fall_l2 F [] [] (by simp; omega) (Nat.le_refl _) (fun c hc => by cases hc) k (by omega)
  have e := nmL_rn F []
  unfold renamedF
  rw [show ([] : List (Int × Int)) = namesFrom 0 [] from rfl, e]
  exact h
/-- The buckets, one after the other. -/
theorem fall_l0 {room : Int} {l : List Int} (hl : l.length ≤ 12) {R : Nat} (hR : (R : Int) = room) (hr : room ≤ 100) (hp : ∀ i : Nat, i < l.length → 1 ≤ rd l (i : Int) ∧ rd l (i : Int) ≤ room) (hlen : ∀ t, t ≤ R → (ordT l l.length room t).length ≤ 12) : ∀ d t, t + d = R → ∀ k, galloonref09_Falling.l0 (k + d * (l.length + 2) + 1) room l (ordT l l.length room t) (room - t) = (galloonref09_First.f k room l (ordT l l.length room R)).bind fun F => galloonref09_Falling.l2 k F [] 0 := by
  intro d
  induction d with
  | zero =>
    intro t ht k
    rw [Nat.zero_mul, Nat.add_zero, galloonref09_Falling.l0, if_neg (by omega), show t = R by omega]
  | succ d ih =>
    intro t ht k
    have h := ih (t + 1) (by omega) k
    have e := fall_l1 room l hl (room - t) l.length 0 (ordT l l.length room t) (by omega) (by have := hlen t (by omega); omega) (k + d * (l.length + 2) + 1)
    rw [galloonref09_Falling.l0, if_pos (by omega), show k + (d + 1) * (l.length + 2) = k + d * (l.length + 2) + 1 + l.length + 1 by rw [Nat.succ_mul]; omega]
    rw [List.drop_zero, wrap_in (n := room - (t : Int) - 1) (by omega) (by omega), show room - (t : Int) - 1 = room - ((t + 1 : Nat) : Int) by push_cast; omega] at e
    exact e.trans h
theorem ord_sub (l : List Int) (n : Nat) (room : Int) : ∀ t, ∀ i ∈ ordT l n room t, 0 ≤ i ∧ i < (n : Int)
  | 0, i, h => by cases h
  | t + 1, i, h => by
    rw [ordT] at h
    rcases List.mem_append.1 h with h | h
    · exact ord_sub l n room t i h
    · unfold bucket at h
      exact places_in i (List.mem_filter.1 h).1
theorem ord_mono (l : List Int) (n : Nat) (room : Int) (t : Nat) : ∀ d, (ordT l n room t).length ≤ (ordT l n room (t + d)).length
  | 0 => Nat.le_refl _
  | d + 1 => by
    rw [show t + (d + 1) = (t + d) + 1 by omega, ordT, List.length_append]
    have := ord_mono l n room t d
    omega
theorem fall_eq {room : Int} {l : List Int} (hok : pieF room l = true) (h1 : 1 ≤ room) (h2 : room ≤ 100) (hl : l.length ≤ 12) (hp : ∀ i : Nat, i < l.length → 1 ≤ rd l (i : Int) ∧ rd l (i : Int) ≤ room) (k : Nat) (hk : 5000 < k) : galloonref09_Falling.f k room l = some (fallF room l).1 := by
  obtain ⟨R, hR⟩ := Int.eq_ofNat_of_zero_le (show 0 ≤ room by omega)
  have hlenR := ord_length l room R hR.symm l.length hp
  have h13 : ∀ t, t ≤ R → (ordT l l.length room t).length ≤ 12 := fun t ht => by
    have := ord_mono l l.length room t (R - t)
    rw [show t + (R - t) = R by omega, hlenR] at this
    omega
  have hmul : R * (l.length + 2) ≤ 100 * 14 := Nat.mul_le_mul (by omega) (by omega)
  obtain ⟨k, rfl⟩ : ∃ k', k = k' + R * (l.length + 2) + 1 := ⟨k - R * (l.length + 2) - 1, by omega⟩
  have h := fall_l0 hl hR.symm h2 hp h13 R 0 (by omega) k
  have hf := first_eq (order := ordT l l.length room R) ⟨h1, h2⟩ hp (ord_sub l l.length room R) (by omega) hl k (by omega)
  have hlf : (fitF room l (fun _ _ => false) (ordT l l.length room R)).length = l.length := fitF_length _ _ _ _
  have hr := renamed_eq (fitF room l (fun _ _ => false) (ordT l l.length room R)) (by omega) k (by omega)
  unfold galloonref09_Falling.f fallF
  rw [if_pos hok, sort_full hR.symm hp]
  rw [hf, Option.bind_some, hr] at h
  rw [show ((0 : Nat) : Int) = 0 from rfl, Int.sub_zero] at h
  exact h

end Go.Proofs.Ytcjglbipkghhnaa.Math
