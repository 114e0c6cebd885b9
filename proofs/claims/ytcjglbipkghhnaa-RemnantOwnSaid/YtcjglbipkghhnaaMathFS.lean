-- Plain lemmas: the order of falling.
import Derived.Test.YtcjglbipkghhnaaHandZF
namespace Go.Proofs.Ytcjglbipkghhnaa.Math
open Go.RowKit Go.Proofs.YtcjglbipkghhnaaW.PrintWords Go.Proofs.YtcjglbipkghhnaaW.PrintLast Go.Proofs.YtcjglbipkghhnaaW.PrintMore
open Go.Proofs.Ytcjglbipkghhnaa.Hand hiding wrap_in look
set_option linter.unusedVariables false

/-! ### The order of falling -/
theorem sink_over (l : List Int) (v : Int) : ∀ (T H C : List Int), (∀ a ∈ T, rd l a < rd l v) → (∀ a ∈ H, rd l v ≤ rd l a) → sink l (H.length + T.length) (H ++ T ++ v :: C) = H ++ v :: (T ++ C) := by
  have key : ∀ (n : Nat) (T H C : List Int), T.length = n → (∀ a ∈ T, rd l a < rd l v) → (∀ a ∈ H, rd l v ≤ rd l a) → sink l (H.length + T.length) (H ++ T ++ v :: C) = H ++ v :: (T ++ C) := by
    intro n
    induction n with
    | zero =>
      intro T H C hT h1 h2
      obtain rfl : T = [] := List.eq_nil_of_length_eq_zero hT
      rw [List.append_nil, List.nil_append]
      cases hH : H.length with
      | zero => rfl
      | succ m =>
        have e1 : rd (H ++ v :: C) ((m + 1 : Nat) : Int) = v := by
          unfold rd
          rw [Int.toNat_natCast, List.getD_eq_getElem?_getD, List.getElem?_append_right (by omega), hH, Nat.sub_self]
          rfl
        have e2 : rd (H ++ v :: C) (m : Int) = rd H (m : Int) := by
          unfold rd
          rw [Int.toNat_natCast, List.getD_eq_getElem?_getD, List.getD_eq_getElem?_getD, List.getElem?_append_left (by omega)]
        have h3 := h2 _ (rd_memR (l := H) (j := m) (by omega))
        show sink l (m + 1) (H ++ v :: C) = _
        rw [sink, e1, e2, if_neg (by omega)]
    | succ n ih =>
      intro T H C hT h1 h2
      obtain ⟨T, a, rfl⟩ : ∃ T' a, T = T' ++ [a] := ⟨T.dropLast, T.getLast (by intro e; rw [e] at hT; cases hT), (List.dropLast_concat_getLast _).symm⟩
      rw [List.length_append, List.length_singleton] at hT ⊢
      have hn : T.length = n := by omega
      have e1 : rd (H ++ (T ++ [a]) ++ v :: C) ((H.length + T.length + 1 : Nat) : Int) = v := by
        unfold rd
        rw [Int.toNat_natCast, List.getD_eq_getElem?_getD, List.getElem?_append_right (by simp; omega)]
        simp only [List.length_append, List.length_singleton]
        rw [show H.length + T.length + 1 - (H.length + (T.length + 1)) = 0 by omega]
        rfl
      have e2 : rd (H ++ (T ++ [a]) ++ v :: C) ((H.length + T.length : Nat) : Int) = a := by
        unfold rd
        rw [Int.toNat_natCast, List.getD_eq_getElem?_getD, List.getElem?_append_left (by simp), List.getElem?_append_right (by omega), List.getElem?_append_right (by omega)]
        simp
      have ha := h1 a (by simp)
      rw [show H.length + (T.length + 1) = H.length + T.length + 1 by omega, sink, e1, e2, if_pos ha]
      have e3 : ((H ++ (T ++ [a]) ++ v :: C).set (H.length + T.length + 1) a).set (H.length + T.length) v = H ++ T ++ v :: (a :: C) := by
        have e4 : (v :: C).set (H.length + T.length + 1 - (H ++ (T ++ [a])).length) a = a :: C := by
          simp only [List.length_append, List.length_singleton]
          rw [show H.length + T.length + 1 - (H.length + (T.length + 1)) = 0 by omega]
          rfl
        rw [List.set_append_right _ _ (by simp; omega), e4, show H ++ (T ++ [a]) = (H ++ T) ++ [a] by simp, List.append_assoc (H ++ T), List.set_append_right _ _ (by simp)]
        simp
      rw [e3, ih T H (a :: C) hn (fun b hb => h1 b (by simp [hb])) h2]
      simp
  exact fun T H C => key T.length T H C rfl

def bucket (l : List Int) (n : Nat) (s : Int) : List Int := (places n).filter fun i => decide (rd l i = s)
def ordT (l : List Int) (n : Nat) (room : Int) : Nat → List Int
  | 0 => []
  | t + 1 => ordT l n room t ++ bucket l n (room - t)
theorem bucket_succ (l : List Int) (n : Nat) (s : Int) : bucket l (n + 1) s = bucket l n s ++ (if rd l (n : Int) = s then [(n : Int)] else []) := by
  unfold bucket places
  rw [List.range_succ, List.map_append, List.filter_append]
  congr 1
  by_cases h : rd l (n : Int) = s
  · rw [if_pos h]; simp [h]
  · rw [if_neg h]; simp [h]
theorem bucket_val {l : List Int} {n : Nat} {s a : Int} (h : a ∈ bucket l n s) : rd l a = s := by
  unfold bucket at h
  rw [List.mem_filter] at h
  exact of_decide_eq_true h.2
/-- One position more comes behind all that are not smaller, ahead of the smaller ones. -/
theorem ord_snoc (l : List Int) (n : Nat) (room : Int) : ∀ t : Nat, ∃ H T, ordT l n room t = H ++ T ∧ ordT l (n + 1) room t = H ++ (if room - t < rd l (n : Int) ∧ rd l (n : Int) ≤ room then [(n : Int)] else []) ++ T ∧
    (∀ a ∈ T, rd l a < rd l (n : Int)) ∧ (∀ a ∈ H, rd l (n : Int) ≤ rd l a) ∧ (¬ (room - t < rd l (n : Int) ∧ rd l (n : Int) ≤ room) → room - t ≥ rd l (n : Int) → T = [])
  | 0 => ⟨[], [], rfl, (by rw [if_neg (by omega)]; rfl), (fun a ha => by cases ha), (fun a ha => by cases ha), fun _ _ => rfl⟩
  | t + 1 => by
    obtain ⟨H, T, h1, h2, h3, h4, h5⟩ := ord_snoc l n room t
    rw [ordT, ordT, h1, h2, bucket_succ]
    by_cases hlt : room - t < rd l (n : Int)
    · -- past it, or greater than all
      refine ⟨H, T ++ bucket l n (room - t), by rw [List.append_assoc], ?_, fun a ha => ?_, h4, fun k1 k2 => by push_cast at k2; omega⟩
      · rw [if_neg (show ¬ rd l (n : Int) = room - t by omega), List.append_nil]
        by_cases hr : rd l (n : Int) ≤ room
        · rw [if_pos ⟨hlt, hr⟩, if_pos ⟨by push_cast; omega, hr⟩]; simp
        · rw [if_neg (fun k => hr k.2), if_neg (fun k => hr k.2)]; simp
      · rcases List.mem_append.1 ha with ha | ha
        · exact h3 a ha
        · rw [bucket_val ha]; omega
    · have hT := h5 (fun k => hlt k.1) (by omega)
      subst hT
      rw [List.append_nil] at *
      refine ⟨H ++ bucket l n (room - t), [], (by simp), ?_, (fun a ha => by cases ha), fun a ha => ?_, fun _ _ => rfl⟩
      · rw [if_neg (fun k => hlt k.1)]
        by_cases he : rd l (n : Int) = room - t
        · rw [if_pos he, if_pos ⟨by push_cast; omega, by omega⟩]; simp
        · rw [if_neg he, if_neg (by push_cast; omega)]; simp
      · rcases List.mem_append.1 ha with ha | ha
        · exact h4 a ha
        · rw [bucket_val ha]; omega
theorem ord_zero (l : List Int) (room : Int) : ∀ t, ordT l 0 room t = []
  | 0 => rfl
  | t + 1 => by rw [ordT, ord_zero l room t]; rfl
theorem ord_length (l : List Int) (room : Int) (R : Nat) (hR : (R : Int) = room) : ∀ n, (∀ i : Nat, i < n → 1 ≤ rd l (i : Int) ∧ rd l (i : Int) ≤ room) → (ordT l n room R).length = n
  | 0, _ => by rw [ord_zero]; rfl
  | n + 1, h => by
    obtain ⟨H, T, h1, h2, _⟩ := ord_snoc l n room R
    have ih := ord_length l room R hR n fun i hi => h i (by omega)
    have hn := h n (by omega)
    rw [if_pos ⟨by omega, hn.2⟩] at h2
    rw [h1] at ih
    rw [h2]
    simp at ih ⊢
    omega
theorem places_drop (n m : Nat) (h : m < n) : (places n).drop m = (m : Int) :: (places n).drop (m + 1) := by
  rw [rd_drop' (places n) m (by rw [places_length]; exact h)]
  congr 1
  unfold rd places
  rw [Int.toNat_natCast, List.getD_eq_getElem?_getD, List.getElem?_map, List.getElem?_range h]
  rfl
/-- The program's sort orders the positions as the buckets do. -/
theorem sort_ord {l : List Int} {room : Int} {R n : Nat} (hR : (R : Int) = room) (hp : ∀ i : Nat, i < n → 1 ≤ rd l (i : Int) ∧ rd l (i : Int) ≤ room) : ∀ m, m < n → sortG l (places n) m = ordT l (m + 1) room R ++ (places n).drop (m + 1)
  | 0, h => by
    obtain ⟨H, T, h1, h2, _⟩ := ord_snoc l 0 room R
    have h0 := hp 0 h
    rw [if_pos ⟨by omega, h0.2⟩] at h2
    rw [ord_zero] at h1
    obtain ⟨rfl, rfl⟩ := List.append_eq_nil_iff.1 h1.symm
    rw [h2]
    have e := places_drop n 0 h
    rw [List.drop_zero] at e
    exact e
  | m + 1, h => by
    have ih := sort_ord hR hp m (by omega)
    obtain ⟨H, T, h1, h2, h3, h4, _⟩ := ord_snoc l (m + 1) room R
    have hm := hp (m + 1) h
    rw [if_pos ⟨by omega, hm.2⟩] at h2
    have hl := ord_length l room R hR (m + 1) fun i hi => hp i (by omega)
    rw [h1] at hl
    rw [sortG_succ, ih, h1, places_drop n (m + 1) h, h2, show m + 1 = H.length + T.length by rw [← hl]; simp]
    have e := sink_over l ((m + 1 : Nat) : Int) T H ((places n).drop (m + 1 + 1)) h3 h4
    rw [show H.length + T.length = m + 1 by rw [← hl]; simp] at e ⊢
    rw [e]
    simp
theorem sort_full {l : List Int} {room : Int} {R n : Nat} (hR : (R : Int) = room) (hp : ∀ i : Nat, i < n → 1 ≤ rd l (i : Int) ∧ rd l (i : Int) ≤ room) : sortG l (places n) (n - 1) = ordT l n room R := by
  by_cases h : n = 0
  · subst h; rw [ord_zero]; rfl
  · have e := sort_ord hR hp (n - 1) (by omega)
    rw [e, show n - 1 + 1 = n by omega, List.drop_of_length_le (by rw [places_length]; exact Nat.le_refl _), List.append_nil]

end Go.Proofs.Ytcjglbipkghhnaa.Math
