/- RemnantScaled: twice the sizes and twice the room change no packing, filling, number of ways and set. For every room and list. -/
import Derived.Test.YtoecbchfdgbliaaMathS
import Derived.Test.YtoecbchfdgbliaaBx3
import Derived.Test.YtoecbchfdgbliaaHandZF
import Derived.Test.YtoecbchfdgbliaaHandE
import Derived.Test.YtoecbchfdgbliaaHandY
import Derived.Test.YtoecbchfdgbliaaBx4

-- Plain lemmas over the names of the B print: Best.
namespace Go.Proofs.Ytoecbchfdgbliaa.Math
open Go.RowKit Go.Proofs.Ytoecbchfdgbliaa.B Go.Proofs.YtoecbchfdgbliaaW.PrintWords Go.Proofs.YtoecbchfdgbliaaW.PrintLast Go.Proofs.YtoecbchfdgbliaaW.PrintMore
open Go.Proofs.Ytoecbchfdgbliaa.Hand hiding wrap_in look
set_option linter.unusedVariables false

/-- What Weight and Best answer: no smaller number of boxes does. -/
theorem best_ok {room : Int} {l : List Int} (hok : Hand.pieF room l = true) (h1 : 1 ≤ room) (h2 : room ≤ 100) (h12 : l.length ≤ 12) (hp : ∀ i, i < l.length → 1 ≤ pz l i ∧ pz l i ≤ room) :
    ∃ (w at_ : Int) (m : Nat) (q : List Int), (0 ≤ at_ ∧ 2 * at_ ≤ room ∧ w = wgt room at_ (pz l) l.length ∧ ∀ a : Int, 0 ≤ a → 2 * a ≤ room → wgt room a (pz l) l.length ≤ w) ∧ w ≤ m ∧ m ≤ l.length ∧
      q ∈ packs room l m l.length [] 0 (List.replicate 12 0) ∧ (∀ m' : Nat, w ≤ m' → m' < m → packs room l m' l.length [] 0 (List.replicate 12 0) = []) ∧
      ∀ k, 200 ≤ k → remnant_Weight.f k room l = some (w, at_, 0) ∧ remnant_Best.f k room l = some (q, (m : Int), 0) := by
  obtain ⟨t, ht⟩ := Int.eq_ofNat_of_zero_le (show 0 ≤ room / 2 + 1 by omega)
  obtain ⟨w, at_, hP, hk⟩ := weight_go h1 h2 l h12 hp t 0 (-1) 0 (by omega) (.inl ⟨rfl, rfl⟩)
  have hwn : 0 ≤ w := by rw [hP.2.2.1]; exact wgt_nonneg _ _ _ _
  have hwl : w ≤ l.length := by rw [hP.2.2.1]; exact wgt_len h1 hP.1 hP.2.1 (pz l) l.length hp
  obtain ⟨v, rfl⟩ := Int.eq_ofNat_of_zero_le hwn
  have h0 : ∀ b, (List.replicate 12 (0 : Int)).getD b 0 = 0 := fun b => by rw [List.getD_eq_getElem?_getD, List.getElem?_replicate]; split <;> rfl
  have hld : ∀ (d j : Nat), (∀ i, i < j + d → 0 ≤ pz l i ∧ pz l i ≤ room) → ∀ b, 0 ≤ ld (pz l) (fun i => i) b j d ∧ ld (pz l) (fun i => i) b j d ≤ room ∧ (b < j → ld (pz l) (fun i => i) b j d = 0) := by
    intro d
    induction d with
    | zero => intro j _ b; exact ⟨Int.le_refl _, by show (0 : Int) ≤ room; omega, fun _ => rfl⟩
    | succ d ih =>
      intro j hb b
      have h3 := ih (j + 1) (fun i hi => hb i (by omega)) b
      have h4 := hb j (by omega)
      rw [ld]
      by_cases e : j = b
      · have := h3.2.2 (by omega)
        rw [if_pos e, this]
        omega
      · rw [if_neg e, Int.zero_add]
        exact ⟨h3.1, h3.2.1, fun h => h3.2.2 (by omega)⟩
  have hlast : packs room l l.length l.length [] 0 (List.replicate 12 0) ≠ [] := by
    refine packs_ne room l l.length (fun i hi => by have := (hp i hi).1; dsimp only [pz] at this; omega) h12 l.length [] 0 _ (by simp) (Nat.zero_le _) (by simp) (fun b _ => h0 b) ⟨fun i => i, fun i _ hi => by simpa using hi, fun b hb => ?_⟩
    show (List.replicate 12 (0 : Int)).getD b 0 + ld (pz l) (fun i => i) b 0 l.length ≤ room
    rw [h0, Int.zero_add]
    exact (hld l.length 0 (fun i hi => by have := hp i (by omega); omega) b).2.1
  obtain ⟨m, hm1, hm2, hm3, hm4⟩ : ∃ m : Nat, v ≤ m ∧ m ≤ l.length ∧ packs room l m l.length [] 0 (List.replicate 12 0) ≠ [] ∧ ∀ m', v ≤ m' → m' < m → packs room l m' l.length [] 0 (List.replicate 12 0) = [] := by
    have key : ∀ d u : Nat, u + d = l.length → v ≤ u → (∀ m', v ≤ m' → m' < u → packs room l m' l.length [] 0 (List.replicate 12 0) = []) → ∃ m : Nat, v ≤ m ∧ m ≤ l.length ∧ packs room l m l.length [] 0 (List.replicate 12 0) ≠ [] ∧ ∀ m', v ≤ m' → m' < m → packs room l m' l.length [] 0 (List.replicate 12 0) = [] := by
      intro d
      induction d with
      | zero => intro u hu hv hb; exact ⟨u, hv, by omega, by rw [show u = l.length by omega]; exact hlast, hb⟩
      | succ d ih =>
        intro u hu hv hb
        by_cases e : packs room l u l.length [] 0 (List.replicate 12 0) = []
        · exact ih (u + 1) (by omega) (by omega) fun m' h3 h4 => by
            by_cases e2 : m' = u
            · rw [e2]; exact e
            · exact hb m' h3 (by omega)
        · exact ⟨u, hv, by omega, e, hb⟩
    exact key (l.length - v) v (by omega) (Nat.le_refl _) fun m' h3 h4 => by omega
  obtain ⟨q, hq, hbest⟩ := bestL_found room l (l.length + 1 - v) v m hm1 (by omega) hm3 hm4
  refine ⟨v, at_, m, q, hP, by omega, hm2, hq, fun m' h3 h4 => hm4 m' (by omega) h4, fun k hk' => ?_⟩
  have hW : remnant_Weight.f k room l = some ((v : Int), at_, 0) := by
    unfold remnant_Weight.f remnant_arePieces.f
    rw [hok]
    simp only [Option.bind_some, if_true]
    rw [half room h1 h2, wrap_in (by omega) (by omega)]
    exact hk k (by omega)
  refine ⟨hW, ?_⟩
  unfold remnant_Best.f
  rw [if_pos hok, hW, Option.bind_some, if_pos ⟨rfl, by omega, by omega⟩, bestF, if_pos hok, Int.toNat_natCast, hbest]

end Go.Proofs.Ytoecbchfdgbliaa.Math

-- Plain lemmas: the smallest number of boxes that do, over the names of the B print.
namespace Go.Proofs.Ytoecbchfdgbliaa.Math
open Go.RowKit Go.Proofs.Ytoecbchfdgbliaa.B Go.Proofs.YtoecbchfdgbliaaW.PrintWords Go.Proofs.YtoecbchfdgbliaaW.PrintLast Go.Proofs.YtoecbchfdgbliaaW.PrintMore
open Go.Proofs.Ytoecbchfdgbliaa.Hand hiding wrap_in look within_iff
set_option linter.unusedVariables false

/-- So many boxes do. -/
def FeasB (room : Int) (l : List Int) (m : Nat) : Prop := ∃ g : Nat → Nat, (∀ i, i < l.length → g i < m) ∧ ∀ b, bs (pz l) g b l.length ≤ room

theorem ldF_snoc (p : Nat → Int) (g : Nat → Nat) (b : Nat) : ∀ (d j : Nat), ld p g b j (d + 1) = ld p g b j d + (if g (j + d) = b then p (j + d) else 0)
  | 0, j => by rw [ld, ld, ld, Nat.add_zero]; omega
  | d + 1, j => by
    rw [ld, ldF_snoc p g b d (j + 1), ld, show j + 1 + d = j + (d + 1) by omega]
    omega
theorem ldF_bs (p : Nat → Int) (g : Nat → Nat) (b : Nat) : ∀ n, ld p g b 0 n = bs p g b n
  | 0 => rfl
  | n + 1 => by rw [ldF_snoc, bs_succ, ldF_bs p g b n, Nat.zero_add]
theorem zeroF12 (b : Nat) : (List.replicate 12 (0 : Int)).getD b 0 = 0 := by rw [List.getD_eq_getElem?_getD, List.getElem?_replicate]; split <;> rfl
theorem sum_zeroF : ∀ (r : List Nat) (f : Nat → Int), (∀ i ∈ r, f i = 0) → (r.map f).sum = 0
  | [], _, _ => rfl
  | a :: r, f, h => by
    rw [List.map_cons, List.sum_cons, h a List.mem_cons_self, sum_zeroF r f fun i hi => h i (List.mem_cons_of_mem _ hi)]
    rfl
theorem feas_part {room : Int} {l q : List Int} {most n' : Nat} {y : List Int} (h0 : 0 ≤ room) (h12 : n' ≤ 12) (hlen : q.length = l.length) (hP : Part room l most q n' y) : FeasB room l n' := by
  have hb3 := (boxF_true q 0 n' hP.box).2.2
  have hin : ∀ i, i < l.length → 0 ≤ rd q (i : Int) ∧ rd q (i : Int) < (n' : Int) := fun i hi => hb3 _ (rd_memR (by omega))
  refine ⟨fun i => (rd q (i : Int)).toNat, fun i hi => by have := hin i hi; show (rd q (i : Int)).toNat < n'; omega, fun b => ?_⟩
  by_cases hb : b < 12
  · have h := hP.sum b hb
    have h2 := (hP.load b).2
    rw [h, hlen] at h2
    have e : bs (pz l) (fun i => (rd q (i : Int)).toNat) b l.length = ((List.range l.length).map fun (i : Nat) => if rd q (i : Int) = (b : Int) then rd l (i : Int) else 0).sum := by
      unfold bs
      congr 1
      refine List.map_congr_left fun i hi => ?_
      have hi' := hin i (List.mem_range.1 hi)
      by_cases k : rd q (i : Int) = (b : Int)
      · rw [if_pos k, if_pos (show (rd q (i : Int)).toNat = b by omega)]
      · rw [if_neg k, if_neg (show ¬ (rd q (i : Int)).toNat = b by omega)]
    rw [e]; exact h2
  · have : bs (pz l) (fun i => (rd q (i : Int)).toNat) b l.length = 0 := sum_zeroF _ _ fun i hi => by
      have := hin i (List.mem_range.1 hi)
      exact if_neg (show ¬ (rd q (i : Int)).toNat = b by omega)
    rw [this]; exact h0

/-- What Best answers is the smallest number that does. -/
theorem best_min {room : Int} {l : List Int} (hok : Hand.pieF room l = true) (h1 : 1 ≤ room) (h2 : room ≤ 100) (h12 : l.length ≤ 12) (hp : ∀ i, i < l.length → 1 ≤ pz l i ∧ pz l i ≤ room) :
    ∃ (m : Nat) (q : List Int), m ≤ l.length ∧ FeasB room l m ∧ (∀ m', FeasB room l m' → m ≤ m') ∧ ∀ k, 200 ≤ k → remnant_Best.f k room l = some (q, (m : Int), 0) := by
  obtain ⟨w, at_, m, q, ⟨hA0, hA1, hA2, hA3⟩, hwm, hml, hq, hlow, hk⟩ := best_ok hok h1 h2 h12 hp
  have hp0 : ∀ i : Nat, i < l.length → 0 ≤ rd l (i : Int) := fun i hi => by have := (hp i hi).1; dsimp only [pz] at this; omega
  have hmin : ∀ m', FeasB room l m' → m ≤ m' := by
    intro m' hF
    apply Classical.byContradiction
    intro hlt
    obtain ⟨g, hg, hl⟩ := hF
    have hwc := wgt_le h1 hA0 hA1 (pz l) l.length m' hp g hg (fun b _ => hl b)
    have hem := hlow m' (by rw [hA2]; exact hwc) (by omega)
    refine packs_ne room l m' hp0 (by omega) l.length [] 0 _ (by simp) (Nat.zero_le _) (by simp) (fun b _ => zeroF12 b) ⟨g, fun i _ hi => hg i (by simpa using hi), fun b hb => ?_⟩ hem
    show (List.replicate 12 (0 : Int)).getD b 0 + ld (pz l) g b 0 l.length ≤ room
    rw [zeroF12, Int.zero_add, ldF_bs]
    exact hl b
  obtain ⟨hlen, n', y, hP⟩ := packs_part room l m hp0 (by omega) l.length [] 0 _ (by simp) (Part.none room (by omega) l m) q hq
  have hfew := hP.few
  have hF := feas_part (by omega) (by omega) hlen hP
  have e : n' = m := by have := hmin n' hF; omega
  subst e
  exact ⟨n', q, hml, hF, hmin, fun k hk' => (hk k hk').2⟩

end Go.Proofs.Ytoecbchfdgbliaa.Math

-- Plain lemmas: twice the sizes and twice the room.
namespace Go.Proofs.Ytoecbchfdgbliaa.Math
open Go.RowKit Go.Proofs.YtoecbchfdgbliaaW.PrintWords Go.Proofs.YtoecbchfdgbliaaW.PrintLast Go.Proofs.YtoecbchfdgbliaaW.PrintMore
open Go.Proofs.Ytoecbchfdgbliaa.Hand hiding wrap_in look rd_mem
set_option linter.unusedVariables false

def dbl (l : List Int) : List Int := l.map fun x => 2 * x
theorem dbl_length (l : List Int) : (dbl l).length = l.length := List.length_map _
theorem dbl_get (l : List Int) (i : Nat) : (dbl l).getD i 0 = 2 * l.getD i 0 := by
  unfold dbl
  rw [List.getD_eq_getElem?_getD, List.getD_eq_getElem?_getD, List.getElem?_map]
  cases l[i]? with
  | none => rfl
  | some v => rfl
theorem dbl_rd (l : List Int) (i : Int) : rd (dbl l) i = 2 * rd l i := dbl_get l i.toNat
theorem dbl_set (l : List Int) (i : Nat) (v : Int) : dbl (l.set i v) = (dbl l).set i (2 * v) := by
  unfold dbl; rw [List.map_set]

theorem scan_dbl {p : Int → Int → Bool} (hp : ∀ a b, p (2 * a) (2 * b) = p a b) (x : List Int) (room sz : Int) : ∀ n, scan (dbl x) (2 * room) (2 * sz) p n = scan x room sz p n
  | 0 => rfl
  | n + 1 => by
    rw [scan_succ, scan_succ, scan_dbl hp x room sz n]
    unfold scanStep
    rw [dbl_get, dbl_get, hp]
    by_cases h : x.getD n 0 + sz ≤ room ∧ (scan x room sz p n < 0 ∨ p (x.getD n 0) (x.getD (scan x room sz p n).toNat 0) = true)
    · rw [if_pos h, if_pos ⟨by omega, h.2⟩]
    · rw [if_neg h, if_neg (fun k => h ⟨by omega, k.2⟩)]
theorem fit_dbl {p : Int → Int → Bool} (hp : ∀ a b, p (2 * a) (2 * b) = p a b) (room : Int) (ps : List Int) : ∀ (o : List Int) (st : List Int × List Int × Nat), o.foldl (fitStep (2 * room) (dbl ps) p) (st.1, dbl st.2.1, st.2.2) = ((o.foldl (fitStep room ps p) st).1, dbl (o.foldl (fitStep room ps p) st).2.1, (o.foldl (fitStep room ps p) st).2.2)
  | [], _ => rfl
  | i :: o, (out, x, n) => by
    rw [List.foldl_cons, List.foldl_cons, ← fit_dbl hp room ps o]
    congr 1
    unfold fitStep
    dsimp only
    rw [dbl_rd, scan_dbl hp, dbl_get, dbl_set, Int.mul_add]
theorem fitF_dbl {p : Int → Int → Bool} (hp : ∀ a b, p (2 * a) (2 * b) = p a b) (room : Int) (ps o : List Int) : fitF (2 * room) (dbl ps) p o = fitF room ps p o := by
  have h := fit_dbl hp room ps o (List.replicate ps.length 0, List.replicate 12 0, 0)
  have e : dbl (List.replicate 12 (0 : Int)) = List.replicate 12 0 := rfl
  unfold fitF
  rw [dbl_length]
  dsimp only at h
  rw [e] at h
  rw [h]
theorem sink_dbl (l : List Int) : ∀ (j : Nat) (xs : List Int), sink (dbl l) j xs = sink l j xs
  | 0, _ => rfl
  | j + 1, xs => by
    rw [sink, sink, dbl_rd, dbl_rd]
    by_cases h : rd l (rd xs (j : Int)) < rd l (rd xs ((j + 1 : Nat) : Int))
    · rw [if_pos h, if_pos (by omega)]; exact sink_dbl l j _
    · rw [if_neg h, if_neg (by omega)]
theorem sortG_dbl (l xs : List Int) : ∀ m, sortG (dbl l) xs m = sortG l xs m
  | 0 => rfl
  | m + 1 => by rw [sortG_succ, sortG_succ, sortG_dbl l xs m, sink_dbl]
theorem fallF_dbl {room : Int} {l : List Int} (h : pieF room l = true) (h2 : pieF (2 * room) (dbl l) = true) : fallF (2 * room) (dbl l) = fallF room l := by
  unfold fallF
  rw [if_pos h, if_pos h2, dbl_length, sortG_dbl, fitF_dbl (fun _ _ => rfl)]
theorem szN_dbl (l : List Int) (s : Nat) : ∀ m, szN (dbl l) s m = 2 * szN l s m
  | 0 => rfl
  | m + 1 => by
    rw [szN, szN, szN_dbl l s m, dbl_rd]
    split <;> omega
theorem waysF_dbl {room : Int} {l : List Int} (h : pieF room l = true) (h2 : pieF (2 * room) (dbl l) = true) : waysF (2 * room) (dbl l) = waysF room l := by
  have e : fitN (2 * room) (dbl l) = fitN room l := funext fun s => by
    unfold fitN
    rw [dbl_length, szN_dbl]
    apply decide_eq_decide.mpr
    omega
  unfold waysF
  rw [if_pos h, if_pos h2, dbl_length, e]

theorem rest_len : ∀ (d : Nat) (f : Int) (l : List Int), ∀ L ∈ Hand.rest d f l, L.length ≤ l.length + d
  | 0, _, _ => fun L h => by cases h
  | d + 1, f, l => fun L h => by
    rw [Hand.rest] at h
    rcases List.mem_append.1 h with h | h
    · rcases List.mem_cons.1 h with rfl | h
      · simp
      · have := rest_len d (f + 1) (l ++ [f]) L h
        simp at this; omega
    · have := rest_len d (f + 1) l L h
      omega
theorem sets_len {n : Nat} {L : List Int} (h : L ∈ setsF n) : L.length ≤ n := by
  unfold setsF at h
  rcases List.mem_cons.1 h with rfl | h
  · simp
  · have := rest_len n 0 [] L h
    simpa using this
theorem sum_dbl {ps : List Int} (hp : ∀ i : Int, 0 ≤ rd ps i ∧ rd ps i ≤ 100) : ∀ (L : List Int) (s : Int), 0 ≤ s → s + 100 * L.length ≤ 100000 → L.foldl (fun s i => wrap64 (s + rd (dbl ps) i)) (2 * s) = 2 * L.foldl (fun s i => wrap64 (s + rd ps i)) s ∧ 0 ≤ L.foldl (fun s i => wrap64 (s + rd ps i)) s ∧ L.foldl (fun s i => wrap64 (s + rd ps i)) s ≤ s + 100 * L.length
  | [], s, h0, _ => ⟨rfl, h0, by simp⟩
  | i :: L, s, h0, h1 => by
    have hi := hp i
    rw [List.length_cons] at h1
    have w1 : wrap64 (s + rd ps i) = s + rd ps i := by unfold wrap64; omega
    have w2 : wrap64 (2 * s + rd (dbl ps) i) = 2 * (s + rd ps i) := by rw [dbl_rd]; unfold wrap64; omega
    have ih := sum_dbl hp L (s + rd ps i) (by omega) (by omega)
    rw [List.foldl_cons, List.foldl_cons, w1, w2]
    refine ⟨ih.1, ih.2.1, ?_⟩
    rw [List.length_cons]
    omega
theorem sumF_dbl {ps : List Int} (hp : ∀ i : Int, 0 ≤ rd ps i ∧ rd ps i ≤ 100) {L : List Int} (hL : L.length ≤ 100) : sumF (dbl ps) L = 2 * sumF ps L ∧ 0 ≤ sumF ps L ∧ sumF ps L ≤ 10000 := by
  have h := sum_dbl hp L 0 (by omega) (by omega)
  unfold sumF
  rw [show (0 : Int) = 2 * 0 from rfl]
  have h3 : (L.foldl (fun s i => wrap64 (s + rd ps i)) 0 : Int) ≤ 0 + 100 * (L.length : Int) := h.2.2
  have h4 : (L.length : Int) ≤ 100 := by omega
  refine ⟨h.1, h.2.1, ?_⟩
  rw [show (2 * 0 : Int) = 0 from rfl]
  generalize List.foldl (fun s i => wrap64 (s + rd ps i)) 0 L = z at h3 ⊢
  omega
theorem rest_dbl {room : Int} {ps : List Int} (hr : 0 ≤ room ∧ room ≤ 100) (hp : ∀ i : Int, 0 ≤ rd ps i ∧ rd ps i ≤ 100) : ∀ (S : List (List Int)) (a : List Int) (v : Int), (∀ L ∈ S, L.length ≤ 100) → S.foldl (restStep (2 * room) (dbl ps)) (a, 2 * v) = ((S.foldl (restStep room ps) (a, v)).1, 2 * (S.foldl (restStep room ps) (a, v)).2)
  | [], _, _, _ => rfl
  | L :: S, a, v, h => by
    obtain ⟨e, s0, s1⟩ := sumF_dbl hp (h L List.mem_cons_self)
    have w1 : wrap64 (room - sumF ps L) = room - sumF ps L := by unfold wrap64; omega
    have w2 : wrap64 (2 * room - sumF (dbl ps) L) = 2 * (room - sumF ps L) := by rw [e]; unfold wrap64; omega
    have ih := fun a v => rest_dbl hr hp S a v fun L hL => h L (List.mem_cons_of_mem _ hL)
    rw [List.foldl_cons, List.foldl_cons]
    unfold restStep
    dsimp only
    rw [w1, w2]
    by_cases hc : 0 ≤ room - sumF ps L ∧ room - sumF ps L < v
    · rw [if_pos hc, if_pos (by omega)]; exact ih _ _
    · rw [if_neg hc, if_neg (by omega)]; exact ih _ _
theorem restF_dbl {room : Int} {l : List Int} (h : pieF room l = true) (h2 : pieF (2 * room) (dbl l) = true) (hr : 0 ≤ room ∧ room ≤ 100) (hl : l.length ≤ 12) (hp : ∀ i : Int, 0 ≤ rd l i ∧ rd l i ≤ 100) : (restF (2 * room) (dbl l)).1 = (restF room l).1 ∧ (restF (2 * room) (dbl l)).2.1 = 2 * (restF room l).2.1 ∧ (restF (2 * room) (dbl l)).2.2 = 0 ∧ (restF room l).2.2 = 0 := by
  have e := rest_dbl hr hp (setsF l.length) [] room fun L hL => by have := sets_len hL; omega
  unfold restF
  rw [if_pos h, if_pos h2, dbl_length]
  dsimp only
  rw [e]
  exact ⟨rfl, rfl, rfl, rfl⟩

theorem split_dbl {ps : List Int} (hp : ∀ i : Int, 0 ≤ rd ps i ∧ rd ps i ≤ 100) {all : Int} (ha : 0 ≤ all ∧ all ≤ 10000) : ∀ (S : List (List Int)) (a : List Int) (v v' : Int), (∀ L ∈ S, L.length ≤ 100) → ((v = -1 ∧ v' = -1) ∨ (0 ≤ v ∧ v' = 2 * v)) →
    (S.foldl (splitStep (dbl ps) (2 * all)) (a, v')).1 = (S.foldl (splitStep ps all) (a, v)).1 ∧
    (((S.foldl (splitStep ps all) (a, v)).2 = -1 ∧ (S.foldl (splitStep (dbl ps) (2 * all)) (a, v')).2 = -1) ∨ (0 ≤ (S.foldl (splitStep ps all) (a, v)).2 ∧ (S.foldl (splitStep (dbl ps) (2 * all)) (a, v')).2 = 2 * (S.foldl (splitStep ps all) (a, v)).2)) ∧
    ((0 ≤ v ∨ ∃ L ∈ S, ¬ (0 < ps.length ∧ (L = [] ∨ rd L 0 ≠ 0))) → 0 ≤ (S.foldl (splitStep ps all) (a, v)).2)
  | [], a, v, v', _, hv => ⟨rfl, hv, fun h => h.elim id fun ⟨L, hL, _⟩ => by cases hL⟩
  | L :: S, a, v, v', h, hv => by
    obtain ⟨e, s0, s1⟩ := sumF_dbl hp (h L List.mem_cons_self)
    have ih := fun a v v' => split_dbl hp ha S a v v' fun L hL => h L (List.mem_cons_of_mem _ hL)
    rw [List.foldl_cons, List.foldl_cons]
    have hn : (dbl ps).length = ps.length := dbl_length ps
    by_cases hc : 0 < ps.length ∧ (L = [] ∨ rd L 0 ≠ 0)
    · have e1 : splitStep ps all (a, v) L = (a, v) := by unfold splitStep; rw [if_pos hc]
      have e2 : splitStep (dbl ps) (2 * all) (a, v') L = (a, v') := by unfold splitStep; rw [hn, if_pos hc]
      rw [e1, e2]
      obtain ⟨i1, i2, i3⟩ := ih a v v' hv
      refine ⟨i1, i2, fun k => i3 (k.elim .inl fun ⟨M, hM, hM2⟩ => ?_)⟩
      rcases List.mem_cons.1 hM with rfl | hM
      · exact absurd hc hM2
      · exact .inr ⟨M, hM, hM2⟩
    · have d1 : absF (wrap64 (wrap64 (2 * sumF ps L) - all)) = if 2 * sumF ps L - all < 0 then all - 2 * sumF ps L else 2 * sumF ps L - all := by
        have w1 : wrap64 (2 * sumF ps L) = 2 * sumF ps L := by unfold wrap64; omega
        have w2 : wrap64 (2 * sumF ps L - all) = 2 * sumF ps L - all := by unfold wrap64; omega
        have w3 : wrap64 (-(2 * sumF ps L - all)) = -(2 * sumF ps L - all) := by unfold wrap64; omega
        unfold absF
        rw [w1, w2, w3]
        split <;> split <;> omega
      have d2 : absF (wrap64 (wrap64 (2 * sumF (dbl ps) L) - 2 * all)) = 2 * if 2 * sumF ps L - all < 0 then all - 2 * sumF ps L else 2 * sumF ps L - all := by
        have w1 : wrap64 (2 * (2 * sumF ps L)) = 2 * (2 * sumF ps L) := by unfold wrap64; omega
        have w2 : wrap64 (2 * (2 * sumF ps L) - 2 * all) = 2 * (2 * sumF ps L) - 2 * all := by unfold wrap64; omega
        have w3 : wrap64 (-(2 * (2 * sumF ps L) - 2 * all)) = -(2 * (2 * sumF ps L) - 2 * all) := by unfold wrap64; omega
        unfold absF
        rw [e, w1, w2, w3]
        split <;> split <;> omega
      obtain ⟨d, hd⟩ : ∃ d, (if 2 * sumF ps L - all < 0 then all - 2 * sumF ps L else 2 * sumF ps L - all) = d := ⟨_, rfl⟩
      have hd0 : 0 ≤ d := by rw [← hd]; split <;> omega
      rw [hd] at d1 d2
      have e1 : splitStep ps all (a, v) L = if v < 0 ∨ d < v then (L, d) else (a, v) := by unfold splitStep; rw [if_neg hc, d1]
      have e2 : splitStep (dbl ps) (2 * all) (a, v') L = if v' < 0 ∨ 2 * d < v' then (L, 2 * d) else (a, v') := by unfold splitStep; rw [hn, if_neg hc, d2]
      rw [e1, e2]
      by_cases hk : v < 0 ∨ d < v
      · rw [if_pos hk, if_pos (by omega)]
        obtain ⟨i1, i2, i3⟩ := ih L d (2 * d) (.inr ⟨hd0, rfl⟩)
        exact ⟨i1, i2, fun _ => i3 (.inl hd0)⟩
      · rw [if_neg hk, if_neg (by omega)]
        obtain ⟨i1, i2, i3⟩ := ih a v v' hv
        exact ⟨i1, i2, fun _ => i3 (.inl (by omega))⟩
theorem sets_zero (n : Nat) : ∃ L ∈ setsF n, ¬ (0 < n ∧ (L = [] ∨ rd L 0 ≠ 0)) := by
  cases n with
  | zero => exact ⟨[], by unfold setsF; exact List.mem_cons_self, fun h => absurd h.1 (by decide)⟩
  | succ n =>
    refine ⟨[0], ?_, fun h => h.2.elim (fun h => by cases h) (fun h => h rfl)⟩
    unfold setsF
    refine List.mem_cons_of_mem _ ?_
    rw [Hand.rest]
    exact List.mem_append_left _ List.mem_cons_self
theorem splitF_dbl {l : List Int} (h : pieF 100 l = true) (h2 : pieF 100 (dbl l) = true) (hl : l.length ≤ 12) (hp : ∀ i : Int, 0 ≤ rd l i ∧ rd l i ≤ 100) : (splitF (dbl l)).1 = (splitF l).1 ∧ (splitF (dbl l)).2.1 = 2 * (splitF l).2.1 ∧ (splitF (dbl l)).2.2 = 0 ∧ (splitF l).2.2 = 0 := by
  obtain ⟨e, s0, s1⟩ := sumF_dbl hp (L := places l.length) (by rw [places_length]; omega)
  obtain ⟨i1, i2, i3⟩ := split_dbl hp ⟨s0, s1⟩ (setsF l.length) [] (-1) (-1) (fun L hL => by have := sets_len hL; omega) (.inl ⟨rfl, rfl⟩)
  have i4 := i3 (.inr (sets_zero l.length))
  unfold splitF
  rw [if_pos h, if_pos h2, dbl_length, e]
  dsimp only
  exact ⟨i1, by omega, rfl, rfl⟩

theorem foldP {α : Type} {f : List Int × Int → α → List Int × Int} (P : List Int × Int → Prop) : ∀ (S : List α) (st : List Int × Int), (∀ st, P st → ∀ L ∈ S, P (f st L)) → P st → P (S.foldl f st)
  | [], _, _, h => h
  | L :: S, st, hs, h => foldP P S (f st L) (fun st h L hL => hs st h L (List.mem_cons_of_mem _ hL)) (hs st h L List.mem_cons_self)
theorem restF_bd {room : Int} {l : List Int} (h : pieF room l = true) (hr : 0 ≤ room ∧ room ≤ 100) (hl : l.length ≤ 12) : (restF room l).1.length ≤ 12 ∧ 0 ≤ (restF room l).2.1 ∧ (restF room l).2.1 ≤ 100 := by
  unfold restF
  rw [if_pos h]
  dsimp only
  refine foldP (f := restStep room l) (fun st => st.1.length ≤ 12 ∧ 0 ≤ st.2 ∧ st.2 ≤ 100) (setsF l.length) ([], room) (fun st hst L hL => ?_) ⟨Nat.zero_le _, hr⟩
  have hL' := sets_len hL
  unfold restStep
  dsimp only
  split
  · exact ⟨by show L.length ≤ 12; omega, by show 0 ≤ _; omega, by show _ ≤ 100; omega⟩
  · exact hst
theorem splitF_bd {l : List Int} (h : pieF 100 l = true) (hl : l.length ≤ 12) (hp : ∀ i : Int, 0 ≤ rd l i ∧ rd l i ≤ 100) : (splitF l).1.length ≤ 12 ∧ -1 ≤ (splitF l).2.1 ∧ (splitF l).2.1 ≤ 20000 := by
  obtain ⟨e, s0, s1⟩ := sumF_dbl hp (L := places l.length) (by rw [places_length]; omega)
  unfold splitF
  rw [if_pos h]
  dsimp only
  refine foldP (f := splitStep l (sumF l (places l.length))) (fun st => st.1.length ≤ 12 ∧ -1 ≤ st.2 ∧ st.2 ≤ 20000) (setsF l.length) ([], -1) (fun st hst L hL => ?_) ⟨Nat.zero_le _, by decide, by decide⟩
  have hL' := sets_len hL
  obtain ⟨_, t0, t1⟩ := sumF_dbl hp (L := L) (by omega)
  generalize sumF l (places l.length) = all at s0 s1
  unfold splitStep
  split
  · exact hst
  · have w1 : wrap64 (2 * sumF l L) = 2 * sumF l L := by unfold wrap64; omega
    have w2 : wrap64 (2 * sumF l L - all) = 2 * sumF l L - all := by unfold wrap64; omega
    have w3 : wrap64 (-(2 * sumF l L - all)) = -(2 * sumF l L - all) := by unfold wrap64; omega
    unfold absF
    rw [w1, w2, w3]
    generalize sumF l L = z at t0 t1
    have hd : ∃ d, (if 2 * z - all < -(2 * z - all) then -(2 * z - all) else 2 * z - all) = d ∧ -1 ≤ d ∧ d ≤ 20000 := ⟨_, rfl, by split <;> omega, by split <;> omega⟩
    obtain ⟨d, hd, h0, h1⟩ := hd
    rw [hd]
    show (if st.2 < 0 ∨ d < st.2 then (L, d) else st).1.length ≤ 12 ∧ -1 ≤ (if st.2 < 0 ∨ d < st.2 then (L, d) else st).2 ∧ (if st.2 < 0 ∨ d < st.2 then (L, d) else st).2 ≤ 20000
    split
    · exact ⟨by show L.length ≤ 12; omega, h0, h1⟩
    · exact hst

theorem nmL_len : ∀ (F : List Int) (r : List (Int × Int)) (d : Int), (nmL d r F).length = F.length
  | [], _, _ => rfl
  | b :: F, r, d => by rw [nmL, List.length_cons, nmL_len F, List.length_cons]
theorem fallF_len {room : Int} {l : List Int} (h : pieF room l = true) : (fallF room l).1.length = l.length ∧ (fallF room l).2 = 0 := by
  unfold fallF
  rw [if_pos h]
  refine ⟨?_, rfl⟩
  unfold renamedF
  rw [nmL_len, fitF_length]

end Go.Proofs.Ytoecbchfdgbliaa.Math

namespace Go.Proofs.Ytoecbchfdgbliaa.Math
open Go.RowKit Go.Proofs.Ytoecbchfdgbliaa.B Go.Proofs.YtoecbchfdgbliaaW.PrintWords Go.Proofs.YtoecbchfdgbliaaW.PrintLast Go.Proofs.YtoecbchfdgbliaaW.PrintMore
open Go.Proofs.Ytoecbchfdgbliaa.Hand hiding wrap_in look within_iff rd_mem
set_option linter.unusedVariables false

theorem within_is (x lo hi : Int) : Hand.within x lo hi = true ↔ lo ≤ x ∧ x ≤ hi := by
  unfold Hand.within
  split
  · simp only [decide_eq_true_eq]; omega
  · constructor
    · intro h; cases h
    · intro h; omega

/-- What pieces are. -/
def Ok (room : Int) (l : List Int) : Prop := 1 ≤ room ∧ room ≤ 100 ∧ l.length ≤ 12 ∧ ∀ x ∈ l, 1 ≤ x ∧ x ≤ room
theorem pie_iff (room : Int) (l : List Int) : Hand.pieF room l = true ↔ Ok room l := by
  unfold Hand.pieF Ok
  simp only [Bool.and_eq_true, within_is, decide_eq_true_eq, List.all_eq_true]
  constructor
  · rintro ⟨⟨h1, h2⟩, h3, h4⟩; exact ⟨h1, h2, by omega, h4⟩
  · rintro ⟨h1, h2, h3, h4⟩; exact ⟨⟨h1, h2⟩, by omega, h4⟩

theorem u64_in {n : Int} (h0 : 0 ≤ n) (h1 : n < 18446744073709551616) : IntKind.u64.wrap n = n := IntWalk.u64_in n ⟨h0, by omega⟩
theorem u64_nonneg (n : Int) : 0 ≤ IntKind.u64.wrap n := by
  have h : IntKind.u64.wrap n = n % 18446744073709551616 := by
    simp [IntKind.wrap, IntKind.bits, IntKind.signed]
  rw [h]; omega
theorem mod_some (x n : Int) (h0 : 1 ≤ n) (h1 : n ≤ 4096) : ∃ r : Nat, (r : Int) < n ∧ galloonlaw09_mod.f x n = some (r : Int) := by
  have hx := u64_nonneg x
  have hr0 := Int.emod_nonneg (IntKind.u64.wrap x) (show n ≠ 0 by omega)
  have hr1 := Int.emod_lt_of_pos (IntKind.u64.wrap x) (show 0 < n by omega)
  obtain ⟨r, hr⟩ := Int.eq_ofNat_of_zero_le hr0
  refine ⟨r, by omega, ?_⟩
  unfold galloonlaw09_mod.f
  rw [u64_in (n := n) (by omega) (by omega), if_neg (by omega), Int.tmod_eq_emod_of_nonneg hx, hr, wrap_in (by omega) (by omega)]

theorem tame_at (room : Int) (l1 : List Int) (h1 : 1 ≤ room) (h100 : room ≤ 100) : ∀ (m j : Nat) (acc : List Int), j + m = 12 → acc.length = j → (∀ x ∈ acc, 1 ≤ x ∧ x ≤ room) →
    ∃ out : List Int, out.length ≤ 12 ∧ (∀ x ∈ out, 1 ≤ x ∧ x ≤ room) ∧ ∀ k, m < k → galloonlaw09_tame.l0 k room l1 12 acc (j : Int) = some (room, out) := by
  intro m
  induction m with
  | zero =>
    intro j acc hj hl ha
    refine ⟨acc, by omega, ha, fun k hk => ?_⟩
    obtain ⟨k, rfl⟩ : ∃ k', k = k' + 1 := ⟨k - 1, by omega⟩
    rw [galloonlaw09_tame.l0]
    split
    · rw [if_neg (by omega)]
    · rfl
  | succ m ih =>
    intro j acc hj hl ha
    by_cases hc : (j : Int) < (l1.length : Int)
    · obtain ⟨r, hr, he⟩ := mod_some (rd l1 (j : Int)) room h1 (by omega)
      have hw : wrap64 (1 + (r : Int)) = 1 + (r : Int) := wrap_in (by omega) (by omega)
      obtain ⟨out, h2, h3, h4⟩ := ih (j + 1) (acc ++ [1 + (r : Int)]) (by omega) (by simp; omega) (fun x hx => by
        rcases List.mem_append.1 hx with hx | hx
        · exact ha x hx
        · rw [List.mem_singleton.1 hx]; omega)
      refine ⟨out, h2, h3, fun k hk => ?_⟩
      obtain ⟨k, rfl⟩ : ∃ k', k = k' + 1 := ⟨k - 1, by omega⟩
      rw [galloonlaw09_tame.l0, if_pos hc, if_pos (by omega), if_pos (by omega), he]
      simp only [Option.bind_some]
      rw [if_pos (by omega), hw, next (by omega), h4 k (by omega)]
    · refine ⟨acc, by omega, ha, fun k hk => ?_⟩
      obtain ⟨k, rfl⟩ : ∃ k', k = k' + 1 := ⟨k - 1, by omega⟩
      rw [galloonlaw09_tame.l0, if_neg hc]
/-- Whatever int and list: tame makes a room of at most 50 and pieces. -/
theorem tame_fifty (a0 : Int) (l1 : List Int) : ∃ t room l, galloonlaw09_mod.f a0 50 = some t ∧ Ok room l ∧ room ≤ 50 ∧ ∀ k, 20 < k → galloonlaw09_tame.f k t l1 12 = some (room, l) := by
  obtain ⟨r, hr, he⟩ := mod_some a0 50 (by decide) (by decide)
  have hw : wrap64 (1 + (r : Int)) = 1 + (r : Int) := wrap_in (by omega) (by omega)
  obtain ⟨out, h2, h3, h4⟩ := tame_at (1 + (r : Int)) l1 (by omega) (by omega) 12 0 [] rfl rfl (by simp)
  refine ⟨r, 1 + (r : Int), out, he, ⟨by omega, by omega, by omega, h3⟩, by omega, fun k hk => ?_⟩
  have e2 : galloonlaw09_mod.f (r : Int) 100 = some (r : Int) := by
    unfold galloonlaw09_mod.f
    rw [u64_in (n := 100) (by omega) (by omega), u64_in (n := (r : Int)) (by omega) (by omega), if_neg (by omega), Int.tmod_eq_emod_of_nonneg (by omega), Int.emod_eq_of_lt (by omega) (by omega), wrap_in (by omega) (by omega)]
  unfold galloonlaw09_tame.f
  rw [e2]
  simp only [Option.bind_some]
  rw [hw]
  exact h4 k (by omega)
theorem awake_ev : ∀ k, 60 ≤ k → galloonlaw09_awake.f k = some true := by
  intro k hk
  exact up (fun k => galloonlaw09_awake.mono k) (k := 60) (by decide +kernel) hk

theorem ints_at' (a : List Int) (hl : a.length ≤ 100000) : ∀ (d j : Nat), j + d = a.length → ∀ k, d < k → galloonlaw09_ints.l0 k a a (j : Int) = some true := by
  intro d
  induction d with
  | zero =>
    intro j hj k hk
    obtain ⟨k, rfl⟩ : ∃ k', k = k' + 1 := ⟨k - 1, by omega⟩
    rw [galloonlaw09_ints.l0, if_neg (by omega)]
  | succ d ih =>
    intro j hj k hk
    obtain ⟨k, rfl⟩ : ∃ k', k = k' + 1 := ⟨k - 1, by omega⟩
    rw [galloonlaw09_ints.l0, if_pos (by omega), if_pos (by omega), if_pos (by omega), if_pos rfl, next (by omega), ih (j + 1) (by omega) k (by omega)]
theorem ints_same (a : List Int) (hl : a.length ≤ 100000) (k : Nat) (hk : a.length < k) : galloonlaw09_ints.f k a a = some true := by
  unfold galloonlaw09_ints.f
  rw [if_pos rfl]
  exact ints_at' a hl a.length 0 (by omega) k hk


theorem ord_at (l : List Int) (hl : l.length ≤ 1000) : ∀ (m j : Nat), j + m = l.length → ∀ k, m < k → remnant_inOrder.l0 k (places j) (l.length : Int) (j : Int) = some (places l.length) := by
  intro m
  induction m with
  | zero =>
    intro j hj k hk
    obtain ⟨k, rfl⟩ : ∃ k', k = k' + 1 := ⟨k - 1, by omega⟩
    rw [remnant_inOrder.l0, if_neg (by omega), show j = l.length by omega]
  | succ m ih =>
    intro j hj k hk
    obtain ⟨k, rfl⟩ : ∃ k', k = k' + 1 := ⟨k - 1, by omega⟩
    rw [remnant_inOrder.l0, if_pos (by omega), if_pos (by rw [places_length]; omega), next (by omega), show places j ++ [(j : Int)] = places (j + 1) by simp [places, List.range_succ]]
    exact ih (j + 1) (by omega) k (by omega)
theorem first_val {room : Int} {l : List Int} (h : pieF room l = true) (k : Nat) (hk : 20 ≤ k) : remnant_First.f k room l = some (fitF room l (fun _ _ => false) (places l.length), 0) := by
  obtain ⟨h1, h2, h12, hall⟩ := (pie_iff room l).mp h
  unfold remnant_First.f remnant_arePieces.f fitNever.f
  rw [h, show remnant_inOrder.f k l = some (places l.length) from ord_at l (by omega) l.length 0 (by omega) k (by omega)]
  simp only [Option.bind_some, if_true]
  rw [if_pos ⟨by omega, h2, h12, by rw [places_length]; exact h12, hall, places_in⟩]
  rfl
theorem tight_val {room : Int} {l : List Int} (h : pieF room l = true) (k : Nat) (hk : 20 ≤ k) : remnant_Tight.f k room l = some (fitF room l (fun a b => decide (b < a)) (places l.length), 0) := by
  obtain ⟨h1, h2, h12, hall⟩ := (pie_iff room l).mp h
  unfold remnant_Tight.f remnant_arePieces.f fitMore.f
  rw [h, show remnant_inOrder.f k l = some (places l.length) from ord_at l (by omega) l.length 0 (by omega) k (by omega)]
  simp only [Option.bind_some, if_true]
  rw [if_pos ⟨by omega, h2, h12, by rw [places_length]; exact h12, hall, places_in⟩]
  rfl
theorem bs_dbl (l : List Int) (g : Nat → Nat) (b : Nat) : ∀ n, bs (pz (dbl l)) g b n = 2 * bs (pz l) g b n
  | 0 => rfl
  | n + 1 => by
    rw [bs_succ, bs_succ, bs_dbl l g b n, show pz (dbl l) n = 2 * pz l n from dbl_rd l n]
    split <;> omega
theorem feas_dbl {room : Int} {l : List Int} {m : Nat} : FeasB (2 * room) (dbl l) m ↔ FeasB room l m := by
  unfold FeasB
  rw [dbl_length]
  constructor
  · rintro ⟨g, h1, h2⟩
    exact ⟨g, h1, fun b => by have := h2 b; rw [bs_dbl] at this; omega⟩
  · rintro ⟨g, h1, h2⟩
    exact ⟨g, h1, fun b => by have := h2 b; rw [bs_dbl]; omega⟩
theorem twice_at (room : Int) (l : List Int) (hl : l.length ≤ 12) (hb : ∀ x ∈ l, 1 ≤ x ∧ x ≤ 50) : ∀ (m j : Nat), j + m = l.length → ∀ k, galloonlaw09_RemnantScaled.l0 (k + m + 1) room l (dbl (l.take j)) (j : Int) = galloonlaw09_RemnantScaled.l0 (k + 1) room l (dbl l) (l.length : Int) := by
  intro m
  induction m with
  | zero => intro j hj k; rw [show j = l.length by omega, List.take_length]
  | succ m ih =>
    intro j hj k
    have hj' : j < l.length := by omega
    have hr := hb _ (rd_mem hj')
    have hw : wrap64 (2 * rd l (j : Int)) = 2 * rd l (j : Int) := wrap_in (by omega) (by omega)
    have e : dbl (l.take j) ++ [2 * rd l (j : Int)] = dbl (l.take (j + 1)) := by
      rw [List.take_add_one, List.getElem?_eq_getElem hj']
      unfold dbl
      rw [List.map_append]
      simp [rd, hj']
    rw [show k + (m + 1) + 1 = (k + m + 1) + 1 by omega, galloonlaw09_RemnantScaled.l0, if_pos (by omega), if_pos (by omega), if_pos (by rw [dbl_length, List.length_take]; omega), hw, e, next (by omega)]
    exact ih (j + 1) (by omega) k

end Go.Proofs.Ytoecbchfdgbliaa.Math
namespace Go.Proofs.Ytoecbchfdgbliaa.Pure
open Go.RowKit Go.Proofs.Ytoecbchfdgbliaa.B Go.Proofs.YtoecbchfdgbliaaW.PrintWords Go.Proofs.YtoecbchfdgbliaaW.PrintLast Go.Proofs.YtoecbchfdgbliaaW.PrintMore Go.Proofs.Ytoecbchfdgbliaa.Math
open Go.Proofs.Ytoecbchfdgbliaa.Hand hiding wrap_in look within_iff rd_mem
set_option linter.unusedVariables false

theorem RemnantScaled : galloonlaw09_RemnantScaled.Pure := by
  intro a0 l1 _ _ _ _
  refine ⟨2000, ?_⟩
  obtain ⟨t, room, l, he, hOk, h50, ht⟩ := tame_fifty a0 l1
  have hok := (pie_iff room l).2 hOk
  obtain ⟨h1, h2, h12, hall⟩ := hOk
  have hp : ∀ i, i < l.length → 1 ≤ pz l i ∧ pz l i ≤ room := fun i hi => hall _ (Math.rd_mem hi)
  have hOk2 : Ok (2 * room) (dbl l) := ⟨by omega, by omega, by rw [dbl_length]; exact h12, fun x hx => by
    unfold dbl at hx
    obtain ⟨y, hy, rfl⟩ := List.mem_map.1 hx
    have := hall y hy
    omega⟩
  have hok2 := (pie_iff (2 * room) (dbl l)).2 hOk2
  have hokS : pieF 100 l = true := (pie_iff 100 l).2 ⟨by decide, by decide, h12, fun x hx => by have := hall x hx; omega⟩
  have hokS2 : pieF 100 (dbl l) = true := (pie_iff 100 (dbl l)).2 ⟨by decide, by decide, hOk2.2.2.1, fun x hx => by have := hOk2.2.2.2 x hx; omega⟩
  have hp2 : ∀ i, i < (dbl l).length → 1 ≤ pz (dbl l) i ∧ pz (dbl l) i ≤ 2 * room := fun i hi => hOk2.2.2.2 _ (Math.rd_mem hi)
  have hrd : ∀ i : Int, 0 ≤ rd l i ∧ rd l i ≤ 100 := fun i => by
    by_cases hi : i.toNat < l.length
    · have h := hall _ (Math.rd_mem hi)
      have e : rd l (i.toNat : Int) = rd l i := rfl
      rw [e] at h
      omega
    · have e : rd l i = 0 := by simp only [rd, List.getD_eq_getElem?_getD, List.getElem?_eq_none (Nat.le_of_not_lt hi), Option.getD_none]
      rw [e]; decide
  have hw2 : wrap64 (2 * room) = 2 * room := Math.wrap_in (by omega) (by omega)
  obtain ⟨m, q, hml, hF, hmin, hB⟩ := best_min hok h1 h2 h12 hp
  obtain ⟨m2, q2, hml2, hF2, hmin2, hB2⟩ := best_min hok2 (by omega) (by omega) hOk2.2.2.1 hp2
  have hmm : m = m2 := by
    have h3 := hmin m2 (feas_dbl.1 hF2)
    have h4 := hmin2 m (feas_dbl.2 hF)
    omega
  subst hmm
  obtain ⟨k, hk⟩ : ∃ k, 2000 = k + l.length + 1 := ⟨2000 - l.length - 1, by omega⟩
  have hk' : 1900 ≤ k := by omega
  obtain ⟨n, hn⟩ : ∃ n, k = n + 1 := ⟨k - 1, by omega⟩
  have hn' : 1800 ≤ n := by omega
  have hf := fallF_dbl hok hok2
  obtain ⟨f1, f2⟩ := fallF_len hok
  have hwv := waysF_dbl hok hok2
  have hwe : (waysF room l).2 = 0 := by unfold waysF; rw [if_pos hok]
  obtain ⟨r1, r2, r3, r4⟩ := restF_dbl hok hok2 ⟨by omega, h2⟩ h12 hrd
  obtain ⟨r5, r6, r7⟩ := restF_bd hok ⟨by omega, h2⟩ h12
  obtain ⟨s1, s2, s3, s4⟩ := splitF_dbl hokS hokS2 h12 hrd
  obtain ⟨s5, s6, s7⟩ := splitF_bd hokS h12 hrd
  have lf : ∀ p, (fitF room l p (places l.length)).length = l.length := fun p => fitF_length _ _ _ _
  unfold galloonlaw09_RemnantScaled.f
  rw [he]
  simp only [Option.bind_some]
  rw [ht 2000 (by omega)]
  simp only [Option.bind_some]
  have e0 : dbl (l.take 0) = [] := rfl
  have hgo := twice_at room l h12 (fun x hx => by have := hall x hx; omega) l.length 0 (by omega) k
  rw [e0, show (((0 : Nat) : Int)) = 0 from rfl] at hgo
  rw [hk, hgo, galloonlaw09_RemnantScaled.l0, if_neg (by omega), hw2, first_val hok k (by omega), first_val hok2 k (by omega)]
  simp only [Option.bind_some]
  rw [tight_val hok k (by omega), tight_val hok2 k (by omega)]
  unfold remnant_Falling.f remnant_Ways.f
  simp only [Option.bind_some, if_true]
  rw [dbl_length, fitF_dbl (fun _ _ => rfl), fitF_dbl (fun a b => decide_eq_decide.mpr (by omega)), hf, hwv]
  rw [if_pos f2, if_pos f2, if_pos hwe, if_pos hwe]
  rw [ints_same _ (by rw [lf]; omega) k (by rw [lf]; omega)]
  simp only [Option.bind_some, if_true]
  rw [ints_same _ (by rw [lf]; omega) k (by rw [lf]; omega)]
  simp only [Option.bind_some, if_true]
  rw [ints_same _ (by omega) k (by omega)]
  simp only [Option.bind_some, if_true, bne_self_eq_false]
  rw [hn, galloonlaw09_RemnantScaled.j1, if_neg (by decide), hw2, hB n (by omega), hB2 n (by omega)]
  unfold remnant_Rest.f remnant_Split.f
  simp only [Option.bind_some, if_true]
  rw [if_pos r4, if_pos r3, r1, ints_same _ (by omega) n (by omega)]
  simp only [Option.bind_some, if_true]
  rw [r2, if_pos (Math.wrap_in (by omega) (by omega)).symm, if_pos s4, if_pos s3, s1, ints_same _ (by omega) n (by omega)]
  simp only [Option.bind_some, if_true]
  rw [s2, if_pos (Math.wrap_in (by omega) (by omega)).symm, awake_ev n (by omega)]
  rfl

end Go.Proofs.Ytoecbchfdgbliaa.Pure

