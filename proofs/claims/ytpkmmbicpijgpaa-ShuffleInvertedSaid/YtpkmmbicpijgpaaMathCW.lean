-- Plain lemmas: the list of the lengths in ascending order, its sum and its least common multiple.
import Derived.Test.YtpkmmbicpijgpaaHandOM

-- Plain lemmas: the cycles of a permutation, and what the walk over them counts.
namespace Go.Proofs.Ytpkmmbicpijgpaa.MathY
open Go.RowKit Go.Proofs.Ytpkmmbicpijgpaa.Hand Go.Proofs.YtpkmmbicpijgpaaW.PrintWords Go.Proofs.YtpkmmbicpijgpaaW.PrintLast Go.Proofs.YtpkmmbicpijgpaaW.PrintMore
set_option linter.unusedVariables false

theorem pigeon : ∀ (n : Nat) (f : Nat → Nat), (∀ i, i < n + 1 → f i < n) → ∃ i j, i < j ∧ j < n + 1 ∧ f i = f j
  | 0, f, h => absurd (h 0 (by omega)) (by omega)
  | n + 1, f, h => by
    by_cases hc : ∃ i, i < n + 1 ∧ f i = f (n + 1)
    · obtain ⟨i, h1, h2⟩ := hc
      exact ⟨i, n + 1, by omega, by omega, h2⟩
    · have hne : ∀ i, i < n + 1 → f i ≠ f (n + 1) := fun i hi e => hc ⟨i, hi, e⟩
      obtain ⟨i, j, h1, h2, h3⟩ := pigeon n (fun i => if f i < f (n + 1) then f i else f i - 1) (fun i hi => by
        have a1 := h i (by omega)
        have a2 := h (n + 1) (by omega)
        have a3 := hne i hi
        show (if f i < f (n + 1) then f i else f i - 1) < n
        split <;> omega)
      refine ⟨i, j, h1, by omega, ?_⟩
      have a3 := hne i (by omega)
      have a4 := hne j h2
      try simp only at h3
      split at h3 <;> split at h3 <;> omega
theorem find_range_some {p : Nat → Bool} {n c : Nat} (h : (List.range n).find? p = some c) : c < n ∧ p c = true ∧ ∀ q, q < c → p q = false := by
  rw [List.find?_range_eq_some] at h
  exact ⟨List.mem_range.1 h.2.1, h.1, fun q hq => by simpa using h.2.2 q hq⟩
theorem find_range_none {p : Nat → Bool} {n : Nat} (h : (List.range n).find? p = none) : ∀ q, q < n → p q = false := by
  rw [List.find?_eq_none] at h
  intro q hq
  simpa using h q (List.mem_range.2 hq)

/-- A permutation. -/
structure Prm (f : List Int) : Prop where
  len : f.length ≤ 64
  rem : ∀ x : Nat, x < f.length → 0 ≤ rd f (x : Int) ∧ rd f (x : Int) < (f.length : Int)
  inj : ∀ x y : Nat, x < f.length → y < f.length → rd f (x : Int) = rd f (y : Int) → x = y
def F (f : List Int) (x : Nat) : Nat := (rd f (x : Int)).toNat
def it (f : List Int) : Nat → Nat → Nat
  | 0, x => x
  | n + 1, x => F f (it f n x)
variable {f : List Int}
theorem F_lt (h : Prm f) {x : Nat} (hx : x < f.length) : F f x < f.length := by
  have := h.rem x hx
  unfold F
  omega
theorem F_cast (h : Prm f) {x : Nat} (hx : x < f.length) : rd f (x : Int) = ((F f x : Nat) : Int) := by
  have := h.rem x hx
  unfold F
  omega
theorem F_inj (h : Prm f) {x y : Nat} (hx : x < f.length) (hy : y < f.length) (e : F f x = F f y) : x = y := by
  refine h.inj x y hx hy ?_
  rw [F_cast h hx, F_cast h hy, e]
theorem it_lt (h : Prm f) {x : Nat} (hx : x < f.length) : ∀ n, it f n x < f.length
  | 0 => hx
  | n + 1 => F_lt h (it_lt h hx n)
theorem it_F : ∀ (n x : Nat), it f n (F f x) = F f (it f n x)
  | 0, _ => rfl
  | n + 1, x => by rw [it, it_F n x]; rfl
theorem it_add (a : Nat) : ∀ (b x : Nat), it f (a + b) x = it f b (it f a x)
  | 0, _ => rfl
  | b + 1, x => by rw [← Nat.add_assoc, it, it_add a b x]; rfl
theorem it_inj (h : Prm f) : ∀ (n : Nat) {x y : Nat}, x < f.length → y < f.length → it f n x = it f n y → x = y
  | 0, _, _, _, _, e => e
  | n + 1, x, y, hx, hy, e => it_inj h n hx hy (F_inj h (it_lt h hx n) (it_lt h hy n) e)
theorem it_back (h : Prm f) {x : Nat} (hx : x < f.length) : ∃ n, 1 ≤ n ∧ n ≤ f.length ∧ it f n x = x := by
  obtain ⟨i, j, h1, h2, h3⟩ := pigeon f.length (fun i => it f i x) (fun i _ => it_lt h hx i)
  refine ⟨j - i, by omega, by omega, ?_⟩
  have e : it f j x = it f i (it f (j - i) x) := by rw [← it_add]; congr 1; omega
  have h3' : it f i x = it f j x := h3
  rw [e] at h3'
  exact (it_inj h i hx (it_lt h hx _) h3').symm
/-- The length of the cycle of a place. -/
def clen (f : List Int) (x : Nat) : Nat := ((List.range (f.length + 1)).find? fun n => decide (1 ≤ n ∧ it f n x = x)).getD 0
theorem clen_spec (h : Prm f) {x : Nat} (hx : x < f.length) : 1 ≤ clen f x ∧ clen f x ≤ f.length ∧ it f (clen f x) x = x ∧ ∀ n, 1 ≤ n → n < clen f x → it f n x ≠ x := by
  unfold clen
  cases e : (List.range (f.length + 1)).find? fun n => decide (1 ≤ n ∧ it f n x = x) with
  | none =>
    obtain ⟨n, h1, h2, h3⟩ := it_back h hx
    have := find_range_none e n (by omega)
    simp [h1, h3] at this
  | some c =>
    obtain ⟨h1, h2, h3⟩ := find_range_some e
    have h2' := of_decide_eq_true h2
    refine ⟨h2'.1, by simp; omega, h2'.2, fun n a b c' => ?_⟩
    have := h3 n b
    rw [decide_eq_false_iff_not] at this
    exact this ⟨a, c'⟩
theorem clen_eq (h : Prm f) {x c : Nat} (hx : x < f.length) (h1 : 1 ≤ c) (h2 : it f c x = x) (h3 : ∀ n, 1 ≤ n → n < c → it f n x ≠ x) : clen f x = c := by
  obtain ⟨a1, a2, a3, a4⟩ := clen_spec h hx
  rcases Nat.lt_trichotomy (clen f x) c with e | e | e
  · exact absurd a3 (h3 _ a1 e)
  · exact e
  · exact absurd h2 (a4 c h1 e)
theorem clen_F (h : Prm f) {x : Nat} (hx : x < f.length) : clen f (F f x) = clen f x := by
  obtain ⟨a1, a2, a3, a4⟩ := clen_spec h hx
  refine clen_eq h (F_lt h hx) a1 (by rw [it_F, a3]) fun n b c e => ?_
  rw [it_F] at e
  exact a4 n b c (F_inj h (it_lt h hx n) hx e)
theorem clen_it (h : Prm f) {x : Nat} (hx : x < f.length) : ∀ n, clen f (it f n x) = clen f x
  | 0 => rfl
  | n + 1 => by rw [it, clen_F h (it_lt h hx n), clen_it h hx n]
theorem it_ne (h : Prm f) {x i j : Nat} (hx : x < f.length) (hij : i < j) (hj : j < clen f x) : it f i x ≠ it f j x := by
  intro e
  have e2 : it f j x = it f i (it f (j - i) x) := by rw [← it_add]; congr 1; omega
  rw [e2] at e
  exact (clen_spec h hx).2.2.2 (j - i) (by omega) (by omega) (it_inj h i hx (it_lt h hx _) e).symm

/-! ### counting -/
def cnt (p : Nat → Bool) (m : Nat) : Nat := ((List.range m).filter p).length
theorem cnt_succ (p : Nat → Bool) (m : Nat) : cnt p (m + 1) = cnt p m + if p m = true then 1 else 0 := by
  unfold cnt
  rw [List.range_succ, List.filter_append, List.length_append]
  congr 1
  simp only [List.filter_cons, List.filter_nil]
  split <;> rfl
theorem cnt_congr {p q : Nat → Bool} : ∀ {m : Nat}, (∀ y, y < m → p y = q y) → cnt p m = cnt q m
  | 0, _ => rfl
  | m + 1, h => by rw [cnt_succ, cnt_succ, cnt_congr fun y hy => h y (by omega), h m (by omega)]
theorem cnt_point {p q : Nat → Bool} {y : Nat} : ∀ {m : Nat}, y < m → p y = false → q y = true → (∀ z, z < m → z ≠ y → p z = q z) → cnt q m = cnt p m + 1
  | 0, h, _, _, _ => absurd h (by omega)
  | m + 1, h, h1, h2, h3 => by
    rw [cnt_succ, cnt_succ]
    by_cases e : y = m
    · subst e
      rw [cnt_congr (p := q) (q := p) fun z hz => (h3 z (by omega) (by omega)).symm, h1, h2]
      simp
    · rw [cnt_point (y := y) (by omega) h1 h2 fun z hz => h3 z (by omega), h3 m (by omega) (fun k => e k.symm)]
      omega
theorem cnt_le (p : Nat → Bool) (m : Nat) : cnt p m ≤ m := by
  unfold cnt
  have := List.length_filter_le p (List.range m)
  rw [List.length_range] at this
  exact this
theorem rd_set (s : List Int) (y z : Nat) (v : Int) (hy : y < s.length) : rd (s.set y v) (z : Int) = if z = y then v else rd s (z : Int) := by
  unfold rd
  rw [Int.toNat_natCast, List.getD_eq_getElem?_getD, List.getD_eq_getElem?_getD, List.getElem?_set]
  by_cases h : y = z
  · subst h; simp [hy]
  · rw [if_neg h, if_neg (by omega)]
def W (f : List Int) (s : List Int) (n : Nat) : Nat := cnt (fun y => decide (rd s (y : Int) ≠ 0 ∧ clen f y = n)) f.length
theorem W_set {s : List Int} {y : Nat} (hy : y < f.length) (hs : f.length ≤ s.length) (h0 : rd s (y : Int) = 0) (n : Nat) : W f (s.set y 1) n = W f s n + if clen f y = n then 1 else 0 := by
  unfold W
  by_cases e : clen f y = n
  · rw [if_pos e]
    refine cnt_point hy (by simp [h0]) (by rw [rd_set s y y 1 (by omega)]; simp [e]) fun z hz hne => ?_
    rw [rd_set s y z 1 (by omega), if_neg hne]
  · rw [if_neg e, Nat.add_zero]
    refine cnt_congr fun z hz => ?_
    rw [rd_set s y z 1 (by omega)]
    by_cases hzy : z = y
    · subst hzy; simp [e]
    · rw [if_neg hzy]

/-- The marks behind i steps from x. -/
structure At (f s : List Int) (x i : Nat) (si : List Int) : Prop where
  len : si.length = 64
  mks : ∀ y, y < f.length → (rd si (y : Int) ≠ 0 ↔ rd s (y : Int) ≠ 0 ∨ ∃ j, j < i ∧ y = it f j x)
  cnt : ∀ n, W f si n = W f s n + if clen f x = n then i else 0
theorem wrap_nat {n : Nat} (h : n ≤ 1000000) : wrap64 ((n : Int) + 1) = ((n + 1 : Nat) : Int) := by unfold wrap64; omega
theorem walk_cyc (h : Prm f) {s : List Int} {x : Nat} (hx : x < f.length) (hcl : ∀ y, y < f.length → (rd s (y : Int) ≠ 0 ↔ rd s ((F f y : Nat) : Int) ≠ 0)) (h0 : rd s (x : Int) = 0) :
    ∀ d i si, i + d = clen f x → At f s x i si → ∀ k, d < k → ∃ s', cyc_in f k si (i : Int) ((it f i x : Nat) : Int) = some (s', (clen f x : Int)) ∧ At f s x (clen f x) s' := by
  have hsp := clen_spec h hx
  have hun : ∀ j, rd s ((it f j x : Nat) : Int) = 0 := by
    intro j
    induction j with
    | zero => exact h0
    | succ j ih =>
      apply Classical.byContradiction
      intro c
      exact (hcl _ (it_lt h hx j)).2 c ih
  intro d
  induction d with
  | zero =>
    intro i si hi hA k hk
    obtain ⟨k, rfl⟩ : ∃ k', k = k' + 1 := ⟨k - 1, by omega⟩
    have hi' : i = clen f x := by omega
    subst hi'
    have hlt := it_lt h hx (clen f x)
    have hl := h.len
    refine ⟨si, ?_, hA⟩
    rw [cyc_in, if_pos (by omega), if_neg]
    rw [hsp.2.2.1]
    exact (hA.mks x hx).2 (.inr ⟨0, by omega, rfl⟩)
  | succ d ih =>
    intro i si hi hA k hk
    obtain ⟨k, rfl⟩ : ∃ k', k = k' + 1 := ⟨k - 1, by omega⟩
    have hlt := it_lt h hx i
    have hl := h.len
    have hA1 := hA.len
    have hz : rd si ((it f i x : Nat) : Int) = 0 := by
      apply Classical.byContradiction
      intro c
      rcases (hA.mks _ hlt).1 c with c | ⟨j, hj, e⟩
      · exact c (hun i)
      · exact it_ne h hx hj (by omega) e.symm
    rw [cyc_in, if_pos (by omega), if_pos hz, wrap_nat (by omega), F_cast h hlt, Int.toNat_natCast]
    exact ih (i + 1) _ (by omega) ⟨by rw [List.length_set]; exact hA1, fun y hy => by
      rw [rd_set _ _ _ _ (by omega)]
      by_cases e : y = it f i x
      · rw [if_pos e]
        exact ⟨fun _ => .inr ⟨i, by omega, e⟩, fun _ => by decide⟩
      · rw [if_neg e, hA.mks y hy]
        constructor
        · rintro (c | ⟨j, hj, c⟩)
          · exact .inl c
          · exact .inr ⟨j, by omega, c⟩
        · rintro (c | ⟨j, hj, c⟩)
          · exact .inl c
          · refine .inr ⟨j, ?_, c⟩
            by_cases e2 : j = i
            · subst e2; exact absurd c e
            · omega, fun n => by
      rw [W_set hlt (by omega) hz, hA.cnt n, clen_it h hx i]
      split <;> omega⟩ k (by omega)

end Go.Proofs.Ytpkmmbicpijgpaa.MathY

-- Plain lemmas: what Order and Cycles answer.
namespace Go.Proofs.Ytpkmmbicpijgpaa.MathY
open Go.RowKit Go.Proofs.Ytpkmmbicpijgpaa.Hand Go.Proofs.YtpkmmbicpijgpaaW.PrintWords Go.Proofs.YtpkmmbicpijgpaaW.PrintLast Go.Proofs.YtpkmmbicpijgpaaW.PrintMore
set_option linter.unusedVariables false
variable {f : List Int}

/-- How many places lie on a cycle of this length. -/
def many (f : List Int) (n : Nat) : Nat := cnt (fun y => decide (clen f y = n)) f.length
def val (L : List (Int × Int)) (n : Int) : Nat := ((Hand.look L n).getD 0).toNat
theorem look_upd : ∀ (L : List (Int × Int)) (k v k' : Int), Hand.look (upd L k v) k' = if k' = k then some v else Hand.look L k'
  | [], k, v, k' => by
    by_cases e : k' = k
    · subst e; simp [upd, Hand.look]
    · rw [if_neg e]; simp [upd, Hand.look, Ne.symm e]
  | (a, b) :: L, k, v, k' => by
    by_cases e : a = k
    · subst e
      rw [upd, if_pos rfl]
      by_cases e2 : k' = a
      · subst e2; simp [Hand.look]
      · rw [if_neg e2]
        simp [Hand.look, Ne.symm e2]
    · rw [upd, if_neg e]
      have ih := look_upd L k v k'
      by_cases e2 : a = k'
      · subst e2
        rw [if_neg e]
        simp [Hand.look]
      · have h1 : ∀ M : List (Int × Int), Hand.look ((a, b) :: M) k' = Hand.look M k' := fun M => by simp [Hand.look, e2]
        rw [h1, h1, ih]
theorem upd_keys : ∀ (L : List (Int × Int)) (k v : Int), (upd L k v).map Prod.fst = if k ∈ L.map Prod.fst then L.map Prod.fst else L.map Prod.fst ++ [k]
  | [], k, v => by simp [upd]
  | (a, b) :: L, k, v => by
    by_cases e : a = k
    · subst e; simp [upd]
    · rw [upd, if_neg e, List.map_cons, upd_keys L k v, List.map_cons]
      have : (k ∈ a :: L.map Prod.fst) ↔ k ∈ L.map Prod.fst := by
        rw [List.mem_cons]
        exact ⟨fun h => h.resolve_left (fun h => e h.symm), .inr⟩
      by_cases c : k ∈ L.map Prod.fst
      · rw [if_pos c, if_pos (this.2 c)]
      · rw [if_neg c, if_neg (fun h => c (this.1 h))]; rfl
theorem upd_mem : ∀ {L : List (Int × Int)} {k v : Int} {p : Int × Int}, p ∈ upd L k v → p = (k, v) ∨ p ∈ L
  | [], k, v, p, h => .inl (List.mem_singleton.1 h)
  | (a, b) :: L, k, v, p, h => by
    by_cases e : a = k
    · subst e
      rw [upd, if_pos rfl] at h
      rcases List.mem_cons.1 h with h | h
      · exact .inl h
      · exact .inr (List.mem_cons_of_mem _ h)
    · rw [upd, if_neg e] at h
      rcases List.mem_cons.1 h with h | h
      · exact .inr (h ▸ List.mem_cons_self)
      · rcases upd_mem h with h | h
        · exact .inl h
        · exact .inr (List.mem_cons_of_mem _ h)
theorem look_mem : ∀ {L : List (Int × Int)} {a v : Int}, Hand.look L a = some v → (a, v) ∈ L
  | [], _, _, h => by simp [Hand.look] at h
  | (b, u) :: L, a, v, h => by
    by_cases e : b = a
    · subst e
      have : u = v := by simpa [Hand.look] using h
      subst this
      exact List.mem_cons_self
    · exact List.mem_cons_of_mem _ (look_mem (by simpa [Hand.look, e] using h))
theorem mem_look : ∀ {L : List (Int × Int)} {a v : Int}, (L.map Prod.fst).Nodup → (a, v) ∈ L → Hand.look L a = some v
  | (b, u) :: L, a, v, hn, h => by
    have hn' := List.nodup_cons.1 hn
    rcases List.mem_cons.1 h with h | h
    · cases h; simp [Hand.look]
    · have : b ≠ a := fun e => hn'.1 (e ▸ List.mem_map.2 ⟨_, h, rfl⟩)
      have := mem_look hn'.2 h
      simp only [Hand.look] at this ⊢
      simp [*]
/-- The entries: each length once, 1 or more of it. -/
structure LOK (m : Nat) (L : List (Int × Int)) : Prop where
  nodup : (L.map Prod.fst).Nodup
  ok : ∀ p ∈ L, 1 ≤ p.1 ∧ p.1 ≤ (m : Int) ∧ 1 ≤ p.2
structure Inv (f s : List Int) (L : List (Int × Int)) (x : Nat) : Prop where
  len : s.length = 64
  cl : ∀ y, y < f.length → (rd s (y : Int) ≠ 0 ↔ rd s ((F f y : Nat) : Int) ≠ 0)
  done : ∀ y, y < x → rd s (y : Int) ≠ 0
  num : ∀ n : Nat, 1 ≤ n → n * val L (n : Int) = W f s n
  ok : LOK f.length L
theorem W_le (f s : List Int) (n : Nat) : W f s n ≤ f.length := cnt_le _ _
theorem walk_all (h : Prm f) : ∀ d x s L, x + d = f.length → Inv f s L x → ∀ k, 65 ≤ k → ∃ L', cyc_out f k d s L = some L' ∧ LOK f.length L' ∧ ∀ n : Nat, 1 ≤ n → n * val L' (n : Int) = many f n := by
  have hl := h.len
  intro d
  induction d with
  | zero =>
    intro x s L hx hI k hk
    refine ⟨L, rfl, hI.ok, fun n hn => ?_⟩
    rw [hI.num n hn]
    refine cnt_congr fun y hy => ?_
    have := hI.done y (by omega)
    simp [this]
  | succ d ih =>
    intro x s L hx hI k hk
    have hxl : x < f.length := by omega
    rw [cyc_out, show f.length - (d + 1) = x by omega]
    by_cases hz : rd s (x : Int) = 0
    · have hA0 : At f s x 0 s := ⟨hI.len, fun y hy => ⟨.inl, fun c => c.resolve_right (fun ⟨j, hj, _⟩ => absurd hj (by omega))⟩, fun n => by split <;> rfl⟩
      obtain ⟨s', e, hA⟩ := walk_cyc h hxl hI.cl hz (clen f x) 0 s (by omega) hA0 k (by have := (clen_spec h hxl).2.1; omega)
      have hc := clen_spec h hxl
      have hc1 : (0 : Int) < (clen f x : Int) := by omega
      have e' : cyc_in f k s 0 (x : Int) = some (s', (clen f x : Int)) := e
      rw [e', Option.bind_some]
      simp only
      rw [if_pos hc1]
      have hnum := hI.num (clen f x) hc.1
      have hWle := W_le f s (clen f x)
      have hvle : val L (clen f x : Int) ≤ 64 := by
        have h1 : val L (clen f x : Int) ≤ clen f x * val L (clen f x : Int) := Nat.le_mul_of_pos_left _ hc.1
        omega
      have hnn : 0 ≤ (Hand.look L (clen f x : Int)).getD 0 := by
        cases e2 : Hand.look L (clen f x : Int) with
        | none => simp
        | some v =>
          have := (hI.ok.ok _ (look_mem e2)).2.2
          simp only [Option.getD_some]
          omega
      have hw : wrap64 ((Hand.look L (clen f x : Int)).getD 0 + 1) = ((val L (clen f x : Int) + 1 : Nat) : Int) := by
        have : (Hand.look L (clen f x : Int)).getD 0 = ((val L (clen f x : Int) : Nat) : Int) := by unfold val; omega
        rw [this]
        exact wrap_nat (by omega)
      refine ih (x + 1) s' _ (by omega) ⟨hA.len, ?_, ?_, ?_, ⟨?_, ?_⟩⟩ k hk
      · intro y hy
        have hFy := F_lt h hy
        rw [hA.mks y hy, hA.mks _ hFy]
        constructor
        · rintro (c | ⟨j, hj, rfl⟩)
          · exact .inl ((hI.cl y hy).1 c)
          · by_cases e2 : j + 1 = clen f x
            · refine .inr ⟨0, by omega, ?_⟩
              show it f (j + 1) x = x
              rw [e2]; exact hc.2.2.1
            · exact .inr ⟨j + 1, by omega, rfl⟩
        · rintro (c | ⟨j, hj, c⟩)
          · exact .inl ((hI.cl y hy).2 c)
          · right
            cases j with
            | zero =>
              refine ⟨clen f x - 1, by omega, F_inj h hy (it_lt h hxl _) ?_⟩
              have : it f (clen f x - 1 + 1) x = x := by rw [Nat.sub_add_cancel hc.1]; exact hc.2.2.1
              rw [c]
              exact this.symm
            | succ j => exact ⟨j, by omega, F_inj h hy (it_lt h hxl _) c⟩
      · intro y hy
        by_cases e2 : y = x
        · subst e2; exact (hA.mks y hxl).2 (.inr ⟨0, hc.1, rfl⟩)
        · exact (hA.mks y (by omega)).2 (.inl (hI.done y (by omega)))
      · intro n hn
        rw [hA.cnt n, ← hI.num n hn]
        unfold bump
        rw [hw]
        have hv : val (upd L (clen f x : Int) ((val L (clen f x : Int) + 1 : Nat) : Int)) (n : Int) = if n = clen f x then val L (clen f x : Int) + 1 else val L (n : Int) := by
          have e0 : ∀ M : List (Int × Int), val M (n : Int) = ((Hand.look M (n : Int)).getD 0).toNat := fun _ => rfl
          rw [e0, look_upd]
          generalize val L (clen f x : Int) = z
          by_cases e2 : n = clen f x
          · rw [if_pos (by omega), if_pos e2, Option.getD_some, Int.toNat_natCast]
          · rw [if_neg (by omega), if_neg e2]; rfl
        rw [hv]
        by_cases e2 : n = clen f x
        · rw [if_pos e2, if_pos e2.symm, ← e2, Nat.mul_add, Nat.mul_one]
        · rw [if_neg e2, if_neg (fun k => e2 k.symm), Nat.add_zero]
      · unfold bump
        rw [upd_keys]
        split
        · exact hI.ok.nodup
        · rename_i c
          exact List.nodup_append.2 ⟨hI.ok.nodup, by simp, fun a ha b hb hab => c (by rw [List.mem_singleton.1 hb] at hab; rw [← hab]; exact ha)⟩
      · intro p hp
        unfold bump at hp
        rw [hw] at hp
        rcases upd_mem hp with rfl | hp
        · have := hc.2.1
          exact ⟨by show (1 : Int) ≤ (clen f x : Int); omega, by show (clen f x : Int) ≤ (f.length : Int); omega, by show (1 : Int) ≤ ((val L (clen f x : Int) + 1 : Nat) : Int); omega⟩
        · exact hI.ok.ok p hp
    · have e : cyc_in f k s 0 (x : Int) = some (s, 0) := by
        obtain ⟨k, rfl⟩ : ∃ k', k = k' + 1 := ⟨k - 1, by omega⟩
        rw [cyc_in, if_pos (by omega), if_neg hz]
      rw [e, Option.bind_some]
      simp only
      rw [if_neg (by omega)]
      exact ih (x + 1) s L (by omega) ⟨hI.len, hI.cl, fun y hy => by
        by_cases e2 : y = x
        · subst e2; exact hz
        · exact hI.done y (by omega), hI.num, hI.ok⟩ k hk
theorem rd_zeros (y : Nat) : rd (List.replicate 64 (0 : Int)) (y : Int) = 0 := by
  unfold rd
  rw [List.getD_eq_getElem?_getD, List.getElem?_replicate]
  split <;> rfl
theorem cycF_val (h : Prm f) : ∀ k, 65 ≤ k → ∃ L, cycF k f = some L ∧ LOK f.length L ∧ ∀ n : Nat, 1 ≤ n → n * val L (n : Int) = many f n := by
  intro k hk
  unfold cycF
  rw [if_pos h.len]
  refine walk_all h f.length 0 (List.replicate 64 0) [] (by omega) ⟨by simp, fun y hy => by rw [rd_zeros, rd_zeros], fun y hy => absurd hy (by omega), fun n hn => ?_, ⟨List.nodup_nil, fun p hp => by cases hp⟩⟩ k hk
  have e1 : val [] (n : Int) = 0 := rfl
  rw [e1, Nat.mul_zero]
  have e2 : W f (List.replicate 64 0) n = cnt (fun _ => false) f.length := cnt_congr fun y hy => by rw [rd_zeros]; simp
  rw [e2]
  have : ∀ m, cnt (fun _ => false) m = 0 := fun m => by
    induction m with
    | zero => rfl
    | succ m ih => rw [cnt_succ, ih]; rfl
  rw [this]

end Go.Proofs.Ytpkmmbicpijgpaa.MathY

namespace Go.Proofs.Ytpkmmbicpijgpaa.MathY
open Go.RowKit Go.Proofs.Ytpkmmbicpijgpaa.Hand Go.Proofs.YtpkmmbicpijgpaaW.PrintWords Go.Proofs.YtpkmmbicpijgpaaW.PrintLast Go.Proofs.YtpkmmbicpijgpaaW.PrintMore
set_option linter.unusedVariables false
variable {f : List Int}

def asc (g : Nat → Nat) (t : Nat) : List Int := (List.range t).flatMap fun i => List.replicate (g (i + 1)) ((i + 1 : Nat) : Int)
def num (f : List Int) (n : Nat) : Nat := many f n / n
def refL (f : List Int) : List Int := asc (num f) f.length
theorem asc_succ (g : Nat → Nat) (t : Nat) : asc g (t + 1) = asc g t ++ List.replicate (g (t + 1)) ((t + 1 : Nat) : Int) := by
  unfold asc
  rw [List.range_succ, List.flatMap_append, List.flatMap_cons, List.flatMap_nil, List.append_nil]
theorem asc_mem {g : Nat → Nat} : ∀ {t : Nat} {a : Int}, a ∈ asc g t → ∃ n : Nat, a = (n : Int) ∧ 1 ≤ n ∧ n ≤ t ∧ 1 ≤ g n
  | 0, a, h => by simp [asc] at h
  | t + 1, a, h => by
    rw [asc_succ] at h
    rcases List.mem_append.1 h with h | h
    · obtain ⟨n, h1, h2, h3, h4⟩ := asc_mem h
      exact ⟨n, h1, h2, by omega, h4⟩
    · have := List.mem_replicate.1 h
      exact ⟨t + 1, this.2, by omega, Nat.le_refl _, by omega⟩
theorem mem_asc {g : Nat → Nat} {n : Nat} (h1 : 1 ≤ n) (hg : 1 ≤ g n) : ∀ {t : Nat}, n ≤ t → (n : Int) ∈ asc g t
  | 0, h => by omega
  | t + 1, h => by
    rw [asc_succ]
    by_cases e : n = t + 1
    · subst e
      exact List.mem_append_right _ (List.mem_replicate.2 ⟨by omega, rfl⟩)
    · exact List.mem_append_left _ (mem_asc h1 hg (by omega))
theorem asc_sorted (g : Nat → Nat) : ∀ t, (asc g t).Pairwise fun x y => x ≤ y
  | 0 => by simp [asc]
  | t + 1 => by
    rw [asc_succ, List.pairwise_append]
    refine ⟨asc_sorted g t, ?_, fun a ha b hb => ?_⟩
    · rw [List.pairwise_replicate]; right; omega
    · obtain ⟨n, rfl, _, h, _⟩ := asc_mem ha
      rw [(List.mem_replicate.1 hb).2]
      omega
theorem asc_count (g : Nat → Nat) (a : Int) : ∀ t : Nat, (asc g t).count a = if 1 ≤ a ∧ a ≤ (t : Int) then g a.toNat else 0
  | 0 => by rw [if_neg (by omega)]; simp [asc]
  | t + 1 => by
    rw [asc_succ, List.count_append, asc_count g a t, List.count_replicate]
    by_cases e : a = ((t + 1 : Nat) : Int)
    · subst e
      rw [if_neg (show ¬ (1 ≤ ((t + 1 : Nat) : Int) ∧ ((t + 1 : Nat) : Int) ≤ (t : Int)) by omega), if_pos (show 1 ≤ ((t + 1 : Nat) : Int) ∧ ((t + 1 : Nat) : Int) ≤ ((t + 1 : Nat) : Int) by omega), Int.toNat_natCast]
      simp
    · have : ((((t + 1 : Nat) : Int)) == a) = false := beq_eq_false_iff_ne.2 (fun h => e h.symm)
      rw [this]
      simp only [Bool.false_eq_true, if_false, Nat.add_zero]
      by_cases c : 1 ≤ a ∧ a ≤ (t : Int)
      · rw [if_pos c, if_pos (by omega)]
      · rw [if_neg c, if_neg (by omega)]
theorem rows_count (a : Int) : ∀ {L : List (Int × Int)}, (L.map Prod.fst).Nodup → (rowsL L).count a = val L a
  | [], _ => rfl
  | (b, v) :: L, h => by
    have h' := List.nodup_cons.1 h
    have ih := rows_count a h'.2
    have e : rowsL ((b, v) :: L) = List.replicate v.toNat b ++ rowsL L := rfl
    rw [e, List.count_append, ih, List.count_replicate]
    by_cases c : b = a
    · subst c
      have hn : Hand.look L b = none := by
        cases hl : Hand.look L b with
        | none => rfl
        | some u => exact absurd (List.mem_map.2 ⟨_, look_mem hl, rfl⟩) h'.1
      unfold val
      rw [hn]
      simp [Hand.look]
    · have : (b == a) = false := beq_eq_false_iff_ne.2 c
      rw [this]
      unfold val
      simp [Hand.look, c]
theorem num_val {L : List (Int × Int)} (hv : ∀ n : Nat, 1 ≤ n → n * val L (n : Int) = many f n) {n : Nat} (hn : 1 ≤ n) : num f n = val L (n : Int) := by
  unfold num
  rw [← hv n hn, Nat.mul_div_cancel_left _ hn]
theorem rows_perm {L : List (Int × Int)} (hL : LOK f.length L) (hv : ∀ n : Nat, 1 ≤ n → n * val L (n : Int) = many f n) : (rowsL L).Perm (refL f) := by
  rw [List.perm_iff_count]
  intro a
  rw [rows_count a hL.nodup]
  unfold refL
  rw [asc_count]
  by_cases c : 1 ≤ a ∧ a ≤ (f.length : Int)
  · rw [if_pos c]
    obtain ⟨n, rfl⟩ := Int.eq_ofNat_of_zero_le (show 0 ≤ a by omega)
    rw [Int.toNat_natCast, num_val hv (by omega)]
  · rw [if_neg c]
    cases hl : Hand.look L a with
    | none => unfold val; rw [hl]; rfl
    | some u =>
      have := hL.ok _ (look_mem hl)
      exact absurd ⟨this.1, this.2.1⟩ c

/-! ### sums -/
def sumN (g : Nat → Nat) : Nat → Nat
  | 0 => 0
  | t + 1 => sumN g t + g (t + 1)
theorem sumN_le {g g' : Nat → Nat} : ∀ {t : Nat}, (∀ n, 1 ≤ n → n ≤ t → g n ≤ g' n) → sumN g t ≤ sumN g' t
  | 0, _ => Nat.le_refl _
  | t + 1, h => Nat.add_le_add (sumN_le fun n h1 h2 => h n h1 (by omega)) (h (t + 1) (by omega) (Nat.le_refl _))
theorem sumN_congr {g g' : Nat → Nat} : ∀ {t : Nat}, (∀ n, 1 ≤ n → n ≤ t → g n = g' n) → sumN g t = sumN g' t
  | 0, _ => rfl
  | t + 1, h => by rw [sumN, sumN, sumN_congr fun n h1 h2 => h n h1 (by omega), h (t + 1) (by omega) (Nat.le_refl _)]
theorem sumN_cnt (c : Nat → Nat) (t : Nat) : ∀ m, (∀ y, y < m → 1 ≤ c y ∧ c y ≤ t) → sumN (fun n => cnt (fun y => decide (c y = n)) m) t = m
  | 0, _ => by
    have : ∀ t, sumN (fun n => cnt (fun y => decide (c y = n)) 0) t = 0 := fun t => by
      induction t with
      | zero => rfl
      | succ t ih => rw [sumN, ih]; rfl
    exact this t
  | m + 1, h => by
    have ih := sumN_cnt c t m fun y hy => h y (by omega)
    have hm := h m (by omega)
    have key : ∀ t' , sumN (fun n => cnt (fun y => decide (c y = n)) (m + 1)) t' = sumN (fun n => cnt (fun y => decide (c y = n)) m) t' + if c m ≤ t' then 1 else 0 := by
      intro t'
      induction t' with
      | zero => rw [if_neg (by omega)]; rfl
      | succ t' ih' =>
        rw [sumN, sumN, ih', cnt_succ]
        by_cases e : c m = t' + 1
        · rw [if_neg (by omega), if_pos (by simp [e]), if_pos (by omega)]; omega
        · rw [if_neg (c := (decide (c m = t' + 1) = true)) (by simp [e])]
          by_cases e2 : c m ≤ t'
          · rw [if_pos e2, if_pos (by omega)]; omega
          · rw [if_neg e2, if_neg (by omega)]; omega
    rw [key t, ih, if_pos hm.2]
theorem many_sum (h : Prm f) : sumN (many f) f.length = f.length := sumN_cnt (clen f) f.length f.length fun y hy => ⟨(clen_spec h hy).1, (clen_spec h hy).2.1⟩
theorem asc_sum (g : Nat → Nat) : ∀ t : Nat, (asc g t).sum = ((sumN (fun n => n * g n) t : Nat) : Int)
  | 0 => rfl
  | t + 1 => by
    rw [asc_succ, List.sum_append, asc_sum g t, sumN]
    have : ∀ (n : Nat) (v : Int), (List.replicate n v).sum = (n : Int) * v := fun n v => by
      induction n with
      | zero => simp
      | succ n ih => rw [List.replicate_succ, List.sum_cons, ih]; push_cast; rw [Int.add_mul]; omega
    rw [this]
    push_cast
    rw [Int.mul_comm]
theorem asc_length (g : Nat → Nat) : ∀ t : Nat, (asc g t).length = sumN g t
  | 0 => rfl
  | t + 1 => by rw [asc_succ, List.length_append, asc_length g t, List.length_replicate, sumN]
theorem many_num (h : Prm f) {n : Nat} (hn : 1 ≤ n) : n * num f n = many f n := by
  obtain ⟨L, _, _, hv⟩ := cycF_val h 65 (Nat.le_refl _)
  rw [num_val hv hn]
  exact hv n hn
theorem refL_sum (h : Prm f) : (refL f).sum = (f.length : Int) := by
  unfold refL
  rw [asc_sum, sumN_congr (g' := many f) fun n h1 _ => many_num h h1, many_sum h]
theorem refL_length (h : Prm f) : (refL f).length ≤ f.length := by
  unfold refL
  rw [asc_length]
  refine Nat.le_trans (sumN_le (g' := many f) fun n h1 _ => ?_) (Nat.le_of_eq (many_sum h))
  rw [← many_num h h1]
  exact Nat.le_mul_of_pos_left _ h1

/-! ### the least common multiple -/
def lcmL (l : List Int) : Nat := l.foldr (fun n a => Nat.lcm n.toNat a) 1
theorem lcmL_dvd (l : List Int) (z : Nat) : lcmL l ∣ z ↔ ∀ n ∈ l, n.toNat ∣ z := by
  induction l with
  | nil => exact ⟨fun _ n hn => (by cases hn), fun _ => Nat.one_dvd z⟩
  | cons a l ih =>
    have e : lcmL (a :: l) = Nat.lcm a.toNat (lcmL l) := rfl
    rw [e, Nat.lcm_dvd_iff, ih]
    exact ⟨fun h n hn => (List.mem_cons.1 hn).elim (fun e => e ▸ h.1) (h.2 n), fun h => ⟨h a List.mem_cons_self, fun n hn => h n (List.mem_cons_of_mem _ hn)⟩⟩
theorem lcmK_dvd (L : List (Int × Int)) (z : Nat) : lcmK L ∣ z ↔ ∀ p ∈ L, p.1.toNat ∣ z := by
  induction L with
  | nil => exact ⟨fun _ n hn => (by cases hn), fun _ => Nat.one_dvd z⟩
  | cons a l ih =>
    have e : lcmK (a :: l) = Nat.lcm a.1.toNat (lcmK l) := rfl
    rw [e, Nat.lcm_dvd_iff, ih]
    exact ⟨fun h n hn => (List.mem_cons.1 hn).elim (fun e => e ▸ h.1) (h.2 n), fun h => ⟨h a List.mem_cons_self, fun n hn => h n (List.mem_cons_of_mem _ hn)⟩⟩
theorem lcm_same {L : List (Int × Int)} (hL : LOK f.length L) (hv : ∀ n : Nat, 1 ≤ n → n * val L (n : Int) = many f n) : lcmK L = lcmL (refL f) := by
  refine Nat.dvd_antisymm ((lcmK_dvd _ _).2 fun p hp => ?_) ((lcmL_dvd _ _).2 fun a ha => ?_)
  · refine (lcmL_dvd (refL f) _).1 (Nat.dvd_refl _) p.1 ?_
    have hp' := hL.ok p hp
    obtain ⟨n, hn⟩ := Int.eq_ofNat_of_zero_le (show 0 ≤ p.1 by omega)
    rw [hn]
    refine mem_asc (by omega) ?_ (by omega)
    rw [num_val hv (by omega)]
    unfold val
    rw [← hn, mem_look hL.nodup (show (p.1, p.2) ∈ L from hp)]
    simp only [Option.getD_some]
    omega
  · obtain ⟨n, rfl, h1, h2, h3⟩ := asc_mem ha
    rw [num_val hv h1] at h3
    cases hl : Hand.look L (n : Int) with
    | none => unfold val at h3; rw [hl] at h3; simp at h3
    | some u => exact (lcmK_dvd L _).1 (Nat.dvd_refl _) _ (look_mem hl)
def prodK (L : List (Int × Int)) : Nat := L.foldr (fun p a => p.1.toNat * a) 1
def sumK (L : List (Int × Int)) : Nat := L.foldr (fun p a => p.1.toNat + a) 0
theorem cube_le : ∀ t : Fin 65, t.val * t.val * t.val ≤ 3 ^ t.val := by decide +kernel
theorem lcmK_bound : ∀ L : List (Int × Int), (∀ p ∈ L, 1 ≤ p.1 ∧ p.1 ≤ 64) → lcmK L * lcmK L * lcmK L ≤ 3 ^ sumK L ∧ 0 < lcmK L
  | [], _ => ⟨by decide, by decide⟩
  | p :: L, h => by
    have ih := lcmK_bound L fun q hq => h q (List.mem_cons_of_mem _ hq)
    have hp := h p List.mem_cons_self
    obtain ⟨n, hn⟩ := Int.eq_ofNat_of_zero_le (show 0 ≤ p.1 by omega)
    have e : lcmK (p :: L) = Nat.lcm n (lcmK L) := by
      show Nat.lcm p.1.toNat (lcmK L) = _
      rw [hn, Int.toNat_natCast]
    have e2 : sumK (p :: L) = n + sumK L := by
      show p.1.toNat + sumK L = _
      rw [hn, Int.toNat_natCast]
    have hc := cube_le ⟨n, by omega⟩
    have hle : Nat.lcm n (lcmK L) ≤ n * lcmK L := by
      refine Nat.le_of_dvd (Nat.mul_pos (by omega) ih.2) (Nat.lcm_dvd (Nat.dvd_mul_right _ _) (Nat.dvd_mul_left _ _))
    rw [e, e2]
    refine ⟨?_, Nat.lcm_pos (by omega) ih.2⟩
    calc Nat.lcm n (lcmK L) * Nat.lcm n (lcmK L) * Nat.lcm n (lcmK L) ≤ (n * lcmK L) * (n * lcmK L) * (n * lcmK L) := Nat.mul_le_mul (Nat.mul_le_mul hle hle) hle
      _ = (n * n * n) * (lcmK L * lcmK L * lcmK L) := by simp only [Nat.mul_assoc, Nat.mul_comm, Nat.mul_left_comm]
      _ ≤ 3 ^ n * 3 ^ sumK L := Nat.mul_le_mul hc ih.1
      _ = 3 ^ (n + sumK L) := (Nat.pow_add 3 n (sumK L)).symm
theorem sumK_le {L : List (Int × Int)} (hL : LOK f.length L) : sumK L ≤ (rowsL L).sum.toNat := by
  have key : ∀ M : List (Int × Int), (∀ p ∈ M, 1 ≤ p.1 ∧ 1 ≤ p.2) → ((sumK M : Nat) : Int) ≤ (rowsL M).sum := by
    intro M
    induction M with
    | nil => intro _; exact Int.le_refl _
    | cons p M ih =>
      intro h
      have h1 := ih fun q hq => h q (List.mem_cons_of_mem _ hq)
      have h2 := h p List.mem_cons_self
      have e : rowsL (p :: M) = List.replicate p.2.toNat p.1 ++ rowsL M := rfl
      have e2 : sumK (p :: M) = p.1.toNat + sumK M := rfl
      have e3 : (List.replicate p.2.toNat p.1).sum = (p.2.toNat : Int) * p.1 := by
        generalize p.2.toNat = z
        induction z with
        | zero => simp
        | succ n ih => rw [List.replicate_succ, List.sum_cons, ih]; push_cast; rw [Int.add_mul]; omega
      rw [e, List.sum_append, e3, e2]
      have h3 : 1 * p.1 ≤ (p.2.toNat : Int) * p.1 := Int.mul_le_mul_of_nonneg_right (by omega) (by omega)
      push_cast
      omega
  have := key L fun p hp => ⟨(hL.ok p hp).1, (hL.ok p hp).2.2⟩
  omega
theorem sum_perm {l l' : List Int} (h : l.Perm l') : l.sum = l'.sum := by
  induction h with
  | nil => rfl
  | cons x _ ih => simp [ih]
  | swap x y l => simp; omega
  | trans _ _ ih1 ih2 => rw [ih1, ih2]
/-- What Cycles answers. -/
theorem cycles_val (h : Prm f) {k : Nat} (hk : 65 ≤ k) : cyclesF k f = some (refL f, 0) := by
  obtain ⟨L, hc, hL, hv⟩ := cycF_val h k hk
  have hp := rows_perm hL hv
  have hl := h.len
  have hrl := refL_length h
  unfold cyclesF
  rw [hc, Option.bind_some, if_pos]
  · rw [sortI_perm hp]
    congr 2
    exact sorted_perm (List.mergeSort_perm _ _) (sortI_sorted _) (asc_sorted _ _)
  · unfold okCyc
    rw [Bool.and_eq_true, List.all_eq_true]
    refine ⟨fun p hpL => decide_eq_true ⟨(hL.ok p hpL).2.2, ?_⟩, decide_eq_true (by rw [hp.length_eq]; omega)⟩
    have hp' := hL.ok p hpL
    obtain ⟨n, hn⟩ := Int.eq_ofNat_of_zero_le (show 0 ≤ p.1 by omega)
    have e : val L (n : Int) = p.2.toNat := by
      unfold val
      rw [← hn, mem_look hL.nodup (show (p.1, p.2) ∈ L from hpL)]
      rfl
    have h1 := hv n (by omega)
    have h2 : val L (n : Int) ≤ n * val L (n : Int) := Nat.le_mul_of_pos_left _ (by omega)
    have h3 : many f n ≤ f.length := cnt_le _ _
    omega
/-- What Order answers. -/
theorem order_val (h : Prm f) {k : Nat} (hk : 70 ≤ k) : orderF k f = some (((lcmL (refL f) : Nat) : Int), 0) ∧ lcmL (refL f) ≤ 1099511627776 ∧ 0 < lcmL (refL f) := by
  obtain ⟨L, hc, hL, hv⟩ := cycF_val h k (by omega)
  have hl := h.len
  have hb := lcmK_bound L fun p hp => ⟨(hL.ok p hp).1, by have := (hL.ok p hp).2.1; omega⟩
  have hs : sumK L ≤ 64 := by
    have h1 := sumK_le hL
    rw [sum_perm (rows_perm hL hv), refL_sum h] at h1
    omega
  have h3 : 3 ^ sumK L ≤ 3 ^ 64 := Nat.pow_le_pow_right (by decide) hs
  have hle : lcmK L ≤ 1099511627776 := by
    apply Classical.byContradiction
    intro c
    have c' : 1099511627777 ≤ lcmK L := by omega
    have h4 := Nat.mul_le_mul (Nat.mul_le_mul c' c') c'
    have h5 := Nat.le_trans h4 (Nat.le_trans hb.1 h3)
    exact absurd h5 (by decide)
  rw [← lcm_same hL hv]
  refine ⟨?_, hle, hb.2⟩
  unfold orderF
  rw [hc, Option.bind_some, if_pos]
  refine ⟨hk, ?_⟩
  unfold okOrd
  rw [Bool.and_eq_true, List.all_eq_true]
  exact ⟨fun p hp => decide_eq_true ⟨(hL.ok p hp).1, by have := (hL.ok p hp).2.1; omega⟩, decide_eq_true hle⟩

end Go.Proofs.Ytpkmmbicpijgpaa.MathY

