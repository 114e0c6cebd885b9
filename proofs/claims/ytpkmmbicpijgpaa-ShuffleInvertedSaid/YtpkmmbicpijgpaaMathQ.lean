-- Plain lemmas over the names of the F print: permutations: what Inverse, Order, Cycles answer, and the reference's.
import Derived.Test.YtpkmmbicpijgpaaMathP
import Derived.Test.YtpkmmbicpijgpaaMathJ
import Derived.Test.YtpkmmbicpijgpaaMathCW
import Derived.Test.YtpkmmbicpijgpaaFx5
namespace Go.Proofs.Ytpkmmbicpijgpaa.Pure
open Go.RowKit Go.Proofs.Ytpkmmbicpijgpaa.F Go.Proofs.YtpkmmbicpijgpaaW.PrintWords Go.Proofs.YtpkmmbicpijgpaaW.PrintLast
open Go.Proofs.Ytpkmmbicpijgpaa.MathY hiding F pigeon find_range_some find_range_none
set_option linter.unusedVariables false

theorem step_n {j : Nat} (h : j ≤ 1000000) : wrap64 ((j : Int) + 1) = ((j + 1 : Nat) : Int) := by
  rw [wrap_in (by omega) (by omega)]; push_cast; rfl
theorem getD_mem' {f : List Int} {i : Nat} (h : i < f.length) : f.getD i 0 ∈ f := by
  rw [List.getD_eq_getElem?_getD, List.getElem?_eq_getElem h, Option.getD_some]
  exact List.getElem_mem h
theorem prm_of {m : Nat} (h : Mod m) {f : List Int} (hf : Rem m f) (hl : f.length = m) (hp : permB f = true) : Prm f := by
  have h2 := h.hi
  rw [permB_iff] at hp
  refine ⟨by omega, fun x hx => ?_, fun x y hx hy e => ?_⟩
  · rw [rd_nat]
    have := hf _ (getD_mem' hx)
    omega
  · rw [rd_nat, rd_nat] at e
    rcases Nat.lt_trichotomy x y with c | c | c
    · exact absurd e (hp x y c hy)
    · exact c
    · exact absurd e.symm (hp y x c hx)
theorem isPerm_ev {m : Nat} (h : Mod m) {f : List Int} (hf : Rem m f) (hl : f.length = m) : Ev (fun k => shuffle_isPermutation.f k (m : Int) f) (permB f) := by
  have h2 := h.hi
  refine Ev.congr (f := fun k => (shuffle_twice.f k f).bind fun bt => some (decide (bt.1 < 0))) (fun k => ?_) (Ev.bind (twice_ev f (by omega)) (Ev.now _))
  unfold shuffle_isPermutation.f
  rw [isFun_ev h hf hl]
  rfl
theorem isPerm_not {m : Int} {f : List Int} (h : shuffle_isFunction.f m f = some false) : Ev (fun k => shuffle_isPermutation.f k m f) false := by
  refine Ev.congr (f := fun _ => some false) (fun k => ?_) (Ev.now _)
  unfold shuffle_isPermutation.f
  rw [h]
  rfl
/-! ### Order and Cycles -/
theorem Order_not {m : Int} {f : List Int} (h : Ev (fun k => shuffle_isPermutation.f k m f) false) : Ev (fun k => shuffle_Order.f k m f) (0, 2) := Ev.bind h (Ev.now _)
theorem Cycles_not {m : Int} {f : List Int} (h : Ev (fun k => shuffle_isPermutation.f k m f) false) : Ev (fun k => shuffle_Cycles.f k m f) ([], 2) := Ev.bind h (Ev.now _)
theorem Inverse_not {m : Int} {f : List Int} (h : Ev (fun k => shuffle_isPermutation.f k m f) false) : Ev (fun k => shuffle_Inverse.f k m f) ([], 2) := Ev.bind h (Ev.now _)
theorem Order_ev {m : Int} {f : List Int} (hP : Prm f) (h : Ev (fun k => shuffle_isPermutation.f k m f) true) : Ev (fun k => shuffle_Order.f k m f) (((lcmL (refL f) : Nat) : Int), 0) := Ev.bind h ⟨70, fun k hk => (order_val hP hk).1⟩
theorem Cycles_ev {m : Int} {f : List Int} (hP : Prm f) (h : Ev (fun k => shuffle_isPermutation.f k m f) true) : Ev (fun k => shuffle_Cycles.f k m f) (refL f, 0) := Ev.bind h ⟨70, fun k hk => cycles_val hP (by omega)⟩
/-! ### Inverse -/
def invStep (f : List Int) (o : List Int) (x : Nat) : List Int := o.set (rd f (x : Int)).toNat (x : Int)
def invS (f : List Int) : List Int := (List.range f.length).foldl (invStep f) (List.replicate f.length 0)
theorem range_drop (n j : Nat) (h : j < n) : (List.range n).drop j = j :: (List.range n).drop (j + 1) := by
  rw [List.drop_eq_getElem_cons (by simpa using h)]; simp
theorem inv_l0 {f : List Int} (hP : Prm f) : ∀ (d x : Nat) (o : List Int), x + d = f.length → o.length = f.length → Ev (fun k => shuffle_Inverse.l0 k o f (f.length : Int) (x : Int)) (((List.range f.length).drop x).foldl (invStep f) o, 0) := by
  have hl := hP.len
  intro d
  induction d with
  | zero =>
    intro x o hx ho
    refine Ev.step (fun k => by simp only [shuffle_Inverse.l0]; exact rfl) ?_
    rw [List.drop_eq_nil_of_le (by simp; omega)]
    exact Ev.neg (by omega) (Ev.now _)
  | succ d ih =>
    intro x o hx ho
    refine Ev.step (fun k => by simp only [shuffle_Inverse.l0]; exact rfl) ?_
    have hr := hP.rem x (by omega)
    rw [range_drop _ _ (show x < f.length by omega), List.foldl_cons, step_n (by omega)]
    exact Ev.pos (by omega) (Ev.pos (by omega) (Ev.pos (by omega) (Ev.pos (by omega) (Ev.pos (by omega) (ih (x + 1) _ (by omega) (by rw [List.length_set]; exact ho))))))
theorem Inverse_ev {f : List Int} (hP : Prm f) (h : Ev (fun k => shuffle_isPermutation.f k (f.length : Int) f) true) : Ev (fun k => shuffle_Inverse.f k (f.length : Int) f) (invS f, 0) := by
  have hl := hP.len
  have h0 := inv_l0 hP f.length 0 (List.replicate f.length 0) (by omega) (by simp)
  refine Ev.bind h ?_
  refine Ev.pos rfl (Ev.pos (by omega) (Ev.pos (by omega) ?_))
  rw [Int.toNat_natCast]
  exact h0
theorem refInv_l0 {f : List Int} (hP : Prm f) : ∀ (d x : Nat) (o : List Int), x + d = f.length → o.length = f.length → Ev (fun k => galloonref06_Inverse.l0 k f o (x : Int)) (((List.range f.length).drop x).foldl (invStep f) o) := by
  have hl := hP.len
  intro d
  induction d with
  | zero =>
    intro x o hx ho
    refine Ev.step (fun k => by simp only [galloonref06_Inverse.l0]; exact rfl) ?_
    rw [List.drop_eq_nil_of_le (by simp; omega)]
    exact Ev.neg (by omega) (Ev.now _)
  | succ d ih =>
    intro x o hx ho
    refine Ev.step (fun k => by simp only [galloonref06_Inverse.l0]; exact rfl) ?_
    have hr := hP.rem x (by omega)
    rw [range_drop _ _ (show x < f.length by omega), List.foldl_cons, step_n (by omega)]
    exact Ev.pos (by omega) (Ev.pos (by omega) (Ev.pos (by omega) (Ev.pos (by omega) (ih (x + 1) _ (by omega) (by rw [List.length_set]; exact ho)))))
theorem refInv_ev {f : List Int} (hP : Prm f) : Ev (fun k => galloonref06_Inverse.f k f) (invS f) := by
  have hl := hP.len
  have h0 := refInv_l0 hP f.length 0 (List.replicate f.length 0) (by omega) (by simp)
  refine Ev.pos (by omega) (Ev.pos (by omega) ?_)
  rw [Int.toNat_natCast]
  exact h0
/-! ### the reference's Cycles -/
theorem refCyc_l1 {f : List Int} (hP : Prm f) {x : Nat} (hx : x < f.length) {x3 : List Int} (h3 : x3.length = f.length + 1) {r : List Int}
    (hr : Ev (fun k => galloonref06_Cycles.l0 k f (x3.set (clen f x) (wrap64 (rd x3 (clen f x : Int) + 1))) (wrap64 ((x : Int) + 1))) r) :
    ∀ (d i : Nat), 1 ≤ i → i + d = clen f x → Ev (fun k => galloonref06_Cycles.l1 k f x3 (x : Int) (i : Int) ((it f i x : Nat) : Int)) r := by
  have hc := clen_spec hP hx
  have hl := hP.len
  intro d
  induction d with
  | zero =>
    intro i hi he
    have he' : i = clen f x := by omega
    subst he'
    refine Ev.step (fun k => by simp only [galloonref06_Cycles.l1]; exact rfl) ?_
    rw [hc.2.2.1]
    refine Ev.pos rfl (Ev.pos (by omega) (Ev.pos (by omega) ?_))
    rw [Int.toNat_natCast]
    exact hr
  | succ d ih =>
    intro i hi he
    have hlt := it_lt hP hx i
    refine Ev.step (fun k => by simp only [galloonref06_Cycles.l1]; exact rfl) ?_
    refine Ev.neg (fun e => hc.2.2.2 i hi (by omega) (by omega)) (Ev.pos (by omega) (Ev.pos (by omega) ?_))
    rw [step_n (by omega), F_cast hP hlt]
    exact ih (i + 1) (by omega) (by omega)
def outRow (f : List Int) (x3 : List Int) : Prop := x3.length = f.length + 1 ∧ ∀ n : Nat, n ≤ f.length → rd x3 (n : Int) = (many f n : Int)
theorem refCyc_l3 {f : List Int} (hP : Prm f) {x3 : List Int} (h3 : outRow f x3) {n : Nat} (h1 : 1 ≤ n) (hn : n ≤ f.length) {r : List Int} (out : List Int) (ho : out.length ≤ 1000)
    (hr : Ev (fun k => galloonref06_Cycles.l2 k f x3 (out ++ List.replicate (num f n) (n : Int)) ((n + 1 : Nat) : Int)) r) :
    ∀ (d j : Nat), j + d = num f n → Ev (fun k => galloonref06_Cycles.l3 k f x3 (out ++ List.replicate j (n : Int)) (n : Int) (j : Int)) r := by
  have hl := hP.len
  have hm : many f n ≤ f.length := cnt_le _ _
  have hq : num f n ≤ many f n := Nat.div_le_self _ _
  have e : wrap64 (Int.tdiv (rd x3 (n : Int)) (n : Int)) = ((num f n : Nat) : Int) := by
    rw [h3.2 n hn, show Int.tdiv (many f n : Int) (n : Int) = ((many f n / n : Nat) : Int) from rfl]
    unfold num at hq ⊢
    generalize many f n / n = z at *
    exact wrap_in (by omega) (by omega)
  intro d
  induction d with
  | zero =>
    intro j hj
    refine Ev.step (fun k => by simp only [galloonref06_Cycles.l3]; exact rfl) ?_
    rw [e]
    have hj' : j = num f n := by omega
    subst hj'
    rw [← step_n (show n ≤ 1000000 by omega)] at hr
    have := h3.1
    exact Ev.pos (by omega) (Ev.pos (by omega) (Ev.neg (by omega) (Ev.neg (by omega) hr)))
  | succ d ih =>
    intro j hj
    refine Ev.step (fun k => by simp only [galloonref06_Cycles.l3]; exact rfl) ?_
    rw [e, step_n (by omega)]
    have := h3.1
    have e2 : out ++ List.replicate j (n : Int) ++ [(n : Int)] = out ++ List.replicate (j + 1) (n : Int) := by rw [List.replicate_succ', List.append_assoc]
    rw [e2]
    exact Ev.pos (by omega) (Ev.pos (by omega) (Ev.neg (by omega) (Ev.pos (by omega) (Ev.pos (by simp; omega) (ih (j + 1) (by omega))))))
theorem asc_le {f : List Int} (hP : Prm f) {t : Nat} (ht : t ≤ f.length) : (asc (num f) t).length ≤ f.length := by
  have h := refL_length hP
  unfold refL at h
  rw [asc_length] at h ⊢
  have key : ∀ d t, t + d = f.length → sumN (num f) t ≤ sumN (num f) f.length := by
    intro d
    induction d with
    | zero => intro t h; have : t = f.length := by omega
              subst this; exact Nat.le_refl _
    | succ d ih => intro t h; exact Nat.le_trans (by rw [sumN]; omega) (ih (t + 1) (by omega))
  have := key (f.length - t) t (by omega)
  omega
theorem refCyc_l2 {f : List Int} (hP : Prm f) {x3 : List Int} (h3 : outRow f x3) : ∀ (d t : Nat), t + d = f.length → Ev (fun k => galloonref06_Cycles.l2 k f x3 (asc (num f) t) ((t + 1 : Nat) : Int)) (refL f) := by
  have hl := hP.len
  intro d
  induction d with
  | zero =>
    intro t ht
    refine Ev.step (fun k => by simp only [galloonref06_Cycles.l2]; exact rfl) ?_
    have : t = f.length := by omega
    subst this
    exact Ev.neg (by omega) (Ev.now _)
  | succ d ih =>
    intro t ht
    refine Ev.step (fun k => by simp only [galloonref06_Cycles.l2]; exact rfl) ?_
    refine Ev.pos (by omega) ?_
    have h0 := refCyc_l3 hP h3 (n := t + 1) (by omega) (by omega) (asc (num f) t) (by have := asc_le hP (t := t) (by omega); omega) (by rw [← asc_succ]; exact ih (t + 1) (by omega)) (num f (t + 1)) 0 (by omega)
    rw [List.replicate_zero, List.append_nil] at h0
    exact h0
theorem refCyc_l0 {f : List Int} (hP : Prm f) : ∀ (d x : Nat) (x3 : List Int), x + d = f.length → x3.length = f.length + 1 → (∀ n : Nat, n ≤ f.length → rd x3 (n : Int) = ((cnt (fun y => decide (clen f y = n)) x : Nat) : Int)) → Ev (fun k => galloonref06_Cycles.l0 k f x3 (x : Int)) (refL f) := by
  have hl := hP.len
  intro d
  induction d with
  | zero =>
    intro x x3 hx h3 hv
    refine Ev.step (fun k => by simp only [galloonref06_Cycles.l0]; exact rfl) ?_
    have : x = f.length := by omega
    subst this
    exact Ev.neg (by omega) (refCyc_l2 hP ⟨h3, hv⟩ f.length 0 (by omega))
  | succ d ih =>
    intro x x3 hx h3 hv
    have hxl : x < f.length := by omega
    refine Ev.step (fun k => by simp only [galloonref06_Cycles.l0]; exact rfl) ?_
    refine Ev.pos (by omega) (Ev.pos (by omega) ?_)
    have hc := clen_spec hP hxl
    rw [F_cast hP hxl]
    refine refCyc_l1 hP hxl h3 ?_ (clen f x - 1) 1 (by omega) (by omega)
    have hcx : cnt (fun y => decide (clen f y = clen f x)) x ≤ x := cnt_le _ _
    rw [step_n (by omega), hv _ hc.2.1, step_n (by omega)]
    refine ih (x + 1) _ (by omega) (by rw [List.length_set]; exact h3) fun n hn => ?_
    rw [rd_set _ _ _ _ (by omega), cnt_succ]
    by_cases e : n = clen f x
    · subst e; rw [if_pos rfl, if_pos (by simp)]
    · rw [if_neg e, hv n hn, if_neg (by simp [Ne.symm e])]
      rfl
theorem refCyc_ev {f : List Int} (hP : Prm f) : Ev (fun k => galloonref06_Cycles.f k f) (refL f) := by
  have hl := hP.len
  have e : wrap64 ((f.length : Int) + 1) = ((f.length + 1 : Nat) : Int) := step_n (by omega)
  refine Ev.congr (f := fun k => galloonref06_Cycles.l0 k f (List.replicate (f.length + 1) 0) 0) (fun k => ?_) (refCyc_l0 hP f.length 0 (List.replicate (f.length + 1) 0) (by omega) (by simp) fun n hn => ?_)
  · unfold galloonref06_Cycles.f
    rw [e, if_pos (by omega), if_pos (by omega), Int.toNat_natCast]
  · unfold rd cnt
    rw [Int.toNat_natCast, List.getD_eq_getElem?_getD, List.getElem?_replicate]
    split <;> rfl
/-! ### the reference's Order -/
theorem refGcd_run : ∀ (b a k : Nat), b < k → b ≤ 1099511627776 → a ≤ 1099511627776 → galloonref06_Gcd.l0 k (a : Int) (b : Int) = some ((Nat.gcd a b : Nat) : Int) := by
  intro b
  induction b using Nat.strongRecOn with
  | ind b ih =>
    intro a k hk hb ha
    obtain ⟨k, rfl⟩ : ∃ k', k = k' + 1 := ⟨k - 1, by omega⟩
    rw [galloonref06_Gcd.l0]
    by_cases h0 : b = 0
    · subst h0
      rw [if_neg (by omega), Nat.gcd_zero_right]
    · rw [if_pos (by omega), if_neg (by omega), show Int.tmod (a : Int) (b : Int) = ((a % b : Nat) : Int) from rfl, ih (a % b) (Nat.mod_lt _ (by omega)) b k (by have := Nat.mod_lt a (show 0 < b by omega); omega) (by have := Nat.mod_lt a (show 0 < b by omega); omega) hb]
      rw [Nat.gcd_comm b, ← Nat.gcd_rec, Nat.gcd_comm]
theorem refGcd_ev {a b : Nat} (ha : a ≤ 1099511627776) (hb : b ≤ 1099511627776) : Ev (fun k => galloonref06_Gcd.f k (a : Int) (b : Int)) ((Nat.gcd a b : Nat) : Int) := ⟨b + 1, fun k hk => refGcd_run b a k (by omega) hb ha⟩
theorem lcm_take {l : List Int} {j : Nat} (hj : j < l.length) : lcmL (l.take (j + 1)) = Nat.lcm (lcmL (l.take j)) (rd l (j : Int)).toNat := by
  have e : l.take (j + 1) = l.take j ++ [rd l (j : Int)] := by
    rw [rd_nat, List.take_succ_eq_append_getElem hj, List.getD_eq_getElem?_getD, List.getElem?_eq_getElem hj]
    rfl
  refine Nat.dvd_antisymm ((lcmL_dvd _ _).2 fun n hn => ?_) (Nat.lcm_dvd ((lcmL_dvd _ _).2 fun n hn => ?_) ?_)
  · rw [e] at hn
    rcases List.mem_append.1 hn with hn | hn
    · exact Nat.dvd_trans ((lcmL_dvd _ _).1 (Nat.dvd_refl _) n hn) (Nat.dvd_lcm_left _ _)
    · rw [List.mem_singleton.1 hn]; exact Nat.dvd_lcm_right _ _
  · exact (lcmL_dvd _ _).1 (Nat.dvd_refl _) n (by rw [e]; exact List.mem_append_left _ hn)
  · exact (lcmL_dvd _ _).1 (Nat.dvd_refl _) _ (by rw [e]; exact List.mem_append_right _ (List.mem_singleton.2 rfl))
theorem lcm_take_le {l : List Int} (hb : lcmL l ≤ 1099511627776) (h0 : 0 < lcmL l) (j : Nat) : lcmL (l.take j) ≤ 1099511627776 ∧ 0 < lcmL (l.take j) := by
  have hd : lcmL (l.take j) ∣ lcmL l := (lcmL_dvd _ _).2 fun n hn => (lcmL_dvd _ _).1 (Nat.dvd_refl _) n (List.mem_of_mem_take hn)
  exact ⟨Nat.le_trans (Nat.le_of_dvd h0 hd) hb, Nat.pos_of_dvd_of_pos hd h0⟩
theorem lcm_round {a n : Nat} (ha : 0 < a) (hn : 0 < n) (h : Nat.lcm a n ≤ 1099511627776) (ha2 : a ≤ 1099511627776) : wrap64 (wrap64 (Int.tdiv (a : Int) ((Nat.gcd a n : Nat) : Int)) * (n : Int)) = ((Nat.lcm a n : Nat) : Int) := by
  have h5 := Hand.lcm_step (a := a) (n := n) ha hn
  have h6 : a / Nat.gcd a n ≤ a := Nat.div_le_self _ _
  rw [show Int.tdiv (a : Int) ((Nat.gcd a n : Nat) : Int) = ((a / Nat.gcd a n : Nat) : Int) from rfl]
  generalize a / Nat.gcd a n = z at *
  rw [wrap_in (n := (z : Int)) (by omega) (by omega), show (z : Int) * (n : Int) = ((z * n : Nat) : Int) by push_cast; rfl, h5]
  exact wrap_in (by omega) (by omega)
theorem refOrd_l0 {l : List Int} (hl : l.length ≤ 1000) (hr : ∀ a ∈ l, 1 ≤ a ∧ a ≤ 64) (hb : lcmL l ≤ 1099511627776) (h0 : 0 < lcmL l) : ∀ (d j : Nat), j + d = l.length → Ev (fun k => galloonref06_Order.l0 k l ((lcmL (l.take j) : Nat) : Int) (j : Int)) ((lcmL l : Nat) : Int) := by
  intro d
  induction d with
  | zero =>
    intro j hj
    refine Ev.step (fun k => by simp only [galloonref06_Order.l0]; exact rfl) ?_
    rw [List.take_of_length_le (by omega)]
    exact Ev.neg (by omega) (Ev.now _)
  | succ d ih =>
    intro j hj
    refine Ev.step (fun k => by simp only [galloonref06_Order.l0]; exact rfl) ?_
    have hm := hr (rd l (j : Int)) (by rw [rd_nat]; exact getD_mem' (by omega))
    obtain ⟨n, hn⟩ := Int.eq_ofNat_of_zero_le (show 0 ≤ rd l (j : Int) by omega)
    obtain ⟨h3, h4⟩ := lcm_take_le hb h0 j
    have h5 := lcm_take_le hb h0 (j + 1)
    have e := lcm_take (l := l) (j := j) (by omega)
    rw [hn, Int.toNat_natCast] at e
    have hg : 0 < Nat.gcd (lcmL (l.take j)) n := Nat.gcd_pos_of_pos_left _ h4
    refine Ev.pos (by omega) (Ev.pos (by omega) ?_)
    rw [hn]
    refine Ev.bind (refGcd_ev h3 (by omega)) (Ev.neg (by omega) ?_)
    rw [lcm_round h4 (by omega) (by rw [← e]; exact h5.1) h3, ← e, step_n (by omega)]
    exact ih (j + 1) (by omega)
theorem refOrd_ev {f : List Int} (hP : Prm f) : Ev (fun k => galloonref06_Order.f k f) ((lcmL (refL f) : Nat) : Int) := by
  have hl := hP.len
  obtain ⟨_, hb, h0⟩ := order_val hP (k := 70) (by decide)
  refine Ev.bind (refCyc_ev hP) ?_
  refine refOrd_l0 (by have := refL_length hP; omega) (fun a ha => ?_) hb h0 (refL f).length 0 (by omega)
  unfold refL at ha
  obtain ⟨n, rfl, h1, h2, _⟩ := asc_mem ha
  omega

end Go.Proofs.Ytpkmmbicpijgpaa.Pure
