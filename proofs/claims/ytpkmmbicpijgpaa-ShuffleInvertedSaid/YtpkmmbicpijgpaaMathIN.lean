-- Plain lemmas over the names of the F print: tame, Permutes, After.
import Derived.Test.YtpkmmbicpijgpaaMathH
import Derived.Test.YtpkmmbicpijgpaaMathE
import Derived.Test.YtpkmmbicpijgpaaFx7
namespace Go.Proofs.Ytpkmmbicpijgpaa.Pure
open Go.RowKit Go.Proofs.Ytpkmmbicpijgpaa.F Go.Proofs.YtpkmmbicpijgpaaW.PrintWords Go.Proofs.YtpkmmbicpijgpaaW.PrintLast
open Go.Proofs.Ytpkmmbicpijgpaa.MathA Go.Proofs.Ytpkmmbicpijgpaa.MathB
theorem mod_spec (a n : Int) (hn : 0 < n) (hn2 : n ≤ 9223372036854775807) : galloonlaw06_mod.f a n = some ((a % 18446744073709551616) % n) := by
  unfold galloonlaw06_mod.f
  rw [u64_wrap, u64_wrap]
  have e : n % 18446744073709551616 = n := Int.emod_eq_of_lt (by omega) (by omega)
  rw [e, if_neg (by omega)]
  have h0 : 0 ≤ a % 18446744073709551616 := Int.emod_nonneg _ (by omega)
  rw [Int.tmod_eq_emod_of_nonneg h0]
  have h1 := Int.emod_nonneg (a % 18446744073709551616) (show n ≠ 0 by omega)
  have h2 := Int.emod_lt_of_pos (a % 18446744073709551616) hn
  rw [wrap_in (by omega) (by omega)]

theorem mod_some (a n : Int) (hn : 0 < n) (hn2 : n ≤ 9223372036854775807) : ∃ t, galloonlaw06_mod.f a n = some t ∧ 0 ≤ t ∧ t < n :=
  ⟨_, mod_spec a n hn hn2, Int.emod_nonneg _ (by omega), Int.emod_lt_of_pos _ hn⟩

def tameS (m : Nat) (l : List Int) : List Int := (l.take 12).map fun v => (v % 18446744073709551616) % (m : Int)

theorem tameS_rem {m : Nat} (h : Mod m) (l : List Int) : Rem m (tameS m l) := by
  have h1 := h.lo
  intro v hv
  unfold tameS at hv
  rw [List.mem_map] at hv
  obtain ⟨x, _, rfl⟩ := hv
  exact ⟨Int.emod_nonneg _ (by omega), Int.emod_lt_of_pos _ (by omega)⟩
theorem tameS_len (m : Nat) (l : List Int) : (tameS m l).length ≤ 12 := by
  unfold tameS
  rw [List.length_map, List.length_take]
  omega

theorem tame_l0 {m : Nat} (h : Mod m) (l : List Int) (hl : l.length ≤ 9223372036854775807) : ∀ (d j : Nat), j + d = min l.length 12 →
    Ev (fun k => galloonlaw06_tame.l0 k (m : Int) l (tameS m (l.take j)) (j : Int)) (tameS m l) := by
  have h1 := h.lo
  have h2 := h.hi
  intro d
  induction d with
  | zero =>
    intro j hj
    refine Ev.step (fun k => by simp only [galloonlaw06_tame.l0]; exact rfl) ?_
    have e : tameS m (l.take j) = tameS m l := by
      unfold tameS
      rw [List.take_take]
      congr 1
      by_cases hc : l.length ≤ 12
      · rw [List.take_of_length_le (by omega), List.take_of_length_le (by omega)]
      · congr 1; omega
    by_cases hlt : (j : Int) < (l.length : Int)
    · refine Ev.pos hlt (Ev.neg (by omega) ?_)
      rw [e]; exact Ev.now _
    · refine Ev.neg hlt ?_
      rw [e]; exact Ev.now _
  | succ d ih =>
    intro j hj
    refine Ev.step (fun k => by simp only [galloonlaw06_tame.l0]; exact rfl) ?_
    refine Ev.pos (by omega) (Ev.pos (by omega) (Ev.pos (by omega) ?_))
    have hm : galloonlaw06_mod.f (rd l (j : Int)) (m : Int) = some ((rd l (j : Int) % 18446744073709551616) % (m : Int)) := mod_spec _ _ (by omega) (by omega)
    rw [hm]
    have hlen : (tameS m (l.take j)).length ≤ 12 := tameS_len _ _
    refine Ev.congr (fun k => Option.bind_some _ _) (Ev.pos (by omega) ?_)
    have e3 : wrap64 ((j : Int) + 1) = ((j + 1 : Nat) : Int) := by rw [wrap_in (by omega) (by omega)]; push_cast; rfl
    have e4 : tameS m (l.take j) ++ [(rd l (j : Int) % 18446744073709551616) % (m : Int)] = tameS m (l.take (j + 1)) := by
      unfold tameS
      have hj2 : j < l.length := by omega
      rw [List.take_take, List.take_take, show min 12 j = j by omega, show min 12 (j + 1) = j + 1 by omega, List.take_succ_eq_append_getElem hj2, List.map_append, rd_nat]
      simp [hj2]
    rw [e3, e4]
    exact ih (j + 1) (by omega)

theorem tame_ev {m : Nat} (h : Mod m) (l : List Int) (hl : l.length ≤ 9223372036854775807) : Ev (fun k => galloonlaw06_tame.f k (m : Int) l) (tameS m l) := by
  have := tame_l0 h l hl (min l.length 12) 0 (by omega)
  exact this

theorem permutes_ev {m : Nat} (h : Mod m) {l : List Int} (hl : Rem m l) (h12 : l.length ≤ 12) : Ev (fun k => shuffle_Permutes.f k (m : Int) l) ((twiceS 0 (valS m l)).1, (twiceS 0 (valS m l)).2, 0) := by
  have h2 := h.hi
  unfold shuffle_Permutes.f
  refine Ev.bind (Ev.from200 fun k hk => values_ev h hl h12 hk) ?_
  refine Ev.pos rfl ?_
  exact Ev.bind (twice_ev (valS m l) (by rw [valS_length]; omega)) (Ev.now _)

theorem after_l0 {m : Nat} (h : Mod m) {f g : List Int} (hf : Rem m f) (hfl : f.length = m) (hgl : g.length = m) : ∀ (d j : Nat), j + d = m → ∀ k, d < k →
    shuffle_After.l0 k g ((List.range j).map fun x => rd g (f.getD x 0)) f (f.length : Int) (j : Int) = some (f.map (fun y => rd g y), 0) := by
  have h1 := h.lo
  have h2 := h.hi
  intro d
  induction d with
  | zero =>
    intro j hj k hk
    obtain ⟨k, rfl, _⟩ := succ_of_lt hk
    simp only [shuffle_After.l0]
    rw [if_neg (by omega)]
    obtain rfl : j = m := by omega
    congr 2
    apply List.ext_getElem
    · simp [hfl]
    · intro i a b
      simp only [List.length_map, List.length_range] at a
      simp [show i < f.length by omega]
  | succ d ih =>
    intro j hj k hk
    obtain ⟨k, rfl, hk⟩ := succ_of_lt hk
    simp only [shuffle_After.l0]
    have hr := hf.get (i := j) (by omega)
    rw [if_pos (by omega), if_pos (by omega), if_pos (by omega), rd_nat, if_pos (by omega), if_pos (by omega), if_pos (by simp; omega)]
    have e3 : wrap64 ((j : Int) + 1) = ((j + 1 : Nat) : Int) := by rw [wrap_in (by omega) (by omega)]; push_cast; rfl
    have e4 : ((List.range j).map fun x => rd g (f.getD x 0)) ++ [rd g (f.getD j 0)] = (List.range (j + 1)).map fun x => rd g (f.getD x 0) := by simp [List.range_succ]
    rw [e3, e4]
    exact ih (j + 1) (by omega) k (by omega)

theorem after_ev {m : Nat} (h : Mod m) {f g : List Int} (hf : Rem m f) (hg : Rem m g) (hfl : f.length = m) (hgl : g.length = m) {k : Nat} (hk : 200 ≤ k) : shuffle_After.f k (m : Int) f g = some (f.map (fun y => rd g y), 0) := by
  have h2 := h.hi
  unfold shuffle_After.f
  rw [isFun_ev h hf hfl]
  simp only [Option.bind_some, if_true]
  rw [isFun_ev h hg hgl]
  simp only [Option.bind_some, Bool.not_true]
  obtain ⟨k, rfl, hk⟩ := succ_of_lt (show 99 < k by omega)
  simp only [shuffle_After.j0]
  rw [if_neg (by simp)]
  have := after_l0 h hf hfl hgl m 0 (by omega) k (by omega)
  simpa using this


end Go.Proofs.Ytpkmmbicpijgpaa.Pure
