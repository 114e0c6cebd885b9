/- Plain mathematics of polynomial functions modulo m: falling factorials, and what is a sum of them. -/
namespace Go.Proofs.Ytpkmmbicpijgpaa.MathA

/-- x (x - 1) ... (x - n + 1). -/
def ff (x : Int) : Nat → Int
  | 0 => 1
  | n + 1 => ff x n * (x - n)

def fct : Nat → Nat
  | 0 => 1
  | n + 1 => fct n * (n + 1)

theorem ff_succ (x : Int) (n : Nat) : ff x (n + 1) = ff x n * (x - n) := rfl
theorem fct_succ (n : Nat) : fct (n + 1) = fct n * (n + 1) := rfl

theorem ff_pascal (x : Int) : ∀ n, ff (x + 1) (n + 1) = ff x (n + 1) + (n + 1) * ff x n
  | 0 => by simp [ff]
  | n + 1 => by
    have ih := ff_pascal x n
    have e1 : ff (x + 1) (n + 1 + 1) = ff (x + 1) (n + 1) * (x + 1 - ((n + 1 : Nat) : Int)) := rfl
    have e2 : ff x (n + 1 + 1) = ff x (n + 1) * (x - ((n + 1 : Nat) : Int)) := rfl
    have e3 : ff x (n + 1) = ff x n * (x - n) := rfl
    rw [e1, ih, e2, e3]
    push_cast
    grind

theorem ff_zero_of_lt (x n : Nat) (h : x < n) : ff (x : Int) n = 0 := by
  induction n with
  | zero => omega
  | succ n ih =>
    rw [ff_succ]
    by_cases e : x = n
    · subst e; simp
    · rw [ih (by omega)]; simp

theorem ff_self (n : Nat) : ff (n : Int) n = (fct n : Int) := by
  induction n with
  | zero => rfl
  | succ n ih =>
    have h := ff_pascal (n : Int) n
    rw [ff_zero_of_lt n (n + 1) (by omega), ih] at h
    have e : ((n + 1 : Nat) : Int) = (n : Int) + 1 := by push_cast; rfl
    rw [e, h, fct_succ]
    push_cast
    grind

/-- n! divides a product of n numbers, one after the other. -/
theorem fct_dvd_ff (x n : Nat) : (fct n : Int) ∣ ff (x : Int) n := by
  induction n generalizing x with
  | zero => exact ⟨1, by simp [ff, fct]⟩
  | succ n ihn =>
    induction x with
    | zero => rw [ff_zero_of_lt 0 (n + 1) (by omega)]; exact Int.dvd_zero _
    | succ x ihx =>
      have e : ((x + 1 : Nat) : Int) = (x : Int) + 1 := by push_cast; rfl
      rw [e, ff_pascal]
      refine Int.dvd_add ihx ?_
      obtain ⟨c, hc⟩ := ihn x
      exact ⟨c, by rw [hc, fct_succ]; push_cast; grind⟩

theorem fct_dvd_fct {a b : Nat} (h : a ≤ b) : fct a ∣ fct b := by
  induction b with
  | zero => obtain rfl : a = 0 := by omega
            exact Nat.dvd_refl _
  | succ b ih =>
    by_cases e : a = b + 1
    · subst e; exact Nat.dvd_refl _
    · exact Nat.dvd_trans (ih (by omega)) ⟨b + 1, rfl⟩

/-! ### sums of falling factorials -/
def comb (i : Nat) : List Int → Int → Int
  | [], _ => 0
  | a :: l, x => a * ff x i + comb (i + 1) l x

theorem comb_nil (i : Nat) (x : Int) : comb i [] x = 0 := rfl
theorem comb_cons (i : Nat) (a : Int) (l : List Int) (x : Int) : comb i (a :: l) x = a * ff x i + comb (i + 1) l x := rfl

theorem comb_append (i : Nat) (l r : List Int) (x : Int) : comb i (l ++ r) x = comb i l x + comb (i + l.length) r x := by
  induction l generalizing i with
  | nil => simp [comb]
  | cons a l ih =>
    rw [List.cons_append, comb_cons, ih, comb_cons]
    have e : i + 1 + l.length = i + (a :: l).length := by simp; omega
    rw [e]
    omega

/-- A function is a sum of falling factorials from the i-th on. -/
def Is (i : Nat) (f : Int → Int) : Prop := ∃ l : List Int, ∀ x, f x = comb i l x

theorem Is.zero (i : Nat) : Is i (fun _ => 0) := ⟨[], fun _ => rfl⟩
theorem Is.one (i : Nat) (a : Int) : Is i (fun x => a * ff x i) := ⟨[a], fun x => by simp [comb]⟩
theorem comb_add : ∀ (l r : List Int) (i : Nat), ∃ s : List Int, ∀ x, comb i l x + comb i r x = comb i s x
  | [], r, i => ⟨r, fun x => by rw [comb_nil, Int.zero_add]⟩
  | a :: l, [], i => ⟨a :: l, fun x => by rw [comb_nil, Int.add_zero]⟩
  | a :: l, b :: r, i => by
    obtain ⟨s, hs⟩ := comb_add l r (i + 1)
    refine ⟨(a + b) :: s, fun x => ?_⟩
    rw [comb_cons, comb_cons, comb_cons, ← hs]
    grind
theorem Is.add {i : Nat} {f g : Int → Int} (hf : Is i f) (hg : Is i g) : Is i (fun x => f x + g x) := by
  obtain ⟨l, hl⟩ := hf
  obtain ⟨r, hr⟩ := hg
  obtain ⟨s, hs⟩ := comb_add l r i
  exact ⟨s, fun x => by rw [← hs, ← hl, ← hr]⟩
theorem Is.smul {i : Nat} {f : Int → Int} (c : Int) (hf : Is i f) : Is i (fun x => c * f x) := by
  obtain ⟨l, hl⟩ := hf
  refine ⟨l.map (c * ·), fun x => ?_⟩
  dsimp only
  rw [hl]
  clear hl f
  induction l generalizing i with
  | nil => simp [comb]
  | cons a l ih => rw [List.map_cons, comb_cons, comb_cons, ← ih]; grind
theorem Is.lift {i : Nat} {f : Int → Int} (hf : Is (i + 1) f) : Is i f := by
  obtain ⟨l, hl⟩ := hf
  exact ⟨0 :: l, fun x => by rw [hl, comb_cons]; simp⟩
theorem Is.congr {i : Nat} {f g : Int → Int} (h : ∀ x, f x = g x) (hf : Is i f) : Is i g := by
  obtain ⟨l, hl⟩ := hf
  exact ⟨l, fun x => by rw [← h, hl]⟩
theorem Is.mulX {i : Nat} {f : Int → Int} (hf : Is i f) : Is i (fun x => x * f x) := by
  obtain ⟨l, hl⟩ := hf
  have : Is i (fun x => x * comb i l x) := by
    clear hl f
    induction l generalizing i with
    | nil => exact ⟨[], fun x => by simp [comb]⟩
    | cons a l ih =>
      have h1 := ((Is.one (i + 1) a).add (ih (i := i + 1))).lift
      have h2 := (Is.one i (i * a)).add h1
      refine h2.congr fun x => ?_
      rw [comb_cons, ff_succ]
      grind
  exact this.congr fun x => by rw [hl]
theorem Is.mul_ff {f : Int → Int} (hf : Is 0 f) : ∀ j : Nat, Is 0 (fun x => f x * ff x j)
  | 0 => hf.congr fun x => by simp [ff]
  | j + 1 => by
    have h := Is.mul_ff hf j
    refine (h.mulX.add (h.smul (-(j : Int)))).congr fun x => ?_
    rw [ff_succ]
    grind
theorem Is.mul_comb {f : Int → Int} (hf : Is 0 f) : ∀ (l : List Int) (i : Nat), Is 0 (fun x => f x * comb i l x)
  | [], i => (Is.zero 0).congr fun x => by simp [comb]
  | a :: l, i => by
    refine (((hf.mul_ff i).smul a).add (Is.mul_comb hf l (i + 1))).congr fun x => ?_
    rw [comb_cons]
    grind
theorem Is.mul {f g : Int → Int} (hf : Is 0 f) (hg : Is 0 g) : Is 0 (fun x => f x * g x) := by
  obtain ⟨l, hl⟩ := hg
  exact (hf.mul_comb l 0).congr fun x => by rw [hl]
theorem Is.const (c : Int) : Is 0 (fun _ => c) := (Is.one 0 c).congr fun x => by simp [ff]
theorem Is.id : Is 0 (fun x => x) := ((Is.const 1).mulX).congr fun x => by simp

/-! ### polynomials -/
/-- The value of a polynomial, its coefficient of x^0 first. -/
def horn : List Int → Int → Int
  | [], _ => 0
  | c :: l, x => horn l x * x + c

theorem horn_is : ∀ l : List Int, Is 0 (horn l)
  | [] => Is.zero 0
  | c :: l => ((horn_is l).mul Is.id |>.add (Is.const c)).congr fun x => by rw [horn]
theorem horn_comp {f : Int → Int} (hf : Is 0 f) : ∀ l : List Int, Is 0 (fun x => horn l (f x))
  | [] => Is.zero 0
  | c :: l => (((horn_comp hf l).mul hf).add (Is.const c)).congr fun x => by rw [horn]

/-- Numbers with the same remainders have values with the same remainders. -/
theorem horn_mod {m x y : Int} (h : x % m = y % m) : ∀ l : List Int, horn l x % m = horn l y % m
  | [] => rfl
  | c :: l => by
    rw [horn, horn, Int.add_emod, Int.mul_emod, horn_mod h l, h, ← Int.mul_emod, ← Int.add_emod]


end Go.Proofs.Ytpkmmbicpijgpaa.MathA
