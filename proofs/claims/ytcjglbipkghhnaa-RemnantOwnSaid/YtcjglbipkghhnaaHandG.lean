-- Loops over an iterator that makes its elements itself and has a block of its own that it changes between the rounds (as HandV, with that block named).
import Derived.Test.YtcjglbipkghhnaaHandS
namespace Go.Proofs.Ytcjglbipkghhnaa.Hand
open Go.RowKit Go.Shelf

/-- Whatever is written into block X, J holds on. -/
def Loose {β : Type} (X : Nat) (J : β → World → Prop) : Prop := ∀ (s : β) (W : World) (a : Addr) (v : Value), a.block = X → J s W → J s (W.setCell a v)
theorem Held.set {D : Nat} {r : Loop} {W : World} (h : Held D r W) (a : Addr) (v : Value) (ha : D + 2 ≤ a.block) : Held D r (W.setCell a v) :=
  ⟨(Below.heap_setCell W a v D (by omega)).trans h.calls, (Below.heap_setCell W a v (D + 1) (by omega)).trans h.record⟩

section
variable {α : Type} {F : Fence} {n : Nat} {P : Program}

/-- What an iterator may count on at each element: J before, J behind (or Jx, and no more is wanted). -/
def ServesX (F : Fence) (m : Nat) (P : Program) (l : Nat) (encs : α → Array Value) (Kp : World → World → Prop) (V : α → World → Prop) (J Jx : List α → World → Prop) : Prop :=
  ∀ (pre : List α) (x : α) (W : World), J pre W → V x W → YieldAt F m P l (encs x) W fun e W' =>
    (e = .returned (.bool true) ∧ J (pre ++ [x]) W' ∧ Kp W W') ∨ (e = .returned (.bool false) ∧ Jx (pre ++ [x]) W' ∧ Kp W W')

/-- The iterator's word: whatever it is served with, it comes to all elements (S), or to some of them (Sp) where a round wants no more. -/
def SeqX (F : Fence) (n : Nat) (P : Program) (g : Nat) (lb : Array Value) (encs : α → Array Value) (Kp : World → World → Prop) (V : Nat → α → World → Prop) (Q : World → Prop) (S Sp : List α → Prop) (w : World) : Prop :=
  ∀ (l : Nat) (J Jx : List α → World → Prop) (W : World), Below w.heap.size w W → AbidesFrom W.heap.size J → AbidesFrom W.heap.size Jx → Loose (W.heap.size + 1) J → Loose (W.heap.size + 1) Jx → (∀ s W, J s W → Q W) → ServesX F (n - 1) P l encs Kp (V (W.heap.size + 1)) J Jx → J [] W →
    CallsIn F n P g (#[.func (.yield l) #[] #[]] ++ lb) W fun e W' => (∃ v, e = .returned v) ∧ ((∃ xs, S xs ∧ J xs W') ∨ (∃ pre, Sp pre ∧ Jx pre W'))

/-- The body's walk serves the iterator, the loop's record being turned where each round begins and where it ends. -/
theorem servesX_of_body {D m : Nat} {f : FuncId} {ps : Array Tmp} {assign body : Code} {tmps : Array Value} {encs : α → Array Value} {Kp : World → World → Prop} {V : α → World → Prop} {I Ix : List α → World → Prop}
    (hF : F.fn f) (hps : ∀ x, (encs x).size = ps.size)
    (hKt : ∀ {A B C : World}, Kp A B → Kp B C → Kp A C) (hKb : ∀ (W : World) (l : Nat) (o o' : Obj), D ≤ l → W.heap[l]? = some o → o.isCells = false → o.isWalk = false → Kp W (W.putObj l o'))
    (hI : OwnFrom D I) (hIx : OwnFrom D Ix) (hV : OwnFrom D V) (a₁ : α → Act)
    (hassign : ∀ (x : α) (W : World) (K : Act → World → Prop), K (a₁ x) W →
      assign.wpIn (F.inRound (D + 1)) m P (Exit.then K (fun _ _ _ => False)) { tmps := (ps.zip (encs x)).foldl (fun t (p, v) => t.setIfInBounds p v) tmps, defers := [] } W)
    (hbody : ∀ (pre : List α) (x : α) (W : World), I pre W → V x W → body.wpIn (F.inRound (D + 1)) m P (ownPostG D Kp I (fun c xs W' => c = .ret ∧ Ix xs W' ∧ Kp W W') (pre ++ [x]) W) (a₁ x) W) :
    ServesX F m P (D + 1) encs Kp V (fun pre W => I pre W ∧ Held D (recAt f tmps ps assign body D .ready none) W) (fun pre W => Ix pre W ∧ Held D (recAt f tmps ps assign body D .done (some .ret)) W) := by
  intro pre x W hiW hv
  obtain ⟨hi, hh⟩ := hiW
  have turn : ∀ {β : Type} {r : Loop} {s : β} {U : World} {Z : β → World → Prop} (r' : Loop), OwnFrom D Z → Z s U → Held D r U → Z s (U.putObj (D + 1) (.loop r')) :=
    fun r' hz hs hu => hz.putObj _ hs (Nat.le_succ D) hu.record rfl
  have keep : ∀ {r : Loop} {U : World} (r' : Loop), Held D r U → Kp U (U.putObj (D + 1) (.loop r')) := fun r' hu => hKb _ _ _ _ (Nat.le_succ D) hu.record rfl rfl
  -- the round begins
  refine ⟨f, _, assign, body, run_yield hh.record (hps x), roundIn_of_wpIn hF (hassign x W _ ⟨_, run_beginRound hh.record rfl, ?_⟩)⟩
  have hb := hh.turned (recAt f tmps ps assign body D .busy none)
  refine wpIn_mono (hbody pre x _ (turn _ hI hi hh) (turn _ hV hv hh)) fun e a3 W3 hp => ?_
  -- it ends by going on, or by leaving the function
  match e, hp with
  | .normal, ⟨hk, hkp, hi3⟩ =>
    have h3 := hb.kept hk
    exact ⟨_, _, run_endRound none h3.record, .inl ⟨rfl, ⟨turn _ hI hi3 h3, h3.turned _⟩, hKt (keep _ hh) (hKt hkp (keep _ h3))⟩⟩
  | .ret, ⟨hk, _, hi3, hkp⟩ =>
    have h3 := hb.kept hk
    exact ⟨_, _, run_endRound (some .ret) h3.record, .inr ⟨rfl, ⟨turn _ hIx hi3 h3, h3.turned _⟩, hKt (keep _ hh) (hKt hkp (keep _ h3))⟩⟩
  | .exit _, ⟨_, h, _⟩ => cases h
  | .goto _, ⟨_, h, _⟩ => cases h

/-- The loop over such an iterator, in a function that is no round of another loop. -/
theorem wpIn_rangeFunc_X {g : Operand} {ps : Array Tmp} {assign body : Code} {Q : Exit → Act → World → Prop} {a : Act} {w : World}
    (hro : F.round = none) (h1 : 1 ≤ n) {gf : Nat} {lb : Array Value} (hg : a.eval g = .func (.func gf) #[] lb) (hFg : F.fn gf) (eg : ∀ args w, (callFunc gf args).run P w = .ok (.enter gf args) w)
    {encs : α → Array Value} {Kp : World → World → Prop} {V : Nat → α → World → Prop} {Qw : World → Prop} {S Sp : List α → Prop} {w0 : World} (hseq : SeqX F (n - 1) P gf lb encs Kp V Qw S Sp w0)
    (hKt : ∀ {A B C : World}, Kp A B → Kp B C → Kp A C) (hKb : ∀ (W : World) (l : Nat) (o o' : Obj), w.heap.size ≤ l → W.heap[l]? = some o → o.isCells = false → o.isWalk = false → Kp W (W.putObj l o')) (hb0 : Below w0.heap.size w0 w) (hps : ∀ x, (encs x).size = ps.size)
    (I Ix : List α → World → Prop) (hI : OwnFrom w.heap.size I) (hIx : OwnFrom w.heap.size Ix) (hV : OwnFrom w.heap.size (V (w.heap.size + 3))) (hLI : Loose (w.heap.size + 3) I) (hLx : Loose (w.heap.size + 3) Ix) (hQ : ∀ s W, I s W → Qw W) (h0 : I [] w) (a₁ : α → Act)
    (hassign : ∀ (l : Nat) (x : α) (W : World) (K : Act → World → Prop), K (a₁ x) W →
      assign.wpIn (F.inRound l) (n - 1 - 1) P (Exit.then K (fun _ _ _ => False)) { tmps := (ps.zip (encs x)).foldl (fun t (p, v) => t.setIfInBounds p v) a.tmps, defers := [] } W)
    (hbody : ∀ (l : Nat) (pre : List α) (x : α) (W : World), I pre W → V (w.heap.size + 3) x W → body.wpIn (F.inRound l) (n - 1 - 1) P (ownPostG w.heap.size Kp I (fun c xs W' => c = .ret ∧ Ix xs W' ∧ Kp W W') (pre ++ [x]) W) (a₁ x) W)
    (hdone : ∀ (D : Nat) (xs : List α) (W : World), w.heap.size ≤ D → S xs → I xs W → W.heap[D]? = some (.deferred (some [])) → Q .normal { a with defers := { target := .collected D, args := #[] } :: a.defers } W)
    (hstop : ∀ (D : Nat) (pre : List α) (W : World), w.heap.size ≤ D → Sp pre → Ix pre W → W.heap[D]? = some (.deferred (some [])) → Code.ret.wpIn F n P Q { a with defers := { target := .collected D, args := #[] } :: a.defers } W) :
    (Code.rangeFunc g ps assign body).wpIn F n P Q a w := by
  apply wpIn_rangeFunc
  intro f hF
  -- where the iterator is called: the two blocks are laid
  have hheld : Held w.heap.size (recAt f a.tmps ps assign body w.heap.size .ready none) ((w.alloc (.deferred (some []))).alloc (.loop (recAt f a.tmps ps assign body w.heap.size .ready none))) :=
    ⟨(Below.heap_alloc _ _ _ (by simp)).trans (World.alloc_heap_new w _), by
      have h := World.alloc_heap_new (w.alloc (.deferred (some []))) (.loop (recAt f a.tmps ps assign body w.heap.size .ready none))
      rwa [World.size_alloc] at h⟩
  have hbw : Below w.heap.size w ((w.alloc (.deferred (some []))).alloc (.loop (recAt f a.tmps ps assign body w.heap.size .ready none))) := ((Below.refl _ w).alloc (Nat.le_refl _) _).alloc (by simp) _
  have hsz : ((w.alloc (.deferred (some []))).alloc (.loop (recAt f a.tmps ps assign body w.heap.size .ready none))).heap.size = w.heap.size + 2 := by simp
  have henter := run_enterLoop_outer (P := P) (w := w) f a.tmps ps assign body
  rw [hro]
  generalize (w.alloc (.deferred (some []))).alloc (.loop (recAt f a.tmps ps assign body w.heap.size .ready none)) = U at hheld hbw hsz henter
  have hserves := servesX_of_body (D := w.heap.size) (m := n - 1 - 1) (F := F) (P := P) (Kp := Kp) hF hps (fun h k => hKt h k) hKb hI hIx hV a₁ (hassign (w.heap.size + 1)) (hbody (w.heap.size + 1))
  -- what the loop carries stays where blocks are laid or another's walk is turned
  have abides : ∀ {Z : List α → World → Prop} {r : Loop}, OwnFrom w.heap.size Z → AbidesFrom U.heap.size (fun pre W => Z pre W ∧ Held w.heap.size r W) := fun hz s A B row hs hgr hr =>
    ⟨hz s A B row hs.1 hgr (fun q e => ⟨by have := (hr q e).1; omega, by obtain ⟨_, o, ho, hwk⟩ := hr q e; exact ⟨o, ho, Obj.not_cells_of_walk hwk⟩⟩), hs.2.grown hgr (fun q e => (hr q e).2)⟩
  have loose : ∀ {Z : List α → World → Prop} {r : Loop}, Loose (w.heap.size + 3) Z → Loose (U.heap.size + 1) (fun pre W => Z pre W ∧ Held w.heap.size r W) := fun hz s W a v ha hs =>
    ⟨hz s W a v (by omega) hs.1, hs.2.set a v (by omega)⟩
  have hI0 : I [] U := hI [] w U none h0 (grown_of hbw) (fun r e => by cases e)
  have hcall := hseq (w.heap.size + 1) (fun pre W => I pre W ∧ Held w.heap.size (recAt f a.tmps ps assign body w.heap.size .ready none) W) (fun pre W => Ix pre W ∧ Held w.heap.size (recAt f a.tmps ps assign body w.heap.size .done (some .ret)) W) U (hb0.trans (hbw.mono hb0.size)) (abides hI) (abides hIx) (loose hLI) (loose hLx) (fun s W h => hQ s W h.1) (by rw [hsz]; exact hserves) ⟨hI0, hheld⟩
  refine ⟨w.heap.size + 1, [{ target := .collected w.heap.size, args := #[] }], U, { target := .fn (.func gf) lb, args := #[.func (.yield (w.heap.size + 1)) #[] #[]] }, U, gf, #[.func (.yield (w.heap.size + 1)) #[] #[]] ++ lb, U, ?_, ?_, ?_, ?_, fun _ => h1, ?_⟩
  · exact henter
  · clear hcall hserves abides; simp only [resolve, hg]; simp [go_sem]
  · clear hcall hserves abides; intro f' hf'; simp [Target.leads] at hf'; subst hf'; exact hFg
  · clear hcall hserves abides; simp [invoke, go_sem, eg]
  · refine hcall.mono ?_
    intro e W' hend
    obtain ⟨⟨v, rfl⟩, hend⟩ := hend
    cases hend with
    | inl h =>
      obtain ⟨xs, hS, hi, hh⟩ := h
      exact ⟨none, _, run_endLoop (r := recAt f a.tmps ps assign body w.heap.size .ready none) hh.record (by simp), hdone w.heap.size xs _ (Nat.le_refl _) hS (hI.putObj _ hi (Nat.le_succ _) hh.record rfl) (hh.ended _)⟩
    | inr h =>
      obtain ⟨pre, hSp, hi, hh⟩ := h
      exact ⟨some .ret, _, run_endLoop (r := recAt f a.tmps ps assign body w.heap.size .done (some .ret)) hh.record (by simp), hstop w.heap.size pre _ (Nat.le_refl _) hSp (hIx.putObj _ hi (Nat.le_succ _) hh.record rfl) (hh.ended _)⟩
end

end Go.Proofs.Ytcjglbipkghhnaa.Hand
