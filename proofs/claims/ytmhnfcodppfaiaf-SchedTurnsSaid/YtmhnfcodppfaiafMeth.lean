
/- A range over a method value, or over any function value that has arguments bound ahead: the law of the walk. -/
import Derived.Test.YtmhnfcodppfaiafIter
namespace Go.Proofs.Ytmhnfcodppfaiaf.Meth
open Go Go.RowKit Go.Proofs.Ytmhnfcodppfaiaf.Obj Go.Proofs.Ytmhnfcodppfaiaf.Iter
set_option linter.unusedVariables false
section
variable {α : Type} {F : Fence} {n : Nat} {P : Program}
/-- What such an iterator owes: fst is what it has bound ahead, lb what it has captured. -/
def SeqM (F : Fence) (n : Nat) (P : Program) (g : Nat) (fst lb : Array Value) (encs : α → Array Value) (Kp : World → World → Prop) (S Sp : List α → Prop) (N : Nat) (w : World) : Prop :=
  ∀ (l : Nat) (J Jx : List α → World → Prop) (W : World), Below w.heap.size w W → AbidesFrom W.heap.size J → AbidesFrom W.heap.size Jx →
    (∀ pre x V, J pre V → pre.length < N → YieldAt F (n - 1) P l (encs x) V fun e V' => (e = .returned (.bool true) ∧ J (pre ++ [x]) V' ∧ Kp V V') ∨ (e = .returned (.bool false) ∧ Jx (pre ++ [x]) V')) →
    J [] W → CallsIn F n P g (fst ++ #[.func (.yield l) #[] #[]] ++ lb) W fun e V => (∃ v, e = .returned v) ∧ ((∃ xs, S xs ∧ J xs V) ∨ (∃ pre, Sp pre ∧ Jx pre V))
/-- The record of a loop, and the block for its rounds' deferred calls: where they lie, and how the record stands. -/
structure Books (D : Nat) (rec : LoopState → Option Code → Loop) (st : LoopState) (pe : Option Code) (W : World) : Prop where
  rcd : W.heap[D + 1]? = some (.loop (rec st pe))
  dfr : W.heap[D]? = some (.deferred (some []))
theorem Books.put {D : Nat} {rec : LoopState → Option Code → Loop} {st st' : LoopState} {pe pe' : Option Code} {W : World} (h : Books D rec st pe W) : Books D rec st' pe' (W.putObj (D + 1) (.loop (rec st' pe'))) :=
  ⟨World.putObj_heap_same (heap_lt h.rcd), (World.putObj_heap_other (by omega)).trans h.dfr⟩
theorem Books.kept {D B : Nat} {rec : LoopState → Option Code → Loop} {st : LoopState} {pe : Option Code} {W V : World} (h : Books D rec st pe W) (k : KeepsFrom B W V) (hB : B ≤ D) : Books D rec st pe V :=
  ⟨k.same _ _ (by omega) h.rcd rfl, k.same _ _ hB h.dfr rfl⟩
theorem Books.grown {D : Nat} {rec : LoopState → Option Code → Loop} {st : LoopState} {pe : Option Code} {W V : World} {row : Option Nat} (h : Books D rec st pe W) (hg : W.grownBy V row) (hr : ∀ r, row = some r → ∃ o : Obj, W.heap[r]? = some o ∧ o.isWalk = true) : Books D rec st pe V :=
  ⟨(grownBy_keeps hg hr h.rcd rfl).trans h.rcd, (grownBy_keeps hg hr h.dfr rfl).trans h.dfr⟩
theorem wpIn_range_meth {g : Operand} {ps : Array Tmp} {assign body : Code} {Q : Exit → Act → World → Prop} {a : Act} {w : World}
    (hro : F.round = none) (h1 : 1 ≤ n) {gf : Nat} {fst lb : Array Value} (hg : a.eval g = .func (.func gf) fst lb) (hFg : F.fn gf) (eg : ∀ args w, (callFunc gf args).run P w = .ok (.enter gf args) w)
    {encs : α → Array Value} {Kp : World → World → Prop} {S Sp : List α → Prop} {N : Nat} {w0 : World} (hseq : SeqM F (n - 1) P gf fst lb encs Kp S Sp N w0)
    (hKt : ∀ {A B C : World}, Kp A B → Kp B C → Kp A C) (hKb : ∀ (W : World) (l : Nat) (o o' : Obj), w.heap.size ≤ l → W.heap[l]? = some o → o.isCells = false → o.isWalk = false → Kp W (W.putObj l o')) (hb0 : Below w0.heap.size w0 w) (hps : ∀ x, (encs x).size = ps.size)
    (I : List α → World → Prop) (Ix : Code → List α → World → Prop) (hI : OwnFrom w.heap.size I) (hIx : ∀ c, OwnFrom w.heap.size (Ix c)) (h0 : I [] w) (a₁ : α → Act)
    (hassign : ∀ (l : Nat) (x : α) (W : World) (K : Act → World → Prop), K (a₁ x) W →
      assign.wpIn (F.inRound l) (n - 1 - 1) P (Exit.then K (fun _ _ _ => False)) { tmps := (ps.zip (encs x)).foldl (fun t (p, v) => t.setIfInBounds p v) a.tmps, defers := [] } W)
    (hbody : ∀ (l : Nat) (pre : List α) (x : α) (W : World), I pre W → pre.length < N → body.wpIn (F.inRound l) (n - 1 - 1) P (ownPostG w.heap.size Kp I Ix (pre ++ [x]) W) (a₁ x) W)
    (hdone : ∀ (D : Nat) (xs : List α) (W : World), w.heap.size ≤ D → S xs → I xs W → W.heap[D]? = some (.deferred (some [])) → Q .normal { a with defers := { target := .collected D, args := #[] } :: a.defers } W)
    (hstop : ∀ (D : Nat) (c : Code) (pre : List α) (W : World), w.heap.size ≤ D → Sp pre → Ix c pre W → W.heap[D]? = some (.deferred (some [])) → c.wpIn F n P Q { a with defers := { target := .collected D, args := #[] } :: a.defers } W) :
    (Code.rangeFunc g ps assign body).wpIn F n P Q a w := by
  refine wpIn_rangeFunc fun fn hfn => ?_
  rw [hro]
  obtain ⟨D, hD⟩ : ∃ D, D = w.heap.size := ⟨_, rfl⟩
  obtain ⟨rec, hrec⟩ : ∃ rec : LoopState → Option Code → Loop, rec = fun st pe => { state := st, pending := pe, fn, tmps := a.tmps, params := ps, assign, body, defers := w.heap.size } := ⟨_, rfl⟩
  obtain ⟨V, hV⟩ : ∃ V, V = (w.alloc (.deferred (some []))).alloc (.loop (rec .ready none)) := ⟨_, rfl⟩
  have hB : Books D rec .ready none V := by
    rw [hV, hD]
    refine ⟨?_, (Below.heap_alloc _ _ _ (by simp)).trans (World.alloc_heap_new w _)⟩
    have := World.alloc_heap_new (w.alloc (.deferred (some []))) (.loop (rec .ready none)); rwa [World.size_alloc] at this
  have hIV : I [] V := by rw [hV]; exact hI.alloc _ (hI.alloc _ h0)
  have hbV : Below w0.heap.size w0 V := by
    rw [hV]; exact hb0.trans ((((Below.refl _ w).alloc (Nat.le_refl _) _).alloc (by simp) _).mono hb0.size)
  have hVs : w.heap.size ≤ V.heap.size := by rw [hV]; simp; omega
  have hnw : ∀ {A : World} {row : Option Nat}, (∀ r, row = some r → V.heap.size ≤ r ∧ ∃ o : Obj, A.heap[r]? = some o ∧ o.isWalk = true) → ∀ r, row = some r → w.heap.size ≤ r ∧ ∃ o : Obj, A.heap[r]? = some o ∧ o.isCells = false :=
    fun hr r e => by obtain ⟨hB, o, ho, hw⟩ := hr r e; exact ⟨Nat.le_trans hVs hB, o, ho, Obj.not_cells_of_walk hw⟩
  refine ⟨D + 1, [{ target := .collected D, args := #[] }], V, { target := .fn (.func gf) lb, args := fst ++ #[.func (.yield (D + 1)) #[] #[]] }, V, gf, fst ++ #[.func (.yield (D + 1)) #[] #[]] ++ lb, V, ?_, ?_, ?_, ?_, fun _ => h1, ?_⟩
  · rw [hV, hrec, hD]; exact run_enterLoop_outer _ _ _ _ _
  · simp only [resolve, hg]
    simp [go_sem]
  · intro f' hf'; simp [Target.leads] at hf'; subst hf'; exact hFg
  · simp [invoke, go_sem, eg]
  refine (hseq (D + 1) (fun pre W => I pre W ∧ Books D rec .ready none W) (fun pre W => ∃ c, Ix c pre W ∧ Books D rec .done (some c) W) V hbV
    (fun s A B row hs hg' hr => ⟨hI s A B row hs.1 hg' (hnw hr), hs.2.grown hg' (fun r e => (hr r e).2)⟩)
    (fun s A B row hs hg' hr => by obtain ⟨c, hc, hk⟩ := hs; exact ⟨c, hIx c s A B row hc hg' (hnw hr), hk.grown hg' (fun r e => (hr r e).2)⟩) ?_ ⟨hIV, hB⟩).mono ?_
  · rintro pre x W ⟨hi, hk⟩ hlen
    have hl := hk.rcd
    have hDw : w.heap.size ≤ D + 1 := by omega
    have hy := run_yield (P := P) (args := encs x) hl (by rw [hrec]; exact hps x)
    rw [hrec] at hy
    refine ⟨fn, _, assign, body, hy, roundIn_of_wpIn hfn (hassign _ x W _ ⟨_, run_beginRound hl (by rw [hrec]), ?_⟩)⟩
    have hk2 : Books D rec .busy none (W.putObj (D + 1) (.loop { rec .ready none with state := .busy })) := by rw [hrec]; rw [hrec] at hk; exact hk.put (st' := .busy) (pe' := none)
    have hw2 : Kp W (W.putObj (D + 1) (.loop { rec .ready none with state := .busy })) := hKb _ _ _ _ hDw hl rfl rfl
    refine wpIn_mono (hbody _ pre x _ (hI.putObj _ hi hDw hl rfl) hlen) ?_
    have fin : ∀ (jump : Option Code) (X : World), KeepsFrom w.heap.size (W.putObj (D + 1) (.loop { rec .ready none with state := .busy })) X → (Instr.endRound (D + 1) jump).run P X = .ok (.bool jump.isNone) (X.putObj (D + 1) (.loop (rec (if jump.isNone then .ready else .done) jump))) ∧
        X.heap[D + 1]? = some (.loop (rec .busy none)) ∧ Books D rec (if jump.isNone then .ready else .done) jump (X.putObj (D + 1) (.loop (rec (if jump.isNone then .ready else .done) jump))) := fun jump X hX => by
      have h3 := hk2.kept hX (Nat.le_of_eq hD.symm)
      have := run_endRound (P := P) jump h3.rcd
      refine ⟨?_, h3.rcd, h3.put⟩
      rw [hrec] at this ⊢
      exact this
    rintro e a3 X hp
    have stop : ∀ c, KeepsFrom w.heap.size (W.putObj (D + 1) (.loop { rec .ready none with state := .busy })) X ∧ Ix c (pre ++ [x]) X → ∃ v X', (Instr.endRound (D + 1) (some c)).run P X = .ok v X' ∧
        ((Ending.returned v = .returned (.bool true) ∧ (I (pre ++ [x]) X' ∧ Books D rec .ready none X') ∧ Kp W X') ∨ (Ending.returned v = .returned (.bool false) ∧ ∃ c, Ix c (pre ++ [x]) X' ∧ Books D rec .done (some c) X')) := fun c h => by
      obtain ⟨hr, hl3, hb3⟩ := fin (some c) X h.1
      exact ⟨_, _, hr, .inr ⟨rfl, c, (hIx c).putObj _ h.2 hDw hl3 rfl, hb3⟩⟩
    cases e with
    | normal =>
      obtain ⟨h3, hkp3, hi3⟩ := hp
      obtain ⟨hr, hl3, hb3⟩ := fin none X h3
      exact ⟨_, _, hr, .inl ⟨rfl, ⟨hI.putObj _ hi3 hDw hl3 rfl, hb3⟩, hKt (hKt hw2 hkp3) (hKb _ _ _ _ hDw hl3 rfl rfl)⟩⟩
    | ret => exact stop _ hp
    | exit id => exact stop _ hp
    | goto t => exact stop _ hp
    | panic ch => exact hp.elim
    | outgrown => exact hp.elim
  · rintro e X ⟨⟨v, rfl⟩, (⟨xs, hS, hi, hk⟩ | ⟨pre, hSp, c, hi, hk⟩)⟩
    · refine ⟨none, _, by have := run_endLoop (P := P) hk.rcd (by rw [hrec]; simp); rw [hrec] at this; exact this, hdone _ xs _ (Nat.le_of_eq hD.symm) hS (hI.putObj _ hi (by omega) hk.rcd rfl) ((World.putObj_heap_other (by omega)).trans hk.dfr)⟩
    · refine ⟨some c, _, by have := run_endLoop (P := P) hk.rcd (by rw [hrec]; simp); rw [hrec] at this; exact this, hstop _ c pre _ (Nat.le_of_eq hD.symm) hSp ((hIx c).putObj _ hi (by omega) hk.rcd rfl) ((World.putObj_heap_other (by omega)).trans hk.dfr)⟩
end
end Go.Proofs.Ytmhnfcodppfaiaf.Meth
