/-
  A range over a function whose iterator may panic: the statement, from the iterator's contract and one walk of the body.
-/
import Derived.Test.YtifmalbdolpocaaDoorRound
import Derived.RangeFuncOwn
namespace Go.Proofs.YtifmalbdolpocaaDoor
open Go Go.RowKit
variable {F : Fence} {n : Nat} {P : Program}

/-- The loop's own bookkeeping: the record and the block for deferred calls. -/
structure LoopAt (H : Nat) (rec : LoopState → Option Code → Loop) (st : LoopState) (pe : Option Code) (W : World) : Prop where
  loop : W.heap[H + 1]? = some (.loop (rec st pe))
  defs : W.heap[H]? = some (.deferred (some []))
theorem obj_below {W W' : World} {k : Nat} {o : Obj} (h : W.heap[k]? = some o) (hb : Below W.heap.size W W') : W'.heap[k]? = some o :=
  (hb.block k (Array.getElem?_eq_some_iff.1 h).1).trans h
theorem LoopAt.step {H : Nat} {rec : LoopState → Option Code → Loop} {st : LoopState} {pe : Option Code} {W W' : World} (h : LoopAt H rec st pe W) (hb : Below W.heap.size W W') : LoopAt H rec st pe W' :=
  ⟨obj_below h.loop hb, obj_below h.defs hb⟩
theorem LoopAt.turn {H : Nat} {rec : LoopState → Option Code → Loop} {st st' : LoopState} {pe pe' : Option Code} {W : World} (h : LoopAt H rec st pe W) : LoopAt H rec st' pe' (W.putObj (H + 1) (.loop (rec st' pe'))) :=
  ⟨World.putObj_heap_same (Array.getElem?_eq_some_iff.1 h.loop).1, (World.putObj_heap_other (by omega)).trans h.defs⟩

/-- A round's body is left off its end. -/
def onlyNormal (R : World → Prop) : Exit → Act → World → Prop
  | .normal, _, w => R w
  | _, _, _ => False

theorem rangeFunc_may {α : Type} {g : Operand} {ps : Array Tmp} {assign body : Code} {Q : Exit → Act → World → Prop} {a : Act} {w : World}
    (hro : F.round = none) (hd : F.depth.isSome = false) {gf : Nat} {lb : Array Value} (hg : a.eval g = .func (.func gf) #[] lb) (hFg : F.fn gf) (eg : ∀ args w, (callFunc gf args).run P w = .ok (.enter gf args) w)
    (enc : α → Value) (Adm : List α → α → Prop) (S : List α → Prop) (Pn : List PanicEntry → List α → Prop) (hps : ps.size = 1)
    (I : List α → World → Prop)
    (hstep : ∀ pre W W', I pre W → Below W.heap.size W W' → I pre W')
    (hturn : ∀ pre W l r r', w.heap.size ≤ l → W.heap[l]? = some (.loop r) → I pre W → I pre (W.putObj l (.loop r')))
    (hiter : ∀ (l : Nat) (J : List α → World → Prop), (∀ pre W W', J pre W → Below W.heap.size W W' → J pre W') → (∀ pre W, J pre W → I pre W) →
      (∀ pre x W, J pre W → Adm pre x → YieldAt F (n - 1 - 1) P l #[enc x] W fun e W' => e = .returned (.bool true) ∧ J (pre ++ [x]) W') →
      ∀ W, J [] W → CallsIn F (n - 1) P gf (#[.func (.yield l) #[] #[]] ++ lb) W fun e W' =>
        (∃ v xs, e = .returned v ∧ S xs ∧ J xs W') ∨ (∃ chain xs, e = .panicked chain ∧ Pn chain xs ∧ J xs W'))
    (h0 : I [] w)
    (hround : ∀ (l : Nat) (pre : List α) (x : α) (W : World), I pre W → Adm pre x → w.heap.size < l → l < W.heap.size →
      assign.wpIn (F.inRound l) (n - 1 - 1) P (Exit.then (fun a₁ W₁ => I pre W₁ ∧ KeepsOthers W W₁ ∧
          ∀ W₂, I pre W₂ → (∀ k, k ≠ l → W₂.heap[k]? = W₁.heap[k]?) → W₂.heap.size = W₁.heap.size →
            body.wpIn (F.inRound l) (n - 1 - 1) P (onlyNormal fun W₃ => I (pre ++ [x]) W₃ ∧ KeepsOthers W₂ W₃) a₁ W₂) (fun _ _ _ => False))
        { tmps := (ps.zip #[enc x]).foldl (fun t (p, v) => t.setIfInBounds p v) a.tmps, defers := [] } W)
    (hdone : ∀ (D : Nat) (xs : List α) (W : World), w.heap.size ≤ D → S xs → I xs W → W.heap[D]? = some (.deferred (some [])) → Q .normal { a with defers := { target := .collected D, args := #[] } :: a.defers } W)
    (hpan : ∀ (D : Nat) (chain : List PanicEntry) (xs : List α) (W : World), w.heap.size ≤ D → Pn chain xs → I xs W → W.heap[D]? = some (.deferred (some [])) → Q (.panic chain) { a with defers := { target := .collected D, args := #[] } :: a.defers } W) :
    (Code.rangeFunc g ps assign body).wpIn F n P Q a w := by
  refine wpIn_rangeFunc ?_
  intro fn hfn
  rw [hro]
  obtain ⟨rec, hrec⟩ : ∃ rec : LoopState → Option Code → Loop, rec = fun st pe => { state := st, pending := pe, fn, tmps := a.tmps, params := ps, assign, body, defers := w.heap.size } := ⟨_, rfl⟩
  obtain ⟨W1, hW1⟩ : ∃ W1, (w.alloc (.deferred (some []))).alloc (.loop (rec .ready none)) = W1 := ⟨_, rfl⟩
  have hL1 : LoopAt w.heap.size rec .ready none W1 := by
    refine ⟨?_, ?_⟩
    · rw [← hW1]; have := World.alloc_heap_new (w.alloc (.deferred (some []))) (.loop (rec .ready none)); rwa [World.size_alloc] at this
    · rw [← hW1]; exact (Below.heap_alloc _ _ _ (by simp)).trans (World.alloc_heap_new w _)
  have hI1 : I [] W1 := by
    refine hstep [] w W1 h0 ?_
    rw [← hW1]; exact ((Below.refl _ w).alloc (Nat.le_refl _) _).alloc (by simp) _
  refine ⟨w.heap.size + 1, [{ target := .collected w.heap.size, args := #[] }], W1, { target := .fn (.func gf) lb, args := #[.func (.yield (w.heap.size + 1)) #[] #[]] }, W1, gf,
    #[.func (.yield (w.heap.size + 1)) #[] #[]] ++ lb, W1, ?_, ?_, ?_, ?_, (fun h => by rw [hd] at h; cases h), ?_⟩
  · rw [← hW1, hrec]; exact run_enterLoop_outer _ _ _ _ _
  · simp only [resolve, hg]
    simp [go_sem]
  · intro f' hf'; simp [Target.leads] at hf'; subst hf'; exact hFg
  · simp [invoke, go_sem, eg]
  · refine (hiter (w.heap.size + 1) (fun pre W => I pre W ∧ LoopAt w.heap.size rec .ready none W)
      (fun pre W W' h hb => ⟨hstep pre W W' h.1 hb, h.2.step hb⟩) (fun pre W h => h.1) ?_ W1 ⟨hI1, hL1⟩).mono ?_
    · -- one round
      rintro pre x W ⟨hi, hl⟩ hadm
      have hlt : w.heap.size + 1 < W.heap.size := (Array.getElem?_eq_some_iff.1 hl.loop).1
      have hy := run_yield (P := P) (args := #[enc x]) hl.loop (by rw [hrec]; simp [hps])
      rw [hrec] at hy
      refine ⟨fn, _, assign, body, hy, roundIn_of_wpIn hfn (wpIn_mono (hround (w.heap.size + 1) pre x W hi hadm (by omega) hlt) ?_)⟩
      rintro e a1 Wa hp
      cases e with
      | normal =>
        obtain ⟨hia, hka, hbody⟩ := hp
        have hl2 : LoopAt w.heap.size rec .ready none Wa := ⟨hka.same _ _ hl.loop rfl, hka.same _ _ hl.defs rfl⟩
        refine ⟨_, run_beginRound hl2.loop (by rw [hrec]), ?_⟩
        have hl3 : LoopAt w.heap.size rec .busy none (Wa.putObj (w.heap.size + 1) (.loop (rec .busy none))) := hl2.turn
        have e1 : ({ rec .ready none with state := .busy } : Loop) = rec .busy none := by rw [hrec]
        rw [e1]
        refine wpIn_mono (hbody _ (hturn pre Wa _ _ _ (by omega) hl2.loop hia) (fun k hk => World.putObj_heap_other hk) (by simp)) ?_
        intro e2 a2 W3 hp2
        cases e2 <;> first | exact hp2.elim | skip
        obtain ⟨hi3, h3⟩ := hp2
        have hl4 : LoopAt w.heap.size rec .busy none W3 := ⟨h3.same _ _ hl3.loop rfl, h3.same _ _ hl3.defs rfl⟩
        have hr := run_endRound (P := P) none hl4.loop
        have e2 : ({ rec .busy none with state := if (none : Option Code).isNone then .ready else .done, pending := none } : Loop) = rec .ready none := by rw [hrec]; rfl
        rw [e2] at hr
        exact ⟨_, _, hr, rfl, hturn _ W3 _ _ _ (by omega) hl4.loop hi3, hl4.turn⟩
      | exit id => exact hp
      | goto t => exact hp
      | ret => exact hp
      | panic ch => exact hp
      | outgrown => exact hp
    · -- the iterator has ended
      rintro e W3 (⟨v, xs, rfl, hS, hi, hl⟩ | ⟨chain, xs, rfl, hP, hi, hl⟩)
      · have he := run_endLoop (P := P) hl.loop (by rw [hrec]; simp)
        rw [hrec] at he
        exact ⟨none, _, he, hdone _ xs _ (Nat.le_refl _) hS (hturn xs W3 _ _ _ (by omega) hl.loop hi) ((World.putObj_heap_other (by omega)).trans hl.defs)⟩
      · exact hpan _ chain xs _ (Nat.le_refl _) hP hi hl.defs
end Go.Proofs.YtifmalbdolpocaaDoor
