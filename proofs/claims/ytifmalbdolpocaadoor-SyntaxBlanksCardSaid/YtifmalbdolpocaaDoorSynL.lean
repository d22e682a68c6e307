/-
  The walks of package syntax, twelfth part: a program under way.
-/
import Derived.Test.YtifmalbdolpocaaDoorSynK
import Derived.Deep.RegionLaw
namespace Go.Proofs.YtifmalbdolpocaaDoor
open Go.RowKit Go.Shelf

abbrev zero42 : Obj := .cells #[.slice none 0 0, .slice none 0 0] 42 (0, 0)
/-- What holds of a program under way: its box, its two rows, the reader. -/
structure PrgS (W : World) (R : Nat) (all : List ITok) (line col : Int) (vars : List ByteArray) (procs : List Sx.Prc) (j : Nat) (va vp : Value) (w : World) (ys : List Value) (F : Nat → Prop) : Prop where
  box : w.heap[W.heap.size + 1]? = some (.cells #[va, vp] 42 (0, 0))
  vrow : w.ownsRow (W.heap.size + 2) 9 1 va vars.length (vars.map Value.string)
  prow : w.ownsRow (W.heap.size + 2) 82 2 vp procs.length ys
  kids : HProcs w F ys procs
  far : ∀ g, F g → W.heap.size + 2 ≤ g ∧ g < w.heap.size ∧ some g ≠ va.ownBlock ∧ some g ≠ vp.ownBlock
  apart : va.ownBlock = none ∨ va.ownBlock ≠ vp.ownBlock
  rd : RD w R all j line col
  grown : (W.alloc zero42).grownBy w (some R)
  high : W.heap.size + 1 < w.heap.size
variable {W w w' w4 w5 : World} {R : Nat} {all : List ITok} {line col : Int} {vars : List ByteArray} {procs : List Sx.Prc} {j m : Nat} {va vp : Value} {ys : List Value} {F : Nat → Prop}
theorem prg_keep (hR : R < W.heap.size) (hS : PrgS W R all line col vars procs j va vp w ys F) (hg : w.grownBy w' (some R)) (hr : RD w' R all m line col) : PrgS W R all line col vars procs m va vp w' ys F := by
  have hsz := hg.size
  have hB := hS.high
  have K : ∀ q, W.heap.size ≤ q → q < w.heap.size → w'.heap[q]? = w.heap[q]? := fun q h1 h2 => hg.block q h2 (by simp; omega)
  refine ⟨(K _ (by omega) hB).trans hS.box, hS.vrow.kept hg (.inr ?_), hS.prow.kept hg (.inr ?_), hS.kids.keep fun q hq => ⟨hq, K q (by have := (hS.far q hq).1; omega) (hS.far q hq).2.1⟩, ?_, hS.apart, hr, hS.grown.trans hg, by omega⟩
  · intro e; have := (hS.vrow.lt R e).1; omega
  · intro e; have := (hS.prow.lt R e).1; omega
  · intro q hq
    obtain ⟨f1, f2, f3, f4⟩ := hS.far q hq
    exact ⟨f1, by omega, f3, f4⟩
theorem prg_vals (hS : PrgS W R all line col vars procs j va vp w ys F) : (∃ A c, va = .slice A vars.length c) ∧ ∃ A c, vp = .slice A procs.length c := by
  constructor
  · rcases hS.vrow.2 with ⟨rfl, h0⟩ | ⟨g, cap, cur, rfl, _⟩
    · exact ⟨none, 0, by rw [h0]⟩
    · exact ⟨_, cap, rfl⟩
  · rcases hS.prow.2 with ⟨rfl, h0⟩ | ⟨g, cap, cur, rfl, _⟩
    · exact ⟨none, 0, by rw [h0]⟩
    · exact ⟨_, cap, rfl⟩
theorem box2 {W : World} {b : Nat} {t : TypeId} {a0 a1 : Value} (h : W.heap[b]? = some (.cells #[a0, a1] t (0, 0))) :
    W.cell? ⟨b, 0, none⟩ = some a0 ∧ W.cell? ⟨b, 1, none⟩ = some a1 ∧ W.frozen? ⟨b, 0, none⟩ = false ∧ W.frozen? ⟨b, 1, none⟩ = false := by
  refine ⟨?_, ?_, Lib.frozen_of_heap h 0, Lib.frozen_of_heap h 1⟩
  all_goals rw [Lib.cell_of_heap h]; rfl
theorem prg_cells (hS : PrgS W R all line col vars procs j va vp w ys F) (hg : w.grownBy w' (some R)) (hR : R < W.heap.size) :
    w'.cell? ⟨W.heap.size + 1, 0, none⟩ = some va ∧ w'.cell? ⟨W.heap.size + 1, 1, none⟩ = some vp ∧ w'.frozen? ⟨W.heap.size + 1, 0, none⟩ = false ∧ w'.frozen? ⟨W.heap.size + 1, 1, none⟩ = false ∧ w'.heap.size ≠ W.heap.size + 1 := by
  have h := cells_kept hg hS.box (by omega)
  obtain ⟨h1, h2, h3, h4⟩ := box2 h
  refine ⟨h1, h2, h3, h4, ?_⟩
  have := hg.size
  have := hS.high
  omega
theorem prg_own (hS : PrgS W R all line col vars procs j va vp w ys F) : va.ownBlock ≠ some (W.heap.size + 1) ∧ vp.ownBlock ≠ some (W.heap.size + 1) := by
  constructor
  · intro e; have := (hS.vrow.lt _ e).1; omega
  · intro e; have := (hS.prow.lt _ e).1; omega
/-- One row turns, the other stands: the box, behind an append to a row of the program's own. -/
theorem prg_after {o : Obj} {u : Value} (hS : PrgS W R all line col vars procs j va vp w ys F) (hg4 : w.grownBy w4 (some R)) (hR : R < W.heap.size) (hu : u = va ∨ u = vp) (hgrow : (w4.alloc o).grownBy w5 u.ownBlock) :
    w5.cell? ⟨W.heap.size + 1, 0, none⟩ = some va ∧ w5.cell? ⟨W.heap.size + 1, 1, none⟩ = some vp ∧ w5.frozen? ⟨W.heap.size + 1, 0, none⟩ = false ∧ w5.frozen? ⟨W.heap.size + 1, 1, none⟩ = false := by
  have h := cells_kept hg4 hS.box (by omega)
  have hlt : W.heap.size + 1 < w4.heap.size := (Array.getElem?_eq_some_iff.1 h).1
  have hne : u.ownBlock ≠ some (W.heap.size + 1) := by
    rcases hu with rfl | rfl
    · exact (prg_own hS).1
    · exact (prg_own hS).2
  exact box2 ((hgrow.block _ (by rw [World.size_alloc]; omega) (fun e => hne e.symm)).trans ((Lib.alloc_old _ _ _ hlt).trans h))
theorem prg_base (hS : PrgS W R all line col vars procs j va vp w ys F) (hg4 : w.grownBy w4 (some R)) (o : Obj) : W.heap.size + 2 ≤ (w4.alloc o).heap.size := by
  have := hg4.size
  have := hS.high
  rw [World.size_alloc]; omega
theorem prg_vrow (hS : PrgS W R all line col vars procs j va vp w ys F) (hg4 : w.grownBy w4 (some R)) (hR : R < W.heap.size) (o : Obj) : (w4.alloc o).ownsRow (W.heap.size + 2) 9 1 va vars.length (vars.map Value.string) := by
  refine (hS.vrow.kept hg4 (.inr ?_)).alloc _
  intro e
  have := (hS.vrow.lt R e).1
  omega
theorem prg_prow (hS : PrgS W R all line col vars procs j va vp w ys F) (hg4 : w.grownBy w4 (some R)) (hR : R < W.heap.size) (o : Obj) : (w4.alloc o).ownsRow (W.heap.size + 2) 82 2 vp procs.length ys := by
  refine (hS.prow.kept hg4 (.inr ?_)).alloc _
  intro e
  have := (hS.prow.lt R e).1
  omega
/-- What an append to one of the two rows leaves. -/
theorem prg_blocks {o : Obj} {u : Value} {_g B : Nat} (hR : R < W.heap.size) (hS : PrgS W R all line col vars procs j va vp w ys F) (hg4 : w.grownBy w4 (some R)) (hu : ∀ q, u.ownBlock = some q → W.heap.size + 2 ≤ q ∧ q < w.heap.size)
    (hgrow : (w4.alloc o).grownBy w5 u.ownBlock) (hB : B = W.heap.size + 1) (k : Nat) (v : Value) :
    (∀ q, q < w4.heap.size → q ≠ W.heap.size + 1 → some q ≠ u.ownBlock → (w5.setCell ⟨B, k, none⟩ v).heap[q]? = w4.heap[q]?) ∧ (∀ q, q < w.heap.size → q ≠ R → q ≠ W.heap.size + 1 → some q ≠ u.ownBlock → (w5.setCell ⟨B, k, none⟩ v).heap[q]? = w.heap[q]?) ∧
    w4.heap.size + 1 ≤ (w5.setCell ⟨B, k, none⟩ v).heap.size ∧ (W.alloc zero42).grownBy (w5.setCell ⟨B, k, none⟩ v) (some R) ∧ (∀ q, q ≤ R → (w5.setCell ⟨B, k, none⟩ v).heap[q]? = w4.heap[q]?) := by
  subst hB
  have hsz := hg4.size
  have hsz5 := hgrow.size
  rw [World.size_alloc] at hsz5
  have hBh := hS.high
  have hset := grown_set w5 (W.heap.size + 1) k v
  have KS : ∀ q, q ≠ W.heap.size + 1 → (w5.setCell ⟨W.heap.size + 1, k, none⟩ v).heap[q]? = w5.heap[q]? := fun q hq => Below.heap_setCell _ _ _ q (fun e => hq (by rw [e]))
  have K4 : ∀ q, q < w4.heap.size → q ≠ W.heap.size + 1 → some q ≠ u.ownBlock → (w5.setCell ⟨W.heap.size + 1, k, none⟩ v).heap[q]? = w4.heap[q]? := fun q h1 h2 h3 =>
    (KS q h2).trans ((hgrow.block q (by rw [World.size_alloc]; omega) h3).trans (Lib.alloc_old _ _ _ h1))
  have h1 := (hS.grown.trans hg4).trans (grown_alloc w4 o (some R))
  have hg5 : (W.alloc zero42).grownBy w5 (some R) :=
    ⟨hgrow.os.trans h1.os, hgrow.tape.trans h1.tape, hgrow.output.trans h1.output, Nat.le_trans h1.size hgrow.size, fun q hq hr => (hgrow.block q (Nat.lt_of_lt_of_le hq h1.size) (by intro e; have := hu q e.symm; rw [World.size_alloc] at hq; omega)).trans (h1.block q hq hr)⟩
  refine ⟨K4, fun q h1 h2 h3 h4 => (K4 q (by omega) h3 h4).trans (hg4.block q h1 (by intro e; exact h2 (Option.some.inj e))), ?_, grown_new hg5 (by rw [World.size_alloc]; omega) hset, fun q hq => K4 q (by omega) (by omega) (by intro e; have := hu q e.symm; omega)⟩
  have := hset.size
  omega
theorem prg_var {x : ByteArray} {g cap : Nat} (hR : R < W.heap.size) (hS : PrgS W R all line col vars procs j va vp w ys F) (hg4 : w.grownBy w4 (some R)) (hr4 : RD w4 R all m line col)
    (hown : w5.ownsRow (W.heap.size + 2) 9 1 (.slice (some ⟨g, 0, none⟩) (vars.length + 1) cap) (vars.length + 1) (vars.map Value.string ++ [.string x]))
    (hgrow : (w4.alloc (.cells #[.string x] 9)).grownBy w5 va.ownBlock) (hat : va.ownBlock = some g ∨ g = w4.heap.size + 1) :
    PrgS W R all line col (vars ++ [x]) procs m (.slice (some ⟨g, 0, none⟩) (vars.length + 1) cap) vp (w5.setCell ⟨W.heap.size + 1, 0, none⟩ (.slice (some ⟨g, 0, none⟩) (vars.length + 1) cap)) ys F := by
  have hub : ∀ q, va.ownBlock = some q → W.heap.size + 2 ≤ q ∧ q < w.heap.size := fun q hq => hS.vrow.lt q hq
  have hup : ∀ q, vp.ownBlock = some q → W.heap.size + 2 ≤ q ∧ q < w.heap.size := fun q hq => hS.prow.lt q hq
  obtain ⟨K4, K, hsz5, hgr, hlow⟩ := prg_blocks (_g := g) hR hS hg4 hub hgrow rfl 0 (.slice (some ⟨g, 0, none⟩) (vars.length + 1) cap)
  have hsz := hg4.size
  have hBh := hS.high
  have hgl : W.heap.size + 2 ≤ g := by
    rcases hat with h | h
    · exact (hub g h).1
    · omega
  have hap : vp.ownBlock ≠ some g := by
    intro e
    rcases hat with h | h
    · rcases hS.apart with h2 | h2
      · rw [h] at h2; cases h2
      · exact h2 (by rw [h, e])
    · have := hup g e; omega
  have hpv : ∀ q, vp.ownBlock = some q → some q ≠ va.ownBlock := by
    intro q hq e
    rcases hS.apart with h2 | h2
    · rw [h2] at e; cases e
    · exact h2 (by rw [← e, hq])
  have hbox5 : w5.heap[W.heap.size + 1]? = some (.cells #[va, vp] 42 (0, 0)) :=
    (hgrow.block _ (by rw [World.size_alloc]; omega) (fun e => (prg_own hS).1 e.symm)).trans ((Lib.alloc_old _ _ _ (by omega)).trans (cells_kept hg4 hS.box (by omega)))
  refine ⟨?_, ?_, ?_, ?_, ?_, ?_, ?_, hgr, by omega⟩
  · simp [World.setCell, Array.getElem?_modify, hbox5]
  · rw [List.length_append, List.map_append]
    exact hown.kept (grown_set _ _ _ _) (.inr (by simp [Value.ownBlock]; omega))
  · refine ⟨hS.prow.1, ?_⟩
    rcases hS.prow.2 with hn | ⟨q, cap2, cur, rfl, hb, hgg, rest⟩
    · exact .inl hn
    · have hq := (Array.getElem?_eq_some_iff.1 hgg).1
      exact .inr ⟨q, cap2, cur, rfl, hb, (K q hq (by omega) (by omega) (hpv q rfl)).trans hgg, rest⟩
  · exact hS.kids.keep fun q hq => ⟨hq, K q (hS.far q hq).2.1 (by have := (hS.far q hq).1; omega) (by have := (hS.far q hq).1; omega) (hS.far q hq).2.2.1⟩
  · intro q hq
    obtain ⟨f1, f2, f3, f4⟩ := hS.far q hq
    refine ⟨f1, by omega, ?_, f4⟩
    intro e
    have e' : q = g := by simpa [Value.ownBlock] using e
    rcases hat with h | h
    · exact f3 (by rw [h, e'])
    · omega
  · right
    intro e
    exact hap e.symm
  · exact hr4.keep hlow
theorem prg_proc {x : ByteArray} {b : List Sx.St} {Ab : Option Addr} {cpb g cap : Nat} {F4 : Nat → Prop} (hR : R < W.heap.size) (hS : PrgS W R all line col vars procs j va vp w ys F) (hg4 : w.grownBy w4 (some R)) (hr4 : RD w4 R all m line col)
    (hF4 : ∀ g, F4 g → w.heap.size ≤ g ∧ g < w4.heap.size) (hk4 : b = [] ∨ ∃ g cur, Ab = some ⟨g, 0, none⟩ ∧ F4 g ∧ w4.heap[g]? = some (.cells cur 107 (0, 0)) ∧ HCells w4 F4 cur.toList b)
    (hown : w5.ownsRow (W.heap.size + 2) 82 2 (.slice (some ⟨g, 0, none⟩) (procs.length + 1) cap) (procs.length + 1) (ys ++ [.string x, .slice Ab b.length cpb]))
    (hgrow : (w4.alloc (.cells #[.string x, .slice Ab b.length cpb] 82)).grownBy w5 vp.ownBlock) (hat : vp.ownBlock = some g ∨ g = w4.heap.size + 1) :
    PrgS W R all line col vars (procs ++ [⟨x, b⟩]) m va (.slice (some ⟨g, 0, none⟩) (procs.length + 1) cap) (w5.setCell ⟨W.heap.size + 1, 1, none⟩ (.slice (some ⟨g, 0, none⟩) (procs.length + 1) cap)) (ys ++ [.string x, .slice Ab b.length cpb]) (fun q => F q ∨ F4 q) := by
  have hub : ∀ q, va.ownBlock = some q → W.heap.size + 2 ≤ q ∧ q < w.heap.size := fun q hq => hS.vrow.lt q hq
  have hup : ∀ q, vp.ownBlock = some q → W.heap.size + 2 ≤ q ∧ q < w.heap.size := fun q hq => hS.prow.lt q hq
  obtain ⟨K4, K, hsz5, hgr, hlow⟩ := prg_blocks (_g := g) hR hS hg4 hup hgrow rfl 1 (.slice (some ⟨g, 0, none⟩) (procs.length + 1) cap)
  have hsz := hg4.size
  have hBh := hS.high
  have hgl : W.heap.size + 2 ≤ g := by
    rcases hat with h | h
    · exact (hup g h).1
    · omega
  have hap : va.ownBlock ≠ some g := by
    intro e
    rcases hat with h | h
    · rcases hS.apart with h2 | h2
      · rw [e] at h2; cases h2
      · exact h2 (by rw [h, e])
    · have := hub g e; omega
  have hpv : ∀ q, va.ownBlock = some q → some q ≠ vp.ownBlock := by
    intro q hq e
    rcases hS.apart with h2 | h2
    · rw [h2] at hq; cases hq
    · exact h2 (by rw [← e, hq])
  have hbox5 : w5.heap[W.heap.size + 1]? = some (.cells #[va, vp] 42 (0, 0)) :=
    (hgrow.block _ (by rw [World.size_alloc]; omega) (fun e => (prg_own hS).2 e.symm)).trans ((Lib.alloc_old _ _ _ (by omega)).trans (cells_kept hg4 hS.box (by omega)))
  have KF : ∀ q, F4 q → (w5.setCell ⟨W.heap.size + 1, 1, none⟩ (.slice (some ⟨g, 0, none⟩) (procs.length + 1) cap)).heap[q]? = w4.heap[q]? := fun q hq =>
    K4 q (hF4 q hq).2 (by have := (hF4 q hq).1; omega) (by intro e; have := hup q e.symm; have := (hF4 q hq).1; omega)
  refine ⟨?_, ?_, ?_, ?_, ?_, ?_, ?_, hgr, by omega⟩
  · simp [World.setCell, Array.getElem?_modify, hbox5]
  · refine ⟨hS.vrow.1, ?_⟩
    rcases hS.vrow.2 with hn | ⟨q, cap2, cur, rfl, hb, hgg, rest⟩
    · exact .inl hn
    · have hq := (Array.getElem?_eq_some_iff.1 hgg).1
      exact .inr ⟨q, cap2, cur, rfl, hb, (K q hq (by omega) (by omega) (hpv q rfl)).trans hgg, rest⟩
  · rw [List.length_append]
    exact hown.kept (grown_set _ _ _ _) (.inr (by simp [Value.ownBlock]; omega))
  · refine HProcs.append hS.prow.1 (hS.kids.keep fun q hq => ⟨.inl hq, K q (hS.far q hq).2.1 (by have := (hS.far q hq).1; omega) (by have := (hS.far q hq).1; omega) (hS.far q hq).2.2.2⟩) ?_
    simp only [HProcs]
    refine ⟨Ab, cpb, [], rfl, ?_, trivial⟩
    rcases hk4 with h0 | ⟨g0, cur, e1, hf, hgc, hh⟩
    · exact .inl h0
    · exact .inr ⟨g0, cur, e1, .inr hf, (KF g0 hf).trans hgc, hh.keep fun q hq => ⟨.inr hq, KF q hq⟩⟩
  · intro q hq
    rcases hq with hq | hq
    · obtain ⟨f1, f2, f3, f4⟩ := hS.far q hq
      refine ⟨f1, by omega, f3, ?_⟩
      intro e
      have e' : q = g := by simpa [Value.ownBlock] using e
      rcases hat with h | h
      · exact f4 (by rw [h, e'])
      · omega
    · obtain ⟨f1, f2⟩ := hF4 q hq
      refine ⟨by omega, by omega, by intro e; have := hub q e.symm; omega, ?_⟩
      intro e
      have e' : q = g := by simpa [Value.ownBlock] using e
      rcases hat with h | h
      · have := hup g h; omega
      · omega
  · right
    intro e
    exact hap e
  · exact hr4.keep hlow
theorem prg_start (_hR : R < W.heap.size) (hr : RD W R all j line col) : PrgS W R all line col [] [] j (.slice none 0 0) (.slice none 0 0) ((W.alloc zero42).alloc zero42) [] (fun _ => False) := by
  have hb : ((W.alloc zero42).alloc zero42).heap[W.heap.size + 1]? = some zero42 := by
    have := World.alloc_heap_new (W.alloc zero42) zero42
    rwa [World.size_alloc] at this
  exact ⟨hb, World.ownsRow_nil _ _ _ _, World.ownsRow_nil _ _ _ _, by simp [HProcs], fun g h => h.elim, .inl rfl, rd_alloc (rd_alloc hr _) _, grown_alloc _ _ _, by simp⟩
/-- The result's box, and what is laid into it. -/
theorem prg_zero (hS : PrgS W R all line col vars procs j va vp w ys F) (hR : R < W.heap.size) : w.heap[W.heap.size]? = some zero42 :=
  (hS.grown.block W.heap.size (by simp) (by simp; omega)).trans (World.alloc_heap_new W _)
theorem prg_end (hS : PrgS W R all line col vars procs j va vp w ys F) (hR : R < W.heap.size) :
    ((w.setCell ⟨W.heap.size, 0, none⟩ va).setCell ⟨W.heap.size, 1, none⟩ vp).heap[W.heap.size]? = some (.cells #[va, vp] 42 (0, 0)) ∧
    Post W R all line col HPrg (.ok (⟨vars, procs⟩, j)) (.returned (.agg #[va, vp])) ((w.setCell ⟨W.heap.size, 0, none⟩ va).setCell ⟨W.heap.size, 1, none⟩ vp) := by
  have hz := prg_zero hS hR
  have hp : w.grownBy ((w.setCell ⟨W.heap.size, 0, none⟩ va).setCell ⟨W.heap.size, 1, none⟩ vp) (some W.heap.size) := (grown_set w W.heap.size 0 va).trans (grown_set _ W.heap.size 1 vp)
  have KS : ∀ q, q < w.heap.size → q ≠ W.heap.size → ((w.setCell ⟨W.heap.size, 0, none⟩ va).setCell ⟨W.heap.size, 1, none⟩ vp).heap[q]? = w.heap[q]? := fun q h1 h2 => hp.block q h1 (by intro e; exact h2 (Option.some.inj e))
  have hub : ∀ q, va.ownBlock = some q → W.heap.size + 2 ≤ q ∧ q < w.heap.size := fun q hq => hS.vrow.lt q hq
  have hup : ∀ q, vp.ownBlock = some q → W.heap.size + 2 ≤ q ∧ q < w.heap.size := fun q hq => hS.prow.lt q hq
  refine ⟨by simp [World.setCell, Array.getElem?_modify, hz], ?_, ?_, _, fun q => F q ∨ va.ownBlock = some q ∨ vp.ownBlock = some q, rfl, ?_, ?_⟩
  · exact grown_new ((grown_below ((Below.refl W.heap.size W).alloc (Nat.le_refl _) _) (some R)).trans hS.grown) (Nat.le_refl _) hp
  · exact hS.rd.keep fun q hq => KS q (by have := hS.high; omega) (by omega)
  · intro q hq
    have := hp.size
    rcases hq with hq | hq | hq
    · have := hS.far q hq; omega
    · have := hub q hq; omega
    · have := hup q hq; omega
  · have hv : ∃ A c, va = .slice A vars.length c ∧ (vars = [] ∨ ∃ g cur rest, A = some ⟨g, 0, none⟩ ∧ va.ownBlock = some g ∧ ((w.setCell ⟨W.heap.size, 0, none⟩ va).setCell ⟨W.heap.size, 1, none⟩ vp).heap[g]? = some (.cells cur 9 (0, 0)) ∧ cur.toList = vars.map Value.string ++ rest) := by
      rcases hS.vrow.2 with ⟨e, h0⟩ | ⟨g, cap, cur, e, hb, hgc, _, _, _, htk⟩
      · exact ⟨none, 0, by rw [e, h0], .inl (List.eq_nil_of_length_eq_zero h0)⟩
      · have hlt := (Array.getElem?_eq_some_iff.1 hgc).1
        refine ⟨_, cap, e, .inr ⟨g, cur, cur.toList.drop (vars.length * 1), rfl, by rw [e]; rfl, (KS g hlt (by omega)).trans hgc, ?_⟩⟩
        rw [← htk, List.take_append_drop]
    have hpp : ∃ A c, vp = .slice A procs.length c ∧ (procs = [] ∨ ∃ g cur, A = some ⟨g, 0, none⟩ ∧ vp.ownBlock = some g ∧ ((w.setCell ⟨W.heap.size, 0, none⟩ va).setCell ⟨W.heap.size, 1, none⟩ vp).heap[g]? = some (.cells cur 82 (0, 0)) ∧
        HProcs ((w.setCell ⟨W.heap.size, 0, none⟩ va).setCell ⟨W.heap.size, 1, none⟩ vp) (fun q => F q ∨ va.ownBlock = some q ∨ vp.ownBlock = some q) cur.toList procs) := by
      rcases hS.prow.2 with ⟨e, h0⟩ | ⟨g, cap, cur, e, hb, hgc, _, _, _, htk⟩
      · exact ⟨none, 0, by rw [e, h0], .inl (List.eq_nil_of_length_eq_zero h0)⟩
      · have hlt := (Array.getElem?_eq_some_iff.1 hgc).1
        refine ⟨_, cap, e, .inr ⟨g, cur, rfl, by rw [e]; rfl, (KS g hlt (by omega)).trans hgc, ?_⟩⟩
        have hk := (hS.kids.keep (W' := (w.setCell ⟨W.heap.size, 0, none⟩ va).setCell ⟨W.heap.size, 1, none⟩ vp) (F' := fun q => F q ∨ va.ownBlock = some q ∨ vp.ownBlock = some q) fun q hq => ⟨.inl hq, KS q (hS.far q hq).2.1 (by have := (hS.far q hq).1; omega)⟩).more (cur.toList.drop (procs.length * 2))
        rwa [← htk, List.take_append_drop] at hk
    obtain ⟨A, c, e1, hv⟩ := hv
    obtain ⟨A2, c2, e2, hpp⟩ := hpp
    refine ⟨A, c, A2, c2, by rw [e1, e2], ?_, ?_⟩
    · rcases hv with h0 | ⟨g, cur, rest, h1, h2, h3, h4⟩
      · exact .inl h0
      · exact .inr ⟨g, cur, rest, h1, .inr (.inl h2), h3, h4⟩
    · rcases hpp with h0 | ⟨g, cur, h1, h2, h3, h4⟩
      · exact .inl h0
      · exact .inr ⟨g, cur, h1, .inr (.inr h2), h3, h4⟩
end Go.Proofs.YtifmalbdolpocaaDoor
