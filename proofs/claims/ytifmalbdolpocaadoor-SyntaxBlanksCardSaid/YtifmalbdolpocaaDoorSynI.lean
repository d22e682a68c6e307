/-
  The walks of package syntax, ninth part: blocks to choose from.
-/
import Derived.Test.YtifmalbdolpocaaDoorSynH
import Derived.RegionDies
import Derived.Deep.RegionLaw
namespace Go.Proofs.YtifmalbdolpocaaDoor
open Go.RowKit Go.Shelf

/-- What a block's reading tells, at some fuel. -/
def BlockC (n R : Nat) (all : List ITok) (line col : Int) : Prop :=
  ∀ i res, Sx.blockP n (bare all) i = some res → ∀ W : World, RD W R all i line col → Env W → Calls Tryd.prog 53 #[.pointer (some ⟨R, 0, none⟩)] W (Post W R all line col HRow res)
theorem either_box {w2 w3 : World} {R : Nat} {cs ds : Array Value} (hR : R < w2.heap.size) (hg3 : ((w2.alloc (Obj.cells ds 80)).alloc (Obj.cells cs 107)).grownBy w3 (some R)) : w3.heap[w2.heap.size + 1]? = some (.cells cs 107 (0, 0)) := by
  have h := World.alloc_heap_new (w2.alloc (Obj.cells ds 80)) (Obj.cells cs 107)
  rw [World.size_alloc] at h
  exact cells_kept hg3 h (by omega)

def altRes (acc : List (List Sx.St)) : Except Nat (List (List Sx.St) × Nat) → Except Nat (Sx.St × Nat)
  | .ok (l, j) => .ok (.mk 9 Sx.e0 Sx.e0 0 (acc ++ l), j)
  | .error j => .error j
/-- The box of a choice, its blocks so far. -/
abbrev eBox (v : Value) : Obj := .cells #[.int .i64 9, .string ⟨#[]⟩, .string ⟨#[]⟩, .int .i64 0, v] 107 (0, 0)

/-- What holds of a choice under way: its box, the row of its blocks, the reader. -/
structure EitherS (W : World) (R : Nat) (all : List ITok) (line col : Int) (B3 : Nat) (acc : List (List Sx.St)) (j : Nat) (v : Value) (w : World) (xs : List Value) (F : Nat → Prop) : Prop where
  box : w.heap[B3]? = some (eBox v)
  row : w.ownsRow (W.heap.size + 1) 80 1 v acc.length xs
  kids : HKids w F xs acc
  far : ∀ g, F g → W.heap.size < g ∧ g < w.heap.size ∧ some g ≠ v.ownBlock ∧ g ≠ B3
  own : v.ownBlock ≠ some B3
  rd : RD w R all j line col
  grown : (W.alloc (Obj.cells #[Value.int IntKind.i64 0, Value.string { data := #[] }, Value.string { data := #[] }, Value.int IntKind.i64 0, Value.slice none 0 0] 107)).grownBy w (some R)
  low : W.heap.size < B3
  high : B3 < w.heap.size
theorem either_step {W w w4 w5 : World} {R : Nat} {all : List ITok} {line col : Int} {B3 : Nat} {acc : List (List Sx.St)} {j m : Nat} {v : Value} {xs : List Value} {F F4 : Nat → Prop} {b : List Sx.St} {Ab : Option Addr} {cpb g cap : Nat}
    (hR : R < W.heap.size) (hS : EitherS W R all line col B3 acc j v w xs F) (hg4 : w.grownBy w4 (some R)) (hr4 : RD w4 R all m line col) (hF4 : ∀ g, F4 g → w.heap.size ≤ g ∧ g < w4.heap.size)
    (hk4 : b = [] ∨ ∃ g cur, Ab = some ⟨g, 0, none⟩ ∧ F4 g ∧ w4.heap[g]? = some (.cells cur 107 (0, 0)) ∧ HCells w4 F4 cur.toList b)
    (hown : w5.ownsRow (W.heap.size + 1) 80 1 (.slice (some ⟨g, 0, none⟩) (acc.length + 1) cap) (acc.length + 1) (xs ++ [.slice Ab b.length cpb]))
    (hgrow : (w4.alloc (.cells #[.slice Ab b.length cpb] 80)).grownBy w5 v.ownBlock) (hat : v.ownBlock = some g ∨ g = w4.heap.size + 1) :
    EitherS W R all line col B3 (acc ++ [b]) m (.slice (some ⟨g, 0, none⟩) (acc.length + 1) cap) (w5.setCell ⟨B3, 4, none⟩ (.slice (some ⟨g, 0, none⟩) (acc.length + 1) cap)) (xs ++ [.slice Ab b.length cpb]) (fun q => F q ∨ F4 q) := by
  have hsz := hg4.size
  have hsz5 := hgrow.size
  rw [World.size_alloc] at hsz5
  have hB := hS.high
  have hlo := hS.low
  have hub : ∀ q, v.ownBlock = some q → W.heap.size + 1 ≤ q ∧ q < w.heap.size := fun q hq => hS.row.lt q hq
  have hgB : g ≠ B3 := by
    rcases hat with h | h
    · rintro rfl; exact hS.own h
    · omega
  have hgl : W.heap.size < g := by
    rcases hat with h | h
    · have := (hub g h).1; omega
    · omega
  -- blocks between worlds
  have K1 : ∀ q, q < w.heap.size → q ≠ R → some q ≠ v.ownBlock → w5.heap[q]? = w.heap[q]? := fun q h1 h2 h3 =>
    (hgrow.block q (by rw [World.size_alloc]; omega) h3).trans ((Lib.alloc_old _ _ _ (by omega)).trans (hg4.block q h1 (by intro e; exact h2 (Option.some.inj e))))
  have K3 : ∀ q, w.heap.size ≤ q → q < w4.heap.size → w5.heap[q]? = w4.heap[q]? := fun q h1 h2 =>
    (hgrow.block q (by rw [World.size_alloc]; omega) (by intro e; have := hub q e.symm; omega)).trans (Lib.alloc_old _ _ _ h2)
  have KS : ∀ q, q ≠ B3 → (w5.setCell ⟨B3, 4, none⟩ (.slice (some ⟨g, 0, none⟩) (acc.length + 1) cap)).heap[q]? = w5.heap[q]? := fun q hq => Below.heap_setCell _ _ _ q (fun e => hq (by rw [e]))
  have hbox5 : w5.heap[B3]? = some (eBox v) := (K1 B3 hB (by omega) (by intro e; exact hS.own e.symm)).trans hS.box
  have hset := grown_set w5 B3 4 (.slice (some ⟨g, 0, none⟩) (acc.length + 1) cap)
  have hg5 : (W.alloc (Obj.cells #[Value.int IntKind.i64 0, Value.string { data := #[] }, Value.string { data := #[] }, Value.int IntKind.i64 0, Value.slice none 0 0] 107)).grownBy w5 (some R) := by
    have h1 := (hS.grown.trans hg4).trans (grown_alloc w4 (Obj.cells #[Value.slice Ab b.length cpb] 80) (some R))
    exact ⟨hgrow.os.trans h1.os, hgrow.tape.trans h1.tape, hgrow.output.trans h1.output, Nat.le_trans h1.size hgrow.size, fun q hq hr => (hgrow.block q (Nat.lt_of_lt_of_le hq h1.size) (by intro e; have := hub q e.symm; rw [World.size_alloc] at hq; omega)).trans (h1.block q hq hr)⟩
  refine ⟨?_, ?_, ?_, ?_, ?_, ?_, ?_, hlo, ?_⟩
  · simp [World.setCell, Array.getElem?_modify, hbox5]
  · rw [List.length_append]
    exact hown.kept hset (.inr (by simp [Value.ownBlock]; exact hgB))
  · refine HKids.append (by have := hS.row.1; omega) (hS.kids.keep fun q hq => ?_) ?_
    · obtain ⟨f1, f2, f3, f4⟩ := hS.far q hq
      exact ⟨.inl hq, (KS q f4).trans (K1 q f2 (by omega) f3)⟩
    · simp only [HKids]
      refine ⟨Ab, cpb, [], rfl, ?_, trivial⟩
      rcases hk4 with h0 | ⟨g0, cur, e1, hf, hgc, hh⟩
      · exact .inl h0
      · have KF : ∀ q, F4 q → (w5.setCell ⟨B3, 4, none⟩ (.slice (some ⟨g, 0, none⟩) (acc.length + 1) cap)).heap[q]? = w4.heap[q]? := fun q hq =>
          (KS q (by have := (hF4 q hq).1; omega)).trans (K3 q (hF4 q hq).1 (hF4 q hq).2)
        exact .inr ⟨g0, cur, e1, .inr hf, (KF g0 hf).trans hgc, hh.keep fun q hq => ⟨.inr hq, KF q hq⟩⟩
  · intro q hq
    have hsz6 := hset.size
    rcases hq with hq | hq
    · obtain ⟨f1, f2, f3, f4⟩ := hS.far q hq
      refine ⟨f1, by omega, ?_, f4⟩
      intro e
      have e' : q = g := by simpa [Value.ownBlock] using e
      rcases hat with h2 | h2
      · exact f3 (by rw [h2, e'])
      · omega
    · obtain ⟨f1, f2⟩ := hF4 q hq
      refine ⟨by omega, by omega, ?_, by omega⟩
      intro e
      have e' : q = g := by simpa [Value.ownBlock] using e
      rcases hat with h2 | h2
      · have := hub g h2; omega
      · omega
  · intro e
    exact hgB (by simpa [Value.ownBlock] using e)
  · exact hr4.keep fun q hq => (KS q (by omega)).trans ((hgrow.block q (by rw [World.size_alloc]; omega) (by intro e; have := hub q e.symm; omega)).trans (Lib.alloc_old _ _ _ (by omega)))
  · exact grown_new hg5 (by rw [World.size_alloc]; omega) hset
  · have := hset.size; omega
theorem either_start {W w1 w2 w3 : World} {R : Nat} {all : List ITok} {line col : Int} {a : List Sx.St} {j : Nat} {Aa : Option Addr} {cp : Nat} {F : Nat → Prop} (hR : R < W.heap.size)
    (hg1 : (W.alloc (Obj.cells #[Value.int IntKind.i64 0, Value.string { data := #[] }, Value.string { data := #[] }, Value.int IntKind.i64 0, Value.slice none 0 0] 107)).grownBy w1 (some R)) (hg2 : w1.grownBy w2 (some R))
    (hg3 : ((w2.alloc (Obj.cells #[Value.slice Aa a.length cp] 80)).alloc (Obj.cells #[Value.int IntKind.i64 9, Value.string { data := #[] }, Value.string { data := #[] }, Value.int IntKind.i64 0, Value.slice (some { block := w2.heap.size, off := 0 }) 1 1] 107)).grownBy w3 (some R))
    (hr3 : RD w3.drew R all j line col) (hF : ∀ g, F g → w1.heap.size ≤ g ∧ g < w2.heap.size)
    (hk : a = [] ∨ ∃ g cur, Aa = some ⟨g, 0, none⟩ ∧ F g ∧ w2.heap[g]? = some (.cells cur 107 (0, 0)) ∧ HCells w2 F cur.toList a)
    (hbx : w3.heap[w2.heap.size + 1]? = some (eBox (.slice (some ⟨w2.heap.size, 0, none⟩) 1 1))) :
    EitherS W R all line col (w2.heap.size + 1) [a] j (.slice (some ⟨w2.heap.size, 0, none⟩) 1 1) w3.drew [.slice Aa a.length cp] F := by
  have s1 := hg1.size
  have s2 := hg2.size
  have s3 := hg3.size
  rw [World.size_alloc] at s1
  rw [World.size_alloc, World.size_alloc] at s3
  have hk0 : w3.heap[w2.heap.size]? = some (.cells #[Value.slice Aa a.length cp] 80 (0, 0)) :=
    (hg3.block w2.heap.size (by rw [World.size_alloc, World.size_alloc]; omega) (by simp; omega)).trans ((Lib.alloc_old _ _ _ (by rw [World.size_alloc]; omega)).trans (World.alloc_heap_new w2 _))
  have KF : ∀ q, F q → w3.heap[q]? = w2.heap[q]? := fun q hq => by
    have := hF q hq
    exact (hg3.block q (by rw [World.size_alloc, World.size_alloc]; omega) (by simp; omega)).trans ((Lib.alloc_old _ _ _ (by rw [World.size_alloc]; omega)).trans (Lib.alloc_old _ _ _ (by omega)))
  refine ⟨hbx, ⟨rfl, .inr ⟨w2.heap.size, 1, _, rfl, by omega, hk0, Nat.le_refl _, by unfold maxLen; omega, rfl, rfl⟩⟩, ?_, ?_, ?_, hr3, ?_, by omega, ?_⟩
  · simp only [HKids]
    refine ⟨Aa, cp, [], rfl, ?_, trivial⟩
    rcases hk with h0 | ⟨g0, cur, e1, hf, hgc, hh⟩
    · exact .inl h0
    · exact .inr ⟨g0, cur, e1, hf, (KF g0 hf).trans hgc, hh.keep (W' := w3.drew) fun q hq => ⟨hq, KF q hq⟩⟩
  · intro q hq
    have := hF q hq
    refine ⟨by omega, ?_, ?_, by omega⟩
    · show q < w3.heap.size; omega
    · simp [Value.ownBlock]; omega
  · simp [Value.ownBlock]
  · exact (hg1.trans hg2).trans (((grown_alloc w2 _ _).trans (grown_alloc _ _ _)).trans (hg3.trans (grown_below (Below.drew (Below.refl w3.heap.size w3)) _)))
  · show w2.heap.size + 1 < w3.heap.size; omega
theorem either_cells {W w : World} {R : Nat} {all : List ITok} {line col : Int} {B3 : Nat} {acc : List (List Sx.St)} {j : Nat} {v : Value} {xs : List Value} {F : Nat → Prop} (hS : EitherS W R all line col B3 acc j v w xs F) {w' : World} (hg : w.grownBy w' (some R)) (hR : R < W.heap.size) :
    w'.cell? ⟨B3, 4, none⟩ = some v ∧ w'.frozen? ⟨B3, 4, none⟩ = false ∧ w'.heap.size ≠ B3 := by
  have h := cells_kept hg hS.box (by have := hS.low; omega)
  refine ⟨by rw [Lib.cell_of_heap h]; rfl, Lib.frozen_of_heap h 4, ?_⟩
  have := hg.size
  have := hS.high
  omega
/-- The row that is grown, where the new block lies by itself. -/
theorem either_row {W w w4 : World} {R : Nat} {all : List ITok} {line col : Int} {B3 : Nat} {acc : List (List Sx.St)} {j : Nat} {v : Value} {xs : List Value} {F : Nat → Prop} (hS : EitherS W R all line col B3 acc j v w xs F) (hg4 : w.grownBy w4 (some R)) (hR : R < W.heap.size) (o : Obj) :
    (w4.alloc o).ownsRow (W.heap.size + 1) 80 1 v acc.length xs := by
  refine (hS.row.kept hg4 (.inr ?_)).alloc _
  intro e
  have := (hS.row.lt R e).1
  omega
theorem either_after {W w w4 w5 : World} {R : Nat} {all : List ITok} {line col : Int} {B3 : Nat} {acc : List (List Sx.St)} {j : Nat} {v : Value} {xs : List Value} {F : Nat → Prop} {o : Obj} (hS : EitherS W R all line col B3 acc j v w xs F) (hg4 : w.grownBy w4 (some R)) (hR : R < W.heap.size)
    (hgrow : (w4.alloc o).grownBy w5 v.ownBlock) : w5.cell? ⟨B3, 4, none⟩ = some v ∧ w5.frozen? ⟨B3, 4, none⟩ = false := by
  have h := cells_kept hg4 hS.box (by have := hS.low; omega)
  have hlt : B3 < w4.heap.size := (Array.getElem?_eq_some_iff.1 h).1
  have h5 : w5.heap[B3]? = some (eBox v) := (hgrow.block B3 (by rw [World.size_alloc]; omega) (fun e => hS.own e.symm)).trans ((Lib.alloc_old _ _ _ hlt).trans h)
  exact ⟨by rw [Lib.cell_of_heap h5]; rfl, Lib.frozen_of_heap h5 4⟩
theorem k63 (n : Nat) (h : n ≤ 2000000) : n + 1 ≤ maxLen := by simp only [maxLen]; omega
theorem k64 (n : Nat) (h : n ≤ 2000000) : (n + 1) * 24 ≤ 140737488355328 := by omega
theorem either_base {W w w4 : World} {R : Nat} {all : List ITok} {line col : Int} {B3 : Nat} {acc : List (List Sx.St)} {j : Nat} {v : Value} {xs : List Value} {F : Nat → Prop} (hS : EitherS W R all line col B3 acc j v w xs F) (hg4 : w.grownBy w4 (some R)) (o : Obj) : W.heap.size + 1 ≤ (w4.alloc o).heap.size := by
  have := hg4.size
  have := hS.high
  have := hS.low
  rw [World.size_alloc]; omega
theorem own_one {u : Value} (h : u.oneCell' = true) : ∀ x ∈ [u], x.oneCell' = true := by
  intro x hx; rw [List.mem_singleton] at hx; rw [hx]; exact h
theorem either_keep {W w w' : World} {R : Nat} {all : List ITok} {line col : Int} {B3 : Nat} {acc : List (List Sx.St)} {j m : Nat} {v : Value} {xs : List Value} {F : Nat → Prop} (hR : R < W.heap.size) (hS : EitherS W R all line col B3 acc j v w xs F) (hg : w.grownBy w' (some R)) (hr : RD w' R all m line col) :
    EitherS W R all line col B3 acc m v w' xs F := by
  have hsz := hg.size
  have hB := hS.high
  have hlo := hS.low
  have K : ∀ q, W.heap.size ≤ q → q < w.heap.size → w'.heap[q]? = w.heap[q]? := fun q h1 h2 => hg.block q h2 (by simp; omega)
  refine ⟨(K B3 (by omega) hB).trans hS.box, hS.row.kept hg (.inr ?_), hS.kids.keep fun q hq => ⟨hq, K q (by have := (hS.far q hq).1; omega) (hS.far q hq).2.1⟩, ?_, hS.own, hr, hS.grown.trans hg, hlo, by omega⟩
  · intro e; have := (hS.row.lt R e).1; omega
  · intro q hq
    obtain ⟨f1, f2, f3, f4⟩ := hS.far q hq
    exact ⟨f1, by omega, f3, f4⟩
/-- The tree of what is read so far. -/
theorem either_tree {W w : World} {R : Nat} {all : List ITok} {line col : Int} {B3 : Nat} {acc : List (List Sx.St)} {j : Nat} {v : Value} {xs : List Value} {F : Nat → Prop} (hS : EitherS W R all line col B3 acc j v w xs F) :
    HSt w (fun q => F q ∨ v.ownBlock = some q) (.agg #[.int .i64 9, .string ⟨#[]⟩, .string ⟨#[]⟩, .int .i64 0, v]) (.mk 9 Sx.e0 Sx.e0 0 acc) := by
  rcases hS.row.2 with ⟨rfl, h0⟩ | ⟨g, cap, cur, rfl, hb, hgc, _, _, _, htk⟩
  · exact ⟨none, 0, by rw [h0]; rfl, .inl (List.eq_nil_of_length_eq_zero h0)⟩
  · refine ⟨_, cap, rfl, .inr ⟨g, cur, rfl, .inr rfl, hgc, ?_⟩⟩
    have hk := (hS.kids.keep (F' := fun q => F q ∨ (Value.slice (some ⟨g, 0, none⟩) acc.length cap).ownBlock = some q) fun q hq => ⟨.inl hq, rfl⟩).more (cur.toList.drop (acc.length * 1))
    rwa [← htk, List.take_append_drop] at hk
theorem either_far {W w : World} {R : Nat} {all : List ITok} {line col : Int} {B3 : Nat} {acc : List (List Sx.St)} {j : Nat} {v : Value} {xs : List Value} {F : Nat → Prop} (hS : EitherS W R all line col B3 acc j v w xs F) :
    ∀ q, (F q ∨ v.ownBlock = some q) → W.heap.size < q ∧ q < w.heap.size := by
  intro q hq
  rcases hq with hq | hq
  · exact ⟨(hS.far q hq).1, (hS.far q hq).2.1⟩
  · have := hS.row.lt q hq; omega
theorem either_val {W w : World} {R : Nat} {all : List ITok} {line col : Int} {B3 : Nat} {acc : List (List Sx.St)} {j : Nat} {v : Value} {xs : List Value} {F : Nat → Prop} (hS : EitherS W R all line col B3 acc j v w xs F) : ∃ A c, v = .slice A acc.length c := by
  rcases hS.row.2 with ⟨rfl, h0⟩ | ⟨g, cap, cur, rfl, _⟩
  · exact ⟨none, 0, by rw [h0]⟩
  · exact ⟨_, cap, rfl⟩
/-- What holds between two rounds. -/
def EitherL (W : World) (R : Nat) (all : List ITok) (line col : Int) (B3 : Nat) (res : Except Nat (Sx.St × Nat)) (N : Nat) (kq : Nat) (w : World) : Prop :=
  ∃ acc j v xs F r0, EitherS W R all line col B3 acc j v w xs F ∧ Sx.altsP kq (bare all) j = some r0 ∧ res = altRes acc r0 ∧ acc.length + kq ≤ N ∧ kq + 2 ≤ N
set_option maxRecDepth 100000 in
set_option maxHeartbeats 4000000 in
theorem either_ok (n R : Nat) (all : List ITok) (i : Nat) (line col : Int) (a : List Sx.St) (j : Nat) (ha : Sx.blockP n (bare all) (i + 1) = some (.ok (a, j))) (hq : Sx.isP [111, 114] (bare all) j = true)
    (b : List Sx.St) (m : Nat) (hb : Sx.blockP n (bare all) (j + 1) = some (.ok (b, m))) (r0 : Except Nat (List (List Sx.St) × Nat)) (hal : Sx.altsP n (bare all) m = some r0) (res : Except Nat (Sx.St × Nat)) (hres0 : res = altRes [a, b] r0)
    (hB : ∀ m, m ≤ n → BlockC m R all line col) (W : World) (h : RD W R all i line col) (hE : Env W) (hR : 4 ≤ R)
    (hm : all.length ≤ 9223372036854775807) (hn : n ≤ 1000000) (t : ITok) (ht : all[i]? = some t) : Calls Tryd.prog 91 #[.pointer (some ⟨R, 0, none⟩)] W (Post W R all line col HSt res) := by
  have h0 := rd_alloc h (Obj.cells #[Value.int IntKind.i64 0, Value.string { data := #[] }, Value.string { data := #[] }, Value.int IntKind.i64 0, Value.slice none 0 0] 107)
  have hb0 : Below W.heap.size W (W.alloc (Obj.cells #[Value.int IntKind.i64 0, Value.string { data := #[] }, Value.string { data := #[] }, Value.int IntKind.i64 0, Value.slice none 0 0] 107)) := (Below.refl _ W).alloc (Nat.le_refl _) _
  have hE0' := Lib.hid (hE.below hb0)
  have N1 := Lib.hid (next_calls R all i line col _ h0 hm t ht)
  have hRlt := Lib.hid h.lt
  have hb0' := Lib.hid hb0
  have hm' := Lib.hid hm
  have hB' := Lib.hid hB
  have hal' := Lib.hid hal
  have hres1 := Lib.hid hres0
  clear hres0
  have A := Lib.hid (hB n (Nat.le_refl _) (i + 1) _ ha)
  have M := Lib.hid (fun w1 (hr : RD w1 R all j line col) => must_ok ⟨#[111, 114]⟩ R all j line col w1 hr hm hq)
  have B := Lib.hid (hB n (Nat.le_refl _) (j + 1) _ hb)
  obtain ⟨i0, hi0, hz0, hz1, hz2⟩ := info_parts info80
  clear h hE h0 hb0 ha hm hB ht hq hb hal
  go_enter Tryd.func91, Tryd.ntmps91
  go_wp2_with (first | (go_at_call 50; refine N1.out.mono ?_; rintro e w1 ⟨rfl, hg1, hr1⟩) | (go_at_call 53; refine (A.out _ hr1 (hE0'.out.grown hg1 hR)).mono ?_; rintro e w2 ⟨hg2, hr2, v, F, rfl, hF, Aa, cp, rfl, hk⟩; have hF := Lib.hid hF; have hk := Lib.hid hk) | (go_at_call 52; refine (M.out _ (rd_alloc (rd_alloc hr2 _) _)).mono ?_; rintro e w3 ⟨rfl, hg3, hr3⟩; have hlt2 := hr2.lt; have hbx := either_box hlt2 hg3; obtain ⟨p0, p1, p2, p3, p4, q0, q1, q2, q3, q4⟩ := box5 hbx; have hbx := Lib.hid hbx; have hr3d := hr3.below (Below.drew (Below.refl w3.heap.size w3)); have hE3 := ((hE0'.out.grown hg1 hR).grown hg2 hR).grown (((grown_alloc w2 _ _).trans (grown_alloc _ _ _)).trans (hg3.trans (grown_below (Below.drew (Below.refl w3.heap.size w3)) _))) hR))
  have hS0 := Lib.hid (show EitherS W R all line col (w2.heap.size + 1) [a] (j + 1) (.slice (some ⟨w2.heap.size, 0, none⟩) 1 1) w3.drew [.slice Aa a.length cp] F from either_start hRlt.out hg1 hg2 hg3 hr3d hF.out hk.out hbx.out)
  have hc0 := either_cells hS0.out (grown_below (Below.refl _ w3.drew) (some R)) hRlt.out
  clear hbx q0 q1 q2 q3 p0 p1 p2 p3
  go_region_law (first
    | (refine step_append_lies _ (by rfl) (.tmp 17) (.tmp 20) 105 (by rfl) (W.heap.size + 1) 80 i0 (.slice none 0 0) 1 24 Tryd.underlying105 hi0 hz0 hz1 hz2 (by rfl) (by decide) (.slice (some ⟨w2.heap.size, 0, none⟩) 1 1) 1 [.slice Aa a.length cp] (by first | rfl | simp [Act.eval, Act.put]) (either_row hS0.out hg4 hRlt.out _) ⟨w4.heap.size, 0, none⟩ 1 1 [.slice Ab b.length cpb] (by first | rfl | simp [Act.eval, Act.put]) (by rfl) (World.news_of_block (cs := #[.slice Ab b.length cpb]) (World.alloc_heap_new w4 _)) (own_one (u := .slice Ab b.length cpb) rfl) (by decide) (k63 _ (by omega)) (k64 _ (by omega)) (either_base hS0.out hg4 _) (w4.heap.size + 1) (by simp) ?_; intro g cap w5 hown hgrow hat hlt; obtain ⟨c5, f5⟩ := either_after hS0.out hg4 hRlt.out hgrow)
    | (go_simp; go_at_call 53; refine (B.out _ hr3d hE3).mono ?_; rintro e w4 ⟨hg4, hr4, v4, F4, rfl, hF4, Ab, cpb, rfl, hk4⟩; obtain ⟨c4, f4, n4⟩ := either_cells hS0.out hg4 hRlt.out; obtain ⟨c4a, f4a, n4a⟩ := either_cells hS0.out (hg4.trans (grown_alloc w4 (Obj.cells #[Value.slice Ab b.length cpb] 80) (some R))) hRlt.out))
  all_goals
    have hS5 := Lib.hid (show EitherL W R all line col (w2.heap.size + 1) res (n + 2) n (w5.setCell ⟨w2.heap.size + 1, 4, none⟩ (.slice (some ⟨g, 0, none⟩) 2 cap)) from
      ⟨_, _, _, _, _, _, either_step hRlt.out hS0.out hg4 hr4 hF4 hk4 hown hgrow hat, hal'.out, hres1.out, by simp; omega, by omega⟩)
    clear hres1
    clear hS0 hg4 hr4 hF4 hk4 hown hgrow hat hlt c4 f4 n4 c4a f4a n4a c5 f5 hc0 hr3d hE3 p4 q4 hbx hr3 hg3 hr2 hg2 hr1 hg1 hF hk
    go_wp2
    go_loopg [] n (fun kq wr => EitherL W R all line col (w2.heap.size + 1) res (n + 2) kq wr)
    case atStart => exact hS5.out
    case round =>
      clear hS5
      obtain ⟨acc, j1, v, xs, F1, r1, hS, halt, hres, hfu⟩ := hrel
      have hfu := Lib.hid hfu
      obtain ⟨Av, cv, rfl⟩ := either_val hS
      cases gk with
      | zero => simp [Sx.altsP] at halt
      | succ k1 =>
        unfold Sx.altsP at halt
        cases hq2 : Sx.isP [111, 114] (bare all) j1
        · rw [hq2] at halt
          simp at halt
          subst halt
          have hres2 : res = .ok (.mk 9 Sx.e0 Sx.e0 0 acc, j1) := by rw [hres]; simp [altRes]
          subst hres2
          have I := Lib.hid (is_b ⟨#[111, 114]⟩ R all j1 line col false wr hS.rd hm'.out hq2)
          obtain ⟨p0, p1, p2, p3, p4, q0, q1, q2, q3, q4⟩ := box5 hS.box
          have hz := zero_at hS.grown hRlt.out
          obtain ⟨z0, z1, z2, z3, z4, f0, f1, f2, f3, f4⟩ := box5 hz
          have hS := Lib.hid hS
          clear hres hz hq2
          go_wp2_with (go_at_call 49; refine I.out.mono ?_; rintro e w6 ⟨rfl, rfl⟩)
          obtain ⟨hfin, hpost⟩ := stmt_end hRlt.out hS.out.grown hS.out.rd (either_far hS.out) (either_tree hS.out)
          unfold put5 at hfin hpost
          obtain ⟨g0, g1, g2, g3, g4, _⟩ := box5 hfin
          refine ⟨rfl, _, by simp [results, Tryd.results91, go_sem, g0, g1, g2, g3, g4], hpost⟩
        · rw [hq2] at halt
          simp only [if_true] at halt
          unfold Sx.andR at halt
          have I := Lib.hid (is_b ⟨#[111, 114]⟩ R all j1 line col true wr hS.rd hm'.out hq2)
          obtain ⟨t1, ht1⟩ : ∃ t, all[j1]? = some t := by
            cases h2 : all[j1]? with
            | none => simp [Sx.isP, bare_at, h2] at hq2
            | some t => exact ⟨t, rfl⟩
          have N := Lib.hid (next_calls R all j1 line col wr hS.rd hm'.out t1 ht1)
          have hEr := Lib.hid (hE0'.out.grown hS.grown hR)
          cases hb2 : Sx.blockP k1 (bare all) (j1 + 1) with
          | none => rw [hb2] at halt; simp at halt
          | some rb =>
            rw [hb2] at halt
            have B2 := Lib.hid (hB'.out k1 (by have := hfu.out; omega) (j1 + 1) rb hb2)
            have hgr := Lib.hid hS.grown
            have hkp := Lib.hid (fun w' (hg : wr.grownBy w' (some R)) (hr : RD w' R all (j1 + 1) line col) => either_keep hRlt.out hS hg hr)
            cases rb with
            | error e1 =>
              simp at halt
              subst halt
              have hres2 : res = .error e1 := hres
              subst hres2
              clear hres hS hq2 hb2 ht1
              go_wp2_with (first | (go_at_call 49; refine I.out.mono ?_; rintro e w6 ⟨rfl, rfl⟩) | (go_at_call 50; refine N.out.mono ?_; rintro e w7 ⟨rfl, hg7, hr7⟩; have hS7 := hkp.out w7 hg7 hr7; have p4 := (either_cells hS7 (grown_below (Below.refl _ w7) (some R)) hRlt.out).1; have hS7 := Lib.hid hS7; have hr7d := hr7.below (Below.drew (Below.refl w7.heap.size w7)); have hE7 := (hEr.out.grown hg7 hR).grown (grown_below (Below.drew (Below.refl w7.heap.size w7)) _) hR))
              go_region_dies
              all_goals
                refine (B2.out _ hr7d hE7).mono ?_
                rintro e w4 ⟨hg4, rfl⟩
                exact ⟨rfl, ((((grown_below hb0'.out _).trans hgr.out).trans hg7).trans (grown_below (Below.drew (Below.refl w7.heap.size w7)) _)).trans hg4, rfl⟩
            | ok bz =>
              obtain ⟨b2, m2⟩ := bz
              simp only at halt
              cases ha3 : Sx.altsP k1 (bare all) m2 with
              | none => rw [ha3] at halt; simp at halt
              | some r3 =>
                have hres3 := Lib.hid (show res = altRes (acc ++ [b2]) r3 by
                  rw [ha3] at halt
                  rw [hres]
                  cases r3 with
                  | error e2 => simp at halt; rw [← halt]; rfl
                  | ok lk => obtain ⟨l, k⟩ := lk; simp at halt; rw [← halt]; simp [altRes])
                have ha3' := Lib.hid ha3
                have hfu1 : acc.length ≤ 2000000 := by have := hfu.out; omega
                have hfu1' := Lib.hid hfu1
                clear hres hS hq2 hb2 ht1 halt ha3 hfu1
                go_wp2_with (first | (go_at_call 49; refine I.out.mono ?_; rintro e w6 ⟨rfl, rfl⟩) | (go_at_call 50; refine N.out.mono ?_; rintro e w7 ⟨rfl, hg7, hr7⟩; have hS7 := hkp.out w7 hg7 hr7; have hr7d := hr7.below (Below.drew (Below.refl w7.heap.size w7)); have hE7 := (hEr.out.grown hg7 hR).grown (grown_below (Below.drew (Below.refl w7.heap.size w7)) _) hR; have hS0 := Lib.hid (either_keep hRlt.out hS7 (grown_below (Below.drew (Below.refl w7.heap.size w7)) _) hr7d); have p4 := (either_cells hS7 (grown_below (Below.refl _ w7) (some R)) hRlt.out).1; have hS7 := Lib.hid hS7))
                go_region_law (first
                  | (refine step_append_lies _ (by rfl) (.tmp 32) (.tmp 35) 105 (by rfl) (W.heap.size + 1) 80 i0 (.slice none 0 0) 1 24 Tryd.underlying105 hi0 hz0 hz1 hz2 (by rfl) (by decide) (.slice Av acc.length cv) acc.length xs (by first | rfl | simp [Act.eval, Act.put]) (either_row hS0.out hg4 hRlt.out _) ⟨w4.heap.size, 0, none⟩ 1 1 [.slice Ab b2.length cpb] (by first | rfl | simp [Act.eval, Act.put]) (by rfl) (World.news_of_block (cs := #[.slice Ab b2.length cpb]) (World.alloc_heap_new w4 _)) (own_one (u := .slice Ab b2.length cpb) rfl) (by decide) (k63 _ hfu1'.out) (k64 _ hfu1'.out) (either_base hS0.out hg4 _) (w4.heap.size + 1) (by simp) ?_; intro g1 cap1 w5 hown hgrow hat hlt; obtain ⟨c5, f5⟩ := either_after hS0.out hg4 hRlt.out hgrow)
                  | (go_simp; go_at_call 53; refine (B2.out _ hr7d hE7).mono ?_; rintro e w4 ⟨hg4, hr4, v4, F4, rfl, hF4, Ab, cpb, rfl, hk4⟩; obtain ⟨c4, f4, n4⟩ := either_cells hS0.out hg4 hRlt.out; obtain ⟨c4a, f4a, n4a⟩ := either_cells hS0.out (hg4.trans (grown_alloc w4 (Obj.cells #[Value.slice Ab b2.length cpb] 80) (some R))) hRlt.out))
                all_goals
                  have hS5 := Lib.hid (either_step hRlt.out hS0.out hg4 hr4 hF4 hk4 hown hgrow hat)
                  clear hS0 hS7 hg4 hr4 hF4 hk4 hown hgrow hat hlt c4 f4 n4 c4a f4a n4a c5 f5 hr7d hE7 p4 hr7 hg7
                  go_wp2
                  go_roundg k1
                  case measure => omega
                  case rel => exact ⟨_, _, _, _, _, _, hS5.out, ha3'.out, hres3.out, by have := hfu.out; simp; omega, by have := hfu.out; omega⟩
set_option maxHeartbeats 4000000 in
theorem either_calls (n R : Nat) (all : List ITok) (i : Nat) (line col : Int) (res : Except Nat (Sx.St × Nat)) (hres : Sx.eitherP (n + 1) (bare all) (i + 1) = some res) (hB : ∀ m, m ≤ n → BlockC m R all line col) (W : World) (h : RD W R all i line col) (hE : Env W) (hR : 4 ≤ R)
    (hm : all.length ≤ 9223372036854775807) (hn : n ≤ 1000000) (t : ITok) (ht : all[i]? = some t) : Calls Tryd.prog 91 #[.pointer (some ⟨R, 0, none⟩)] W (Post W R all line col HSt res) := by
  have h0 := rd_alloc h (Obj.cells #[Value.int IntKind.i64 0, Value.string { data := #[] }, Value.string { data := #[] }, Value.int IntKind.i64 0, Value.slice none 0 0] 107)
  have hb0 : Below W.heap.size W (W.alloc (Obj.cells #[Value.int IntKind.i64 0, Value.string { data := #[] }, Value.string { data := #[] }, Value.int IntKind.i64 0, Value.slice none 0 0] 107)) := (Below.refl _ W).alloc (Nat.le_refl _) _
  have hE0' := Lib.hid (hE.below hb0)
  have N1 := Lib.hid (next_calls R all i line col _ h0 hm t ht)
  have hRlt := Lib.hid h.lt
  have hb0' := Lib.hid hb0
  have hm' := Lib.hid hm
  have hB' := Lib.hid hB
  unfold Sx.eitherP Sx.andR at hres
  cases ha : Sx.blockP n (bare all) (i + 1) with
  | none => rw [ha] at hres; simp at hres
  | some ra =>
    rw [ha] at hres
    have A := Lib.hid (hB n (Nat.le_refl _) (i + 1) ra ha)
    cases ra with
    | error j =>
      simp at hres
      subst hres
      clear h hE h0 hb0 ha hm hB ht
      go_enter Tryd.func91, Tryd.ntmps91
      go_wp2_with (first | (go_at_call 50; refine N1.out.mono ?_; rintro e w1 ⟨rfl, hg1, hr1⟩) | (go_at_call 53; refine (A.out _ hr1 (hE0'.out.grown hg1 hR)).mono ?_; rintro e w2 ⟨hg2, rfl⟩))
      exact ⟨rfl, ((grown_below hb0'.out _).trans hg1).trans hg2, rfl⟩
    | ok p =>
      obtain ⟨a, j⟩ := p
      simp only at hres
      unfold Sx.mustP at hres
      cases hq : Sx.isP [111, 114] (bare all) j
      · rw [hq] at hres
        simp at hres
        subst hres
        have M := Lib.hid (fun w1 (hr : RD w1 R all j line col) => must_bad ⟨#[111, 114]⟩ R all j line col w1 hr hm hq)
        clear h hE h0 hb0 ha hm hB ht hq
        go_enter Tryd.func91, Tryd.ntmps91
        go_wp2_with (first | (go_at_call 50; refine N1.out.mono ?_; rintro e w1 ⟨rfl, hg1, hr1⟩) | (go_at_call 53; refine (A.out _ hr1 (hE0'.out.grown hg1 hR)).mono ?_; rintro e w2 ⟨hg2, hr2, v, F, rfl, hF, Aa, cp, rfl, hk⟩; have hF := Lib.hid hF; have hk := Lib.hid hk) | (go_at_call 52; refine (M.out _ (rd_alloc (rd_alloc hr2 _) _)).mono ?_; rintro e w3 ⟨rfl, hb3⟩))
        exact ⟨rfl, (((grown_below hb0'.out _).trans hg1).trans hg2).trans (((grown_alloc w2 _ _).trans (grown_alloc _ _ _)).trans (grown_below hb3 _)), rfl⟩
      · rw [hq] at hres
        simp only [if_true] at hres
        have M := Lib.hid (fun w1 (hr : RD w1 R all j line col) => must_ok ⟨#[111, 114]⟩ R all j line col w1 hr hm hq)
        cases hb : Sx.blockP n (bare all) (j + 1) with
        | none => rw [hb] at hres; simp at hres
        | some rb =>
          rw [hb] at hres
          have B := Lib.hid (hB n (Nat.le_refl _) (j + 1) rb hb)
          cases rb with
          | error m =>
            simp at hres
            subst hres
            clear h hE h0 hb0 ha hm hB ht hq
            go_enter Tryd.func91, Tryd.ntmps91
            go_wp2_with (first | (go_at_call 50; refine N1.out.mono ?_; rintro e w1 ⟨rfl, hg1, hr1⟩) | (go_at_call 53; refine (A.out _ hr1 (hE0'.out.grown hg1 hR)).mono ?_; rintro e w2 ⟨hg2, hr2, v, F, rfl, hF, Aa, cp, rfl, hk⟩; have hF := Lib.hid hF; have hk := Lib.hid hk) | (go_at_call 52; refine (M.out _ (rd_alloc (rd_alloc hr2 _) _)).mono ?_; rintro e w3 ⟨rfl, hg3, hr3⟩; have hlt2 := hr2.lt; have hbx := either_box hlt2 hg3; obtain ⟨p0, p1, p2, p3, p4, q0, q1, q2, q3, q4⟩ := box5 hbx; have hbx := Lib.hid hbx; have hr3d := hr3.below (Below.drew (Below.refl w3.heap.size w3)); have hE3 := ((hE0'.out.grown hg1 hR).grown hg2 hR).grown (((grown_alloc w2 _ _).trans (grown_alloc _ _ _)).trans (hg3.trans (grown_below (Below.drew (Below.refl w3.heap.size w3)) _))) hR))
            go_region_dies
            all_goals
              refine (B.out _ hr3d hE3).mono ?_
              rintro e w4 ⟨hg4, rfl⟩
              exact ⟨rfl, (((grown_below hb0'.out _).trans hg1).trans hg2).trans ((((grown_alloc w2 _ _).trans (grown_alloc _ _ _)).trans (hg3.trans (grown_below (Below.drew (Below.refl w3.heap.size w3)) _))).trans hg4), rfl⟩
          | ok p2 =>
            obtain ⟨b, m⟩ := p2
            simp only at hres
            cases hal : Sx.altsP n (bare all) m with
            | none => rw [hal] at hres; simp at hres
            | some r0 =>
              refine either_ok n R all i line col a j ha hq b m hb r0 hal res ?_ hB W h hE hR hm hn t ht
              rw [hal] at hres
              cases r0 with
              | error e2 => simp at hres; rw [← hres]; rfl
              | ok lk => obtain ⟨l, k⟩ := lk; simp at hres; rw [← hres]; simp [altRes]
end Go.Proofs.YtifmalbdolpocaaDoor
