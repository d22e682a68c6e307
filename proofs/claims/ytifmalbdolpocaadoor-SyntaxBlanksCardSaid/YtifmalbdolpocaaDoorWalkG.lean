/-
  The walks of package words, seventh part: Split.
-/
import Derived.Test.YtifmalbdolpocaaDoorWalkF
import Derived.Test.YtifmalbdolpocaaDoorRange
import Derived.RangeFuncBound
import Derived.Deep.AppendLies
import Derived.RangeFuncBox
import Derived.RangeFuncLeaves
import Derived.Maps.AppendAt
namespace Go.Proofs.YtifmalbdolpocaaDoor
open Go.RowKit Go.Shelf
attribute [local go_sem] Oper.semAt_some

theorem Tryd.info29 : (Tryd.prog.info? 29).map (fun i => (i.zero, i.size, i.bytes)) = some (some (.agg #[.int .i64 0, .string ⟨#[]⟩, .int .i64 0, .int .i64 0]), 4, 40) := by kernel_rfl
/-- A token's cells. -/
def tokCells (t : Wd.Tok) : List Value := [.int .i64 t.kind, .string ⟨t.text.toArray⟩, .int .i64 t.line, .int .i64 t.col]
def rowCells (l : List Wd.Tok) : List Value := l.flatMap tokCells
theorem rowCells_length (l : List Wd.Tok) : (rowCells l).length = l.length * 4 := by
  induction l with
  | nil => rfl
  | cons t l ih => simp [rowCells, tokCells] at ih ⊢; omega
theorem rowCells_snoc (l : List Wd.Tok) (t : Wd.Tok) : rowCells (l ++ [t]) = rowCells l ++ tokCells t := by simp [rowCells]
/-- What Split answers: the tokens; else the line, the column and the error (of a text of at most 65536 tokens). -/
def splitR (s : ByteArray) : List Wd.Tok × Nat × Nat × Nat :=
  if 1048576 < s.size then ([], 0, 0, 2)
  else match (Wd.toks (s.size + 1) s.data.toList 1 1).2 with
    | some (line, col) => ([], line, col, 60)
    | none => ((Wd.toks (s.size + 1) s.data.toList 1 1).1, 0, 0, 0)

def SplitPost (s : ByteArray) (w : World) (e : Ending) (w' : World) : Prop :=
  ∃ v, e = .returned (.tuple #[v, .int .i64 (splitR s).2.1, .int .i64 (splitR s).2.2.1, .int .i64 (splitR s).2.2.2]) ∧
    w'.ownsRow w.heap.size 29 4 v (splitR s).1.length (rowCells (splitR s).1) ∧ Below w.heap.size w w'

theorem boxed_below {W W' : World} {B : Nat} {t : TypeId} {v : Value} (h : Boxed W B t v) (hb : Below W.heap.size W W') : Boxed W' B t v :=
  (hb.block B h.lt).trans h
theorem grown_below {W W' : World} (h : Below W.heap.size W W') (row : Option Nat) : W.grownBy W' row := ⟨h.os, h.tape, h.output, h.size, fun i hi _ => h.block i hi⟩
theorem owns_below {W W' : World} {base size n : Nat} {e : TypeId} {v : Value} {xs : List Value} (h : W.ownsRow base e size v n xs) (hb : Below W.heap.size W W') : W'.ownsRow base e size v n xs :=
  h.kept (grown_below hb none) (by cases v.ownBlock <;> simp)
/-- What holds between two rounds of Split's loop. -/
structure SplitI (w : World) (s : ByteArray) (pre : List Wd.Tok) (W : World) : Prop where
  row : ∃ v, Boxed W w.heap.size 23 v ∧ W.ownsRow w.heap.size 29 4 v pre.length (rowCells pre)
  line : Boxed W (w.heap.size + 1) 3 (.int .i64 0)
  col : Boxed W (w.heap.size + 2) 3 (.int .i64 0)
  err : Boxed W (w.heap.size + 3) 24 (.int .i64 0)
  text : Boxed W (w.heap.size + 4) 9 (.string s)
  below : Below w.heap.size w W
theorem SplitI.step {w : World} {s : ByteArray} {pre : List Wd.Tok} {W W' : World} (h : SplitI w s pre W) (hb : Below W.heap.size W W') : SplitI w s pre W' := by
  obtain ⟨v, hv, hr⟩ := h.row
  exact ⟨⟨v, boxed_below hv hb, owns_below hr hb⟩, boxed_below h.line hb, boxed_below h.col hb, boxed_below h.err hb, boxed_below h.text hb, below_chain h.below hb⟩
/-- A loop's record turns, above. -/
theorem SplitI.turn {w : World} {s : ByteArray} {pre : List Wd.Tok} {W : World} (h : SplitI w s pre W) {l : Nat} (hl : w.heap.size + 5 ≤ l) {r : Loop} (r' : Loop) (hr : W.heap[l]? = some (.loop r)) :
    SplitI w s pre (W.putObj l (.loop r')) := by
  obtain ⟨v, hv, hrw⟩ := h.row
  refine ⟨⟨v, (World.putObj_heap_other (by omega)).trans hv, ownsRow_putObj hrw _ hr rfl⟩, (World.putObj_heap_other (by omega)).trans h.line, (World.putObj_heap_other (by omega)).trans h.col, (World.putObj_heap_other (by omega)).trans h.err,
    (World.putObj_heap_other (by omega)).trans h.text, ?_⟩
  exact h.below.grown (grownBy_putObj' W _ _) h.below.size (fun k e => by cases e; omega)

set_option maxRecDepth 100000 in
set_option maxHeartbeats 1000000 in
theorem split_calls (s : ByteArray) (w : World) (hE : Env w) (hs : s.size ≤ 9223372036854775807)
    (hmany : ¬ 1048576 < s.size → (Wd.toks (s.size + 1) s.data.toList 1 1).1.length ≤ 65536) : Calls Tryd.prog 7 #[.string s] w (SplitPost s w) := by
  refine (callsIn_wide (n := 3)).1 ?_
  refine callsIn_of_wp_marks Tryd.func7 rfl trivial ?_ rfl
  simp only [Tryd.ntmps7, List.size_toArray, List.length_cons, List.length_nil, Nat.reduceAdd, Nat.reduceSub, Array.replicate_succ, Array.replicate_zero, List.push_toArray, List.append_toArray, List.nil_append, List.cons_append]
  have hFf : ∀ f, Fence.wide.fn f := fun _ => trivial
  have hFd : Fence.wide.depth.isSome = false := rfl
  have hmf : ∀ (fn : Fn) (first cap : Array Value) (w : World), (Instr.makeFunc fn first cap).run Tryd.prog w = .ok (.func fn first cap) w := fun _ _ _ _ => rfl
  by_cases hbig : 1048576 < s.size
  · have hbig' : 1048576 < (s.size : Int) := by omega
    have hr := Lib.hid (show splitR s = ([], 0, 0, 2) by simp [splitR, hbig])
    clear hbig hE
    gi_wp2
    refine ⟨_, by simp [results, Tryd.results7, go_sem]; rfl, .slice none 0 0, ?_⟩
    rw [hr.out]
    exact ⟨rfl, World.ownsRow_nil _ _ _ _, (((Below.refl _ _).alloc (Nat.le_refl _) _).alloc (by simp) _ |>.alloc (by simp; omega) _).alloc (by simp; omega) _⟩
  · have hsm : ¬ 1048576 < (s.size : Int) := by omega
    gi_wp2_with (gi_at_call 17; refine (callsIn_wide.2 (tokens_calls s _)).mono ?_; rintro e w1 ⟨rfl, rfl⟩)
    obtain ⟨W0, hW0⟩ : ∃ W0, (((((w.alloc (Obj.cells #[Value.slice none 0 0] 23)).alloc (Obj.cells #[Value.int IntKind.i64 0] 3)).alloc (Obj.cells #[Value.int IntKind.i64 0] 3)).alloc (Obj.cells #[Value.int IntKind.i64 0] 24)).alloc (Obj.cells #[Value.string s] 9)) = W0 := ⟨_, rfl⟩
    have z0 : W0.heap.size = w.heap.size + 5 := by rw [← hW0]; simp
    have b0 : Boxed W0 w.heap.size 23 (.slice none 0 0) := by rw [← hW0]; exact (((Boxed.new w 23 _).alloc _).alloc _ |>.alloc _).alloc _
    have b1 : Boxed W0 (w.heap.size + 1) 3 (.int .i64 0) := by
      rw [← hW0]
      have := Boxed.new (w.alloc (Obj.cells #[Value.slice none 0 0] 23)) 3 (.int .i64 0)
      rw [World.size_alloc] at this
      exact ((this.alloc _).alloc _).alloc _
    have b2 : Boxed W0 (w.heap.size + 2) 3 (.int .i64 0) := by
      rw [← hW0]
      have := Boxed.new ((w.alloc (Obj.cells #[Value.slice none 0 0] 23)).alloc (Obj.cells #[Value.int IntKind.i64 0] 3)) 3 (.int .i64 0)
      rw [World.size_alloc, World.size_alloc] at this
      exact (this.alloc _).alloc _
    have b3 : Boxed W0 (w.heap.size + 3) 24 (.int .i64 0) := by
      rw [← hW0]
      have := Boxed.new (((w.alloc (Obj.cells #[Value.slice none 0 0] 23)).alloc (Obj.cells #[Value.int IntKind.i64 0] 3)).alloc (Obj.cells #[Value.int IntKind.i64 0] 3)) 24 (.int .i64 0)
      rw [World.size_alloc, World.size_alloc, World.size_alloc] at this
      exact this.alloc _
    have b4 : Boxed W0 (w.heap.size + 4) 9 (.string s) := by
      rw [← hW0]
      have := Boxed.new ((((w.alloc (Obj.cells #[Value.slice none 0 0] 23)).alloc (Obj.cells #[Value.int IntKind.i64 0] 3)).alloc (Obj.cells #[Value.int IntKind.i64 0] 3)).alloc (Obj.cells #[Value.int IntKind.i64 0] 24)) 9 (.string s)
      rw [World.size_alloc, World.size_alloc, World.size_alloc, World.size_alloc] at this
      exact this
    have hb0 : Below w.heap.size w W0 := by rw [← hW0]; exact (((((Below.refl _ w).alloc (Nat.le_refl _) _).alloc (by simp) _).alloc (by simp; omega) _).alloc (by simp; omega) _).alloc (by simp; omega) _
    rw [hW0]
    clear hW0
    have hI0 : SplitI w s [] W0 := ⟨⟨_, b0, World.ownsRow_nil _ _ _ _⟩, b1, b2, b3, b4, hb0⟩
    clear b0 b1 b2 b3 b4 hb0
    refine rangeFunc_may rfl rfl (gf := 32) (lb := #[.pointer (some ⟨w.heap.size + 4, 0, none⟩)]) rfl trivial (enters_of Tryd.func32 (by kernel_rfl) rfl) tokV
      (fun pre x => (pre ++ [x]) <+: (Wd.toks (s.size + 1) s.data.toList 1 1).1)
      (fun xs => xs = (Wd.toks (s.size + 1) s.data.toList 1 1).1 ∧ (Wd.toks (s.size + 1) s.data.toList 1 1).2 = none)
      (fun chain xs => xs = (Wd.toks (s.size + 1) s.data.toList 1 1).1 ∧ ∃ line col, (Wd.toks (s.size + 1) s.data.toList 1 1).2 = some (line, col) ∧ chain = [faultV line col 60])
      rfl (SplitI w s) (fun pre W W' h hb => h.step hb) (fun pre W l r r' hl hr h => h.turn (by omega) r' hr) ?iter hI0 ?round ?done ?pan
    case iter =>
      intro l J hJ hJI hY W hj
      refine (tokens1_calls l (w.heap.size + 4) (3 - 1) s (by omega) J (fun _ _ => False) (fun pre W h => ⟨(hJI pre W h).text.cell, hE.below (hJI pre W h).below⟩) hJ
        (fun pre t W h hp => (hY pre t W h hp).mono fun e W' h => .inl h) W hj).mono ?_
      rintro e W' (⟨rfl, hf, hj'⟩ | ⟨line, col, hf, rfl, hj'⟩ | ⟨_, _, h⟩)
      · exact .inl ⟨_, _, rfl, ⟨rfl, hf⟩, hj'⟩
      · exact .inr ⟨_, _, rfl, ⟨rfl, line, col, hf, rfl⟩, hj'⟩
      · exact h.elim
    case round =>
      intro l pre x W hi hadm hl1 hl2
      unfold tokV
      gi_wp2
      refine ⟨hi.step ((Below.refl _ _).alloc (Nat.le_refl _) _), KeepsOthers.alloc _ _, ?_⟩
      rintro W₂ hi2 hk hsz
      rw [World.size_alloc] at hsz
      have hbox : W₂.heap[W.heap.size]? = some (.cells #[Value.int IntKind.i64 ↑x.kind, Value.string { data := x.text.toArray }, Value.int IntKind.i64 ↑x.line, Value.int IntKind.i64 ↑x.col] 29 (0, 0)) :=
        (hk _ (by omega)).trans (World.alloc_heap_new W _)
      clear hk hi
      obtain ⟨v, hv, hrow⟩ := hi2.row
      obtain ⟨A, cp, rfl⟩ : ∃ A cp, v = .slice A pre.length cp := by
        rcases hrow.2 with ⟨rfl, h0⟩ | ⟨g, cap, cur, rfl, _⟩
        · exact ⟨none, 0, by rw [h0]⟩
        · exact ⟨_, cap, rfl⟩
      have hlen : (pre.length : Int) < 65536 := by
        have h1 := hmany hbig
        have h2 := hadm.length_le
        simp at h2
        omega
      have t0 : W₂.cell? ⟨W.heap.size, 0, none⟩ = some (.int .i64 x.kind) := by simp [World.cell?, hbox]
      have t1 : W₂.cell? ⟨W.heap.size, 1, none⟩ = some (.string ⟨x.text.toArray⟩) := by simp [World.cell?, hbox]
      have t2 : W₂.cell? ⟨W.heap.size, 2, none⟩ = some (.int .i64 x.line) := by simp [World.cell?, hbox]
      have t3 : W₂.cell? ⟨W.heap.size, 3, none⟩ = some (.int .i64 x.col) := by simp [World.cell?, hbox]
      have hc := hv.cell
      have hf := hv.frozen
      obtain ⟨i0, hi0, hz0, hz1, hz2⟩ := info_parts Tryd.info29
      have hi2' := Lib.hid hi2
      have hsz' := Lib.hid hsz
      have hl1' := Lib.hid hl1
      have hl2' := Lib.hid hl2
      clear hi2 hbox hadm hmany hE hmf hsz hl1 hl2 z0 hI0 hs hbig
      have hlen' := Lib.hid (show pre.length < 65536 by omega)
      generalize (65536 : Int) = N at hlen ⊢
      gi_wp2_with (gi_at_builtin; refine wpListIn_append_own _ rfl _ _ 23 rfl w.heap.size 29 i0 _ 4 40 Tryd.underlying23 hi0 hz0 hz1 hz2 rfl (by decide) _ _ _ rfl (hrow.alloc _) ⟨W₂.heap.size, 0, none⟩ 1 1 (tokCells x) rfl ?g0 ?g1 ?g2 ?g3 ?g4 ?g5 ?g6)
      case g0 => rfl
      case g1 => exact World.news_of_block (cs := #[Value.int IntKind.i64 ↑x.kind, Value.string { data := x.text.toArray }, Value.int IntKind.i64 ↑x.line, Value.int IntKind.i64 ↑x.col]) (World.alloc_heap_new W₂ _)
      case g2 =>
        intro u hu
        simp only [tokCells, List.mem_cons, List.not_mem_nil, or_false] at hu
        rcases hu with rfl | rfl | rfl | rfl <;> rfl
      case g3 => have := hlen'.out; simp only [maxLen]; omega
      case g4 => have := hlen'.out; omega
      case g5 => have := hi2'.out.below.size; simp; omega
      case g6 =>
        intro v' w1 hown' hgrow _
        obtain ⟨g', cap', rfl⟩ := ownsRow_succ hown'
        obtain ⟨hv1, hv2, hr2, hk2, hb2⟩ := hv.appended (by decide) hrow hi2'.out.below.size (Nat.le_refl _) hown' hgrow
        have hc1 := hv1.cell
        have hf1 := hv1.frozen
        have hkeep : ∀ k t u, t ≠ 29 → k ≠ w.heap.size → Boxed W₂ k t u → Boxed (w1.setCell ⟨w.heap.size, 0, none⟩ (.slice (some ⟨g', 0, none⟩) (pre.length + 1) cap')) k t u := fun k t u ht hk h =>
          (Below.heap_setCell _ _ _ k hk).trans ((h.alloc _).kept hgrow (h.not_row ht hrow))
        have hkeep' := Lib.hid hkeep
        have hfin := Lib.hid (And.intro hv2 (And.intro hr2 (And.intro hk2 hb2)))
        clear hkeep hv1 hv2 hr2 hk2 hb2 hown' hgrow hrow hc hf t0 t1 t2 t3
        gi_wp2
        obtain ⟨hv2, hr2, hk2, hb2⟩ := hfin.out
        have h2 := hi2'.out
        exact ⟨⟨⟨_, hv2, by rw [rowCells_snoc, List.length_append]; exact hr2⟩, hkeep'.out _ _ _ (by decide) (by omega) h2.line, hkeep'.out _ _ _ (by decide) (by omega) h2.col, hkeep'.out _ _ _ (by decide) (by omega) h2.err,
          hkeep'.out _ _ _ (by decide) (by omega) h2.text, h2.below.trans hb2⟩, hk2⟩
    case done =>
      rintro D xs W hD ⟨rfl, hf⟩ hi hK
      have hr := Lib.hid (show splitR s = ((Wd.toks (s.size + 1) s.data.toList 1 1).1, 0, 0, 0) by simp [splitR, hbig, hf])
      generalize (Wd.toks (s.size + 1) s.data.toList 1 1).1 = ts at hi hr
      obtain ⟨v, hv, hrow⟩ := hi.row
      obtain ⟨A, cp, rfl⟩ : ∃ A cp, v = .slice A ts.length cp := by
        rcases hrow.2 with ⟨rfl, h0⟩ | ⟨g, cap, cur, rfl, _⟩
        · exact ⟨none, 0, by rw [h0]⟩
        · exact ⟨_, cap, rfl⟩
      have c0 := hv.cell
      have f0 := hv.frozen
      have c1 := hi.line.cell
      have f1 := hi.line.frozen
      have c2 := hi.col.cell
      have f2 := hi.col.frozen
      have c3 := hi.err.cell
      have f3 := hi.err.frozen
      have hi' := Lib.hid hi
      have hrow' := Lib.hid hrow
      have n0 := Lib.hid (hv.not_row (show (23 : Nat) ≠ 29 by decide) hrow)
      have n1 := Lib.hid (hi.line.not_row (show (3 : Nat) ≠ 29 by decide) hrow)
      have n2 := Lib.hid (hi.col.not_row (show (3 : Nat) ≠ 29 by decide) hrow)
      have n3 := Lib.hid (hi.err.not_row (show (24 : Nat) ≠ 29 by decide) hrow)
      have hDz := Lib.hid (show w.heap.size + 5 ≤ D by omega)
      clear hi hrow hv hE hmany hs hbig hf hI0 z0 hD
      gi_wp2
      have kK := ((((KeepsOthers.setCell W ⟨w.heap.size, 0, none⟩ (.slice A ts.length cp)).trans (KeepsOthers.setCell _ ⟨w.heap.size + 1, 0, none⟩ (.int .i64 0))).trans (KeepsOthers.setCell _ ⟨w.heap.size + 1 + 1, 0, none⟩ (.int .i64 0))).trans (KeepsOthers.setCell _ ⟨w.heap.size + 1 + 1 + 1, 0, none⟩ (.int .i64 0))).same D _ hK rfl
      have bB : Below w.heap.size w ((((W.setCell ⟨w.heap.size, 0, none⟩ (.slice A ts.length cp)).setCell ⟨w.heap.size + 1, 0, none⟩ (.int .i64 0)).setCell ⟨w.heap.size + 1 + 1, 0, none⟩ (.int .i64 0)).setCell ⟨w.heap.size + 1 + 1 + 1, 0, none⟩ (.int .i64 0)) :=
        (((hi'.out.below.setCell (p := ⟨w.heap.size, 0, none⟩) (Nat.le_refl _) _).setCell (p := ⟨w.heap.size + 1, 0, none⟩) (Nat.le_add_right _ _) _).setCell (p := ⟨w.heap.size + 1 + 1, 0, none⟩) (by simp; omega) _).setCell (p := ⟨w.heap.size + 1 + 1 + 1, 0, none⟩) (by simp; omega) _
      have bO : ((((W.setCell ⟨w.heap.size, 0, none⟩ (.slice A ts.length cp)).setCell ⟨w.heap.size + 1, 0, none⟩ (.int .i64 0)).setCell ⟨w.heap.size + 1 + 1, 0, none⟩ (.int .i64 0)).setCell ⟨w.heap.size + 1 + 1 + 1, 0, none⟩ (.int .i64 0)).ownsRow w.heap.size 29 4 (.slice A ts.length cp) ts.length (rowCells ts) := by
        exact (((hrow'.out.kept (grownBy_setCell' _ _ _) (.inr n0.out.symm)).kept (grownBy_setCell' _ _ _) (.inr n1.out.symm)).kept (grownBy_setCell' _ _ _) (.inr n2.out.symm)).kept (grownBy_setCell' _ _ _) (.inr n3.out.symm)
      have e0 : ((((W.setCell ⟨w.heap.size, 0, none⟩ (.slice A ts.length cp)).setCell ⟨w.heap.size + 1, 0, none⟩ (.int .i64 0)).setCell ⟨w.heap.size + 1 + 1, 0, none⟩ (.int .i64 0)).setCell ⟨w.heap.size + 1 + 1 + 1, 0, none⟩ (.int .i64 0)).cell? ⟨w.heap.size, 0, none⟩ = some (.slice A ts.length cp) := by simp [go_sem, c0]
      have e1 : ((((W.setCell ⟨w.heap.size, 0, none⟩ (.slice A ts.length cp)).setCell ⟨w.heap.size + 1, 0, none⟩ (.int .i64 0)).setCell ⟨w.heap.size + 1 + 1, 0, none⟩ (.int .i64 0)).setCell ⟨w.heap.size + 1 + 1 + 1, 0, none⟩ (.int .i64 0)).cell? ⟨w.heap.size + 1, 0, none⟩ = some (.int .i64 0) := by simp [go_sem, c1]
      have e2 : ((((W.setCell ⟨w.heap.size, 0, none⟩ (.slice A ts.length cp)).setCell ⟨w.heap.size + 1, 0, none⟩ (.int .i64 0)).setCell ⟨w.heap.size + 1 + 1, 0, none⟩ (.int .i64 0)).setCell ⟨w.heap.size + 1 + 1 + 1, 0, none⟩ (.int .i64 0)).cell? ⟨w.heap.size + 1 + 1, 0, none⟩ = some (.int .i64 0) := by simp [go_sem, c2]
      have e3 : ((((W.setCell ⟨w.heap.size, 0, none⟩ (.slice A ts.length cp)).setCell ⟨w.heap.size + 1, 0, none⟩ (.int .i64 0)).setCell ⟨w.heap.size + 1 + 1, 0, none⟩ (.int .i64 0)).setCell ⟨w.heap.size + 1 + 1 + 1, 0, none⟩ (.int .i64 0)).cell? ⟨w.heap.size + 1 + 1 + 1, 0, none⟩ = some (.int .i64 0) := by simp [go_sem, c3]
      generalize ((((W.setCell ⟨w.heap.size, 0, none⟩ (.slice A ts.length cp)).setCell ⟨w.heap.size + 1, 0, none⟩ (.int .i64 0)).setCell ⟨w.heap.size + 1 + 1, 0, none⟩ (.int .i64 0)).setCell ⟨w.heap.size + 1 + 1 + 1, 0, none⟩ (.int .i64 0)) = W4 at kK bB bO e0 e1 e2 e3 ⊢
      refine ⟨by simp, .inl ⟨_, _, rfl, run_takeDeferred kK, ?_⟩⟩
      refine ⟨by simp, .inr ⟨fun h => (by cases h), _, _, 16, _, rfl, by simp [go_sem]; rfl, fun _ _ => trivial, ?_⟩⟩
      refine (catch_idle _ _ _ _ _ _).mono ?_
      rintro e u' W5 ⟨rfl, rfl, rfl⟩
      have hDz := hDz.out
      have g0 : (W4.putObj D (.deferred none)).cell? ⟨w.heap.size, 0, none⟩ = some (.slice A ts.length cp) := (World.cell?_of_block (World.putObj_heap_other (by simp; omega))).trans e0
      have g1 : (W4.putObj D (.deferred none)).cell? ⟨w.heap.size + 1, 0, none⟩ = some (.int .i64 0) := (World.cell?_of_block (World.putObj_heap_other (by simp; omega))).trans e1
      have g2 : (W4.putObj D (.deferred none)).cell? ⟨w.heap.size + 1 + 1, 0, none⟩ = some (.int .i64 0) := (World.cell?_of_block (World.putObj_heap_other (by simp; omega))).trans e2
      have g3 : (W4.putObj D (.deferred none)).cell? ⟨w.heap.size + 1 + 1 + 1, 0, none⟩ = some (.int .i64 0) := (World.cell?_of_block (World.putObj_heap_other (by simp; omega))).trans e3
      refine ⟨.tuple #[.slice A ts.length cp, .int .i64 0, .int .i64 0, .int .i64 0], by simp [results, Tryd.results7, go_sem, g0, g1, g2, g3], .slice A ts.length cp, ?_⟩
      rw [hr.out]
      exact ⟨rfl, ownsRow_putObj bO _ kK rfl, bB.grown (grownBy_putObj' W4 D _) bB.size (fun k e => by cases e; omega)⟩
    case pan =>
      rintro D chain xs W hD ⟨rfl, line, col, hf, rfl⟩ hi hK
      have hr : splitR s = ([], line, col, 60) := by simp [splitR, hbig, hf]
      generalize (Wd.toks (s.size + 1) s.data.toList 1 1).1 = ts at hi
      obtain ⟨v, hv, hrow⟩ := hi.row
      refine ⟨by simp, .inl ⟨_, _, rfl, run_takeDeferred hK, ?_⟩⟩
      refine ⟨by simp, .inr ⟨fun h => (by cases h), _, _, 16, _, rfl, by simp [go_sem]; rfl, fun _ _ => trivial, ?_⟩⟩
      have hDz : w.heap.size + 5 ≤ D := by omega
      have hDl := (Array.getElem?_eq_some_iff.1 hK).1
      have bx : ∀ {k t u}, k < D → Boxed W k t u → Boxed (W.putObj D (.deferred none)) k t u := fun hk h => (World.putObj_heap_other (by omega)).trans h
      have x0 := bx (by omega) hv
      have x1 := bx (by omega) hi.line
      have x2 := bx (by omega) hi.col
      have x3 := bx (by omega) hi.err
      refine (catch_fault _ w.heap.size line col 60 [] (W.putObj D (.deferred none)) v _ _ _ x0.cell x1.cell x2.cell x3.cell x0.frozen x1.frozen x2.frozen x3.frozen (by simp; omega)).mono ?_
      rintro e u' W5 ⟨rfl, rfl, d0, d1, d2, d3, hb⟩
      refine ⟨.tuple #[.slice none 0 0, .int .i64 line, .int .i64 col, .int .i64 60], by simp [results, Tryd.results7, go_sem, d0, d1, d2, d3], .slice none 0 0, ?_⟩
      rw [hr]
      exact ⟨rfl, World.ownsRow_nil _ _ _ _, (hi.below.grown (grownBy_putObj' W D _) hi.below.size (fun k e => by cases e; omega)).trans hb⟩
end Go.Proofs.YtifmalbdolpocaaDoor
