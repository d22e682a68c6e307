/-
  The walks of package syntax, twentieth part: Parse.
-/
import Derived.Test.YtifmalbdolpocaaDoorSynW
import Derived.Test.YtifmalbdolpocaaDoorWalkH
namespace Go.Proofs.YtifmalbdolpocaaDoor
open Go.RowKit Go.Shelf

/-- What Parse answers. -/
def parseR (s : ByteArray) : Sx.Prg × Int × Int × Int :=
  if (splitR s).2.2.2 ≠ 0 then (⟨[], []⟩, ((splitR s).2.1 : Int), ((splitR s).2.2.1 : Int), ((splitR s).2.2.2 : Int))
  else match Sx.programP (Sx.fuelOf (bare ((splitR s).1.map itok))) (bare ((splitR s).1.map itok)) 0 with
    | some (.ok (p, _)) => if Sx.chk p = 0 then (p, 0, 0, 0) else (⟨[], []⟩, 0, 0, 3)
    | some (.error j) => (⟨[], []⟩, (placeAt ((splitR s).1.map itok) j ((1 + s.data.toList.count 10 : Nat) : Int) ((Wd.cl s.data.toList + 1 : Nat) : Int)).1, (placeAt ((splitR s).1.map itok) j ((1 + s.data.toList.count 10 : Nat) : Int) ((Wd.cl s.data.toList + 1 : Nat) : Int)).2, 200)
    | none => (⟨[], []⟩, 0, 0, 0)
def ParsePost (w : World) (r : Sx.Prg × Int × Int × Int) (e : Ending) (w' : World) : Prop :=
  ∃ v F, e = .returned (.tuple #[v, .int .i64 r.2.1, .int .i64 r.2.2.1, .int .i64 r.2.2.2]) ∧ HPrg w' F v r.1 ∧ (∀ g, F g → w.heap.size ≤ g ∧ g < w'.heap.size) ∧ Below w.heap.size w w'
theorem hprg_none (w : World) : HPrg w (fun _ => False) (.agg #[.slice none 0 0, .slice none 0 0]) ⟨[], []⟩ := ⟨none, 0, none, 0, rfl, .inl rfl, .inl rfl⟩
/-- Parse's four boxes: the program, the line, the column, the error. -/
structure PBox (B : Nat) (W : World) (a0 a1 l c e : Value) : Prop where
  prg : W.heap[B]? = some (.cells #[a0, a1] 42 (0, 0))
  line : W.heap[B + 1]? = some (.cells #[l] 3 (0, 0))
  col : W.heap[B + 1 + 1]? = some (.cells #[c] 3 (0, 0))
  err : W.heap[B + 1 + 1 + 1]? = some (.cells #[e] 24 (0, 0))
theorem PBox.keep {B : Nat} {W W' : World} {a0 a1 l c e : Value} (h : PBox B W a0 a1 l c e) (hk : ∀ q, B ≤ q → q ≤ B + 3 → W'.heap[q]? = W.heap[q]?) : PBox B W' a0 a1 l c e :=
  ⟨(hk B (by omega) (by omega)).trans h.prg, (hk _ (by omega) (by omega)).trans h.line, (hk _ (by omega) (by omega)).trans h.col, (hk _ (by omega) (by omega)).trans h.err⟩
theorem cell1 {W : World} {b : Nat} {t : TypeId} {v : Value} (h : W.heap[b]? = some (.cells #[v] t (0, 0))) : W.cell? ⟨b, 0, none⟩ = some v ∧ W.frozen? ⟨b, 0, none⟩ = false := by
  refine ⟨?_, Lib.frozen_of_heap h 0⟩
  rw [Lib.cell_of_heap h]; rfl
theorem PBox.cells {B : Nat} {W : World} {a0 a1 l c e : Value} (h : PBox B W a0 a1 l c e) :
    (W.cell? ⟨B, 0, none⟩ = some a0 ∧ W.cell? ⟨B, 1, none⟩ = some a1 ∧ W.cell? ⟨B + 1, 0, none⟩ = some l ∧ W.cell? ⟨B + 1 + 1, 0, none⟩ = some c ∧ W.cell? ⟨B + 1 + 1 + 1, 0, none⟩ = some e) ∧
    W.frozen? ⟨B, 0, none⟩ = false ∧ W.frozen? ⟨B, 1, none⟩ = false ∧ W.frozen? ⟨B + 1, 0, none⟩ = false ∧ W.frozen? ⟨B + 1 + 1, 0, none⟩ = false ∧ W.frozen? ⟨B + 1 + 1 + 1, 0, none⟩ = false := by
  obtain ⟨h1, h2, h3, h4⟩ := box2 h.prg
  exact ⟨⟨h1, h2, (cell1 h.line).1, (cell1 h.col).1, (cell1 h.err).1⟩, h3, h4, (cell1 h.line).2, (cell1 h.col).2, (cell1 h.err).2⟩
theorem PBox.drew {B : Nat} {W : World} {a0 a1 l c e : Value} (h : PBox B W a0 a1 l c e) : PBox B W.drew a0 a1 l c e := ⟨h.prg, h.line, h.col, h.err⟩
theorem PBox.put0 {B : Nat} {W : World} {a0 a1 l c e : Value} (h : PBox B W a0 a1 l c e) (x : Value) : PBox B (W.setCell ⟨B, 0, none⟩ x) x a1 l c e :=
  ⟨by simp [World.setCell, Array.getElem?_modify, h.prg], (Below.heap_setCell _ _ _ _ (by simp)).trans h.line, (Below.heap_setCell _ _ _ _ (by simp; try omega)).trans h.col, (Below.heap_setCell _ _ _ _ (by simp; try omega)).trans h.err⟩
theorem PBox.put1 {B : Nat} {W : World} {a0 a1 l c e : Value} (h : PBox B W a0 a1 l c e) (x : Value) : PBox B (W.setCell ⟨B, 1, none⟩ x) a0 x l c e :=
  ⟨by simp [World.setCell, Array.getElem?_modify, h.prg], (Below.heap_setCell _ _ _ _ (by simp)).trans h.line, (Below.heap_setCell _ _ _ _ (by simp; try omega)).trans h.col, (Below.heap_setCell _ _ _ _ (by simp; try omega)).trans h.err⟩
theorem PBox.putL {B : Nat} {W : World} {a0 a1 l c e : Value} (h : PBox B W a0 a1 l c e) (x : Value) : PBox B (W.setCell ⟨B + 1, 0, none⟩ x) a0 a1 x c e :=
  ⟨(Below.heap_setCell _ _ _ _ (by simp)).trans h.prg, by simp [World.setCell, Array.getElem?_modify, h.line], (Below.heap_setCell _ _ _ _ (by simp)).trans h.col, (Below.heap_setCell _ _ _ _ (by simp; try omega)).trans h.err⟩
theorem PBox.putC {B : Nat} {W : World} {a0 a1 l c e : Value} (h : PBox B W a0 a1 l c e) (x : Value) : PBox B (W.setCell ⟨B + 1 + 1, 0, none⟩ x) a0 a1 l x e :=
  ⟨(Below.heap_setCell _ _ _ _ (by simp; try omega)).trans h.prg, (Below.heap_setCell _ _ _ _ (by simp)).trans h.line, by have := h.col; simp [World.setCell, Array.getElem?_modify, this], (Below.heap_setCell _ _ _ _ (by simp)).trans h.err⟩
theorem PBox.putE {B : Nat} {W : World} {a0 a1 l c e : Value} (h : PBox B W a0 a1 l c e) (x : Value) : PBox B (W.setCell ⟨B + 1 + 1 + 1, 0, none⟩ x) a0 a1 l c x :=
  ⟨(Below.heap_setCell _ _ _ _ (by simp; try omega)).trans h.prg, (Below.heap_setCell _ _ _ _ (by simp; try omega)).trans h.line, (Below.heap_setCell _ _ _ _ (by simp)).trans h.col, by have := h.err; simp [World.setCell, Array.getElem?_modify, this]⟩
theorem parse_results {B : Nat} {W : World} {a0 a1 l c e : Value} (h : PBox B W a0 a1 l c e) (tmps : Array Value) (h2 : tmps[2]? = some (.pointer (some ⟨B, 0, none⟩))) (h3 : tmps[3]? = some (.pointer (some ⟨B + 1, 0, none⟩)))
    (h4 : tmps[4]? = some (.pointer (some ⟨B + 1 + 1, 0, none⟩))) (h5 : tmps[5]? = some (.pointer (some ⟨B + 1 + 1 + 1, 0, none⟩))) : (results Tryd.f13 tmps).run Tryd.prog W = .ok (.tuple #[.agg #[a0, a1], l, c, e]) W := by
  obtain ⟨⟨c0, c4, c1, c2, c3⟩, _⟩ := h.cells
  generalize B + 1 + 1 + 1 = B3 at *
  generalize B + 1 + 1 = B2 at *
  generalize B + 1 = B1 at *
  simp [results, Tryd.results13, go_sem, h2, h3, h4, h5, c0, c1, c2, c3, c4]
def W4 (w : World) : World := ((((w.alloc (Obj.cells #[Value.slice none 0 0, Value.slice none 0 0] 42)).alloc (Obj.cells #[Value.int IntKind.i64 0] 3)).alloc (Obj.cells #[Value.int IntKind.i64 0] 3)).alloc (Obj.cells #[Value.int IntKind.i64 0] 24))
theorem W4_size (w : World) : (W4 w).heap.size = w.heap.size + 4 := by simp [W4]
theorem W4_below (w : World) : Below w.heap.size w (W4 w) := by
  unfold W4
  exact ((((Below.refl _ w).alloc (Nat.le_refl _) _).alloc (by simp) _).alloc (by simp; omega) _).alloc (by simp; omega) _
theorem W4_box (w : World) : PBox w.heap.size (W4 w) (.slice none 0 0) (.slice none 0 0) (.int .i64 0) (.int .i64 0) (.int .i64 0) := by
  unfold W4
  refine ⟨?_, ?_, ?_, ?_⟩
  · exact (Lib.alloc_old _ _ _ (by simp; omega)).trans ((Lib.alloc_old _ _ _ (by simp; omega)).trans ((Lib.alloc_old _ _ _ (by simp)).trans (World.alloc_heap_new w _)))
  · have := World.alloc_heap_new (w.alloc (Obj.cells #[Value.slice none 0 0, Value.slice none 0 0] 42)) (Obj.cells #[Value.int IntKind.i64 0] 3)
    rw [World.size_alloc] at this
    exact (Lib.alloc_old _ _ _ (by simp; try omega)).trans ((Lib.alloc_old _ _ _ (by simp; try omega)).trans this)
  · have := World.alloc_heap_new ((w.alloc (Obj.cells #[Value.slice none 0 0, Value.slice none 0 0] 42)).alloc (Obj.cells #[Value.int IntKind.i64 0] 3)) (Obj.cells #[Value.int IntKind.i64 0] 3)
    rw [World.size_alloc, World.size_alloc] at this
    exact (Lib.alloc_old _ _ _ (by simp)).trans this
  · have := World.alloc_heap_new (((w.alloc (Obj.cells #[Value.slice none 0 0, Value.slice none 0 0] 42)).alloc (Obj.cells #[Value.int IntKind.i64 0] 3)).alloc (Obj.cells #[Value.int IntKind.i64 0] 3)) (Obj.cells #[Value.int IntKind.i64 0] 24)
    rwa [World.size_alloc, World.size_alloc, World.size_alloc] at this
set_option maxRecDepth 100000 in
set_option maxHeartbeats 2000000 in
/-- Split's own fault. -/
theorem parse_split (s : ByteArray) (w : World) (hE : Env w) (hs : s.size ≤ 9223372036854775807) (hmany : ¬ 1048576 < s.size → (Wd.toks (s.size + 1) s.data.toList 1 1).1.length ≤ 65536) (hz : (splitR s).2.2.2 ≠ 0) :
    Calls Tryd.prog 13 #[.string s] w (ParsePost w (⟨[], []⟩, ((splitR s).2.1 : Int), ((splitR s).2.2.1 : Int), ((splitR s).2.2.2 : Int))) := by
  have S := Lib.hid (split_calls s (W4 w) (hE.below (W4_below w)) hs hmany)
  have hzI : (((splitR s).2.2.2 : Int) != 0) = true := by rw [bne_iff_ne]; omega
  unfold SplitPost at S
  generalize ((splitR s).2.2.2 : Int) = er at S hzI ⊢
  generalize ((splitR s).2.1 : Int) = ln at S ⊢
  generalize ((splitR s).2.2.1 : Int) = cl at S ⊢
  have hB := Lib.hid (W4_below w)
  have hbx := Lib.hid (W4_box w)
  have hsz := Lib.hid (W4_size w)
  unfold W4 at S hB hbx hsz
  clear hE hz
  go_enter_defers Tryd.func13, Tryd.ntmps13
  go_wp2_with (go_at_call 7; refine S.out.mono ?_; rintro e w1 ⟨v, rfl, _, hb1⟩; have hbxw := hbx.out.keep fun q h1 h2 => hb1.block q (by rw [hsz.out]; omega); obtain ⟨⟨c0, c4, c1, c2, c3⟩, f0, f4, f1, f2, f3⟩ := hbxw.cells; have hbxw := Lib.hid hbxw; have hb1 := Lib.hid hb1)
  go_region
  go_wp2
  have hP := ((((((((hbxw.out.putL (.int .i64 ln)).putC (.int .i64 cl)).putE (.int .i64 er)).put0 (.slice none 0 0)).put1 (.slice none 0 0)).putL (.int .i64 ln)).putC (.int .i64 cl)).putE (.int .i64 er)).drew
  have hb := below_chain hB.out hb1.out
  have hp := fun (W : World) (h : Below w.heap.size w W) (j k : Nat) (v : Value) => h.setCell (p := ⟨w.heap.size + j, k, none⟩) (Nat.le_add_right _ _) v
  exact ⟨_, parse_results hP _ rfl rfl rfl rfl, _, fun _ => False, rfl, hprg_none _, fun g h => h.elim, (hp _ (hp _ (hp _ (hp _ (hp _ (hp _ (hp _ (hp _ hb 1 0 _) 2 0 _) 3 0 _) 0 0 _) 0 1 _) 1 0 _) 2 0 _) 3 0 _).drew⟩
end Go.Proofs.YtifmalbdolpocaaDoor
