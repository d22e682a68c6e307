/-
  The walks of the reference's trees, second part: two programs that are alike.
-/
import Derived.Test.YtifmalbdolpocaaDoorSynBe
import Derived.Test.YtifmalbdolpocaaDoorRowB
import Derived.Deep.QuietTactic
import Derived.BigQuiet
import Derived.Deep.RegionHeld3
namespace Go.Proofs.YtifmalbdolpocaaDoor
open Go.RowKit Go.Shelf

theorem same_all : ∀ N, SameC N := by
  intro N
  induction N with
  | zero => intro l v1 v2 W F1 F2 _ _ _ _ _ _ h; omega
  | succ N ih => exact same_step N ih
theorem sameBlock_calls (l : List Sx.St) (v1 v2 : Value) (W : World) (F1 F2 : Nat → Prop) (h1 : HRow W F1 v1 l) (h2 : HRow W F2 v2 l) (hF1 : ∀ g, F1 g → g < W.heap.size) (hF2 : ∀ g, F2 g → g < W.heap.size) (hl : l.length ≤ 281474976710656) (hs : Sx.shortL l) :
    Calls Tryd.prog 31 #[v1, v2] W fun e W' => e = .returned (.bool true) ∧ Below W.heap.size W W' := same_all (SizeOf.sizeOf l + 1) l v1 v2 W F1 F2 h1 h2 hF1 hF2 hl hs (Nat.lt_succ_self _)
/-- Two boxes of two cells, made one behind the other. -/
theorem two42 (w : World) (cs ds : Array Value) : Below w.heap.size w ((w.alloc (Obj.cells cs 42)).alloc (Obj.cells ds 42)) ∧ ((w.alloc (Obj.cells cs 42)).alloc (Obj.cells ds 42)).heap[w.heap.size]? = some (.cells cs 42 (0, 0)) ∧ ((w.alloc (Obj.cells cs 42)).alloc (Obj.cells ds 42)).heap[w.heap.size + 1]? = some (.cells ds 42 (0, 0)) ∧ w.heap.size + 2 ≤ ((w.alloc (Obj.cells cs 42)).alloc (Obj.cells ds 42)).heap.size := by
  refine ⟨((Below.refl _ w).alloc (Nat.le_refl _) _).alloc (by simp) _, ?_, ?_, by simp⟩
  · exact (Lib.alloc_old _ _ _ (by simp)).trans (World.alloc_heap_new w _)
  · have := World.alloc_heap_new (w.alloc (Obj.cells cs 42)) (Obj.cells ds 42)
    rwa [World.size_alloc] at this
theorem same_cells {w w3 : World} {a b c d e f : Addr} {u1 u2 u3 u4 u5 u6 : Value} (h1 : w.cell? a = some u1) (h2 : w.cell? b = some u2) (h3 : w.cell? c = some u3) (h4 : w.cell? d = some u4) (h5 : w.cell? e = some u5) (h6 : w.cell? f = some u6) (hb : Below w.heap.size w w3) :
    w3.cell? a = some u1 ∧ w3.cell? b = some u2 ∧ w3.cell? c = some u3 ∧ w3.cell? d = some u4 ∧ w3.cell? e = some u5 ∧ w3.cell? f = some u6 := by
  have h : ∀ {a : Addr} {u : Value}, w.cell? a = some u → w3.cell? a = some u := fun {a u} h => (World.cell?_of_block (hb.block _ (block_of_cell h))).trans h
  exact ⟨h h1, h h2, h h3, h h4, h h5, h h6⟩
set_option maxRecDepth 100000 in
set_option maxHeartbeats 8000000 in
theorem samePrg_calls (p : Sx.Prg) (v1 v2 : Value) (W : World) (F1 F2 : Nat → Prop) (h1 : HPrg W F1 v1 p) (h2 : HPrg W F2 v2 p) (hF1 : ∀ g, F1 g → g < W.heap.size) (hF2 : ∀ g, F2 g → g < W.heap.size) (hs : Sx.shortP p) :
    Calls Tryd.prog 15 #[v1, v2] W fun e W' => e = .returned (.bool true) ∧ Below W.heap.size W W' := by
  obtain ⟨A, c, A2, c2, rfl, hv, hp⟩ := h1
  obtain ⟨B, d, B2, d2, rfl, hv', hp'⟩ := h2
  have hvh := Lib.hid hv
  have hph := Lib.hid hp
  have hvh' := Lib.hid hv'
  have hph' := Lib.hid hp'
  have hFh1 := Lib.hid hF1
  have hFh2 := Lib.hid hF2
  have hsh := Lib.hid hs
  have hlv := hs.1
  have hlp := hs.2.1
  have hI := Lib.hid (two42 W #[.slice A p.vars.length c, .slice A2 p.procs.length c2] #[.slice B p.vars.length d, .slice B2 p.procs.length d2])
  clear hv hp hv' hp' hF1 hF2 hs
  go_enter Tryd.func15, Tryd.ntmps15
  go_wp2
  go_loopw [5] (fun x wr => ∃ i : Nat, x = .int .i64 i ∧ i ≤ p.vars.length ∧ Below W.heap.size W wr ∧ wr.heap[W.heap.size]? = some (.cells #[.slice A p.vars.length c, .slice A2 p.procs.length c2] 42 (0, 0)) ∧ wr.heap[W.heap.size + 1]? = some (.cells #[.slice B p.vars.length d, .slice B2 p.procs.length d2] 42 (0, 0)) ∧ W.heap.size + 2 ≤ wr.heap.size) (fun x _ => p.vars.length - (intOf x).toNat)
  case atStart => exact ⟨0, rfl, Nat.zero_le _, hI.out⟩
  case round =>
    clear hI
    obtain ⟨i, rfl, hi, hbw, hP, hQ, hsz⟩ := hrel
    have hst := Lib.hid (And.intro hbw (And.intro hP (And.intro hQ hsz)))
    obtain ⟨p0, p1, _, _⟩ := box2 hP
    obtain ⟨q0, q1, _, _⟩ := box2 hQ
    clear hbw hP hQ hsz
    by_cases hlt : i < p.vars.length
    · have hltI : (i : Int) < (p.vars.length : Int) := by omega
      have hI0 : (0 : Int) ≤ (i : Int) := by omega
      obtain ⟨g1, rfl, _, a0⟩ := vars_at (vars_keep hvh.out fun q hq => hst.out.1.block q (hFh1.out q hq)) i p.vars[i] (List.getElem?_eq_getElem hlt)
      obtain ⟨g2, rfl, _, b0⟩ := vars_at (vars_keep hvh'.out fun q hq => hst.out.1.block q (hFh2.out q hq)) i p.vars[i] (List.getElem?_eq_getElem hlt)
      generalize p.vars[i] = nm at a0 b0
      go_wp2
      go_quiet (fail)
      have hend := Lib.hid (same_round hst.out.1 hst.out.2.1 hst.out.2.2.1 hst.out.2.2.2 (below_drewN (Below.refl wr.heap.size wr) nq))
      go_wp2
      go_roundw
      case rel => exact ⟨i + 1, by go_num, hlt, hend.out⟩
      case measure => simp [intOf]; omega
    · have hltI : ¬ (i : Int) < (p.vars.length : Int) := by omega
      go_wp2
      clear p0 p1 q0 q1
      obtain ⟨wo, rfl⟩ : ∃ wo : World, wo = wr := ⟨_, rfl⟩
      go_loopw [6] (fun x wr => ∃ i : Nat, x = .int .i64 i ∧ i ≤ p.procs.length ∧ Below W.heap.size W wr ∧ wr.heap[W.heap.size]? = some (.cells #[.slice A p.vars.length c, .slice A2 p.procs.length c2] 42 (0, 0)) ∧ wr.heap[W.heap.size + 1]? = some (.cells #[.slice B p.vars.length d, .slice B2 p.procs.length d2] 42 (0, 0)) ∧ W.heap.size + 2 ≤ wr.heap.size) (fun x _ => p.procs.length - (intOf x).toNat)
      case atStart => exact ⟨0, rfl, Nat.zero_le _, hst.out⟩
      case round =>
        clear hst
        obtain ⟨j, rfl, hj, hbw, hP, hQ, hsz⟩ := hrel
        have hst := Lib.hid (And.intro hbw (And.intro hP (And.intro hQ hsz)))
        obtain ⟨p0, p1, _, _⟩ := box2 hP
        obtain ⟨q0, q1, _, _⟩ := box2 hQ
        clear hbw hP hQ hsz
        by_cases hlt2 : j < p.procs.length
        · have hltI2 : (j : Int) < (p.procs.length : Int) := by omega
          have hI0 : (0 : Int) ≤ (j : Int) := by omega
          obtain ⟨g1, D1, d1, rfl, _, a0, a1, hr1⟩ := procs_at (procs_keep hph.out fun q hq => hst.out.1.block q (hFh1.out q hq)) j p.procs[j] (List.getElem?_eq_getElem hlt2)
          obtain ⟨g2, D2, d2', rfl, _, b0, b1, hr2⟩ := procs_at (procs_keep hph'.out fun q hq => hst.out.1.block q (hFh2.out q hq)) j p.procs[j] (List.getElem?_eq_getElem hlt2)
          have hq := hsh.out.2.2.2 p.procs[j] (List.getElem_mem hlt2)
          have C := Lib.hid (fun wq (hq2 : Below wr.heap.size wr wq) => sameBlock_calls p.procs[j].body _ _ wq F1 F2 (hr1.below (fun q hq => Nat.lt_of_lt_of_le (hFh1.out q hq) hst.out.1.size) hq2) (hr2.below (fun q hq => Nat.lt_of_lt_of_le (hFh2.out q hq) hst.out.1.size) hq2) (fun q hq3 => Nat.lt_of_lt_of_le (Nat.lt_of_lt_of_le (hFh1.out q hq3) hst.out.1.size) hq2.size) (fun q hq3 => Nat.lt_of_lt_of_le (Nat.lt_of_lt_of_le (hFh2.out q hq3) hst.out.1.size) hq2.size) hq.2.1 hq.2.2)
          clear hr1 hr2 hq
          generalize p.procs[j].name = nm at a0 b0
          generalize p.procs[j].body.length = nb at C a1 b1
          have hdr := Lib.hid (Below.drew (Below.refl wr.heap.size wr))
          have hkeep := Lib.hid (fun w3 (hb3 : Below wr.drew.heap.size wr.drew w3) => same_cells p1 q1 a0 b0 a1 b1 (below_chain hdr.out hb3))
          go_wp2
          go_region_held3 (fun w' => w'.cell? ⟨W.heap.size, 1, none⟩ = some (.slice (some ⟨g1, 0, none⟩) p.procs.length c2) ∧ w'.cell? ⟨W.heap.size + 1, 1, none⟩ = some (.slice (some ⟨g2, 0, none⟩) p.procs.length d2) ∧ w'.cell? ⟨g1, j * 2, none⟩ = some (.string nm) ∧ w'.cell? ⟨g2, j * 2, none⟩ = some (.string nm) ∧ w'.cell? ⟨g1, j * 2 + 1, none⟩ = some (.slice D1 nb d1) ∧ w'.cell? ⟨g2, j * 2 + 1, none⟩ = some (.slice D2 nb d2')) (first | go_keep | exact hkeep.out _ hb3)
            (first | (go_at_call 31; refine (C.out _ hdr.out).mono ?_; rintro e w3 ⟨rfl, hb3⟩))
          have hend := Lib.hid (same_round hst.out.1 hst.out.2.1 hst.out.2.2.1 hst.out.2.2.2 (show Below wr.heap.size wr _ from below_chain hdr.out hb3))
          clear hb3
          go_wp2
          go_roundw
          case rel => exact ⟨j + 1, by go_num, hlt2, hend.out⟩
          case measure => simp [intOf]; omega
        · have hltI2 : ¬ (j : Int) < (p.procs.length : Int) := by omega
          go_wp2
          go_ret
          exact ⟨rfl, hst.out.1⟩
end Go.Proofs.YtifmalbdolpocaaDoor
