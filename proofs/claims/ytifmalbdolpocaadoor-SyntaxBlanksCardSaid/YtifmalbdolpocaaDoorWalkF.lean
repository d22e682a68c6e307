/-
  The walks of package words, sixth part: Split's deferred closure.
-/
import Derived.Test.YtifmalbdolpocaaDoorWalkE
import Derived.RecoverIn
import Derived.RegionTactic
import Derived.ChangeAlike
import Derived.BigRegion
namespace Go.Proofs.YtifmalbdolpocaaDoor
open Go.RowKit Go.Shelf

theorem assert_fault (v : Value) (w : World) : (Instr.typeAssert (.iface 48 v) 20 48 true).run Tryd.prog w = .ok (.tuple #[v, .bool true]) w := by kernel_rfl
set_option maxRecDepth 100000 in
set_option maxHeartbeats 400000 in
theorem catch_fault (n B : Nat) (line col code : Int) (older : List PanicEntry) (w : World) (v0 v1 v2 v3 : Value)
    (c0 : w.cell? ⟨B, 0, none⟩ = some v0) (c1 : w.cell? ⟨B + 1, 0, none⟩ = some v1) (c2 : w.cell? ⟨B + 2, 0, none⟩ = some v2) (c3 : w.cell? ⟨B + 3, 0, none⟩ = some v3)
    (f0 : w.frozen? ⟨B, 0, none⟩ = false) (f1 : w.frozen? ⟨B + 1, 0, none⟩ = false) (f2 : w.frozen? ⟨B + 2, 0, none⟩ = false) (f3 : w.frozen? ⟨B + 3, 0, none⟩ = false) (hB : B + 3 < w.heap.size) :
    CallsDIn Fence.wide n Tryd.prog 16 #[.pointer (some ⟨B, 0, none⟩), .pointer (some ⟨B + 1, 0, none⟩), .pointer (some ⟨B + 2, 0, none⟩), .pointer (some ⟨B + 3, 0, none⟩)]
      (.panicking ({ v := .iface 48 (.agg #[.int .i64 line, .int .i64 col, .int .i64 code]), recovered := false } :: older)) w fun e u' w' =>
      e = .returned (.tuple #[]) ∧ u' = .panicking ({ v := .iface 48 (.agg #[.int .i64 line, .int .i64 col, .int .i64 code]), recovered := true } :: older) ∧
      w'.cell? ⟨B, 0, none⟩ = some (.slice none 0 0) ∧ w'.cell? ⟨B + 1, 0, none⟩ = some (.int .i64 line) ∧ w'.cell? ⟨B + 2, 0, none⟩ = some (.int .i64 col) ∧ w'.cell? ⟨B + 3, 0, none⟩ = some (.int .i64 code) ∧ Below B w w' := by
  refine callsDIn_of_wpSIn Tryd.func16 rfl trivial fun c₀ cs hu => ?_
  simp only [Tryd.ntmps16, List.size_toArray, List.length_cons, List.length_nil, Nat.reduceAdd, Nat.reduceSub, Array.replicate_succ, Array.replicate_zero, List.push_toArray, List.append_toArray, List.nil_append, List.cons_append]
  apply wpSIn_seq
  apply wpSIn_region
  have hFd : Fence.wide.depth.isSome = false := rfl
  simp [wpOpsSIn, go_sem, recoverD, hu, Exit.thenS]
  refine wpSIn_of_wpIn rfl (wpIn_wide.2 ?_)
  have hta := assert_fault
  go_wp2
  have n0 : ¬ B = w.heap.size := by omega
  have n1 : ¬ B + 1 = w.heap.size := by omega
  have n2 : ¬ B + 2 = w.heap.size := by omega
  have n3 : ¬ B + 3 = w.heap.size := by omega
  obtain ⟨W, hW⟩ : ∃ W, w.alloc (Obj.cells #[Value.int IntKind.i64 line, Value.int IntKind.i64 col, Value.int IntKind.i64 code] 48) = W := ⟨_, rfl⟩
  have hbw : Below w.heap.size w W := by rw [← hW]; exact (Below.refl _ _).alloc (Nat.le_refl _) _
  have g0 : W.cell? ⟨B, 0, none⟩ = some v0 := (hbw.cell (p := ⟨B, 0, none⟩) (show B < _ by omega)).trans c0
  have g1 : W.cell? ⟨B + 1, 0, none⟩ = some v1 := (hbw.cell (p := ⟨B + 1, 0, none⟩) (show B + 1 < _ by omega)).trans c1
  have g2 : W.cell? ⟨B + 2, 0, none⟩ = some v2 := (hbw.cell (p := ⟨B + 2, 0, none⟩) (show B + 2 < _ by omega)).trans c2
  have g3 : W.cell? ⟨B + 3, 0, none⟩ = some v3 := (hbw.cell (p := ⟨B + 3, 0, none⟩) (show B + 3 < _ by omega)).trans c3
  have k0 : W.frozen? ⟨B, 0, none⟩ = false := (hbw.frozen (p := ⟨B, 0, none⟩) (show B < _ by omega)).trans f0
  have k1 : W.frozen? ⟨B + 1, 0, none⟩ = false := (hbw.frozen (p := ⟨B + 1, 0, none⟩) (show B + 1 < _ by omega)).trans f1
  have k2 : W.frozen? ⟨B + 2, 0, none⟩ = false := (hbw.frozen (p := ⟨B + 2, 0, none⟩) (show B + 2 < _ by omega)).trans f2
  have k3 : W.frozen? ⟨B + 3, 0, none⟩ = false := (hbw.frozen (p := ⟨B + 3, 0, none⟩) (show B + 3 < _ by omega)).trans f3
  clear hbw
  have x0 : W.cell? ⟨w.heap.size, 0, none⟩ = some (.int .i64 line) := by rw [← hW]; simp [go_sem]
  have x1 : W.cell? ⟨w.heap.size, 1, none⟩ = some (.int .i64 col) := by rw [← hW]; simp [go_sem]
  have x2 : W.cell? ⟨w.heap.size, 2, none⟩ = some (.int .i64 code) := by rw [← hW]; simp [go_sem]
  have hbW : Below B w W := by rw [← hW]; exact (Below.refl _ _).alloc (by omega) _
  rw [hW]
  clear hW c0 c1 c2 c3 f0 f1 f2 f3 hta
  generalize w.heap.size = H at *
  go_region
  refine ⟨rfl, _, rfl, .tuple #[], ?_, rfl, rfl, ?_, ?_, ?_, ?_, ?_⟩
  · simp [results, Tryd.results16, go_sem]
  · simp [go_sem, g0]
  · simp [go_sem, g1]
  · simp [go_sem, g2]
  · simp [go_sem, g3]
  · exact ((((hbW.setCell (Nat.le_refl _) _).setCell (Nat.le_add_right _ _) _).setCell (Nat.le_add_right _ _) _).setCell (Nat.le_add_right _ _) _).drew

set_option maxRecDepth 100000 in
set_option maxHeartbeats 400000 in
theorem catch_idle (n : Nat) (v0 v1 v2 v3 : Value) (w : World) :
    CallsDIn Fence.wide n Tryd.prog 16 #[v0, v1, v2, v3] .returning w fun e u' w' => e = .returned (.tuple #[]) ∧ u' = .returning ∧ w' = w := by
  refine callsDIn_of_wpSIn Tryd.func16 rfl trivial fun c₀ cs hu => ?_
  simp only [Tryd.ntmps16, List.size_toArray, List.length_cons, List.length_nil, Nat.reduceAdd, Nat.reduceSub, Array.replicate_succ, Array.replicate_zero, List.push_toArray, List.append_toArray, List.nil_append, List.cons_append]
  apply wpSIn_seq
  apply wpSIn_region
  have hFd : Fence.wide.depth.isSome = false := rfl
  simp [wpOpsSIn, go_sem, recoverD, hu, Exit.thenS]
  refine wpSIn_of_wpIn rfl (wpIn_wide.2 ?_)
  go_wp2
  exact ⟨rfl, _, by cases c₀; simp_all, .tuple #[], by simp [results, Tryd.results16, go_sem], rfl, rfl, rfl⟩
end Go.Proofs.YtifmalbdolpocaaDoor
