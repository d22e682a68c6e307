/-
  The walks of package syntax, sixteenth part: is a statement right, kind by kind (printed by mkright.py).
-/
import Derived.Test.YtifmalbdolpocaaDoorSynR
namespace Go.Proofs.YtifmalbdolpocaaDoor
open Go.RowKit Go.Shelf

theorem noText_eq (x : ByteArray) : Sx.noText x = decide (x.toList = []) := by
  unfold Sx.noText
  rw [ByteArray.toList_eq]
  cases x.data.toList <;> simp
theorem cast_eq (n m : Nat) : ((n : Int) == (m : Int)) = (n == m) := by
  rw [Bool.eq_iff_iff]; simp; omega
theorem two_below (W : World) (o o' : Obj) : Below W.heap.size W ((W.alloc o).alloc o') := ((Below.refl _ W).alloc (Nat.le_refl _) _).alloc (by simp) _
theorem bx_kept {W w1 : World} {cs ds : Array Value} (h : Below ((W.alloc (Obj.cells cs 107)).alloc (Obj.cells ds 107)).heap.size ((W.alloc (Obj.cells cs 107)).alloc (Obj.cells ds 107)) w1) : w1.heap[W.heap.size]? = some (.cells cs 107 (0, 0)) :=
  (h.block W.heap.size (by simp; omega)).trans ((Lib.alloc_old _ _ _ (by simp)).trans (World.alloc_heap_new W _))
theorem name_b (x : ByteArray) (hx : Sx.shortT x) (b : Bool) (hb : Sx.nameB x.data.toList = b) (W : World) (hE : Env W) : Hid (∀ w1, Below W.heap.size W w1 → Calls Tryd.prog 54 #[.string x] w1 fun e w' => e = .returned (.bool b) ∧ Below w1.heap.size w1 w') :=
  Lib.hid fun w1 h => by
    have := name_calls x hx w1 (hE.below h)
    rwa [hb] at this
set_option maxRecDepth 100000 in
set_option maxHeartbeats 4000000 in
theorem right_1 (x y : ByteArray) (k : Int) (A : Option Addr) (n cp : Nat) (W : World) (_hn : n ≤ 281474976710656) :
    Calls Tryd.prog 74 #[.agg #[.int .i64 1, .string x, .string y, .int .i64 k, .slice A n cp]] W fun e W' => e = .returned (.bool (Sx.noText x && Sx.noText y && k == 0 && n == 0)) ∧ Below W.heap.size W W' := by
  have hB := Lib.hid (two_below W)
  have hnx := Lib.hid (noText_eq x)
  have hny := Lib.hid (noText_eq y)
  have hc0 := Lib.hid (cast_eq n 0)
  have hc1 := Lib.hid (cast_eq n 1)
  go_enter Tryd.func74, Tryd.ntmps74
  go_wp2
  all_goals
    go_ret
    refine ⟨?_, hB.out _ _⟩
    first | (simp [hnx.out, hny.out, *]; done) | (simp [hnx.out, hny.out, *]; exact hc0.out) | (simp [hnx.out, hny.out, *]; exact hc1.out) | (simp [hnx.out, hny.out, *]; omega)
set_option maxRecDepth 100000 in
set_option maxHeartbeats 4000000 in
theorem right_11 (x y : ByteArray) (k : Int) (A : Option Addr) (n cp : Nat) (W : World) (_hn : n ≤ 281474976710656) :
    Calls Tryd.prog 74 #[.agg #[.int .i64 11, .string x, .string y, .int .i64 k, .slice A n cp]] W fun e W' => e = .returned (.bool (Sx.noText x && Sx.noText y && k == 0 && n == 0)) ∧ Below W.heap.size W W' := by
  have hB := Lib.hid (two_below W)
  have hnx := Lib.hid (noText_eq x)
  have hny := Lib.hid (noText_eq y)
  have hc0 := Lib.hid (cast_eq n 0)
  have hc1 := Lib.hid (cast_eq n 1)
  go_enter Tryd.func74, Tryd.ntmps74
  go_wp2
  all_goals
    go_ret
    refine ⟨?_, hB.out _ _⟩
    first | (simp [hnx.out, hny.out, *]; done) | (simp [hnx.out, hny.out, *]; exact hc0.out) | (simp [hnx.out, hny.out, *]; exact hc1.out) | (simp [hnx.out, hny.out, *]; omega)
set_option maxRecDepth 100000 in
set_option maxHeartbeats 4000000 in
theorem right_2 (x y : ByteArray) (k : Int) (A : Option Addr) (n cp : Nat) (W : World) (_hn : n ≤ 281474976710656) (hx : Sx.shortT x) (hE : Env W) :
    Calls Tryd.prog 74 #[.agg #[.int .i64 2, .string x, .string y, .int .i64 k, .slice A n cp]] W fun e W' => e = .returned (.bool (Sx.nameB x.data.toList && Sx.noText y && n == 0)) ∧ Below W.heap.size W W' := by
  have hB := Lib.hid (two_below W)
  have hnx := Lib.hid (noText_eq x)
  have hny := Lib.hid (noText_eq y)
  have hc0 := Lib.hid (cast_eq n 0)
  have hc1 := Lib.hid (cast_eq n 1)
  have X := name_b x hx _ rfl W hE
  generalize Sx.nameB x.data.toList = bx at X ⊢
  clear hE
  cases bx
  all_goals
    go_enter Tryd.func74, Tryd.ntmps74
    go_wp2_with (first | (go_at_call 54; refine (X.out _ (hB.out _ _)).mono ?_; rintro e w1 ⟨rfl, hb1⟩; obtain ⟨p0, p1, p2, p3, p4, _, _, _, _, _⟩ := box5 (bx_kept hb1)))
    all_goals
      go_ret
      refine ⟨?_, below_chain (hB.out _ _) hb1⟩
      first | (simp [hny.out, *]; done) | (simp [hny.out, *]; exact hc0.out) | (simp [hny.out, *]; exact hc1.out) | (simp [hny.out, *]; omega)
set_option maxRecDepth 100000 in
set_option maxHeartbeats 4000000 in
theorem right_4 (x y : ByteArray) (k : Int) (A : Option Addr) (n cp : Nat) (W : World) (_hn : n ≤ 281474976710656) (hx : Sx.shortT x) (hE : Env W) :
    Calls Tryd.prog 74 #[.agg #[.int .i64 4, .string x, .string y, .int .i64 k, .slice A n cp]] W fun e W' => e = .returned (.bool (Sx.nameB x.data.toList && Sx.noText y && k == 0 && n == 0)) ∧ Below W.heap.size W W' := by
  have hB := Lib.hid (two_below W)
  have hnx := Lib.hid (noText_eq x)
  have hny := Lib.hid (noText_eq y)
  have hc0 := Lib.hid (cast_eq n 0)
  have hc1 := Lib.hid (cast_eq n 1)
  have X := name_b x hx _ rfl W hE
  generalize Sx.nameB x.data.toList = bx at X ⊢
  clear hE
  cases bx
  all_goals
    go_enter Tryd.func74, Tryd.ntmps74
    go_wp2_with (first | (go_at_call 54; refine (X.out _ (hB.out _ _)).mono ?_; rintro e w1 ⟨rfl, hb1⟩; obtain ⟨p0, p1, p2, p3, p4, _, _, _, _, _⟩ := box5 (bx_kept hb1)))
    all_goals
      go_ret
      refine ⟨?_, below_chain (hB.out _ _) hb1⟩
      first | (simp [hny.out, *]; done) | (simp [hny.out, *]; exact hc0.out) | (simp [hny.out, *]; exact hc1.out) | (simp [hny.out, *]; omega)
set_option maxRecDepth 100000 in
set_option maxHeartbeats 4000000 in
theorem right_5 (x y : ByteArray) (k : Int) (A : Option Addr) (n cp : Nat) (W : World) (_hn : n ≤ 281474976710656) (hx : Sx.shortT x) (hE : Env W) :
    Calls Tryd.prog 74 #[.agg #[.int .i64 5, .string x, .string y, .int .i64 k, .slice A n cp]] W fun e W' => e = .returned (.bool (Sx.nameB x.data.toList && Sx.noText y && k == 0 && n == 0)) ∧ Below W.heap.size W W' := by
  have hB := Lib.hid (two_below W)
  have hnx := Lib.hid (noText_eq x)
  have hny := Lib.hid (noText_eq y)
  have hc0 := Lib.hid (cast_eq n 0)
  have hc1 := Lib.hid (cast_eq n 1)
  have X := name_b x hx _ rfl W hE
  generalize Sx.nameB x.data.toList = bx at X ⊢
  clear hE
  cases bx
  all_goals
    go_enter Tryd.func74, Tryd.ntmps74
    go_wp2_with (first | (go_at_call 54; refine (X.out _ (hB.out _ _)).mono ?_; rintro e w1 ⟨rfl, hb1⟩; obtain ⟨p0, p1, p2, p3, p4, _, _, _, _, _⟩ := box5 (bx_kept hb1)))
    all_goals
      go_ret
      refine ⟨?_, below_chain (hB.out _ _) hb1⟩
      first | (simp [hny.out, *]; done) | (simp [hny.out, *]; exact hc0.out) | (simp [hny.out, *]; exact hc1.out) | (simp [hny.out, *]; omega)
set_option maxRecDepth 100000 in
set_option maxHeartbeats 4000000 in
theorem right_6 (x y : ByteArray) (k : Int) (A : Option Addr) (n cp : Nat) (W : World) (_hn : n ≤ 281474976710656) (hx : Sx.shortT x) (hE : Env W) :
    Calls Tryd.prog 74 #[.agg #[.int .i64 6, .string x, .string y, .int .i64 k, .slice A n cp]] W fun e W' => e = .returned (.bool (Sx.nameB x.data.toList && Sx.noText y && k == 0 && n == 0)) ∧ Below W.heap.size W W' := by
  have hB := Lib.hid (two_below W)
  have hnx := Lib.hid (noText_eq x)
  have hny := Lib.hid (noText_eq y)
  have hc0 := Lib.hid (cast_eq n 0)
  have hc1 := Lib.hid (cast_eq n 1)
  have X := name_b x hx _ rfl W hE
  generalize Sx.nameB x.data.toList = bx at X ⊢
  clear hE
  cases bx
  all_goals
    go_enter Tryd.func74, Tryd.ntmps74
    go_wp2_with (first | (go_at_call 54; refine (X.out _ (hB.out _ _)).mono ?_; rintro e w1 ⟨rfl, hb1⟩; obtain ⟨p0, p1, p2, p3, p4, _, _, _, _, _⟩ := box5 (bx_kept hb1)))
    all_goals
      go_ret
      refine ⟨?_, below_chain (hB.out _ _) hb1⟩
      first | (simp [hny.out, *]; done) | (simp [hny.out, *]; exact hc0.out) | (simp [hny.out, *]; exact hc1.out) | (simp [hny.out, *]; omega)
set_option maxRecDepth 100000 in
set_option maxHeartbeats 4000000 in
theorem right_7 (x y : ByteArray) (k : Int) (A : Option Addr) (n cp : Nat) (W : World) (_hn : n ≤ 281474976710656) (hx : Sx.shortT x) (hE : Env W) :
    Calls Tryd.prog 74 #[.agg #[.int .i64 7, .string x, .string y, .int .i64 k, .slice A n cp]] W fun e W' => e = .returned (.bool (Sx.nameB x.data.toList && Sx.noText y && k == 0 && n == 0)) ∧ Below W.heap.size W W' := by
  have hB := Lib.hid (two_below W)
  have hnx := Lib.hid (noText_eq x)
  have hny := Lib.hid (noText_eq y)
  have hc0 := Lib.hid (cast_eq n 0)
  have hc1 := Lib.hid (cast_eq n 1)
  have X := name_b x hx _ rfl W hE
  generalize Sx.nameB x.data.toList = bx at X ⊢
  clear hE
  cases bx
  all_goals
    go_enter Tryd.func74, Tryd.ntmps74
    go_wp2_with (first | (go_at_call 54; refine (X.out _ (hB.out _ _)).mono ?_; rintro e w1 ⟨rfl, hb1⟩; obtain ⟨p0, p1, p2, p3, p4, _, _, _, _, _⟩ := box5 (bx_kept hb1)))
    all_goals
      go_ret
      refine ⟨?_, below_chain (hB.out _ _) hb1⟩
      first | (simp [hny.out, *]; done) | (simp [hny.out, *]; exact hc0.out) | (simp [hny.out, *]; exact hc1.out) | (simp [hny.out, *]; omega)
set_option maxRecDepth 100000 in
set_option maxHeartbeats 4000000 in
theorem right_12 (x y : ByteArray) (k : Int) (A : Option Addr) (n cp : Nat) (W : World) (_hn : n ≤ 281474976710656) (hx : Sx.shortT x) (hE : Env W) :
    Calls Tryd.prog 74 #[.agg #[.int .i64 12, .string x, .string y, .int .i64 k, .slice A n cp]] W fun e W' => e = .returned (.bool (Sx.nameB x.data.toList && Sx.noText y && k == 0 && n == 0)) ∧ Below W.heap.size W W' := by
  have hB := Lib.hid (two_below W)
  have hnx := Lib.hid (noText_eq x)
  have hny := Lib.hid (noText_eq y)
  have hc0 := Lib.hid (cast_eq n 0)
  have hc1 := Lib.hid (cast_eq n 1)
  have X := name_b x hx _ rfl W hE
  generalize Sx.nameB x.data.toList = bx at X ⊢
  clear hE
  cases bx
  all_goals
    go_enter Tryd.func74, Tryd.ntmps74
    go_wp2_with (first | (go_at_call 54; refine (X.out _ (hB.out _ _)).mono ?_; rintro e w1 ⟨rfl, hb1⟩; obtain ⟨p0, p1, p2, p3, p4, _, _, _, _, _⟩ := box5 (bx_kept hb1)))
    all_goals
      go_ret
      refine ⟨?_, below_chain (hB.out _ _) hb1⟩
      first | (simp [hny.out, *]; done) | (simp [hny.out, *]; exact hc0.out) | (simp [hny.out, *]; exact hc1.out) | (simp [hny.out, *]; omega)
set_option maxRecDepth 100000 in
set_option maxHeartbeats 4000000 in
theorem right_3 (x y : ByteArray) (k : Int) (A : Option Addr) (n cp : Nat) (W : World) (_hn : n ≤ 281474976710656) (hx : Sx.shortT x) (hy : Sx.shortT y) (hE : Env W) :
    Calls Tryd.prog 74 #[.agg #[.int .i64 3, .string x, .string y, .int .i64 k, .slice A n cp]] W fun e W' => e = .returned (.bool (Sx.nameB x.data.toList && Sx.nameB y.data.toList && k == 0 && n == 0)) ∧ Below W.heap.size W W' := by
  have hB := Lib.hid (two_below W)
  have hnx := Lib.hid (noText_eq x)
  have hny := Lib.hid (noText_eq y)
  have hc0 := Lib.hid (cast_eq n 0)
  have hc1 := Lib.hid (cast_eq n 1)
  have X := name_b x hx _ rfl W hE
  generalize Sx.nameB x.data.toList = bx at X ⊢
  have Y := name_b y hy _ rfl W hE
  generalize Sx.nameB y.data.toList = by1 at Y ⊢
  clear hE
  cases bx
  all_goals
    cases by1
    all_goals
      go_enter Tryd.func74, Tryd.ntmps74
      go_wp2_with (first | (go_at_call 54; first | ((with_reducible refine (X.out _ (hB.out _ _)).mono ?_); rintro e w1 ⟨rfl, hb1⟩; obtain ⟨p0, p1, p2, p3, p4, _, _, _, _, _⟩ := box5 (bx_kept hb1)) | ((with_reducible refine (Y.out _ (below_chain (hB.out _ _) hb1)).mono ?_); rintro e w2 ⟨rfl, hb2⟩; obtain ⟨q0, q1, q2, q3, q4, _, _, _, _, _⟩ := box5 ((hb2.block _ (Array.getElem?_eq_some_iff.1 (bx_kept hb1)).1).trans (bx_kept hb1)))))
      all_goals
        go_ret
        refine ⟨?_, (by first | exact below_chain (below_chain (hB.out _ _) hb1) hb2 | exact below_chain (hB.out _ _) hb1)⟩
        first | (simp [*]; done) | (simp [*]; exact hc0.out) | (simp [*]; exact hc1.out) | (simp [*]; omega)
set_option maxRecDepth 100000 in
set_option maxHeartbeats 4000000 in
theorem right_8 (x y : ByteArray) (k : Int) (A : Option Addr) (n cp : Nat) (W : World) (_hn : n ≤ 281474976710656) (hx : Sx.shortT x) (hy : Sx.shortT y) (hE : Env W) :
    Calls Tryd.prog 74 #[.agg #[.int .i64 8, .string x, .string y, .int .i64 k, .slice A n cp]] W fun e W' => e = .returned (.bool (Sx.nameB x.data.toList && (Sx.noText y || Sx.nameB y.data.toList) && k == 0 && n == 0)) ∧ Below W.heap.size W W' := by
  have hB := Lib.hid (two_below W)
  have hnx := Lib.hid (noText_eq x)
  have hny := Lib.hid (noText_eq y)
  have hc0 := Lib.hid (cast_eq n 0)
  have hc1 := Lib.hid (cast_eq n 1)
  have X := name_b x hx _ rfl W hE
  generalize Sx.nameB x.data.toList = bx at X ⊢
  have Y := name_b y hy _ rfl W hE
  generalize Sx.nameB y.data.toList = by1 at Y ⊢
  clear hE
  cases bx
  all_goals
    cases by1
    all_goals
      go_enter Tryd.func74, Tryd.ntmps74
      go_wp2_with (first | (go_at_call 54; first | ((with_reducible refine (X.out _ (hB.out _ _)).mono ?_); rintro e w1 ⟨rfl, hb1⟩; obtain ⟨p0, p1, p2, p3, p4, _, _, _, _, _⟩ := box5 (bx_kept hb1)) | ((with_reducible refine (Y.out _ (below_chain (hB.out _ _) hb1)).mono ?_); rintro e w2 ⟨rfl, hb2⟩; obtain ⟨q0, q1, q2, q3, q4, _, _, _, _, _⟩ := box5 ((hb2.block _ (Array.getElem?_eq_some_iff.1 (bx_kept hb1)).1).trans (bx_kept hb1)))))
      all_goals
        go_ret
        refine ⟨?_, (by first | exact below_chain (below_chain (hB.out _ _) hb1) hb2 | exact below_chain (hB.out _ _) hb1)⟩
        first | (simp [hny.out, *]; done) | (simp [hny.out, *]; exact hc0.out) | (simp [hny.out, *]; exact hc1.out) | (simp [hny.out, *]; omega)
set_option maxRecDepth 100000 in
set_option maxHeartbeats 4000000 in
theorem right_9 (x y : ByteArray) (k : Int) (A : Option Addr) (n cp : Nat) (W : World) (_hn : n ≤ 281474976710656) :
    Calls Tryd.prog 74 #[.agg #[.int .i64 9, .string x, .string y, .int .i64 k, .slice A n cp]] W fun e W' => e = .returned (.bool (Sx.noText x && Sx.noText y && k == 0 && decide (2 ≤ n))) ∧ Below W.heap.size W W' := by
  have hB := Lib.hid (two_below W)
  have hnx := Lib.hid (noText_eq x)
  have hny := Lib.hid (noText_eq y)
  have hc0 := Lib.hid (cast_eq n 0)
  have hc1 := Lib.hid (cast_eq n 1)
  go_enter Tryd.func74, Tryd.ntmps74
  go_wp2
  all_goals
    go_ret
    refine ⟨?_, hB.out _ _⟩
    first | (simp [hnx.out, hny.out, *]; done) | (simp [hnx.out, hny.out, *]; exact hc0.out) | (simp [hnx.out, hny.out, *]; exact hc1.out) | (simp [hnx.out, hny.out, *]; omega)
set_option maxRecDepth 100000 in
set_option maxHeartbeats 4000000 in
theorem right_10 (x y : ByteArray) (k : Int) (A : Option Addr) (n cp : Nat) (W : World) (_hn : n ≤ 281474976710656) :
    Calls Tryd.prog 74 #[.agg #[.int .i64 10, .string x, .string y, .int .i64 k, .slice A n cp]] W fun e W' => e = .returned (.bool (Sx.noText x && Sx.noText y && k == 0 && n == 1)) ∧ Below W.heap.size W W' := by
  have hB := Lib.hid (two_below W)
  have hnx := Lib.hid (noText_eq x)
  have hny := Lib.hid (noText_eq y)
  have hc0 := Lib.hid (cast_eq n 0)
  have hc1 := Lib.hid (cast_eq n 1)
  go_enter Tryd.func74, Tryd.ntmps74
  go_wp2
  all_goals
    go_ret
    refine ⟨?_, hB.out _ _⟩
    first | (simp [hnx.out, hny.out, *]; done) | (simp [hnx.out, hny.out, *]; exact hc0.out) | (simp [hnx.out, hny.out, *]; exact hc1.out) | (simp [hnx.out, hny.out, *]; omega)
end Go.Proofs.YtifmalbdolpocaaDoor
