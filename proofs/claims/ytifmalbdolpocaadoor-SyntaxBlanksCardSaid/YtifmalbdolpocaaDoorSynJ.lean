/-
  The walks of package syntax, tenth part: a statement, case by case (printed by mkstmt.py).
-/
import Derived.Test.YtifmalbdolpocaaDoorSynI
namespace Go.Proofs.YtifmalbdolpocaaDoor
open Go.RowKit Go.Shelf

theorem st_far {W w1 w2 : World} {R : Nat} {o : Obj} {F : Nat → Prop} (hg1 : (W.alloc o).grownBy w1 (some R)) (hF : ∀ g, F g → w1.heap.size ≤ g ∧ g < w2.heap.size) : ∀ g, F g → W.heap.size < g ∧ g < w2.heap.size := by
  intro g hg
  have := hg1.size
  rw [World.size_alloc] at this
  have := hF g hg
  omega
theorem loop_tree {w : World} {F : Nat → Prop} {A : Option Addr} {b : List Sx.St} {cp : Nat} (hF : ∀ g, F g → g < w.heap.size) (hk : b = [] ∨ ∃ g cur, A = some ⟨g, 0, none⟩ ∧ F g ∧ w.heap[g]? = some (.cells cur 107 (0, 0)) ∧ HCells w F cur.toList b) :
    HSt (w.alloc (Obj.cells #[Value.slice A b.length cp] 80)) (fun q => F q ∨ q = w.heap.size) (.agg #[.int .i64 10, .string ⟨#[]⟩, .string ⟨#[]⟩, .int .i64 0, .slice (some ⟨w.heap.size, 0, none⟩) 1 1]) (.mk 10 Sx.e0 Sx.e0 0 [b]) := by
  refine ⟨_, 1, rfl, .inr ⟨w.heap.size, _, rfl, .inr rfl, World.alloc_heap_new w _, ?_⟩⟩
  simp only [HKids]
  refine ⟨A, cp, [], rfl, ?_, trivial⟩
  have KF : ∀ q, F q → (w.alloc (Obj.cells #[Value.slice A b.length cp] 80)).heap[q]? = w.heap[q]? := fun q hq => Lib.alloc_old _ _ _ (hF q hq)
  rcases hk with h0 | ⟨g0, cur, e1, hf, hgc, hh⟩
  · exact .inl h0
  · exact .inr ⟨g0, cur, e1, .inl hf, (KF g0 hf).trans hgc, hh.keep fun q hq => ⟨.inl hq, KF q hq⟩⟩
set_option maxRecDepth 100000 in
set_option maxHeartbeats 4000000 in
theorem stmt_none (R : Nat) (all : List ITok) (i : Nat) (line col : Int) (W : World) (h : RD W R all i line col) (hm : all.length ≤ 9223372036854775807) (ht : all[i]? = none) :
    Calls Tryd.prog 71 #[.pointer (some ⟨R, 0, none⟩)] W (Post W R all line col HSt (.error i)) := by
  have h0 := rd_alloc h (Obj.cells #[Value.int IntKind.i64 0, Value.string { data := #[] }, Value.string { data := #[] }, Value.int IntKind.i64 0, Value.slice none 0 0] 107)
  have hb0' := Lib.hid (show Below W.heap.size W (W.alloc (Obj.cells #[Value.int IntKind.i64 0, Value.string { data := #[] }, Value.string { data := #[] }, Value.int IntKind.i64 0, Value.slice none 0 0] 107)) from (Below.refl _ W).alloc (Nat.le_refl _) _)
  obtain ⟨A, cp, c0⟩ := rd_end h0 ht
  have Fl := Lib.hid (fail_calls R all i line col _ h0 hm)
  clear h hm ht h0
  go_enter Tryd.func71, Tryd.ntmps71
  go_wp2_with (go_at_call 70; refine Fl.out.mono ?_; rintro e w3 ⟨rfl, hb3⟩)
  exact ⟨rfl, (grown_below hb0'.out _).trans (grown_below hb3 _), rfl⟩
set_option maxRecDepth 100000 in
set_option maxHeartbeats 4000000 in
theorem stmt_skip (R : Nat) (all : List ITok) (i : Nat) (line col : Int) (res : Except Nat (Sx.St × Nat)) (hres : Sx.endedP (.mk 1 Sx.e0 Sx.e0 0 []) (bare all) (i + 1) = some res) (W : World) (h : RD W R all i line col) (hE : Env W) (_hR : 4 ≤ R) (hm : all.length ≤ 9223372036854775807) (_hsh : Short all) (t : ITok) (ht : all[i]? = some t)
    (hx : t.text = ⟨#[115, 107, 105, 112]⟩) :
    Calls Tryd.prog 71 #[.pointer (some ⟨R, 0, none⟩)] W (Post W R all line col HSt res) := by
  have h0 := rd_alloc h (Obj.cells #[Value.int IntKind.i64 0, Value.string { data := #[] }, Value.string { data := #[] }, Value.int IntKind.i64 0, Value.slice none 0 0] 107)
  have hb0 := (show Below W.heap.size W (W.alloc (Obj.cells #[Value.int IntKind.i64 0, Value.string { data := #[] }, Value.string { data := #[] }, Value.int IntKind.i64 0, Value.slice none 0 0] 107)) from (Below.refl _ W).alloc (Nat.le_refl _) _)
  have hE0 := hE.below hb0
  have hb0' := Lib.hid hb0
  have hE0' := Lib.hid hE0
  obtain ⟨ad, n0, cp, c0, hn0, hn1, d0, d1⟩ := rd_head h0 ht hm
  have N := Lib.hid (next_calls R all i line col _ h0 hm t ht)
  have hRlt := Lib.hid h.lt
  have D := Lib.hid (fun w1 (hr : RD w1 R all (i + 1) line col) => ended_calls R all (i + 1) line col 1 0 Sx.e0 Sx.e0 res hres w1 hr hm none 0)
  rw [hx] at d1
  clear h hm ht h0 hres hx hE hE0 hb0
  rcases res with je | ⟨⟨kind, x, y, k, kids⟩, j2⟩
  · go_enter Tryd.func71, Tryd.ntmps71
    go_wp2_with (first | (go_at_call 50; refine N.out.mono ?_; rintro e w1 ⟨rfl, hg1, hr1⟩) | (go_at_call 89; refine (D.out _ hr1).mono ?_; rintro e w2 ⟨hg2, rfl⟩))
    exact ⟨rfl, ((grown_below hb0'.out _).trans hg1).trans hg2, rfl⟩
  · go_enter Tryd.func71, Tryd.ntmps71
    go_wp2_with (first | (go_at_call 50; refine N.out.mono ?_; rintro e w1 ⟨rfl, hg1, hr1⟩) | (go_at_call 89; refine (D.out _ hr1).mono ?_; rintro e w2 ⟨hg2, hr2, v, F, rfl, hF, A, cp, rfl, hk⟩; have hgA := hg1.trans hg2; have hz := zero_at hgA hRlt.out; obtain ⟨z0, z1, z2, z3, z4, f0, f1, f2, f3, f4⟩ := box5 hz; have hz := Lib.hid hz; have hF := Lib.hid hF; have hk := Lib.hid hk))
    obtain ⟨hfin, hpost⟩ := stmt_end hRlt.out hgA hr2 (F := F) (st_far hg1 hF.out) (show HSt w2 F (.agg #[.int .i64 kind, .string x, .string y, .int .i64 k, .slice A kids.length cp]) (.mk kind x y k kids) from ⟨A, cp, rfl, hk.out⟩)
    unfold put5 at hfin hpost
    obtain ⟨g0, g1, g2, g3, g4, _⟩ := box5 hfin
    exact ⟨rfl, _, by simp [results, Tryd.results71, go_sem, g0, g1, g2, g3, g4], hpost⟩
set_option maxRecDepth 100000 in
set_option maxHeartbeats 4000000 in
theorem stmt_return (R : Nat) (all : List ITok) (i : Nat) (line col : Int) (res : Except Nat (Sx.St × Nat)) (hres : Sx.endedP (.mk 11 Sx.e0 Sx.e0 0 []) (bare all) (i + 1) = some res) (W : World) (h : RD W R all i line col) (hE : Env W) (_hR : 4 ≤ R) (hm : all.length ≤ 9223372036854775807) (_hsh : Short all) (t : ITok) (ht : all[i]? = some t)
    (hx : t.text = ⟨#[114, 101, 116, 117, 114, 110]⟩) :
    Calls Tryd.prog 71 #[.pointer (some ⟨R, 0, none⟩)] W (Post W R all line col HSt res) := by
  have h0 := rd_alloc h (Obj.cells #[Value.int IntKind.i64 0, Value.string { data := #[] }, Value.string { data := #[] }, Value.int IntKind.i64 0, Value.slice none 0 0] 107)
  have hb0 := (show Below W.heap.size W (W.alloc (Obj.cells #[Value.int IntKind.i64 0, Value.string { data := #[] }, Value.string { data := #[] }, Value.int IntKind.i64 0, Value.slice none 0 0] 107)) from (Below.refl _ W).alloc (Nat.le_refl _) _)
  have hE0 := hE.below hb0
  have hb0' := Lib.hid hb0
  have hE0' := Lib.hid hE0
  obtain ⟨ad, n0, cp, c0, hn0, hn1, d0, d1⟩ := rd_head h0 ht hm
  have N := Lib.hid (next_calls R all i line col _ h0 hm t ht)
  have hRlt := Lib.hid h.lt
  have D := Lib.hid (fun w1 (hr : RD w1 R all (i + 1) line col) => ended_calls R all (i + 1) line col 11 0 Sx.e0 Sx.e0 res hres w1 hr hm none 0)
  rw [hx] at d1
  clear h hm ht h0 hres hx hE hE0 hb0
  rcases res with je | ⟨⟨kind, x, y, k, kids⟩, j2⟩
  · go_enter Tryd.func71, Tryd.ntmps71
    go_wp2_with (first | (go_at_call 50; refine N.out.mono ?_; rintro e w1 ⟨rfl, hg1, hr1⟩) | (go_at_call 89; refine (D.out _ hr1).mono ?_; rintro e w2 ⟨hg2, rfl⟩))
    exact ⟨rfl, ((grown_below hb0'.out _).trans hg1).trans hg2, rfl⟩
  · go_enter Tryd.func71, Tryd.ntmps71
    go_wp2_with (first | (go_at_call 50; refine N.out.mono ?_; rintro e w1 ⟨rfl, hg1, hr1⟩) | (go_at_call 89; refine (D.out _ hr1).mono ?_; rintro e w2 ⟨hg2, hr2, v, F, rfl, hF, A, cp, rfl, hk⟩; have hgA := hg1.trans hg2; have hz := zero_at hgA hRlt.out; obtain ⟨z0, z1, z2, z3, z4, f0, f1, f2, f3, f4⟩ := box5 hz; have hz := Lib.hid hz; have hF := Lib.hid hF; have hk := Lib.hid hk))
    obtain ⟨hfin, hpost⟩ := stmt_end hRlt.out hgA hr2 (F := F) (st_far hg1 hF.out) (show HSt w2 F (.agg #[.int .i64 kind, .string x, .string y, .int .i64 k, .slice A kids.length cp]) (.mk kind x y k kids) from ⟨A, cp, rfl, hk.out⟩)
    unfold put5 at hfin hpost
    obtain ⟨g0, g1, g2, g3, g4, _⟩ := box5 hfin
    exact ⟨rfl, _, by simp [results, Tryd.results71, go_sem, g0, g1, g2, g3, g4], hpost⟩
set_option maxRecDepth 100000 in
set_option maxHeartbeats 4000000 in
theorem stmt_mark (R : Nat) (all : List ITok) (i : Nat) (line col : Int) (res : Except Nat (Sx.St × Nat)) (hres : Sx.plainP 5 (bare all) (i + 1) = some res) (W : World) (h : RD W R all i line col) (hE : Env W) (hR : 4 ≤ R) (hm : all.length ≤ 9223372036854775807) (hsh : Short all) (t : ITok) (ht : all[i]? = some t)
    (hx : t.text = ⟨#[109, 97, 114, 107]⟩) :
    Calls Tryd.prog 71 #[.pointer (some ⟨R, 0, none⟩)] W (Post W R all line col HSt res) := by
  have h0 := rd_alloc h (Obj.cells #[Value.int IntKind.i64 0, Value.string { data := #[] }, Value.string { data := #[] }, Value.int IntKind.i64 0, Value.slice none 0 0] 107)
  have hb0 := (show Below W.heap.size W (W.alloc (Obj.cells #[Value.int IntKind.i64 0, Value.string { data := #[] }, Value.string { data := #[] }, Value.int IntKind.i64 0, Value.slice none 0 0] 107)) from (Below.refl _ W).alloc (Nat.le_refl _) _)
  have hE0 := hE.below hb0
  have hb0' := Lib.hid hb0
  have hE0' := Lib.hid hE0
  obtain ⟨ad, n0, cp, c0, hn0, hn1, d0, d1⟩ := rd_head h0 ht hm
  have N := Lib.hid (next_calls R all i line col _ h0 hm t ht)
  have hRlt := Lib.hid h.lt
  unfold Sx.plainP Sx.andR at hres
  rw [hx] at d1
  cases hn : Sx.nameP (bare all) (i + 1) with
  | none => exact absurd hn (nameP_not _ _)
  | some r1 =>
    rw [hn] at hres
    cases r1 with
    | error j =>
      simp at hres
      subst hres
      have X := Lib.hid (fun w1 (hr : RD w1 R all (i + 1) line col) (hE : Env w1) => rname_fault R all (i + 1) line col w1 hr hE hm hsh j hn)
      clear h hm ht h0 hx hE hE0 hb0 hn
      go_enter Tryd.func71, Tryd.ntmps71
      go_wp2_with (first | (go_at_call 50; refine N.out.mono ?_; rintro e w1 ⟨rfl, hg1, hr1⟩) | (go_at_call 51; refine (X.out _ hr1 (hE0'.out.grown hg1 hR)).mono ?_; rintro e w2 ⟨rfl, hb2⟩))
      exact ⟨rfl, ((grown_below hb0'.out _).trans hg1).trans (grown_below hb2 _), rfl⟩
    | ok p =>
      obtain ⟨x0, j⟩ := p
      simp only at hres
      have X := Lib.hid (fun w1 (hr : RD w1 R all (i + 1) line col) (hE : Env w1) => rname_calls R all (i + 1) line col w1 hr hE hm hsh x0 j hn)
      have D := Lib.hid (fun w1 (hr : RD w1 R all j line col) => ended_calls R all j line col 5 0 x0 Sx.e0 res hres w1 hr hm none 0)
      clear h hm ht h0 hres hx hE hE0 hb0 hn
      rcases res with je | ⟨⟨kind, x, y, k, kids⟩, j2⟩
      · go_enter Tryd.func71, Tryd.ntmps71
        go_wp2_with (first | (go_at_call 50; refine N.out.mono ?_; rintro e w1 ⟨rfl, hg1, hr1⟩) | (go_at_call 51; refine (X.out _ hr1 (hE0'.out.grown hg1 hR)).mono ?_; rintro e w3 ⟨rfl, hg3, hr3⟩) | (go_at_call 89; refine (D.out _ hr3).mono ?_; rintro e w2 ⟨hg2, rfl⟩))
        exact ⟨rfl, (((grown_below hb0'.out _).trans hg1).trans hg3).trans hg2, rfl⟩
      · go_enter Tryd.func71, Tryd.ntmps71
        go_wp2_with (first | (go_at_call 50; refine N.out.mono ?_; rintro e w1 ⟨rfl, hg1, hr1⟩) | (go_at_call 51; refine (X.out _ hr1 (hE0'.out.grown hg1 hR)).mono ?_; rintro e w3 ⟨rfl, hg3, hr3⟩) | (go_at_call 89; refine (D.out _ hr3).mono ?_; rintro e w2 ⟨hg2, hr2, v, F, rfl, hF, A, cp, rfl, hk⟩; have hgA := (hg1.trans hg3).trans hg2; have hz := zero_at hgA hRlt.out; obtain ⟨z0, z1, z2, z3, z4, f0, f1, f2, f3, f4⟩ := box5 hz; have hz := Lib.hid hz; have hF := Lib.hid hF; have hk := Lib.hid hk))
        obtain ⟨hfin, hpost⟩ := stmt_end hRlt.out hgA hr2 (F := F) (st_far (hg1.trans hg3) hF.out) (show HSt w2 F (.agg #[.int .i64 kind, .string x, .string y, .int .i64 k, .slice A kids.length cp]) (.mk kind x y k kids) from ⟨A, cp, rfl, hk.out⟩)
        unfold put5 at hfin hpost
        obtain ⟨g0, g1, g2, g3, g4, _⟩ := box5 hfin
        exact ⟨rfl, _, by simp [results, Tryd.results71, go_sem, g0, g1, g2, g3, g4], hpost⟩
set_option maxRecDepth 100000 in
set_option maxHeartbeats 4000000 in
theorem stmt_clean (R : Nat) (all : List ITok) (i : Nat) (line col : Int) (res : Except Nat (Sx.St × Nat)) (hres : Sx.plainP 6 (bare all) (i + 1) = some res) (W : World) (h : RD W R all i line col) (hE : Env W) (hR : 4 ≤ R) (hm : all.length ≤ 9223372036854775807) (hsh : Short all) (t : ITok) (ht : all[i]? = some t)
    (hx : t.text = ⟨#[99, 108, 101, 97, 110]⟩) :
    Calls Tryd.prog 71 #[.pointer (some ⟨R, 0, none⟩)] W (Post W R all line col HSt res) := by
  have h0 := rd_alloc h (Obj.cells #[Value.int IntKind.i64 0, Value.string { data := #[] }, Value.string { data := #[] }, Value.int IntKind.i64 0, Value.slice none 0 0] 107)
  have hb0 := (show Below W.heap.size W (W.alloc (Obj.cells #[Value.int IntKind.i64 0, Value.string { data := #[] }, Value.string { data := #[] }, Value.int IntKind.i64 0, Value.slice none 0 0] 107)) from (Below.refl _ W).alloc (Nat.le_refl _) _)
  have hE0 := hE.below hb0
  have hb0' := Lib.hid hb0
  have hE0' := Lib.hid hE0
  obtain ⟨ad, n0, cp, c0, hn0, hn1, d0, d1⟩ := rd_head h0 ht hm
  have N := Lib.hid (next_calls R all i line col _ h0 hm t ht)
  have hRlt := Lib.hid h.lt
  unfold Sx.plainP Sx.andR at hres
  rw [hx] at d1
  cases hn : Sx.nameP (bare all) (i + 1) with
  | none => exact absurd hn (nameP_not _ _)
  | some r1 =>
    rw [hn] at hres
    cases r1 with
    | error j =>
      simp at hres
      subst hres
      have X := Lib.hid (fun w1 (hr : RD w1 R all (i + 1) line col) (hE : Env w1) => rname_fault R all (i + 1) line col w1 hr hE hm hsh j hn)
      clear h hm ht h0 hx hE hE0 hb0 hn
      go_enter Tryd.func71, Tryd.ntmps71
      go_wp2_with (first | (go_at_call 50; refine N.out.mono ?_; rintro e w1 ⟨rfl, hg1, hr1⟩) | (go_at_call 51; refine (X.out _ hr1 (hE0'.out.grown hg1 hR)).mono ?_; rintro e w2 ⟨rfl, hb2⟩))
      exact ⟨rfl, ((grown_below hb0'.out _).trans hg1).trans (grown_below hb2 _), rfl⟩
    | ok p =>
      obtain ⟨x0, j⟩ := p
      simp only at hres
      have X := Lib.hid (fun w1 (hr : RD w1 R all (i + 1) line col) (hE : Env w1) => rname_calls R all (i + 1) line col w1 hr hE hm hsh x0 j hn)
      have D := Lib.hid (fun w1 (hr : RD w1 R all j line col) => ended_calls R all j line col 6 0 x0 Sx.e0 res hres w1 hr hm none 0)
      clear h hm ht h0 hres hx hE hE0 hb0 hn
      rcases res with je | ⟨⟨kind, x, y, k, kids⟩, j2⟩
      · go_enter Tryd.func71, Tryd.ntmps71
        go_wp2_with (first | (go_at_call 50; refine N.out.mono ?_; rintro e w1 ⟨rfl, hg1, hr1⟩) | (go_at_call 51; refine (X.out _ hr1 (hE0'.out.grown hg1 hR)).mono ?_; rintro e w3 ⟨rfl, hg3, hr3⟩) | (go_at_call 89; refine (D.out _ hr3).mono ?_; rintro e w2 ⟨hg2, rfl⟩))
        exact ⟨rfl, (((grown_below hb0'.out _).trans hg1).trans hg3).trans hg2, rfl⟩
      · go_enter Tryd.func71, Tryd.ntmps71
        go_wp2_with (first | (go_at_call 50; refine N.out.mono ?_; rintro e w1 ⟨rfl, hg1, hr1⟩) | (go_at_call 51; refine (X.out _ hr1 (hE0'.out.grown hg1 hR)).mono ?_; rintro e w3 ⟨rfl, hg3, hr3⟩) | (go_at_call 89; refine (D.out _ hr3).mono ?_; rintro e w2 ⟨hg2, hr2, v, F, rfl, hF, A, cp, rfl, hk⟩; have hgA := (hg1.trans hg3).trans hg2; have hz := zero_at hgA hRlt.out; obtain ⟨z0, z1, z2, z3, z4, f0, f1, f2, f3, f4⟩ := box5 hz; have hz := Lib.hid hz; have hF := Lib.hid hF; have hk := Lib.hid hk))
        obtain ⟨hfin, hpost⟩ := stmt_end hRlt.out hgA hr2 (F := F) (st_far (hg1.trans hg3) hF.out) (show HSt w2 F (.agg #[.int .i64 kind, .string x, .string y, .int .i64 k, .slice A kids.length cp]) (.mk kind x y k kids) from ⟨A, cp, rfl, hk.out⟩)
        unfold put5 at hfin hpost
        obtain ⟨g0, g1, g2, g3, g4, _⟩ := box5 hfin
        exact ⟨rfl, _, by simp [results, Tryd.results71, go_sem, g0, g1, g2, g3, g4], hpost⟩
set_option maxRecDepth 100000 in
set_option maxHeartbeats 4000000 in
theorem stmt_sink (R : Nat) (all : List ITok) (i : Nat) (line col : Int) (res : Except Nat (Sx.St × Nat)) (hres : Sx.plainP 7 (bare all) (i + 1) = some res) (W : World) (h : RD W R all i line col) (hE : Env W) (hR : 4 ≤ R) (hm : all.length ≤ 9223372036854775807) (hsh : Short all) (t : ITok) (ht : all[i]? = some t)
    (hx : t.text = ⟨#[115, 105, 110, 107]⟩) :
    Calls Tryd.prog 71 #[.pointer (some ⟨R, 0, none⟩)] W (Post W R all line col HSt res) := by
  have h0 := rd_alloc h (Obj.cells #[Value.int IntKind.i64 0, Value.string { data := #[] }, Value.string { data := #[] }, Value.int IntKind.i64 0, Value.slice none 0 0] 107)
  have hb0 := (show Below W.heap.size W (W.alloc (Obj.cells #[Value.int IntKind.i64 0, Value.string { data := #[] }, Value.string { data := #[] }, Value.int IntKind.i64 0, Value.slice none 0 0] 107)) from (Below.refl _ W).alloc (Nat.le_refl _) _)
  have hE0 := hE.below hb0
  have hb0' := Lib.hid hb0
  have hE0' := Lib.hid hE0
  obtain ⟨ad, n0, cp, c0, hn0, hn1, d0, d1⟩ := rd_head h0 ht hm
  have N := Lib.hid (next_calls R all i line col _ h0 hm t ht)
  have hRlt := Lib.hid h.lt
  unfold Sx.plainP Sx.andR at hres
  rw [hx] at d1
  cases hn : Sx.nameP (bare all) (i + 1) with
  | none => exact absurd hn (nameP_not _ _)
  | some r1 =>
    rw [hn] at hres
    cases r1 with
    | error j =>
      simp at hres
      subst hres
      have X := Lib.hid (fun w1 (hr : RD w1 R all (i + 1) line col) (hE : Env w1) => rname_fault R all (i + 1) line col w1 hr hE hm hsh j hn)
      clear h hm ht h0 hx hE hE0 hb0 hn
      go_enter Tryd.func71, Tryd.ntmps71
      go_wp2_with (first | (go_at_call 50; refine N.out.mono ?_; rintro e w1 ⟨rfl, hg1, hr1⟩) | (go_at_call 51; refine (X.out _ hr1 (hE0'.out.grown hg1 hR)).mono ?_; rintro e w2 ⟨rfl, hb2⟩))
      exact ⟨rfl, ((grown_below hb0'.out _).trans hg1).trans (grown_below hb2 _), rfl⟩
    | ok p =>
      obtain ⟨x0, j⟩ := p
      simp only at hres
      have X := Lib.hid (fun w1 (hr : RD w1 R all (i + 1) line col) (hE : Env w1) => rname_calls R all (i + 1) line col w1 hr hE hm hsh x0 j hn)
      have D := Lib.hid (fun w1 (hr : RD w1 R all j line col) => ended_calls R all j line col 7 0 x0 Sx.e0 res hres w1 hr hm none 0)
      clear h hm ht h0 hres hx hE hE0 hb0 hn
      rcases res with je | ⟨⟨kind, x, y, k, kids⟩, j2⟩
      · go_enter Tryd.func71, Tryd.ntmps71
        go_wp2_with (first | (go_at_call 50; refine N.out.mono ?_; rintro e w1 ⟨rfl, hg1, hr1⟩) | (go_at_call 51; refine (X.out _ hr1 (hE0'.out.grown hg1 hR)).mono ?_; rintro e w3 ⟨rfl, hg3, hr3⟩) | (go_at_call 89; refine (D.out _ hr3).mono ?_; rintro e w2 ⟨hg2, rfl⟩))
        exact ⟨rfl, (((grown_below hb0'.out _).trans hg1).trans hg3).trans hg2, rfl⟩
      · go_enter Tryd.func71, Tryd.ntmps71
        go_wp2_with (first | (go_at_call 50; refine N.out.mono ?_; rintro e w1 ⟨rfl, hg1, hr1⟩) | (go_at_call 51; refine (X.out _ hr1 (hE0'.out.grown hg1 hR)).mono ?_; rintro e w3 ⟨rfl, hg3, hr3⟩) | (go_at_call 89; refine (D.out _ hr3).mono ?_; rintro e w2 ⟨hg2, hr2, v, F, rfl, hF, A, cp, rfl, hk⟩; have hgA := (hg1.trans hg3).trans hg2; have hz := zero_at hgA hRlt.out; obtain ⟨z0, z1, z2, z3, z4, f0, f1, f2, f3, f4⟩ := box5 hz; have hz := Lib.hid hz; have hF := Lib.hid hF; have hk := Lib.hid hk))
        obtain ⟨hfin, hpost⟩ := stmt_end hRlt.out hgA hr2 (F := F) (st_far (hg1.trans hg3) hF.out) (show HSt w2 F (.agg #[.int .i64 kind, .string x, .string y, .int .i64 k, .slice A kids.length cp]) (.mk kind x y k kids) from ⟨A, cp, rfl, hk.out⟩)
        unfold put5 at hfin hpost
        obtain ⟨g0, g1, g2, g3, g4, _⟩ := box5 hfin
        exact ⟨rfl, _, by simp [results, Tryd.results71, go_sem, g0, g1, g2, g3, g4], hpost⟩
set_option maxRecDepth 100000 in
set_option maxHeartbeats 4000000 in
theorem stmt_at (R : Nat) (all : List ITok) (i : Nat) (line col : Int) (res : Except Nat (Sx.St × Nat)) (hres : Sx.plainP 12 (bare all) (i + 1) = some res) (W : World) (h : RD W R all i line col) (hE : Env W) (hR : 4 ≤ R) (hm : all.length ≤ 9223372036854775807) (hsh : Short all) (t : ITok) (ht : all[i]? = some t)
    (hx : t.text = ⟨#[97, 116]⟩) :
    Calls Tryd.prog 71 #[.pointer (some ⟨R, 0, none⟩)] W (Post W R all line col HSt res) := by
  have h0 := rd_alloc h (Obj.cells #[Value.int IntKind.i64 0, Value.string { data := #[] }, Value.string { data := #[] }, Value.int IntKind.i64 0, Value.slice none 0 0] 107)
  have hb0 := (show Below W.heap.size W (W.alloc (Obj.cells #[Value.int IntKind.i64 0, Value.string { data := #[] }, Value.string { data := #[] }, Value.int IntKind.i64 0, Value.slice none 0 0] 107)) from (Below.refl _ W).alloc (Nat.le_refl _) _)
  have hE0 := hE.below hb0
  have hb0' := Lib.hid hb0
  have hE0' := Lib.hid hE0
  obtain ⟨ad, n0, cp, c0, hn0, hn1, d0, d1⟩ := rd_head h0 ht hm
  have N := Lib.hid (next_calls R all i line col _ h0 hm t ht)
  have hRlt := Lib.hid h.lt
  unfold Sx.plainP Sx.andR at hres
  rw [hx] at d1
  cases hn : Sx.nameP (bare all) (i + 1) with
  | none => exact absurd hn (nameP_not _ _)
  | some r1 =>
    rw [hn] at hres
    cases r1 with
    | error j =>
      simp at hres
      subst hres
      have X := Lib.hid (fun w1 (hr : RD w1 R all (i + 1) line col) (hE : Env w1) => rname_fault R all (i + 1) line col w1 hr hE hm hsh j hn)
      clear h hm ht h0 hx hE hE0 hb0 hn
      go_enter Tryd.func71, Tryd.ntmps71
      go_wp2_with (first | (go_at_call 50; refine N.out.mono ?_; rintro e w1 ⟨rfl, hg1, hr1⟩) | (go_at_call 51; refine (X.out _ hr1 (hE0'.out.grown hg1 hR)).mono ?_; rintro e w2 ⟨rfl, hb2⟩))
      exact ⟨rfl, ((grown_below hb0'.out _).trans hg1).trans (grown_below hb2 _), rfl⟩
    | ok p =>
      obtain ⟨x0, j⟩ := p
      simp only at hres
      have X := Lib.hid (fun w1 (hr : RD w1 R all (i + 1) line col) (hE : Env w1) => rname_calls R all (i + 1) line col w1 hr hE hm hsh x0 j hn)
      have D := Lib.hid (fun w1 (hr : RD w1 R all j line col) => ended_calls R all j line col 12 0 x0 Sx.e0 res hres w1 hr hm none 0)
      clear h hm ht h0 hres hx hE hE0 hb0 hn
      rcases res with je | ⟨⟨kind, x, y, k, kids⟩, j2⟩
      · go_enter Tryd.func71, Tryd.ntmps71
        go_wp2_with (first | (go_at_call 50; refine N.out.mono ?_; rintro e w1 ⟨rfl, hg1, hr1⟩) | (go_at_call 51; refine (X.out _ hr1 (hE0'.out.grown hg1 hR)).mono ?_; rintro e w3 ⟨rfl, hg3, hr3⟩) | (go_at_call 89; refine (D.out _ hr3).mono ?_; rintro e w2 ⟨hg2, rfl⟩))
        exact ⟨rfl, (((grown_below hb0'.out _).trans hg1).trans hg3).trans hg2, rfl⟩
      · go_enter Tryd.func71, Tryd.ntmps71
        go_wp2_with (first | (go_at_call 50; refine N.out.mono ?_; rintro e w1 ⟨rfl, hg1, hr1⟩) | (go_at_call 51; refine (X.out _ hr1 (hE0'.out.grown hg1 hR)).mono ?_; rintro e w3 ⟨rfl, hg3, hr3⟩) | (go_at_call 89; refine (D.out _ hr3).mono ?_; rintro e w2 ⟨hg2, hr2, v, F, rfl, hF, A, cp, rfl, hk⟩; have hgA := (hg1.trans hg3).trans hg2; have hz := zero_at hgA hRlt.out; obtain ⟨z0, z1, z2, z3, z4, f0, f1, f2, f3, f4⟩ := box5 hz; have hz := Lib.hid hz; have hF := Lib.hid hF; have hk := Lib.hid hk))
        obtain ⟨hfin, hpost⟩ := stmt_end hRlt.out hgA hr2 (F := F) (st_far (hg1.trans hg3) hF.out) (show HSt w2 F (.agg #[.int .i64 kind, .string x, .string y, .int .i64 k, .slice A kids.length cp]) (.mk kind x y k kids) from ⟨A, cp, rfl, hk.out⟩)
        unfold put5 at hfin hpost
        obtain ⟨g0, g1, g2, g3, g4, _⟩ := box5 hfin
        exact ⟨rfl, _, by simp [results, Tryd.results71, go_sem, g0, g1, g2, g3, g4], hpost⟩
set_option maxRecDepth 100000 in
set_option maxHeartbeats 4000000 in
theorem stmt_call (R : Nat) (all : List ITok) (i : Nat) (line col : Int) (res : Except Nat (Sx.St × Nat)) (hres : Sx.callP (bare all) (i + 1) = some res) (W : World) (h : RD W R all i line col) (hE : Env W) (hR : 4 ≤ R) (hm : all.length ≤ 9223372036854775807) (hsh : Short all) (t : ITok) (ht : all[i]? = some t)
    (hx : t.text = ⟨#[99, 97, 108, 108]⟩) :
    Calls Tryd.prog 71 #[.pointer (some ⟨R, 0, none⟩)] W (Post W R all line col HSt res) := by
  have h0 := rd_alloc h (Obj.cells #[Value.int IntKind.i64 0, Value.string { data := #[] }, Value.string { data := #[] }, Value.int IntKind.i64 0, Value.slice none 0 0] 107)
  have hb0 := (show Below W.heap.size W (W.alloc (Obj.cells #[Value.int IntKind.i64 0, Value.string { data := #[] }, Value.string { data := #[] }, Value.int IntKind.i64 0, Value.slice none 0 0] 107)) from (Below.refl _ W).alloc (Nat.le_refl _) _)
  have hE0 := hE.below hb0
  have hb0' := Lib.hid hb0
  have hE0' := Lib.hid hE0
  obtain ⟨ad, n0, cp, c0, hn0, hn1, d0, d1⟩ := rd_head h0 ht hm
  have N := Lib.hid (next_calls R all i line col _ h0 hm t ht)
  have hRlt := Lib.hid h.lt
  have D := Lib.hid (call_calls R all i line col res hres _ h0 hE0 hR hm hsh t ht)
  rw [hx] at d1
  clear h hm ht h0 hres hx hE hE0 hb0
  rcases res with je | ⟨⟨kind, x, y, k, kids⟩, j2⟩
  · go_enter Tryd.func71, Tryd.ntmps71
    go_wp2_with (go_at_call 90; refine D.out.mono ?_; rintro e w2 ⟨hg2, rfl⟩)
    exact ⟨rfl, (grown_below hb0'.out _).trans hg2, rfl⟩
  · go_enter Tryd.func71, Tryd.ntmps71
    go_wp2_with (go_at_call 90; refine D.out.mono ?_; rintro e w2 ⟨hg2, hr2, v, F, rfl, hF, A, cp, rfl, hk⟩; have hgA := hg2; have hz := zero_at hgA hRlt.out; obtain ⟨z0, z1, z2, z3, z4, f0, f1, f2, f3, f4⟩ := box5 hz; have hz := Lib.hid hz; have hF := Lib.hid hF; have hk := Lib.hid hk)
    obtain ⟨hfin, hpost⟩ := stmt_end hRlt.out hgA hr2 (F := F) (st_far (grown_below (Below.refl _ _) (some R)) hF.out) (show HSt w2 F (.agg #[.int .i64 kind, .string x, .string y, .int .i64 k, .slice A kids.length cp]) (.mk kind x y k kids) from ⟨A, cp, rfl, hk.out⟩)
    unfold put5 at hfin hpost
    obtain ⟨g0, g1, g2, g3, g4, _⟩ := box5 hfin
    exact ⟨rfl, _, by simp [results, Tryd.results71, go_sem, g0, g1, g2, g3, g4], hpost⟩
set_option maxRecDepth 100000 in
set_option maxHeartbeats 4000000 in
theorem stmt_either (R : Nat) (all : List ITok) (i : Nat) (line col : Int) (res : Except Nat (Sx.St × Nat)) (n : Nat) (hn : n ≤ 1000000) (hB : ∀ m, m ≤ n → BlockC m R all line col) (hres : Sx.eitherP (n + 1) (bare all) (i + 1) = some res) (W : World) (h : RD W R all i line col) (hE : Env W) (hR : 4 ≤ R) (hm : all.length ≤ 9223372036854775807) (_hsh : Short all) (t : ITok) (ht : all[i]? = some t)
    (hx : t.text = ⟨#[101, 105, 116, 104, 101, 114]⟩) :
    Calls Tryd.prog 71 #[.pointer (some ⟨R, 0, none⟩)] W (Post W R all line col HSt res) := by
  have h0 := rd_alloc h (Obj.cells #[Value.int IntKind.i64 0, Value.string { data := #[] }, Value.string { data := #[] }, Value.int IntKind.i64 0, Value.slice none 0 0] 107)
  have hb0 := (show Below W.heap.size W (W.alloc (Obj.cells #[Value.int IntKind.i64 0, Value.string { data := #[] }, Value.string { data := #[] }, Value.int IntKind.i64 0, Value.slice none 0 0] 107)) from (Below.refl _ W).alloc (Nat.le_refl _) _)
  have hE0 := hE.below hb0
  have hb0' := Lib.hid hb0
  have hE0' := Lib.hid hE0
  obtain ⟨ad, n0, cp, c0, hn0, hn1, d0, d1⟩ := rd_head h0 ht hm
  have N := Lib.hid (next_calls R all i line col _ h0 hm t ht)
  have hRlt := Lib.hid h.lt
  have D := Lib.hid (either_calls n R all i line col res hres hB _ h0 hE0 hR hm hn t ht)
  rw [hx] at d1
  clear h hm ht h0 hres hx hE hE0 hb0 hB hn
  rcases res with je | ⟨⟨kind, x, y, k, kids⟩, j2⟩
  · go_enter Tryd.func71, Tryd.ntmps71
    go_wp2_with (go_at_call 91; refine D.out.mono ?_; rintro e w2 ⟨hg2, rfl⟩)
    exact ⟨rfl, (grown_below hb0'.out _).trans hg2, rfl⟩
  · go_enter Tryd.func71, Tryd.ntmps71
    go_wp2_with (go_at_call 91; refine D.out.mono ?_; rintro e w2 ⟨hg2, hr2, v, F, rfl, hF, A, cp, rfl, hk⟩; have hgA := hg2; have hz := zero_at hgA hRlt.out; obtain ⟨z0, z1, z2, z3, z4, f0, f1, f2, f3, f4⟩ := box5 hz; have hz := Lib.hid hz; have hF := Lib.hid hF; have hk := Lib.hid hk)
    obtain ⟨hfin, hpost⟩ := stmt_end hRlt.out hgA hr2 (F := F) (st_far (grown_below (Below.refl _ _) (some R)) hF.out) (show HSt w2 F (.agg #[.int .i64 kind, .string x, .string y, .int .i64 k, .slice A kids.length cp]) (.mk kind x y k kids) from ⟨A, cp, rfl, hk.out⟩)
    unfold put5 at hfin hpost
    obtain ⟨g0, g1, g2, g3, g4, _⟩ := box5 hfin
    exact ⟨rfl, _, by simp [results, Tryd.results71, go_sem, g0, g1, g2, g3, g4], hpost⟩
set_option maxRecDepth 100000 in
set_option maxHeartbeats 4000000 in
theorem stmt_becomes (R : Nat) (all : List ITok) (i : Nat) (line col : Int) (res : Except Nat (Sx.St × Nat)) (hres : Sx.becomesP (bare all) i = some res) (W : World) (h : RD W R all i line col) (hE : Env W) (hR : 4 ≤ R) (hm : all.length ≤ 9223372036854775807) (hsh : Short all) (t : ITok) (ht : all[i]? = some t)
    (hx : ∀ u ∈ ([[115, 107, 105, 112], [114, 101, 116, 117, 114, 110], [109, 97, 114, 107], [99, 108, 101, 97, 110], [115, 105, 110, 107], [97, 116], [99, 97, 108, 108], [101, 105, 116, 104, 101, 114], [108, 111, 111, 112]] : List (List UInt8)), (t.text.data.toList == u) = false) :
    Calls Tryd.prog 71 #[.pointer (some ⟨R, 0, none⟩)] W (Post W R all line col HSt res) := by
  have h0 := rd_alloc h (Obj.cells #[Value.int IntKind.i64 0, Value.string { data := #[] }, Value.string { data := #[] }, Value.int IntKind.i64 0, Value.slice none 0 0] 107)
  have hb0 := (show Below W.heap.size W (W.alloc (Obj.cells #[Value.int IntKind.i64 0, Value.string { data := #[] }, Value.string { data := #[] }, Value.int IntKind.i64 0, Value.slice none 0 0] 107)) from (Below.refl _ W).alloc (Nat.le_refl _) _)
  have hE0 := hE.below hb0
  have hb0' := Lib.hid hb0
  have hE0' := Lib.hid hE0
  obtain ⟨ad, n0, cp, c0, hn0, hn1, d0, d1⟩ := rd_head h0 ht hm
  have N := Lib.hid (next_calls R all i line col _ h0 hm t ht)
  have hRlt := Lib.hid h.lt
  have D := Lib.hid (becomes_calls R all i line col res hres _ h0 hE0 hR hm hsh)
  have e0 : (t.text.toList == [115, 107, 105, 112]) = false := by rw [ByteArray.toList_eq]; exact hx _ (by simp)
  have e1 : (t.text.toList == [114, 101, 116, 117, 114, 110]) = false := by rw [ByteArray.toList_eq]; exact hx _ (by simp)
  have e2 : (t.text.toList == [109, 97, 114, 107]) = false := by rw [ByteArray.toList_eq]; exact hx _ (by simp)
  have e3 : (t.text.toList == [99, 108, 101, 97, 110]) = false := by rw [ByteArray.toList_eq]; exact hx _ (by simp)
  have e4 : (t.text.toList == [115, 105, 110, 107]) = false := by rw [ByteArray.toList_eq]; exact hx _ (by simp)
  have e5 : (t.text.toList == [97, 116]) = false := by rw [ByteArray.toList_eq]; exact hx _ (by simp)
  have e6 : (t.text.toList == [99, 97, 108, 108]) = false := by rw [ByteArray.toList_eq]; exact hx _ (by simp)
  have e7 : (t.text.toList == [101, 105, 116, 104, 101, 114]) = false := by rw [ByteArray.toList_eq]; exact hx _ (by simp)
  have e8 : (t.text.toList == [108, 111, 111, 112]) = false := by rw [ByteArray.toList_eq]; exact hx _ (by simp)
  clear h hm ht h0 hres hx hE hE0 hb0
  rcases res with je | ⟨⟨kind, x, y, k, kids⟩, j2⟩
  · go_enter Tryd.func71, Tryd.ntmps71
    go_wp2_with (go_at_call 92; refine D.out.mono ?_; rintro e w2 ⟨hg2, rfl⟩)
    exact ⟨rfl, (grown_below hb0'.out _).trans hg2, rfl⟩
  · go_enter Tryd.func71, Tryd.ntmps71
    go_wp2_with (go_at_call 92; refine D.out.mono ?_; rintro e w2 ⟨hg2, hr2, v, F, rfl, hF, A, cp, rfl, hk⟩; have hgA := hg2; have hz := zero_at hgA hRlt.out; obtain ⟨z0, z1, z2, z3, z4, f0, f1, f2, f3, f4⟩ := box5 hz; have hz := Lib.hid hz; have hF := Lib.hid hF; have hk := Lib.hid hk)
    obtain ⟨hfin, hpost⟩ := stmt_end hRlt.out hgA hr2 (F := F) (st_far (grown_below (Below.refl _ _) (some R)) hF.out) (show HSt w2 F (.agg #[.int .i64 kind, .string x, .string y, .int .i64 k, .slice A kids.length cp]) (.mk kind x y k kids) from ⟨A, cp, rfl, hk.out⟩)
    unfold put5 at hfin hpost
    obtain ⟨g0, g1, g2, g3, g4, _⟩ := box5 hfin
    exact ⟨rfl, _, by simp [results, Tryd.results71, go_sem, g0, g1, g2, g3, g4], hpost⟩
set_option maxRecDepth 100000 in
set_option maxHeartbeats 4000000 in
theorem stmt_loop (R : Nat) (all : List ITok) (i : Nat) (line col : Int) (res : Except Nat (Sx.St × Nat)) (n : Nat) (hB : BlockC n R all line col) (hres : Sx.andR (Sx.blockP n (bare all) (i + 1)) (fun b j => some (.ok (Sx.St.mk 10 Sx.e0 Sx.e0 0 [b], j))) = some res) (W : World) (h : RD W R all i line col) (hE : Env W) (hR : 4 ≤ R) (hm : all.length ≤ 9223372036854775807) (_hsh : Short all) (t : ITok) (ht : all[i]? = some t)
    (hx : t.text = ⟨#[108, 111, 111, 112]⟩) :
    Calls Tryd.prog 71 #[.pointer (some ⟨R, 0, none⟩)] W (Post W R all line col HSt res) := by
  have h0 := rd_alloc h (Obj.cells #[Value.int IntKind.i64 0, Value.string { data := #[] }, Value.string { data := #[] }, Value.int IntKind.i64 0, Value.slice none 0 0] 107)
  have hb0 := (show Below W.heap.size W (W.alloc (Obj.cells #[Value.int IntKind.i64 0, Value.string { data := #[] }, Value.string { data := #[] }, Value.int IntKind.i64 0, Value.slice none 0 0] 107)) from (Below.refl _ W).alloc (Nat.le_refl _) _)
  have hE0 := hE.below hb0
  have hb0' := Lib.hid hb0
  have hE0' := Lib.hid hE0
  obtain ⟨ad, n0, cp, c0, hn0, hn1, d0, d1⟩ := rd_head h0 ht hm
  have N := Lib.hid (next_calls R all i line col _ h0 hm t ht)
  have hRlt := Lib.hid h.lt
  unfold Sx.andR at hres
  rw [hx] at d1
  cases hb : Sx.blockP n (bare all) (i + 1) with
  | none => rw [hb] at hres; simp at hres
  | some rb =>
    rw [hb] at hres
    have B := Lib.hid (hB (i + 1) rb hb)
    cases rb with
    | error j =>
      simp at hres
      subst hres
      clear h hm ht h0 hx hE hE0 hb0 hb hB
      go_enter Tryd.func71, Tryd.ntmps71
      go_wp2_with (first | (go_at_call 50; refine N.out.mono ?_; rintro e w1 ⟨rfl, hg1, hr1⟩) | (go_at_call 53; refine (B.out _ hr1 (hE0'.out.grown hg1 hR)).mono ?_; rintro e w2 ⟨hg2, rfl⟩))
      exact ⟨rfl, ((grown_below hb0'.out _).trans hg1).trans hg2, rfl⟩
    | ok p =>
      obtain ⟨b, j⟩ := p
      simp at hres
      subst hres
      clear h hm ht h0 hx hE hE0 hb0 hb hB
      go_enter Tryd.func71, Tryd.ntmps71
      go_wp2_with (first | (go_at_call 50; refine N.out.mono ?_; rintro e w1 ⟨rfl, hg1, hr1⟩) | (go_at_call 53; refine (B.out _ hr1 (hE0'.out.grown hg1 hR)).mono ?_; rintro e w2 ⟨hg2, hr2, v, F, rfl, hF, A, cp, rfl, hk⟩; have hgA := (hg1.trans hg2).trans (grown_alloc w2 (Obj.cells #[Value.slice A b.length cp] 80) (some R)); have hz := zero_at hgA hRlt.out; obtain ⟨z0, z1, z2, z3, z4, f0, f1, f2, f3, f4⟩ := box5 hz; have hz := Lib.hid hz; have hF := Lib.hid hF; have hk := Lib.hid hk))
      obtain ⟨hfin, hpost⟩ := stmt_end hRlt.out hgA (rd_alloc hr2 _) (F := fun q => F q ∨ q = w2.heap.size) (by
        intro q hq
        have s1 := hg1.size
        have s2 := hg2.size
        rw [World.size_alloc] at s1
        rw [World.size_alloc]
        rcases hq with hq | hq
        · have := hF.out q hq; omega
        · omega) (loop_tree (fun q hq => (hF.out q hq).2) hk.out)
      unfold put5 at hfin hpost
      obtain ⟨g0, g1, g2, g3, g4, _⟩ := box5 hfin
      exact ⟨rfl, _, by simp [results, Tryd.results71, go_sem, g0, g1, g2, g3, g4], hpost⟩
end Go.Proofs.YtifmalbdolpocaaDoor
