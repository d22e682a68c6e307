/-
  The walks of package syntax, seventh part: an assignment.
-/
import Derived.Test.YtifmalbdolpocaaDoorSynC
namespace Go.Proofs.YtifmalbdolpocaaDoor
open Go.RowKit Go.Shelf

theorem rd_head {W : World} {R i : Nat} {all : List ITok} {line col : Int} {t : ITok} (h : RD W R all i line col) (ht : all[i]? = some t) (hm : all.length ≤ 9223372036854775807) :
    ∃ ad n cp, W.cell? ⟨R, 0, none⟩ = some (.slice (some ad) n cp) ∧ 0 < n ∧ n ≤ 9223372036854775807 ∧ W.cell? ad = some (.int .i64 t.kind) ∧ W.cell? ⟨ad.block, ad.off + 1, none⟩ = some (.string t.text) := by
  obtain ⟨A, cp, hc, _, _, hT⟩ := h.cell
  have hi : i < all.length := (List.getElem?_eq_some_iff.1 ht).1
  have hti : all[i] = t := by rw [List.getElem?_eq_getElem hi] at ht; exact Option.some.inj ht
  have hd : all.drop i = t :: all.drop (i + 1) := by rw [drop_head hi, hti]
  rw [hd] at hT
  obtain ⟨ad, rfl, _, d0, d1, _, _⟩ := toks_head hT
  exact ⟨ad, _, cp, by rw [Lib.cell_of_heap hc]; rfl, by omega, by omega, d0, d1⟩
theorem rd_end {W : World} {R i : Nat} {all : List ITok} {line col : Int} (h : RD W R all i line col) (ht : all[i]? = none) : ∃ A cp, W.cell? ⟨R, 0, none⟩ = some (.slice A 0 cp) := by
  obtain ⟨A, cp, hc, _, _, hT⟩ := h.cell
  have hi : all.length ≤ i := List.getElem?_eq_none_iff.1 ht
  refine ⟨A, cp, ?_⟩
  rw [Lib.cell_of_heap hc, show all.length - i = 0 by omega]; rfl
theorem set5_0 {W : World} {b : Nat} {a0 a1 a2 a3 a4 : Value} (h : W.heap[b]? = some (.cells #[a0, a1, a2, a3, a4] 107 (0, 0))) (v : Value) : (W.setCell ⟨b, 0, none⟩ v).heap[b]? = some (.cells #[v, a1, a2, a3, a4] 107 (0, 0)) := by
  simp [World.setCell, Array.getElem?_modify, h]
theorem set5_2 {W : World} {b : Nat} {a0 a1 a2 a3 a4 : Value} (h : W.heap[b]? = some (.cells #[a0, a1, a2, a3, a4] 107 (0, 0))) (v : Value) : (W.setCell ⟨b, 2, none⟩ v).heap[b]? = some (.cells #[a0, a1, v, a3, a4] 107 (0, 0)) := by
  simp [World.setCell, Array.getElem?_modify, h]
theorem set5_3 {W : World} {b : Nat} {a0 a1 a2 a3 a4 : Value} (h : W.heap[b]? = some (.cells #[a0, a1, a2, a3, a4] 107 (0, 0))) (v : Value) : (W.setCell ⟨b, 3, none⟩ v).heap[b]? = some (.cells #[a0, a1, a2, v, a4] 107 (0, 0)) := by
  simp [World.setCell, Array.getElem?_modify, h]
/-- A box's cells behind what leaves all old blocks but the reader's. -/
theorem cells_kept {w w' : World} {R b : Nat} {o : Obj} (hg : w.grownBy w' (some R)) (hb : w.heap[b]? = some o) (hR : R < b) : w'.heap[b]? = some o :=
  (hg.block b (Array.getElem?_eq_some_iff.1 hb).1 (by simp; omega)).trans hb
theorem becG {W w1 w2 : World} {R : Nat} {o o' : Obj} (hg1 : (W.alloc o).grownBy w1 (some R)) (hg2 : (w1.alloc o').grownBy w2 (some R)) (j : Nat) (v : Value) : (W.alloc o).grownBy (w2.setCell ⟨w1.heap.size, j, none⟩ v) (some R) :=
  grown_new (hg1.trans ((grown_alloc w1 o' (some R)).trans hg2)) hg1.size (grown_set w2 w1.heap.size j v)

theorem becG1 {W w1 w2 w4 : World} {R : Nat} {o o' : Obj} (hg1 : (W.alloc o).grownBy w1 (some R)) (hg2 : (w1.alloc o').grownBy w2 (some R)) (hg4 : w2.grownBy w4 (some R)) (v : Value) : (W.alloc o).grownBy (w4.setCell ⟨w1.heap.size, 0, none⟩ v) (some R) :=
  grown_new ((hg1.trans ((grown_alloc w1 o' (some R)).trans hg2)).trans hg4) hg1.size (grown_set w4 w1.heap.size 0 v)
theorem becG2 {W w1 w2 w4 : World} {R : Nat} {o o' : Obj} (hg1 : (W.alloc o).grownBy w1 (some R)) (hg2 : (w1.alloc o').grownBy w2 (some R)) (hg4 : w2.grownBy w4 (some R)) (v u : Value) :
    (W.alloc o).grownBy ((w4.setCell ⟨w1.heap.size, 0, none⟩ v).setCell ⟨w1.heap.size, 2, none⟩ u) (some R) :=
  grown_new (becG1 hg1 hg2 hg4 v) hg1.size (grown_set _ w1.heap.size 2 u)
set_option maxHeartbeats 4000000 in
theorem becomes_calls (R : Nat) (all : List ITok) (i : Nat) (line col : Int) (res : Except Nat (Sx.St × Nat)) (hres : Sx.becomesP (bare all) i = some res) (W : World) (h : RD W R all i line col) (hE : Env W) (hR : 4 ≤ R)
    (hm : all.length ≤ 9223372036854775807) (hsh : Short all) : Calls Tryd.prog 92 #[.pointer (some ⟨R, 0, none⟩)] W (Post W R all line col HSt res) := by
  have h0 := rd_alloc h (Obj.cells #[Value.int IntKind.i64 0, Value.string { data := #[] }, Value.string { data := #[] }, Value.int IntKind.i64 0, Value.slice none 0 0] 107)
  have hb0 : Below W.heap.size W (W.alloc (Obj.cells #[Value.int IntKind.i64 0, Value.string { data := #[] }, Value.string { data := #[] }, Value.int IntKind.i64 0, Value.slice none 0 0] 107)) := (Below.refl _ W).alloc (Nat.le_refl _) _
  have hE0 := hE.below hb0
  have hRlt := Lib.hid h.lt
  have hb0' := Lib.hid hb0
  have hE0' := Lib.hid hE0
  have hm' := Lib.hid hm
  unfold Sx.becomesP Sx.andR at hres
  cases hn : Sx.nameP (bare all) i with
  | none => exact absurd hn (nameP_not _ _)
  | some r1 =>
    rw [hn] at hres
    cases r1 with
    | error j =>
      simp at hres
      subst hres
      have X := Lib.hid (rname_fault R all i line col _ h0 hE0 hm hsh j hn)
      clear h hE hn h0 hb0 hE0 hm
      go_enter Tryd.func92, Tryd.ntmps92
      go_wp2_with (go_at_call 51; refine X.out.mono ?_; rintro e w2 ⟨rfl, hg2⟩)
      exact ⟨rfl, (grown_below hb0'.out _).trans (grown_below hg2 _), rfl⟩
    | ok p =>
      obtain ⟨x, j⟩ := p
      have X := Lib.hid (rname_calls R all i line col _ h0 hE0 hm hsh x j hn)
      simp only at hres
      unfold Sx.mustP at hres
      cases hq : Sx.isP [61] (bare all) j
      · rw [hq] at hres
        simp at hres
        subst hres
        have M := Lib.hid (fun w1 (hr : RD w1 R all j line col) => must_bad ⟨#[61]⟩ R all j line col w1 hr hm hq)
        clear h hE hn h0 hb0 hE0 hm hq
        go_enter Tryd.func92, Tryd.ntmps92
        go_wp2_with (first | (go_at_call 51; refine X.out.mono ?_; rintro e w1 ⟨rfl, hg1, hr1⟩) | (go_at_call 52; refine (M.out _ (rd_alloc hr1 _)).mono ?_; rintro e w2 ⟨rfl, hb2⟩))
        exact ⟨rfl, ((grown_below hb0'.out _).trans hg1).trans ((grown_alloc w1 _ _).trans (grown_below hb2 _)), rfl⟩
      · rw [hq] at hres
        have M := Lib.hid (fun w1 (hr : RD w1 R all j line col) => must_ok ⟨#[61]⟩ R all j line col w1 hr hm hq)
        simp only [if_true] at hres
        cases ht : all[j + 1]? with
        | none =>
          have ht' : (bare all)[j + 1]? = none := by rw [bare_at, ht]; rfl
          rw [ht'] at hres
          simp at hres
          subst hres
          have Fl := Lib.hid (fun w1 (hr : RD w1 R all (j + 1) line col) => fail_calls R all (j + 1) line col w1 hr hm)
          have hend := Lib.hid (fun w1 (hr : RD w1 R all (j + 1) line col) => rd_end hr ht)
          clear h hE hn h0 hb0 hE0 hm hq ht ht'
          go_enter Tryd.func92, Tryd.ntmps92
          go_wp2_with (first | (go_at_call 51; refine X.out.mono ?_; rintro e w1 ⟨rfl, hg1, hr1⟩) | (go_at_call 52; refine (M.out _ (rd_alloc hr1 _)).mono ?_; rintro e w2 ⟨rfl, hg2, hr2⟩; obtain ⟨A, cp, c0⟩ := hend.out _ hr2) | (go_at_call 70; refine (Fl.out _ hr2).mono ?_; rintro e w3 ⟨rfl, hb3⟩))
          exact ⟨rfl, (((grown_below hb0'.out _).trans hg1).trans ((grown_alloc w1 _ _).trans hg2)).trans (grown_below hb3 _), rfl⟩
        | some t2 =>
          have ht' : (bare all)[j + 1]? = some (t2.kind, t2.text) := by rw [bare_at, ht]; rfl
          rw [ht'] at hres
          simp only at hres
          have hhead := Lib.hid (fun w1 (hr : RD w1 R all (j + 1) line col) => rd_head hr ht hm)
          have N := Lib.hid (fun w1 (hr : RD w1 R all (j + 1) line col) => next_calls R all (j + 1) line col w1 hr hm t2 ht)
          cases hk : (t2.kind == 2)
          · rw [if_neg (by intro h2; rw [h2] at hk; exact absurd hk (by decide))] at hres
            cases hst : Sx.isP [42] (bare all) (j + 1)
            · rw [hst] at hres
              simp only [Bool.false_eq_true, if_false] at hres
              have I := Lib.hid (fun w1 (hr : RD w1 R all (j + 1) line col) => is_b ⟨#[42]⟩ R all (j + 1) line col false w1 hr hm hst)
              cases hn2 : Sx.nameP (bare all) (j + 1) with
              | none => exact absurd hn2 (nameP_not _ _)
              | some r2 =>
                rw [hn2] at hres
                cases r2 with
                | error m =>
                  simp at hres
                  subst hres
                  have Y := Lib.hid (fun w1 (hr : RD w1 R all (j + 1) line col) (hE : Env w1) => rname_fault R all (j + 1) line col w1 hr hE hm hsh m hn2)
                  clear h hE hn h0 hb0 hE0 hm hq ht ht' hst hn2
                  go_enter Tryd.func92, Tryd.ntmps92
                  go_wp2_with (first | (go_at_call 51; first | ((with_reducible refine X.out.mono ?_); rintro e w1 ⟨rfl, hg1, hr1⟩) | ((with_reducible refine (Y.out _ hr2 (hE0'.out.grown (hg1.trans ((grown_alloc w1 _ _).trans hg2)) hR)).mono ?_); rintro e w4 ⟨rfl, hb4⟩)) | (go_at_call 52; refine (M.out _ (rd_alloc hr1 _)).mono ?_; rintro e w2 ⟨rfl, hg2, hr2⟩; obtain ⟨ad, n, cp, c0, hn0, hn1, d0, d1⟩ := hhead.out _ hr2; have hbx := Lib.hid (cells_kept hg2 (World.alloc_heap_new w1 _) hr1.lt)) | (go_at_call 49; refine (I.out _ hr2).mono ?_; rintro e w3 ⟨rfl, rfl⟩))
                  exact ⟨rfl, (((grown_below hb0'.out _).trans hg1).trans ((grown_alloc w1 _ _).trans hg2)).trans (grown_below hb4 _), rfl⟩
                | ok p2 =>
                  obtain ⟨y, m⟩ := p2
                  have Y := Lib.hid (fun w1 (hr : RD w1 R all (j + 1) line col) (hE : Env w1) => rname_calls R all (j + 1) line col w1 hr hE hm hsh y m hn2)
                  simp only at hres
                  unfold Sx.endedP Sx.mustP Sx.andR at hres
                  cases his : Sx.isP [59] (bare all) m
                  · rw [his] at hres
                    simp at hres
                    subst hres
                    have D := Lib.hid (fun w1 (hr : RD w1 R all m line col) => ended_bad R all m line col 3 0 x y none 0 0 w1 hr hm his)
                    clear h hE hn h0 hb0 hE0 hm hq ht ht' hst hn2 his
                    go_enter Tryd.func92, Tryd.ntmps92
                    go_wp2_with (first | (go_at_call 51; first | ((with_reducible refine X.out.mono ?_); rintro e w1 ⟨rfl, hg1, hr1⟩) | ((with_reducible refine (Y.out _ hr2 (hE0'.out.grown (hg1.trans ((grown_alloc w1 _ _).trans hg2)) hR)).mono ?_); rintro e w4 ⟨rfl, hg4, hr4⟩; have hbx4 := cells_kept hg4 hbx.out hr1.lt; obtain ⟨p0, p1, p2, p3, p4, q0, q1, q2, q3, q4⟩ := box5 hbx4; have hbx4 := Lib.hid hbx4)) | (go_at_call 52; refine (M.out _ (rd_alloc hr1 _)).mono ?_; rintro e w2 ⟨rfl, hg2, hr2⟩; obtain ⟨ad, n, cp, c0, hn0, hn1, d0, d1⟩ := hhead.out _ hr2; have hbx := Lib.hid (cells_kept hg2 (World.alloc_heap_new w1 _) hr1.lt)) | (go_at_call 49; refine (I.out _ hr2).mono ?_; rintro e w3 ⟨rfl, rfl⟩) | (go_at_call 89; refine (D.out _ ((hr4.keep (setC hr1.lt)).keep (setC hr1.lt))).mono ?_; rintro e w7 ⟨rfl, hg7⟩))
                    exact ⟨rfl, ((grown_below hb0'.out _).trans (becG2 hg1 hg2 hg4 (.int .i64 3) (.string y))).trans hg7, rfl⟩
                  · rw [his] at hres
                    simp at hres
                    subst hres
                    have D := Lib.hid (fun w1 (hr : RD w1 R all m line col) => ended_ok R all m line col 3 0 x y none 0 0 w1 hr hm his)
                    clear h hE hn h0 hb0 hE0 hm hq ht ht' hst hn2 his
                    go_enter Tryd.func92, Tryd.ntmps92
                    go_wp2_with (first | (go_at_call 51; first | ((with_reducible refine X.out.mono ?_); rintro e w1 ⟨rfl, hg1, hr1⟩) | ((with_reducible refine (Y.out _ hr2 (hE0'.out.grown (hg1.trans ((grown_alloc w1 _ _).trans hg2)) hR)).mono ?_); rintro e w4 ⟨rfl, hg4, hr4⟩; have hbx4 := cells_kept hg4 hbx.out hr1.lt; obtain ⟨p0, p1, p2, p3, p4, q0, q1, q2, q3, q4⟩ := box5 hbx4; have hbx4 := Lib.hid hbx4)) | (go_at_call 52; refine (M.out _ (rd_alloc hr1 _)).mono ?_; rintro e w2 ⟨rfl, hg2, hr2⟩; obtain ⟨ad, n, cp, c0, hn0, hn1, d0, d1⟩ := hhead.out _ hr2; have hbx := Lib.hid (cells_kept hg2 (World.alloc_heap_new w1 _) hr1.lt)) | (go_at_call 49; refine (I.out _ hr2).mono ?_; rintro e w3 ⟨rfl, rfl⟩) | (go_at_call 89; refine (D.out _ ((hr4.keep (setC hr1.lt)).keep (setC hr1.lt))).mono ?_; rintro e w7 ⟨rfl, hg7, hr7⟩; have hgA := (becG2 hg1 hg2 hg4 (.int .i64 3) (.string y)).trans hg7; have hz := zero_at hgA hRlt.out; obtain ⟨z0, z1, z2, z3, z4, f0, f1, f2, f3, f4⟩ := box5 hz; have hz := Lib.hid hz))
                    obtain ⟨hfin, hpost⟩ := stmt_end hRlt.out hgA hr7 (F := fun _ => False) (fun g h => h.elim) (show HSt w7 _ (.agg #[.int .i64 3, .string x, .string y, .int .i64 0, .slice none 0 0]) (.mk 3 x y 0 []) from ⟨none, 0, rfl, .inl rfl⟩)
                    unfold put5 at hfin hpost
                    obtain ⟨g0, g1, g2, g3, g4, _⟩ := box5 hfin
                    exact ⟨rfl, _, by simp [results, Tryd.results92, go_sem, g0, g1, g2, g3, g4], hpost⟩
            · rw [hst] at hres
              simp only [if_true] at hres
              have I := Lib.hid (fun w1 (hr : RD w1 R all (j + 1) line col) => is_b ⟨#[42]⟩ R all (j + 1) line col true w1 hr hm hst)
              unfold Sx.endedP Sx.mustP Sx.andR at hres
              cases his : Sx.isP [59] (bare all) (j + 1 + 1)
              · rw [his] at hres
                simp at hres
                subst hres
                have D := Lib.hid (fun w1 (hr : RD w1 R all (j + 1 + 1) line col) => ended_bad R all (j + 1 + 1) line col 4 0 x ⟨#[]⟩ none 0 0 w1 hr hm his)
                clear h hE hn h0 hb0 hE0 hm hq ht ht' hst his
                go_enter Tryd.func92, Tryd.ntmps92
                go_wp2_with (first | (go_at_call 51; refine X.out.mono ?_; rintro e w1 ⟨rfl, hg1, hr1⟩) | (go_at_call 52; refine (M.out _ (rd_alloc hr1 _)).mono ?_; rintro e w2 ⟨rfl, hg2, hr2⟩; obtain ⟨ad, n, cp, c0, hn0, hn1, d0, d1⟩ := hhead.out _ hr2; have hbx := Lib.hid (cells_kept hg2 (World.alloc_heap_new w1 _) hr1.lt)) | (go_at_call 49; refine (I.out _ hr2).mono ?_; rintro e w3 ⟨rfl, rfl⟩) | (go_at_call 50; refine (N.out _ hr2).mono ?_; rintro e w4 ⟨rfl, hg4, hr4⟩; have hbx4 := cells_kept hg4 hbx.out hr1.lt; obtain ⟨p0, p1, p2, p3, p4, q0, q1, q2, q3, q4⟩ := box5 hbx4; have hbx4 := Lib.hid hbx4) | (go_at_call 89; refine (D.out _ (hr4.keep (setC hr1.lt))).mono ?_; rintro e w7 ⟨rfl, hg7⟩))
                exact ⟨rfl, ((grown_below hb0'.out _).trans (becG1 hg1 hg2 hg4 (.int .i64 4))).trans hg7, rfl⟩
              · rw [his] at hres
                simp at hres
                subst hres
                have D := Lib.hid (fun w1 (hr : RD w1 R all (j + 1 + 1) line col) => ended_ok R all (j + 1 + 1) line col 4 0 x ⟨#[]⟩ none 0 0 w1 hr hm his)
                clear h hE hn h0 hb0 hE0 hm hq ht ht' hst his
                go_enter Tryd.func92, Tryd.ntmps92
                go_wp2_with (first | (go_at_call 51; refine X.out.mono ?_; rintro e w1 ⟨rfl, hg1, hr1⟩) | (go_at_call 52; refine (M.out _ (rd_alloc hr1 _)).mono ?_; rintro e w2 ⟨rfl, hg2, hr2⟩; obtain ⟨ad, n, cp, c0, hn0, hn1, d0, d1⟩ := hhead.out _ hr2; have hbx := Lib.hid (cells_kept hg2 (World.alloc_heap_new w1 _) hr1.lt)) | (go_at_call 49; refine (I.out _ hr2).mono ?_; rintro e w3 ⟨rfl, rfl⟩) | (go_at_call 50; refine (N.out _ hr2).mono ?_; rintro e w4 ⟨rfl, hg4, hr4⟩; have hbx4 := cells_kept hg4 hbx.out hr1.lt; obtain ⟨p0, p1, p2, p3, p4, q0, q1, q2, q3, q4⟩ := box5 hbx4; have hbx4 := Lib.hid hbx4) | (go_at_call 89; refine (D.out _ (hr4.keep (setC hr1.lt))).mono ?_; rintro e w7 ⟨rfl, hg7, hr7⟩; have hgA := (becG1 hg1 hg2 hg4 (.int .i64 4)).trans hg7; have hz := zero_at hgA hRlt.out; obtain ⟨z0, z1, z2, z3, z4, f0, f1, f2, f3, f4⟩ := box5 hz; have hz := Lib.hid hz))
                obtain ⟨hfin, hpost⟩ := stmt_end hRlt.out hgA hr7 (F := fun _ => False) (fun g h => h.elim) (show HSt w7 _ (.agg #[.int .i64 4, .string x, .string ⟨#[]⟩, .int .i64 0, .slice none 0 0]) (.mk 4 x Sx.e0 0 []) from ⟨none, 0, rfl, .inl rfl⟩)
                unfold put5 at hfin hpost
                obtain ⟨g0, g1, g2, g3, g4, _⟩ := box5 hfin
                exact ⟨rfl, _, by simp [results, Tryd.results92, go_sem, g0, g1, g2, g3, g4], hpost⟩
          · rw [if_pos (by simpa using hk)] at hres
            have Nu := Lib.hid (fun w1 (hE : Env w1) => number_calls t2.text (hsh t2 (List.mem_of_getElem? ht)) w1 hE)
            unfold Sx.endedP Sx.mustP Sx.andR at hres
            generalize Sx.numB t2.text.data.toList = nb at hres Nu
            cases his : Sx.isP [59] (bare all) (j + 1 + 1)
            · rw [his] at hres
              simp at hres
              subst hres
              have D := Lib.hid (fun w1 (hr : RD w1 R all (j + 1 + 1) line col) => ended_bad R all (j + 1 + 1) line col 2 nb x ⟨#[]⟩ none 0 0 w1 hr hm his)
              clear h hE hn h0 hb0 hE0 hm hq ht ht' his
              go_enter Tryd.func92, Tryd.ntmps92
              go_wp2_with (first | (go_at_call 51; refine X.out.mono ?_; rintro e w1 ⟨rfl, hg1, hr1⟩) | (go_at_call 52; refine (M.out _ (rd_alloc hr1 _)).mono ?_; rintro e w2 ⟨rfl, hg2, hr2⟩; obtain ⟨ad, n, cp, c0, hn0, hn1, d0, d1⟩ := hhead.out _ hr2; have hbx := cells_kept hg2 (World.alloc_heap_new w1 _) hr1.lt; obtain ⟨p0, p1, p2, p3, p4, q0, q1, q2, q3, q4⟩ := box5 hbx; have hbx := Lib.hid hbx) | (go_at_call 50; refine (N.out _ (hr2.keep (setC hr1.lt))).mono ?_; rintro e w4 ⟨rfl, hg4, hr4⟩) | (go_at_call 105; refine (Nu.out _ (hE0'.out.grown ((becG hg1 hg2 0 (.int .i64 2)).trans hg4) hR)).mono ?_; rintro e w5 ⟨⟨er, rfl⟩, hb5⟩; have hbx5 := cells_kept (hg4.trans (grown_below hb5 _)) (set5_0 hbx.out (.int .i64 2)) hr1.lt; obtain ⟨s0, s1, s2, s3, s4, u0, u1, u2, u3, u4⟩ := box5 hbx5; have hbx5 := Lib.hid hbx5) | (go_at_call 89; refine (D.out _ ((hr4.below hb5).keep (setC hr1.lt))).mono ?_; rintro e w7 ⟨rfl, hg7⟩))
              exact ⟨rfl, ((grown_below hb0'.out _).trans (grown_new ((becG hg1 hg2 0 (.int .i64 2)).trans (hg4.trans (grown_below hb5 _))) (alloc_le hg1) (grown_set w5 w1.heap.size 3 (.int .i64 nb)))).trans hg7, rfl⟩
            · rw [his] at hres
              simp at hres
              subst hres
              have D := Lib.hid (fun w1 (hr : RD w1 R all (j + 1 + 1) line col) => ended_ok R all (j + 1 + 1) line col 2 nb x ⟨#[]⟩ none 0 0 w1 hr hm his)
              clear h hE hn h0 hb0 hE0 hm hq ht ht' his
              go_enter Tryd.func92, Tryd.ntmps92
              go_wp2_with (first | (go_at_call 51; refine X.out.mono ?_; rintro e w1 ⟨rfl, hg1, hr1⟩) | (go_at_call 52; refine (M.out _ (rd_alloc hr1 _)).mono ?_; rintro e w2 ⟨rfl, hg2, hr2⟩; obtain ⟨ad, n, cp, c0, hn0, hn1, d0, d1⟩ := hhead.out _ hr2; have hbx := cells_kept hg2 (World.alloc_heap_new w1 _) hr1.lt; obtain ⟨p0, p1, p2, p3, p4, q0, q1, q2, q3, q4⟩ := box5 hbx; have hbx := Lib.hid hbx) | (go_at_call 50; refine (N.out _ (hr2.keep (setC hr1.lt))).mono ?_; rintro e w4 ⟨rfl, hg4, hr4⟩) | (go_at_call 105; refine (Nu.out _ (hE0'.out.grown ((becG hg1 hg2 0 (.int .i64 2)).trans hg4) hR)).mono ?_; rintro e w5 ⟨⟨er, rfl⟩, hb5⟩; have hbx5 := cells_kept (hg4.trans (grown_below hb5 _)) (set5_0 hbx.out (.int .i64 2)) hr1.lt; obtain ⟨s0, s1, s2, s3, s4, u0, u1, u2, u3, u4⟩ := box5 hbx5; have hbx5 := Lib.hid hbx5) | (go_at_call 89; refine (D.out _ ((hr4.below hb5).keep (setC hr1.lt))).mono ?_; rintro e w7 ⟨rfl, hg7, hr7⟩; have hgA := (grown_new ((becG hg1 hg2 0 (.int .i64 2)).trans (hg4.trans (grown_below hb5 _))) (alloc_le hg1) (grown_set w5 w1.heap.size 3 (.int .i64 nb))).trans hg7; have hz := zero_at hgA hRlt.out; obtain ⟨z0, z1, z2, z3, z4, f0, f1, f2, f3, f4⟩ := box5 hz; have hz := Lib.hid hz))
              obtain ⟨hfin, hpost⟩ := stmt_end hRlt.out hgA hr7 (F := fun _ => False) (fun g h => h.elim) (show HSt w7 _ (.agg #[.int .i64 2, .string x, .string ⟨#[]⟩, .int .i64 nb, .slice none 0 0]) (.mk 2 x Sx.e0 nb []) from ⟨none, 0, rfl, .inl rfl⟩)
              unfold put5 at hfin hpost
              obtain ⟨g0, g1, g2, g3, g4, _⟩ := box5 hfin
              exact ⟨rfl, _, by simp [results, Tryd.results92, go_sem, g0, g1, g2, g3, g4], hpost⟩
end Go.Proofs.YtifmalbdolpocaaDoor
