/-
  The walks of package syntax, eighth part: a block.
-/
import Derived.Test.YtifmalbdolpocaaDoorSynG
import Derived.Deep.LoopGhost
import Derived.Deep.AppendLies
namespace Go.Proofs.YtifmalbdolpocaaDoor
open Go.RowKit Go.Shelf

theorem info107 : (Tryd.prog.info? 107).map (fun i => (i.zero, i.size, i.bytes)) = some (some (.agg #[.int .i64 0, .string ⟨#[]⟩, .string ⟨#[]⟩, .int .i64 0, .slice none 0 0]), 5, 72) := by kernel_rfl
theorem info80 : (Tryd.prog.info? 80).map (fun i => (i.zero, i.size, i.bytes)) = some (some (.slice none 0 0), 1, 24) := by kernel_rfl
/-- What a statement's reading tells, at some fuel. -/
def StmtC (n R : Nat) (all : List ITok) (line col : Int) : Prop :=
  ∀ i res, Sx.stmtP n (bare all) i = some res → ∀ W : World, RD W R all i line col → Env W → Calls Tryd.prog 71 #[.pointer (some ⟨R, 0, none⟩)] W (Post W R all line col HSt res)
def addRes (acc : List Sx.St) : Except Nat (List Sx.St × Nat) → Except Nat (List Sx.St × Nat)
  | .ok (l, j) => .ok (acc ++ l, j)
  | .error j => .error j
/-- What holds between two rounds of a block's loop. -/
structure BlockI (W : World) (R : Nat) (all : List ITok) (line col : Int) (res : Except Nat (List Sx.St × Nat)) (n : Nat) (kq : Nat) (v : Value) (w : World) : Prop where
  row : ∃ (acc : List Sx.St) (j : Nat) (xs : List Value) (F : Nat → Prop) (r0 : Except Nat (List Sx.St × Nat)),
    w.ownsRow W.heap.size 107 5 v acc.length xs ∧ HCells w F xs acc ∧ (∀ g, F g → W.heap.size ≤ g ∧ g < w.heap.size ∧ some g ≠ v.ownBlock) ∧ RD w R all j line col ∧
    Sx.rowP kq (bare all) j = some r0 ∧ res = addRes acc r0 ∧ acc.length + kq ≤ n
  grown : W.grownBy w (some R)
  fuel : kq ≤ n
set_option maxHeartbeats 2000000 in
theorem block_calls (n R : Nat) (all : List ITok) (i : Nat) (line col : Int) (res : Except Nat (List Sx.St × Nat)) (hres : Sx.blockP (n + 1) (bare all) i = some res) (hS : ∀ m, m < n → StmtC m R all line col) (W : World) (h : RD W R all i line col) (hE : Env W) (hR : 4 ≤ R)
    (hm : all.length ≤ 9223372036854775807) (hn : n ≤ 1000000) : Calls Tryd.prog 53 #[.pointer (some ⟨R, 0, none⟩)] W (Post W R all line col HRow res) := by
  have hS' := Lib.hid hS
  have hE' := Lib.hid hE
  have hm' := Lib.hid hm
  have hRW := Lib.hid h.lt
  unfold Sx.blockP Sx.mustP Sx.andR at hres
  cases hq : Sx.isP [123] (bare all) i
  · rw [hq] at hres
    simp at hres
    subst hres
    have M := Lib.hid (must_bad ⟨#[123]⟩ R all i line col W h hm hq)
    clear h hE hm hq hS
    go_enter Tryd.func53, Tryd.ntmps53
    go_wp2_with (go_at_call 52; refine M.out.mono ?_; rintro e w2 ⟨rfl, hb2⟩)
    exact ⟨rfl, grown_below hb2 _, rfl⟩
  · rw [hq] at hres
    simp only [if_true] at hres
    have M := Lib.hid (must_ok ⟨#[123]⟩ R all i line col W h hm hq)
    have hres' := Lib.hid hres
    clear h hE hm hq hS hres
    go_enter Tryd.func53, Tryd.ntmps53
    go_wp2_with (go_at_call 52; refine M.out.mono ?_; rintro e w1 ⟨rfl, hg1, hr1⟩)
    have hI0 := Lib.hid (show BlockI W R all line col res n n (.slice none 0 0) w1 from
      ⟨⟨[], i + 1, [], fun _ => False, res, World.ownsRow_nil _ _ _ _, by simp [HCells], fun g h => h.elim, hr1, hres'.out, by cases res <;> rfl, by simp⟩, hg1, Nat.le_refl _⟩)
    clear hg1 hr1
    go_loopg [3] n (fun kq v wr => BlockI W R all line col res n kq v wr)
    case atStart => exact hI0.out
    case round =>
      obtain ⟨⟨acc, j, xs, F, r0, hrow, hcells, hF, hrd, hrp, hresr, hfu⟩, hg, hk⟩ := hrel
      cases gk with
      | zero => simp [Sx.rowP] at hrp
      | succ k1 =>
        unfold Sx.rowP at hrp
        cases hq2 : Sx.isP [125] (bare all) j
        · rw [hq2] at hrp
          simp only [Bool.false_eq_true, if_false] at hrp
          unfold Sx.andR at hrp
          have I := Lib.hid (is_b ⟨#[125]⟩ R all j line col false wr hrd hm'.out hq2)
          cases hst : Sx.stmtP k1 (bare all) j with
          | none => rw [hst] at hrp; simp at hrp
          | some r1 =>
            rw [hst] at hrp
            have S := Lib.hid (hS'.out k1 (by omega) j r1 hst wr hrd (hE'.out.grown hg hR))
            cases r1 with
            | error e1 =>
              simp at hrp
              subst hrp
              have hres2 : res = .error e1 := hresr
              subst hres2
              clear hst hq2 hcells hF hrd hrow hresr
              go_wp2_with (first | (go_at_call 49; refine I.out.mono ?_; rintro e w2 ⟨rfl, rfl⟩) | (go_at_call 71; refine S.out.mono ?_; rintro e w3 ⟨hg3, rfl⟩))
              exact ⟨rfl, hg.trans hg3, rfl⟩
            | ok sj =>
              obtain ⟨s, j2⟩ := sj
              simp only at hrp
              cases hr2 : Sx.rowP k1 (bare all) j2 with
              | none => rw [hr2] at hrp; simp at hrp
              | some rr =>
                have hres2 : res = addRes (acc ++ [s]) rr := by
                  rw [hr2] at hrp
                  rw [hresr]
                  cases rr with
                  | error e2 => simp at hrp; rw [← hrp]; rfl
                  | ok lk => obtain ⟨l, k⟩ := lk; simp at hrp; rw [← hrp]; simp [addRes]
                obtain ⟨kind, x, y, k, kids⟩ := s
                obtain ⟨i0, hi0, hz0, hz1, hz2⟩ := info_parts info107
                have hRb : u3.ownBlock ≠ some R := by
                  intro e
                  rcases hrow.2 with ⟨rfl, _⟩ | ⟨g, cap, cur, rfl, hb, _⟩
                  · cases e
                  · have : g = R := by simpa [Value.ownBlock] using e
                    have := hRW.out
                    omega
                have hrow' := Lib.hid (fun w3 (hg3 : wr.grownBy w3 (some R)) => hrow.kept hg3 (.inr hRb))
                have hsz0 := Lib.hid hg.size
                have hkeep := Lib.hid (And.intro hcells (And.intro hF (And.intro hg (And.intro hrow hres2))))
                have hr2' := Lib.hid hr2
                have hfu' := Lib.hid hfu
                clear hst hq2 hcells hF hrd hresr hres2 hrow hg hrp hr2 hRb
                go_wp2_with (first | (go_at_call 49; refine I.out.mono ?_; rintro e w2 ⟨rfl, rfl⟩) | (go_at_call 71; refine S.out.mono ?_; rintro e w3 ⟨hg3, hr3, v, F3, rfl, hF3, A, cp, rfl, hkids⟩; have hkids := Lib.hid hkids; have hF3 := Lib.hid hF3) | (at_builtin; refine wpList_append_lies _ rfl _ _ 80 rfl W.heap.size 107 i0 _ 5 72 Tryd.underlying80 hi0 hz0 hz1 hz2 rfl (by decide) _ _ _ rfl ((hrow'.out _ hg3).alloc _) ⟨w3.heap.size, 0, none⟩ 1 1 [Value.int IntKind.i64 kind, Value.string x, Value.string y, Value.int IntKind.i64 k, Value.slice A kids.length cp] rfl rfl ?c1 ?c2 (by decide) ?c3 ?c4 ?c5 _ rfl ?c6))
                case c1 => exact World.news_of_block (cs := #[Value.int IntKind.i64 kind, Value.string x, Value.string y, Value.int IntKind.i64 k, Value.slice A kids.length cp]) (World.alloc_heap_new w3 _)
                case c2 =>
                  intro u hu
                  simp only [List.mem_cons, List.not_mem_nil, or_false] at hu
                  rcases hu with rfl | rfl | rfl | rfl | rfl <;> rfl
                case c3 => have := hfu'.out; simp only [maxLen]; omega
                case c4 => have := hfu'.out; omega
                case c5 => have := hsz0.out; have := hg3.size; simp; omega
                case c6 =>
                  intro g cp' w4 hown' hgrow hat hlt4
                  have hend := Lib.hid (And.intro hown' (And.intro hgrow (And.intro hat hlt4)))
                  clear hown' hgrow hat hlt4
                  go_wp2
                  go_roundg k1
                  case measure => omega
                  case rel =>
                    obtain ⟨hown', hgrow, hat, hlt4⟩ := hend.out
                    obtain ⟨hcells, hF, hg, hrow, hres2⟩ := hkeep.out
                    have hRl := hRW.out
                    have hf3 := hF3.out
                    have hsz := hg.size
                    have hsz3 := hg3.size
                    have hsz4 := hgrow.size
                    rw [World.size_alloc] at hsz4
                    have hub : ∀ b, u3.ownBlock = some b → W.heap.size ≤ b ∧ b < wr.heap.size := fun b hb => hrow.lt b hb
                    have K1 : ∀ q, q < wr.heap.size → q ≠ R → some q ≠ u3.ownBlock → w4.heap[q]? = wr.heap[q]? := fun q h1 h2 h3 =>
                      (hgrow.block q (by rw [World.size_alloc]; omega) h3).trans ((Lib.alloc_old _ _ _ (by omega)).trans (hg3.block q h1 (by intro e; exact h2 (Option.some.inj e))))
                    have K3 : ∀ q, wr.heap.size ≤ q → q < w3.heap.size → w4.heap[q]? = w3.heap[q]? := fun q h1 h2 =>
                      (hgrow.block q (by rw [World.size_alloc]; omega) (by intro e; have := hub q e.symm; omega)).trans (Lib.alloc_old _ _ _ h2)
                    have h1 := (hg.trans hg3).trans (grown_alloc w3 (Obj.cells #[Value.int IntKind.i64 kind, Value.string x, Value.string y, Value.int IntKind.i64 k, Value.slice A kids.length cp] 107) (some R))
                    refine ⟨⟨acc ++ [.mk kind x y k kids], j2, xs ++ [Value.int IntKind.i64 kind, Value.string x, Value.string y, Value.int IntKind.i64 k, Value.slice A kids.length cp], fun q => F q ∨ F3 q, rr, ?_, ?_, ?_, ?_, hr2'.out, hres2, ?_⟩, ?_, by omega⟩
                    · rw [List.length_append]; exact hown'
                    · refine HCells.append hrow.1 (hcells.keep fun q hq => ⟨.inl hq, K1 q (hF q hq).2.1 (by have := (hF q hq).1; omega) (hF q hq).2.2⟩) ?_
                      simp only [HCells]
                      refine ⟨A, cp, [], rfl, ?_, trivial⟩
                      rcases hkids.out with h0 | ⟨g0, cur, e1, hf, hgc, hh⟩
                      · exact .inl h0
                      · exact .inr ⟨g0, cur, e1, .inr hf, (K3 g0 (hf3 g0 hf).1 (hf3 g0 hf).2).trans hgc, hh.keep fun q hq => ⟨.inr hq, K3 q (hf3 q hq).1 (hf3 q hq).2⟩⟩
                    · intro q hq
                      rcases hq with hq | hq
                      · obtain ⟨b1, b2, b3⟩ := hF q hq
                        refine ⟨b1, by omega, ?_⟩
                        intro e
                        have e' : q = g := by simpa [Value.ownBlock] using e
                        rcases hat with h2 | h2
                        · exact b3 (by rw [h2, e'])
                        · omega
                      · obtain ⟨b1, b2⟩ := hf3 q hq
                        refine ⟨by omega, by omega, ?_⟩
                        intro e
                        have e' : q = g := by simpa [Value.ownBlock] using e
                        rcases hat with h2 | h2
                        · have := hub g h2; omega
                        · omega
                    · exact hr3.keep fun q hq => (hgrow.block q (by rw [World.size_alloc]; omega) (by intro e; have := hub q e.symm; omega)).trans (Lib.alloc_old _ _ _ (by omega))
                    · have := hfu'.out; simp; omega
                    · exact ⟨hgrow.os.trans h1.os, hgrow.tape.trans h1.tape, hgrow.output.trans h1.output, Nat.le_trans h1.size hgrow.size, fun q hq hr => (hgrow.block q (Nat.lt_of_lt_of_le hq h1.size) (by intro e; have := hub q e.symm; omega)).trans (h1.block q hq hr)⟩
        · rw [hq2] at hrp
          simp at hrp
          subst hrp
          have hres2 : res = .ok (acc ++ [], j + 1) := hresr
          rw [List.append_nil] at hres2
          subst hres2
          have I := Lib.hid (is_b ⟨#[125]⟩ R all j line col true wr hrd hm'.out hq2)
          obtain ⟨t, ht⟩ : ∃ t, all[j]? = some t := by
            cases h2 : all[j]? with
            | none => simp [Sx.isP, bare_at, h2] at hq2
            | some t => exact ⟨t, rfl⟩
          have N := Lib.hid (next_calls R all j line col wr hrd hm'.out t ht)
          have hRb : some R ≠ u3.ownBlock := by
            intro e
            rcases hrow.2 with ⟨rfl, _⟩ | ⟨g, cap, cur, rfl, hb, _⟩
            · cases e
            · have : R = g := by simpa [Value.ownBlock] using e
              have := hRW.out
              omega
          have hval := Lib.hid (show ∀ w', wr.grownBy w' (some R) → HRow w' (fun g => W.heap.size ≤ g ∧ g < wr.heap.size) u3 acc from fun w' hg' => by
            have hcs : HCells w' (fun g => W.heap.size ≤ g ∧ g < wr.heap.size) xs acc := hcells.keep fun g hfg => ⟨⟨(hF g hfg).1, (hF g hfg).2.1⟩, hg'.block g (hF g hfg).2.1 (by have := hRW.out; have := (hF g hfg).1; simp; omega)⟩
            rcases hrow.2 with ⟨rfl, h0⟩ | ⟨g, cap, cur, rfl, hb, hgc, _, _, _, htk⟩
            · exact ⟨none, 0, by rw [h0], .inl (List.eq_nil_of_length_eq_zero h0)⟩
            · have hlt : g < wr.heap.size := (Array.getElem?_eq_some_iff.1 hgc).1
              refine ⟨_, cap, rfl, .inr ⟨g, cur, rfl, ⟨hb, hlt⟩, (hg'.block g hlt (by have := hRW.out; simp; omega)).trans hgc, ?_⟩⟩
              have := hcs.more (cur.toList.drop (acc.length * 5))
              rwa [← htk, List.take_append_drop] at this)
          have hg' := Lib.hid hg
          clear hq2 hcells hF hrd hrow hresr ht hRb hg
          go_wp2_with (first | (go_at_call 49; refine I.out.mono ?_; rintro e w2 ⟨rfl, rfl⟩) | (go_at_call 50; refine N.out.mono ?_; rintro e w3 ⟨rfl, hg3, hr3⟩))
          go_ret
          exact ⟨hg'.out.trans hg3, hr3, _, _, rfl, fun g hg4 => ⟨hg4.1, Nat.lt_of_lt_of_le hg4.2 hg3.size⟩, hval.out _ hg3⟩
end Go.Proofs.YtifmalbdolpocaaDoor
