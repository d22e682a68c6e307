/-
  The walks of package syntax, eleventh part: statements and blocks together; programs in memory.
-/
import Derived.Test.YtifmalbdolpocaaDoorSynJ
import Derived.Test.YtifmalbdolpocaaDoorSynP
namespace Go.Proofs.YtifmalbdolpocaaDoor
open Go.RowKit Go.Shelf

theorem text_of {s : ByteArray} {l : List UInt8} (h : (s.data.toList == l) = true) : s = ⟨l.toArray⟩ := by
  rw [beq_iff_eq] at h
  cases s with
  | mk d => simp only at h; rw [← h]
theorem stmt_calls (n R : Nat) (all : List ITok) (line col : Int) (hR : 4 ≤ R) (hm : all.length ≤ 9223372036854775807) (hsh : Short all) (hn : n ≤ 1000000) (hB : ∀ m, m ≤ n → BlockC m R all line col) : StmtC (n + 1) R all line col := by
  intro i res hres W h hE
  rw [Sx.stmtP] at hres
  cases ht : all[i]? with
  | none =>
    have ht' : (bare all)[i]? = none := by rw [bare_at, ht]; rfl
    rw [ht'] at hres
    simp at hres
    rw [← hres]
    exact stmt_none R all i line col W h hm ht
  | some t =>
    have ht' : (bare all)[i]? = some (t.kind, t.text) := by rw [bare_at, ht]; rfl
    rw [ht'] at hres
    simp only at hres
    cases h1 : (t.text.data.toList == [115, 107, 105, 112])
    · rw [h1] at hres
      simp only [Bool.false_eq_true, if_false] at hres
      cases h2 : (t.text.data.toList == [114, 101, 116, 117, 114, 110])
      · rw [h2] at hres
        simp only [Bool.false_eq_true, if_false] at hres
        cases h3 : (t.text.data.toList == [109, 97, 114, 107])
        · rw [h3] at hres
          simp only [Bool.false_eq_true, if_false] at hres
          cases h4 : (t.text.data.toList == [99, 108, 101, 97, 110])
          · rw [h4] at hres
            simp only [Bool.false_eq_true, if_false] at hres
            cases h5 : (t.text.data.toList == [115, 105, 110, 107])
            · rw [h5] at hres
              simp only [Bool.false_eq_true, if_false] at hres
              cases h6 : (t.text.data.toList == [97, 116])
              · rw [h6] at hres
                simp only [Bool.false_eq_true, if_false] at hres
                cases h7 : (t.text.data.toList == [99, 97, 108, 108])
                · rw [h7] at hres
                  simp only [Bool.false_eq_true, if_false] at hres
                  cases h8 : (t.text.data.toList == [101, 105, 116, 104, 101, 114])
                  · rw [h8] at hres
                    simp only [Bool.false_eq_true, if_false] at hres
                    cases h9 : (t.text.data.toList == [108, 111, 111, 112])
                    · rw [h9] at hres
                      simp only [Bool.false_eq_true, if_false] at hres
                      refine stmt_becomes R all i line col res hres W h hE hR hm hsh t ht ?_
                      intro u hu
                      simp only [List.mem_cons, List.not_mem_nil, or_false] at hu
                      rcases hu with rfl | rfl | rfl | rfl | rfl | rfl | rfl | rfl | rfl <;> assumption
                    · rw [h9] at hres
                      simp only [if_true] at hres
                      exact stmt_loop R all i line col res n (hB n (Nat.le_refl _)) hres W h hE hR hm hsh t ht (text_of h9)
                  · rw [h8] at hres
                    simp only [if_true] at hres
                    cases n with
                    | zero => simp [Sx.eitherP] at hres
                    | succ m => exact stmt_either R all i line col res m (by omega) (fun k hk => hB k (by omega)) hres W h hE hR hm hsh t ht (text_of h8)
                · rw [h7] at hres
                  simp only [if_true] at hres
                  exact stmt_call R all i line col res hres W h hE hR hm hsh t ht (text_of h7)
              · rw [h6] at hres
                simp only [if_true] at hres
                exact stmt_at R all i line col res hres W h hE hR hm hsh t ht (text_of h6)
            · rw [h5] at hres
              simp only [if_true] at hres
              exact stmt_sink R all i line col res hres W h hE hR hm hsh t ht (text_of h5)
          · rw [h4] at hres
            simp only [if_true] at hres
            exact stmt_clean R all i line col res hres W h hE hR hm hsh t ht (text_of h4)
        · rw [h3] at hres
          simp only [if_true] at hres
          exact stmt_mark R all i line col res hres W h hE hR hm hsh t ht (text_of h3)
      · rw [h2] at hres
        simp only [if_true] at hres
        exact stmt_return R all i line col res hres W h hE hR hm hsh t ht (text_of h2)
    · rw [h1] at hres
      simp only [if_true] at hres
      exact stmt_skip R all i line col res hres W h hE hR hm hsh t ht (text_of h1)
theorem both_calls (R : Nat) (all : List ITok) (line col : Int) (hR : 4 ≤ R) (hm : all.length ≤ 9223372036854775807) (hsh : Short all) : ∀ n, n ≤ 1000000 → ∀ m, m ≤ n → StmtC m R all line col ∧ BlockC m R all line col := by
  intro n
  induction n with
  | zero =>
    intro _ m hm0
    obtain rfl : m = 0 := by omega
    exact ⟨fun i res h => by simp [Sx.stmtP] at h, fun i res h => by simp [Sx.blockP] at h⟩
  | succ n ih =>
    intro hn m hmn
    have I := ih (by omega)
    rcases Nat.lt_or_ge m (n + 1) with h | h
    · exact I m (by omega)
    · obtain rfl : m = n + 1 := by omega
      exact ⟨stmt_calls n R all line col hR hm hsh (by omega) (fun k hk => (I k hk).2),
        fun i res hres W h hE => block_calls n R all i line col res hres (fun k hk => (I k (by omega)).1) W h hE hR hm (by omega)⟩

/-! ### programs -/
/-- Cells that hold procedures. -/
def HProcs (W : World) (F : Nat → Prop) : List Value → List Sx.Prc → Prop
  | _, [] => True
  | cs, p :: r => ∃ A cp rest, cs = .string p.name :: .slice A p.body.length cp :: rest ∧ (p.body = [] ∨ ∃ g cur, A = some ⟨g, 0, none⟩ ∧ F g ∧ W.heap[g]? = some (.cells cur 107 (0, 0)) ∧ HCells W F cur.toList p.body) ∧ HProcs W F rest r
theorem HProcs.keep {W W' : World} {F F' : Nat → Prop} (h : ∀ g, F g → F' g ∧ W'.heap[g]? = W.heap[g]?) : ∀ {l : List Sx.Prc} {cs : List Value}, HProcs W F cs l → HProcs W' F' cs l
  | [], _, _ => by simp [HProcs]
  | p :: r, cs, hc => by
    simp only [HProcs] at hc ⊢
    obtain ⟨A, cp, rest, e, hk, hr⟩ := hc
    refine ⟨A, cp, rest, e, ?_, HProcs.keep h hr⟩
    rcases hk with h0 | ⟨g, cur, e1, hf, hg, hh⟩
    · exact .inl h0
    · exact .inr ⟨g, cur, e1, (h g hf).1, (h g hf).2.trans hg, HCells.keep h hh⟩
theorem HProcs.more {W : World} {F : Nat → Prop} : ∀ {l : List Sx.Prc} {cs : List Value} (ds : List Value), HProcs W F cs l → HProcs W F (cs ++ ds) l
  | [], _, _, _ => by simp [HProcs]
  | p :: r, cs, ds, hc => by
    simp only [HProcs] at hc ⊢
    obtain ⟨A, cp, rest, rfl, hk, hr⟩ := hc
    exact ⟨A, cp, rest ++ ds, rfl, hk, HProcs.more ds hr⟩
theorem HProcs.append {W : World} {F : Nat → Prop} : ∀ {l : List Sx.Prc} {cs : List Value} {m : List Sx.Prc} {ds : List Value}, cs.length = l.length * 2 → HProcs W F cs l → HProcs W F ds m → HProcs W F (cs ++ ds) (l ++ m)
  | [], cs, _, _, hl, _, hd => by
    have : cs = [] := List.eq_nil_of_length_eq_zero (by simpa using hl)
    simpa [this] using hd
  | p :: r, cs, m, ds, hl, hc, hd => by
    simp only [HProcs, List.cons_append] at hc ⊢
    obtain ⟨A, cp, rest, rfl, hk, hr⟩ := hc
    exact ⟨A, cp, rest ++ ds, rfl, hk, HProcs.append (by simp at hl; omega) hr hd⟩
/-- A program's value. -/
def HPrg (W : World) (F : Nat → Prop) (v : Value) (p : Sx.Prg) : Prop :=
  ∃ A c A2 c2, v = .agg #[.slice A p.vars.length c, .slice A2 p.procs.length c2] ∧
    (p.vars = [] ∨ ∃ g cur rest, A = some ⟨g, 0, none⟩ ∧ F g ∧ W.heap[g]? = some (.cells cur 9 (0, 0)) ∧ cur.toList = p.vars.map Value.string ++ rest) ∧
    (p.procs = [] ∨ ∃ g cur, A2 = some ⟨g, 0, none⟩ ∧ F g ∧ W.heap[g]? = some (.cells cur 82 (0, 0)) ∧ HProcs W F cur.toList p.procs)
theorem HPrg.keep {W W' : World} {F F' : Nat → Prop} {v : Value} {p : Sx.Prg} (h : ∀ g, F g → F' g ∧ W'.heap[g]? = W.heap[g]?) (hr : HPrg W F v p) : HPrg W' F' v p := by
  obtain ⟨A, c, A2, c2, e, hv, hp⟩ := hr
  refine ⟨A, c, A2, c2, e, ?_, ?_⟩
  · rcases hv with h0 | ⟨g, cur, rest, e1, hf, hg, hh⟩
    · exact .inl h0
    · exact .inr ⟨g, cur, rest, e1, (h g hf).1, (h g hf).2.trans hg, hh⟩
  · rcases hp with h0 | ⟨g, cur, e1, hf, hg, hh⟩
    · exact .inl h0
    · exact .inr ⟨g, cur, e1, (h g hf).1, (h g hf).2.trans hg, HProcs.keep h hh⟩
theorem info9 : (Tryd.prog.info? 9).map (fun i => (i.zero, i.size, i.bytes)) = some (some (.string ⟨#[]⟩), 1, 16) := by kernel_rfl
theorem info82 : (Tryd.prog.info? 82).map (fun i => (i.zero, i.size, i.bytes)) = some (some (.agg #[.string ⟨#[]⟩, .slice none 0 0]), 2, 40) := by kernel_rfl
theorem andR_assoc {α β γ : Type} (r : Sx.Res α) (f : α → Nat → Sx.Res β) (g : β → Nat → Sx.Res γ) : Sx.andR (Sx.andR r f) g = Sx.andR r fun a j => Sx.andR (f a j) g := by
  unfold Sx.andR
  match r with
  | none => rfl
  | some (.error _) => rfl
  | some (.ok (_, _)) => rfl
theorem andR_mk {α β : Type} (a : α) (j : Nat) (f : α → Nat → Sx.Res β) : Sx.andR (some (.ok (a, j))) f = f a j := rfl
theorem andR_bad {α β : Type} (e : Nat) (f : α → Nat → Sx.Res β) : Sx.andR (some (.error e) : Sx.Res α) f = some (.error e) := rfl
end Go.Proofs.YtifmalbdolpocaaDoor
