/-
  The walks of package syntax, third part: trees in memory.
-/
import Derived.Test.YtifmalbdolpocaaDoorSynB
namespace Go.Proofs.YtifmalbdolpocaaDoor
open Go.RowKit Go.Shelf

mutual
/-- Cells that hold statements, one behind the other; F: the blocks that hold what lies below. -/
def HCells (W : World) (F : Nat → Prop) : List Value → List Sx.St → Prop
  | _, [] => True
  | cs, .mk kind x y k kids :: r => ∃ A cp rest, cs = .int .i64 kind :: .string x :: .string y :: .int .i64 k :: .slice A kids.length cp :: rest ∧
      (kids = [] ∨ ∃ g cur, A = some ⟨g, 0, none⟩ ∧ F g ∧ W.heap[g]? = some (.cells cur 80 (0, 0)) ∧ HKids W F cur.toList kids) ∧ HCells W F rest r
/-- Cells that hold blocks. -/
def HKids (W : World) (F : Nat → Prop) : List Value → List (List Sx.St) → Prop
  | _, [] => True
  | cs, l :: r => ∃ A cp rest, cs = .slice A l.length cp :: rest ∧ (l = [] ∨ ∃ g cur, A = some ⟨g, 0, none⟩ ∧ F g ∧ W.heap[g]? = some (.cells cur 107 (0, 0)) ∧ HCells W F cur.toList l) ∧ HKids W F rest r
end
mutual
theorem HCells.keep {W W' : World} {F F' : Nat → Prop} (h : ∀ g, F g → F' g ∧ W'.heap[g]? = W.heap[g]?) : ∀ {l : List Sx.St} {cs : List Value}, HCells W F cs l → HCells W' F' cs l
  | [], _, _ => by simp [HCells]
  | .mk kind x y k kids :: r, cs, hc => by
    simp only [HCells] at hc ⊢
    obtain ⟨A, cp, rest, e, hk, hr⟩ := hc
    refine ⟨A, cp, rest, e, ?_, HCells.keep h hr⟩
    rcases hk with h0 | ⟨g, cur, e1, hf, hg, hh⟩
    · exact .inl h0
    · exact .inr ⟨g, cur, e1, (h g hf).1, (h g hf).2.trans hg, HKids.keep h hh⟩
theorem HKids.keep {W W' : World} {F F' : Nat → Prop} (h : ∀ g, F g → F' g ∧ W'.heap[g]? = W.heap[g]?) : ∀ {l : List (List Sx.St)} {cs : List Value}, HKids W F cs l → HKids W' F' cs l
  | [], _, _ => by simp [HKids]
  | a :: r, cs, hc => by
    simp only [HKids] at hc ⊢
    obtain ⟨A, cp, rest, e, hk, hr⟩ := hc
    refine ⟨A, cp, rest, e, ?_, HKids.keep h hr⟩
    rcases hk with h0 | ⟨g, cur, e1, hf, hg, hh⟩
    · exact .inl h0
    · exact .inr ⟨g, cur, e1, (h g hf).1, (h g hf).2.trans hg, HCells.keep h hh⟩
end
theorem HCells.more {W : World} {F : Nat → Prop} : ∀ {l : List Sx.St} {cs : List Value} (ds : List Value), HCells W F cs l → HCells W F (cs ++ ds) l
  | [], _, _, _ => by simp [HCells]
  | .mk kind x y k kids :: r, cs, ds, hc => by
    simp only [HCells] at hc ⊢
    obtain ⟨A, cp, rest, rfl, hk, hr⟩ := hc
    exact ⟨A, cp, rest ++ ds, rfl, hk, HCells.more ds hr⟩
theorem HCells.append {W : World} {F : Nat → Prop} : ∀ {l : List Sx.St} {cs : List Value} {m : List Sx.St} {ds : List Value}, cs.length = l.length * 5 → HCells W F cs l → HCells W F ds m → HCells W F (cs ++ ds) (l ++ m)
  | [], cs, _, _, hl, _, hd => by
    have : cs = [] := List.eq_nil_of_length_eq_zero (by simpa using hl)
    simpa [this] using hd
  | .mk kind x y k kids :: r, cs, m, ds, hl, hc, hd => by
    simp only [HCells, List.cons_append] at hc ⊢
    obtain ⟨A, cp, rest, rfl, hk, hr⟩ := hc
    exact ⟨A, cp, rest ++ ds, rfl, hk, HCells.append (by simp at hl; omega) hr hd⟩
theorem HKids.more {W : World} {F : Nat → Prop} : ∀ {l : List (List Sx.St)} {cs : List Value} (ds : List Value), HKids W F cs l → HKids W F (cs ++ ds) l
  | [], _, _, _ => by simp [HKids]
  | a :: r, cs, ds, hc => by
    simp only [HKids] at hc ⊢
    obtain ⟨A, cp, rest, rfl, hk, hr⟩ := hc
    exact ⟨A, cp, rest ++ ds, rfl, hk, HKids.more ds hr⟩
theorem HKids.append {W : World} {F : Nat → Prop} : ∀ {l : List (List Sx.St)} {cs : List Value} {m : List (List Sx.St)} {ds : List Value}, cs.length = l.length → HKids W F cs l → HKids W F ds m → HKids W F (cs ++ ds) (l ++ m)
  | [], cs, _, _, hl, _, hd => by
    have : cs = [] := List.eq_nil_of_length_eq_zero (by simpa using hl)
    simpa [this] using hd
  | a :: r, cs, m, ds, hl, hc, hd => by
    simp only [HKids, List.cons_append] at hc ⊢
    obtain ⟨A, cp, rest, rfl, hk, hr⟩ := hc
    exact ⟨A, cp, rest ++ ds, rfl, hk, HKids.append (by simpa using hl) hr hd⟩
/-- A block's value. -/
def HRow (W : World) (F : Nat → Prop) (v : Value) (l : List Sx.St) : Prop :=
  ∃ A cp, v = .slice A l.length cp ∧ (l = [] ∨ ∃ g cur, A = some ⟨g, 0, none⟩ ∧ F g ∧ W.heap[g]? = some (.cells cur 107 (0, 0)) ∧ HCells W F cur.toList l)
/-- A statement's value. -/
def HSt (W : World) (F : Nat → Prop) (v : Value) : Sx.St → Prop
  | .mk kind x y k kids => ∃ A cp, v = .agg #[.int .i64 kind, .string x, .string y, .int .i64 k, .slice A kids.length cp] ∧
      (kids = [] ∨ ∃ g cur, A = some ⟨g, 0, none⟩ ∧ F g ∧ W.heap[g]? = some (.cells cur 80 (0, 0)) ∧ HKids W F cur.toList kids)
theorem HRow.keep {W W' : World} {F F' : Nat → Prop} {v : Value} {l : List Sx.St} (h : ∀ g, F g → F' g ∧ W'.heap[g]? = W.heap[g]?) (hr : HRow W F v l) : HRow W' F' v l := by
  obtain ⟨A, cp, e, hk⟩ := hr
  refine ⟨A, cp, e, ?_⟩
  rcases hk with h0 | ⟨g, cur, e1, hf, hg, hh⟩
  · exact .inl h0
  · exact .inr ⟨g, cur, e1, (h g hf).1, (h g hf).2.trans hg, HCells.keep h hh⟩
theorem HSt.keep {W W' : World} {F F' : Nat → Prop} {v : Value} {s : Sx.St} (h : ∀ g, F g → F' g ∧ W'.heap[g]? = W.heap[g]?) (hr : HSt W F v s) : HSt W' F' v s := by
  obtain ⟨kind, x, y, k, kids⟩ := s
  obtain ⟨A, cp, e, hk⟩ := hr
  refine ⟨A, cp, e, ?_⟩
  rcases hk with h0 | ⟨g, cur, e1, hf, hg, hh⟩
  · exact .inl h0
  · exact .inr ⟨g, cur, e1, (h g hf).1, (h g hf).2.trans hg, HKids.keep h hh⟩

/-- What a reading function tells: what is read, or the fault; only the reader's block has turned. -/
def Post {α : Type} (w : World) (R : Nat) (all : List ITok) (line col : Int) (val : World → (Nat → Prop) → Value → α → Prop) (res : Except Nat (α × Nat)) (e : Ending) (w' : World) : Prop :=
  w.grownBy w' (some R) ∧
  match res with
  | .ok (a, j) => RD w' R all j line col ∧ ∃ v F, e = .returned v ∧ (∀ g, F g → w.heap.size ≤ g ∧ g < w'.heap.size) ∧ val w' F v a
  | .error j => e = .panicked [faultS (placeAt all j line col)]

/-- A box of five cells, read and written. -/
theorem box5 {W : World} {b : Nat} {a0 a1 a2 a3 a4 : Value} (h : W.heap[b]? = some (.cells #[a0, a1, a2, a3, a4] 107 (0, 0))) :
    W.cell? ⟨b, 0, none⟩ = some a0 ∧ W.cell? ⟨b, 1, none⟩ = some a1 ∧ W.cell? ⟨b, 2, none⟩ = some a2 ∧ W.cell? ⟨b, 3, none⟩ = some a3 ∧ W.cell? ⟨b, 4, none⟩ = some a4 ∧
    W.frozen? ⟨b, 0, none⟩ = false ∧ W.frozen? ⟨b, 1, none⟩ = false ∧ W.frozen? ⟨b, 2, none⟩ = false ∧ W.frozen? ⟨b, 3, none⟩ = false ∧ W.frozen? ⟨b, 4, none⟩ = false := by
  refine ⟨?_, ?_, ?_, ?_, ?_, Lib.frozen_of_heap h 0, Lib.frozen_of_heap h 1, Lib.frozen_of_heap h 2, Lib.frozen_of_heap h 3, Lib.frozen_of_heap h 4⟩
  all_goals rw [Lib.cell_of_heap h]; rfl

def put5 (W : World) (b : Nat) (a0 a1 a2 a3 a4 : Value) : World :=
  ((((W.setCell ⟨b, 0, none⟩ a0).setCell ⟨b, 1, none⟩ a1).setCell ⟨b, 2, none⟩ a2).setCell ⟨b, 3, none⟩ a3).setCell ⟨b, 4, none⟩ a4
theorem put5_same {W : World} {b : Nat} {c0 c1 c2 c3 c4 : Value} (h : W.heap[b]? = some (.cells #[c0, c1, c2, c3, c4] 107 (0, 0))) (a0 a1 a2 a3 a4 : Value) :
    (put5 W b a0 a1 a2 a3 a4).heap[b]? = some (.cells #[a0, a1, a2, a3, a4] 107 (0, 0)) := by
  simp [put5, World.setCell, Array.getElem?_modify, h]
theorem grown_set (W : World) (b j : Nat) (v : Value) : W.grownBy (W.setCell ⟨b, j, none⟩ v) (some b) :=
  ⟨rfl, rfl, rfl, by simp [World.setCell], fun k _ hk => Below.heap_setCell _ _ _ k (fun e => hk (by rw [e]))⟩
theorem put5_grown (W : World) (b : Nat) (a0 a1 a2 a3 a4 : Value) : W.grownBy (put5 W b a0 a1 a2 a3 a4) (some b) :=
  ((((grown_set W b 0 a0).trans (grown_set _ b 1 a1)).trans (grown_set _ b 2 a2)).trans (grown_set _ b 3 a3)).trans (grown_set _ b 4 a4)
/-- Behind a block that was new, another one turns: the first world's blocks stand. -/
theorem grown_new {w w1 w2 : World} {r : Option Nat} {b : Nat} (h : w.grownBy w1 r) (hb : w.heap.size ≤ b) (h2 : w1.grownBy w2 (some b)) : w.grownBy w2 r :=
  ⟨h2.os.trans h.os, h2.tape.trans h.tape, h2.output.trans h.output, Nat.le_trans h.size h2.size, fun i hi hr => (h2.block i (Nat.lt_of_lt_of_le hi h.size) (by simp; omega)).trans (h.block i hi hr)⟩
set_option maxHeartbeats 1000000 in
theorem ended_ok (R : Nat) (all : List ITok) (i : Nat) (line col : Int) (kind k : Int) (x y : ByteArray) (A : Option Addr) (n cp : Nat) (W : World) (h : RD W R all i line col) (hm : all.length ≤ 9223372036854775807) (his : Sx.isP [59] (bare all) i = true) :
    Calls Tryd.prog 89 #[.pointer (some ⟨R, 0, none⟩), .agg #[.int .i64 kind, .string x, .string y, .int .i64 k, .slice A n cp]] W fun e W' =>
      e = .returned (.agg #[.int .i64 kind, .string x, .string y, .int .i64 k, .slice A n cp]) ∧ W.grownBy W' (some R) ∧ RD W' R all (i + 1) line col := by
  have M := Lib.hid (fun w1 (hb : Below W.heap.size W w1) => must_ok ⟨#[59]⟩ R all i line col w1 (h.below hb) hm his)
  have hRlt := h.lt
  obtain ⟨W1, hW1⟩ : ∃ W1, ((W.alloc (Obj.cells #[Value.int IntKind.i64 kind, Value.string x, Value.string y, Value.int IntKind.i64 k, Value.slice A n cp] 107)).alloc (Obj.cells #[Value.int IntKind.i64 0, Value.string { data := #[] }, Value.string { data := #[] }, Value.int IntKind.i64 0, Value.slice none 0 0] 107)) = W1 := ⟨_, rfl⟩
  have hB : Below W.heap.size W W1 := by rw [← hW1]; exact ((Below.refl _ W).alloc (Nat.le_refl _) _).alloc (by simp) _
  have k0 : W1.heap[W.heap.size]? = some (.cells #[Value.int IntKind.i64 kind, Value.string x, Value.string y, Value.int IntKind.i64 k, Value.slice A n cp] 107 (0, 0)) := by
    rw [← hW1]; exact (Lib.alloc_old _ _ _ (by simp)).trans (World.alloc_heap_new W _)
  have k1 : W1.heap[W.heap.size + 1]? = some (.cells #[Value.int IntKind.i64 0, Value.string { data := #[] }, Value.string { data := #[] }, Value.int IntKind.i64 0, Value.slice none 0 0] 107 (0, 0)) := by
    rw [← hW1]
    have := World.alloc_heap_new (W.alloc (Obj.cells #[Value.int IntKind.i64 kind, Value.string x, Value.string y, Value.int IntKind.i64 k, Value.slice A n cp] 107)) (Obj.cells #[Value.int IntKind.i64 0, Value.string { data := #[] }, Value.string { data := #[] }, Value.int IntKind.i64 0, Value.slice none 0 0] 107)
    rwa [World.size_alloc] at this
  have hz : W1.heap.size = W.heap.size + 2 := by rw [← hW1]; simp
  have hgr := grown_below hB (some R)
  have hK := Lib.hid (fun w2 (hg : W1.grownBy w2 (some R)) => And.intro ((hg.block (W.heap.size + 1) (by omega) (by simp; omega)).trans k1) (And.intro (box5 ((hg.block W.heap.size (by omega) (by simp; omega)).trans k0)) (box5 ((hg.block (W.heap.size + 1) (by omega) (by simp; omega)).trans k1))))
  have hB' := Lib.hid hB
  have hRlt' := Lib.hid hRlt
  have hgr' := Lib.hid hgr
  clear h his hm hRlt hB k0 k1 hz hgr
  subst hW1
  go_enter Tryd.func89, Tryd.ntmps89
  go_wp2_with (go_at_call 52; refine (M.out _ hB'.out).mono ?_; rintro e w2 ⟨rfl, hg, hr⟩; obtain ⟨hk1, ⟨p0, p1, p2, p3, p4, _, _, _, _, _⟩, ⟨q0, q1, q2, q3, q4, f0, f1, f2, f3, f4⟩⟩ := hK.out w2 hg; have hk1 := Lib.hid hk1)
  have hfin := put5_same hk1.out (.int .i64 kind) (.string x) (.string y) (.int .i64 k) (.slice A n cp)
  have hg5 := put5_grown w2 (W.heap.size + 1) (.int .i64 kind) (.string x) (.string y) (.int .i64 k) (.slice A n cp)
  unfold put5 at hfin hg5
  obtain ⟨g0, g1, g2, g3, g4, _⟩ := box5 hfin
  refine ⟨rfl, .agg #[.int .i64 kind, .string x, .string y, .int .i64 k, .slice A n cp], by simp [results, Tryd.results89, go_sem, g0, g1, g2, g3, g4], rfl, ?_, ?_⟩
  · exact grown_new ((grown_below hB'.out (some R)).trans hg) (Nat.le_succ _) hg5
  · refine hr.keep fun g hgR => hg5.block g (by have := hr.lt; omega) ?_
    have := hRlt'.out
    simp; omega
end Go.Proofs.YtifmalbdolpocaaDoor

namespace Go.Proofs.YtifmalbdolpocaaDoor
open Go.RowKit Go.Shelf

set_option maxHeartbeats 1000000 in
theorem ended_bad (R : Nat) (all : List ITok) (i : Nat) (line col : Int) (kind k : Int) (x y : ByteArray) (A : Option Addr) (n cp : Nat) (W : World) (h : RD W R all i line col) (hm : all.length ≤ 9223372036854775807) (his : Sx.isP [59] (bare all) i = false) :
    Calls Tryd.prog 89 #[.pointer (some ⟨R, 0, none⟩), .agg #[.int .i64 kind, .string x, .string y, .int .i64 k, .slice A n cp]] W fun e W' =>
      e = .panicked [faultS (placeAt all i line col)] ∧ W.grownBy W' (some R) := by
  have M := Lib.hid (fun w1 (hb : Below W.heap.size W w1) => must_bad ⟨#[59]⟩ R all i line col w1 (h.below hb) hm his)
  have hB := Lib.hid (((Below.refl W.heap.size W).alloc (Nat.le_refl _) (Obj.cells #[Value.int IntKind.i64 kind, Value.string x, Value.string y, Value.int IntKind.i64 k, Value.slice A n cp] 107)).alloc (by simp) (Obj.cells #[Value.int IntKind.i64 0, Value.string { data := #[] }, Value.string { data := #[] }, Value.int IntKind.i64 0, Value.slice none 0 0] 107))
  clear h his hm
  go_enter Tryd.func89, Tryd.ntmps89
  go_wp2_with (go_at_call 52; refine (M.out _ hB.out).mono ?_; rintro e w2 ⟨rfl, hg⟩)
  exact ⟨rfl, rfl, grown_below (below_chain hB.out hg) _⟩

/-- A statement, and the semicolon behind it. -/
theorem ended_calls (R : Nat) (all : List ITok) (i : Nat) (line col : Int) (kind k : Int) (x y : ByteArray) (res : Except Nat (Sx.St × Nat)) (hres : Sx.endedP (.mk kind x y k []) (bare all) i = some res) (W : World) (h : RD W R all i line col) (hm : all.length ≤ 9223372036854775807) (A : Option Addr) (cp : Nat) :
    Calls Tryd.prog 89 #[.pointer (some ⟨R, 0, none⟩), .agg #[.int .i64 kind, .string x, .string y, .int .i64 k, .slice A 0 cp]] W (Post W R all line col HSt res) := by
  unfold Sx.endedP Sx.mustP Sx.andR at hres
  cases his : Sx.isP [59] (bare all) i
  · rw [his] at hres
    simp at hres
    subst hres
    exact (ended_bad R all i line col kind k x y A 0 cp W h hm his).mono fun e W' ⟨he, hg⟩ => ⟨hg, he⟩
  · rw [his] at hres
    simp at hres
    subst hres
    exact (ended_ok R all i line col kind k x y A 0 cp W h hm his).mono fun e W' ⟨he, hg, hr⟩ => ⟨hg, hr, _, fun _ => False, he, fun g hg => hg.elim, A, cp, rfl, .inl rfl⟩

theorem var_grown {P : Program} {w w' : World} {R : Nat} {n : String} {cs : Array Value} {g : Nat} (hg : w.grownBy w' (some R)) (hn : P.globalNamed n = some g) (hR : g < R) (hv : w.var? P n = some cs) : w'.var? P n = some cs := by
  unfold World.var? at hv ⊢
  rw [hn] at hv ⊢
  simp only [Option.bind_some] at hv ⊢
  have hlt : g < w.heap.size := by
    rcases Nat.lt_or_ge g w.heap.size with h1 | h1
    · exact h1
    · rw [Array.getElem?_eq_none h1] at hv; simp at hv
  rw [hg.block g hlt (by simp; omega)]
  exact hv
theorem nES : Tryd.prog.globalNamed "strconv.ErrSyntax" = some 1 := by kernel_rfl
theorem nER : Tryd.prog.globalNamed "strconv.ErrRange" = some 2 := by kernel_rfl
theorem nPT : Tryd.prog.globalNamed "internal/strconv.uint64pow10" = some 3 := by kernel_rfl
theorem Env.grown {w w' : World} {R : Nat} (h : Env w) (hg : w.grownBy w' (some R)) (hR : 4 ≤ R) : Env w' :=
  ⟨let ⟨tp, p, e⟩ := h.syn; ⟨tp, p, var_grown hg nES (by omega) e⟩, let ⟨tp, p, e⟩ := h.rng; ⟨tp, p, var_grown hg nER (by omega) e⟩, var_grown hg nPT (by omega) h.tab⟩
theorem zero5 (W : World) : (W.alloc (Obj.cells #[Value.int IntKind.i64 0, Value.string { data := #[] }, Value.string { data := #[] }, Value.int IntKind.i64 0, Value.slice none 0 0] 107)).heap[W.heap.size]? =
    some (.cells #[Value.int IntKind.i64 0, Value.string { data := #[] }, Value.string { data := #[] }, Value.int IntKind.i64 0, Value.slice none 0 0] 107 (0, 0)) := World.alloc_heap_new W _
/-- What is read is laid into the box of the result, and returned. -/
theorem stmt_end {W w2 : World} {R j : Nat} {all : List ITok} {line col : Int} {s : Sx.St} {F : Nat → Prop} {a0 a1 a2 a3 a4 : Value} (hR : R < W.heap.size)
    (hg : (W.alloc (Obj.cells #[Value.int IntKind.i64 0, Value.string { data := #[] }, Value.string { data := #[] }, Value.int IntKind.i64 0, Value.slice none 0 0] 107)).grownBy w2 (some R))
    (hr : RD w2 R all j line col) (hF : ∀ g, F g → W.heap.size < g ∧ g < w2.heap.size) (hv : HSt w2 F (.agg #[a0, a1, a2, a3, a4]) s) :
    (put5 w2 W.heap.size a0 a1 a2 a3 a4).heap[W.heap.size]? = some (.cells #[a0, a1, a2, a3, a4] 107 (0, 0)) ∧ Post W R all line col HSt (.ok (s, j)) (.returned (.agg #[a0, a1, a2, a3, a4])) (put5 w2 W.heap.size a0 a1 a2 a3 a4) := by
  have hbox := (hg.block W.heap.size (by simp) (by simp; omega)).trans (zero5 W)
  have hp := put5_grown w2 W.heap.size a0 a1 a2 a3 a4
  refine ⟨put5_same hbox _ _ _ _ _, ?_, ?_, _, F, rfl, fun g hfg => ⟨Nat.le_of_lt (hF g hfg).1, Nat.lt_of_lt_of_le (hF g hfg).2 hp.size⟩, ?_⟩
  · exact grown_new ((grown_below ((Below.refl W.heap.size W).alloc (Nat.le_refl _) _) (some R)).trans hg) (Nat.le_refl _) hp
  · exact hr.keep fun g hgR => hp.block g (by have := hr.lt; omega) (by simp; omega)
  · exact hv.keep fun g hfg => ⟨hfg, hp.block g (hF g hfg).2 (by have := (hF g hfg).1; simp; omega)⟩
end Go.Proofs.YtifmalbdolpocaaDoor

namespace Go.Proofs.YtifmalbdolpocaaDoor
open Go.RowKit Go.Shelf

theorem is_b (s : ByteArray) (R : Nat) (all : List ITok) (i : Nat) (line col : Int) (r : Bool) (W : World) (h : RD W R all i line col) (hm : all.length ≤ 9223372036854775807) (hr : Sx.isP s.data.toList (bare all) i = r) :
    Calls Tryd.prog 49 #[.pointer (some ⟨R, 0, none⟩), .string s] W fun e W' => e = .returned (.bool r) ∧ W = W' := by
  have := is_calls s R all i line col W h hm
  rwa [hr] at this
theorem rd_alloc {W : World} {R i : Nat} {all : List ITok} {line col : Int} (h : RD W R all i line col) (o : Obj) : RD (W.alloc o) R all i line col := h.below ((Below.refl _ W).alloc (Nat.le_refl _) o)
theorem nameP_some {P : List Sx.PT} {i j : Nat} {x : ByteArray} (h : Sx.nameP P i = some (.ok (x, j))) : j = i + 1 ∧ ∃ t, P[i]? = some t ∧ t.2 = x ∧ Sx.nameB x.data.toList = true := by
  unfold Sx.nameP at h
  split at h
  · rename_i t ht
    split at h
    · rename_i hn
      simp at h
      exact ⟨h.2.symm, t, ht, h.1, by rw [← h.1]; exact hn⟩
    · simp at h
  · simp at h
theorem nameP_err {P : List Sx.PT} {i j : Nat} (h : Sx.nameP P i = some (.error j)) : j = i ∧ ∀ t, P[i]? = some t → Sx.nameB t.2.data.toList = false := by
  unfold Sx.nameP at h
  split at h
  · rename_i t ht
    split at h
    · simp at h
    · rename_i hn
      simp at h
      exact ⟨h.symm, fun u hu => by rw [ht] at hu; rw [← Option.some.inj hu]; simpa using hn⟩
  · rename_i ht
    simp at h
    exact ⟨h.symm, fun u hu => by rw [ht] at hu; cases hu⟩
theorem nameP_not (P : List Sx.PT) (i : Nat) : Sx.nameP P i ≠ none := by
  unfold Sx.nameP
  split
  · split <;> simp
  · simp
/-- A name is read, or not. -/
theorem rname_calls (R : Nat) (all : List ITok) (i : Nat) (line col : Int) (W : World) (h : RD W R all i line col) (hE : Env W) (hm : all.length ≤ 9223372036854775807) (hsh : Short all) (x : ByteArray) (j : Nat) (hn : Sx.nameP (bare all) i = some (.ok (x, j))) :
    Calls Tryd.prog 51 #[.pointer (some ⟨R, 0, none⟩)] W fun e W' => e = .returned (.string x) ∧ W.grownBy W' (some R) ∧ RD W' R all j line col := by
  obtain ⟨rfl, t, ht, rfl, hb⟩ := nameP_some hn
  rw [bare_at] at ht
  obtain ⟨u, hu, rfl⟩ := Option.map_eq_some_iff.1 ht
  exact rname_ok R all i line col W h hE hm hsh u hu hb
theorem rname_fault (R : Nat) (all : List ITok) (i : Nat) (line col : Int) (W : World) (h : RD W R all i line col) (hE : Env W) (hm : all.length ≤ 9223372036854775807) (hsh : Short all) (j : Nat) (hn : Sx.nameP (bare all) i = some (.error j)) :
    Calls Tryd.prog 51 #[.pointer (some ⟨R, 0, none⟩)] W fun e W' => e = .panicked [faultS (placeAt all j line col)] ∧ Below W.heap.size W W' := by
  obtain ⟨rfl, hb⟩ := nameP_err hn
  refine rname_bad R all j line col W h hE hm hsh fun t ht => hb (t.kind, t.text) (by rw [bare_at, ht]; rfl)

theorem zero_at {W w : World} {R : Nat} (hg : (W.alloc (Obj.cells #[Value.int IntKind.i64 0, Value.string { data := #[] }, Value.string { data := #[] }, Value.int IntKind.i64 0, Value.slice none 0 0] 107)).grownBy w (some R)) (hR : R < W.heap.size) :
    w.heap[W.heap.size]? = some (.cells #[Value.int IntKind.i64 0, Value.string { data := #[] }, Value.string { data := #[] }, Value.int IntKind.i64 0, Value.slice none 0 0] 107 (0, 0)) :=
  (hg.block W.heap.size (by simp) (by simp; omega)).trans (zero5 W)
theorem grown_alloc (w : World) (o : Obj) (r : Option Nat) : w.grownBy (w.alloc o) r := grown_below ((Below.refl w.heap.size w).alloc (Nat.le_refl _) o) r
theorem setC {w : World} {R b j : Nat} {v : Value} (h : R < b) : ∀ g, g ≤ R → (w.setCell ⟨b, j, none⟩ v).heap[g]? = w.heap[g]? := fun g hg => Below.heap_setCell _ _ _ g (by simp; omega)
theorem box_kept {w2 w4 w5 : World} {R : Nat} {cs : Array Value} (hR : R < w2.heap.size) (hg4 : (w2.alloc (Obj.cells cs 107)).grownBy w4 (some R)) (hg5 : w4.grownBy w5 (some R)) : w5.heap[w2.heap.size]? = some (.cells cs 107 (0, 0)) := by
  have h4s := hg4.size
  rw [World.size_alloc] at h4s
  exact (hg5.block w2.heap.size (by omega) (by simp; omega)).trans ((hg4.block w2.heap.size (by simp) (by simp; omega)).trans (World.alloc_heap_new w2 _))
theorem alloc_le {W w : World} {o : Obj} {r : Option Nat} (h : (W.alloc o).grownBy w r) : (W.alloc o).heap.size ≤ w.heap.size := h.size
theorem alloc_le' {W w : World} {o : Obj} {r : Option Nat} (h : (W.alloc o).grownBy w r) : W.heap.size + 1 ≤ w.heap.size := by have := h.size; rwa [World.size_alloc] at this
set_option maxHeartbeats 2000000 in
theorem call_calls (R : Nat) (all : List ITok) (i : Nat) (line col : Int) (res : Except Nat (Sx.St × Nat)) (hres : Sx.callP (bare all) (i + 1) = some res) (W : World) (h : RD W R all i line col) (hE : Env W) (hR : 4 ≤ R)
    (hm : all.length ≤ 9223372036854775807) (hsh : Short all) (t : ITok) (ht : all[i]? = some t) : Calls Tryd.prog 90 #[.pointer (some ⟨R, 0, none⟩)] W (Post W R all line col HSt res) := by
  have h0 := rd_alloc h (Obj.cells #[Value.int IntKind.i64 0, Value.string { data := #[] }, Value.string { data := #[] }, Value.int IntKind.i64 0, Value.slice none 0 0] 107)
  have hb0 : Below W.heap.size W (W.alloc (Obj.cells #[Value.int IntKind.i64 0, Value.string { data := #[] }, Value.string { data := #[] }, Value.int IntKind.i64 0, Value.slice none 0 0] 107)) := (Below.refl _ W).alloc (Nat.le_refl _) _
  have hE0 := hE.below hb0
  have N1 := Lib.hid (next_calls R all i line col _ h0 hm t ht)
  have hRlt := Lib.hid h.lt
  have hb0' := Lib.hid hb0
  have hE0' := Lib.hid hE0
  unfold Sx.callP Sx.andR at hres
  cases hn : Sx.nameP (bare all) (i + 1) with
  | none => exact absurd hn (nameP_not _ _)
  | some r1 =>
    rw [hn] at hres
    cases r1 with
    | error j =>
      simp at hres
      subst hres
      have X := Lib.hid (fun w1 (hr : RD w1 R all (i + 1) line col) (hE : Env w1) => rname_fault R all (i + 1) line col w1 hr hE hm hsh j hn)
      clear h hE ht hn h0 hb0 hE0 hm
      go_enter Tryd.func90, Tryd.ntmps90
      go_wp2_with (first | (go_at_call 50; refine N1.out.mono ?_; rintro e w1 ⟨rfl, hg1, hr1⟩) | (go_at_call 51; refine (X.out _ hr1 (hE0'.out.grown hg1 hR)).mono ?_; rintro e w2 ⟨rfl, hg2⟩))
      exact ⟨rfl, ((grown_below hb0'.out _).trans hg1).trans (grown_below hg2 _), rfl⟩
    | ok p =>
      obtain ⟨x, j⟩ := p
      have X := Lib.hid (fun w1 (hr : RD w1 R all (i + 1) line col) (hE : Env w1) => rname_calls R all (i + 1) line col w1 hr hE hm hsh x j hn)
      simp only at hres
      cases hf : Sx.isP [102, 114, 111, 109] (bare all) j
      · rw [hf] at hres
        have I := Lib.hid (fun w1 (hr : RD w1 R all j line col) => is_b ⟨#[102, 114, 111, 109]⟩ R all j line col false w1 hr hm hf)
        simp only [Bool.false_eq_true, if_false] at hres
        unfold Sx.endedP Sx.mustP Sx.andR at hres
        cases his : Sx.isP [59] (bare all) j
        · rw [his] at hres
          simp at hres
          subst hres
          have D := Lib.hid (fun w1 (hr : RD w1 R all j line col) => ended_bad R all j line col 8 0 x ⟨#[]⟩ none 0 0 w1 hr hm his)
          clear h hE ht hn h0 hb0 hE0 hm hf his
          go_enter Tryd.func90, Tryd.ntmps90
          go_wp2_with (first | (go_at_call 50; refine N1.out.mono ?_; rintro e w1 ⟨rfl, hg1, hr1⟩) | (go_at_call 51; refine (X.out _ hr1 (hE0'.out.grown hg1 hR)).mono ?_; rintro e w2 ⟨rfl, hg2, hr2⟩) | (go_at_call 49; refine (I.out _ (rd_alloc hr2 _)).mono ?_; rintro e w3 ⟨rfl, rfl⟩) | (go_at_call 89; refine (D.out _ (rd_alloc hr2 _)).mono ?_; rintro e w4 ⟨rfl, hg4⟩))
          exact ⟨rfl, (((grown_below hb0'.out _).trans hg1).trans hg2).trans ((grown_below ((Below.refl w2.heap.size w2).alloc (Nat.le_refl _) _) _).trans hg4), rfl⟩
        · rw [his] at hres
          simp at hres
          subst hres
          have D := Lib.hid (fun w1 (hr : RD w1 R all j line col) => ended_ok R all j line col 8 0 x ⟨#[]⟩ none 0 0 w1 hr hm his)
          clear h hE ht hn h0 hb0 hE0 hm hf his
          go_enter Tryd.func90, Tryd.ntmps90
          go_wp2_with (first | (go_at_call 50; refine N1.out.mono ?_; rintro e w1 ⟨rfl, hg1, hr1⟩) | (go_at_call 51; refine (X.out _ hr1 (hE0'.out.grown hg1 hR)).mono ?_; rintro e w2 ⟨rfl, hg2, hr2⟩) | (go_at_call 49; refine (I.out _ (rd_alloc hr2 _)).mono ?_; rintro e w3 ⟨rfl, rfl⟩) | (go_at_call 89; refine (D.out _ (rd_alloc hr2 _)).mono ?_; rintro e w4 ⟨rfl, hg4, hr4⟩; have hgA := ((hg1.trans hg2).trans (grown_alloc w2 _ _)).trans hg4; have hz := zero_at hgA hRlt.out; obtain ⟨z0, z1, z2, z3, z4, f0, f1, f2, f3, f4⟩ := box5 hz; have hz := Lib.hid hz))
          obtain ⟨hfin, hpost⟩ := stmt_end hRlt.out hgA hr4 (F := fun _ => False) (fun g h => h.elim) (show HSt w4 _ (.agg #[.int .i64 8, .string x, .string ⟨#[]⟩, .int .i64 0, .slice none 0 0]) (.mk 8 x Sx.e0 0 []) from ⟨none, 0, rfl, .inl rfl⟩)
          unfold put5 at hfin hpost
          obtain ⟨g0, g1, g2, g3, g4, _⟩ := box5 hfin
          exact ⟨rfl, _, by simp [results, Tryd.results90, go_sem, g0, g1, g2, g3, g4], hpost⟩
      · rw [hf] at hres
        have I := Lib.hid (fun w1 (hr : RD w1 R all j line col) => is_b ⟨#[102, 114, 111, 109]⟩ R all j line col true w1 hr hm hf)
        obtain ⟨t2, ht2⟩ : ∃ t2, all[j]? = some t2 := by
          cases h2 : all[j]? with
          | none => simp [Sx.isP, bare_at, h2] at hf
          | some t2 => exact ⟨t2, rfl⟩
        have N2 := Lib.hid (fun w1 (hr : RD w1 R all j line col) => next_calls R all j line col w1 hr hm t2 ht2)
        simp only [if_true] at hres
        cases hn2 : Sx.nameP (bare all) (j + 1) with
        | none => exact absurd hn2 (nameP_not _ _)
        | some r2 =>
          rw [hn2] at hres
          cases r2 with
          | error m =>
            simp at hres
            subst hres
            have Y := Lib.hid (fun w1 (hr : RD w1 R all (j + 1) line col) (hE : Env w1) => rname_fault R all (j + 1) line col w1 hr hE hm hsh m hn2)
            clear h hE ht hn h0 hb0 hE0 hm hf hn2 ht2
            go_enter Tryd.func90, Tryd.ntmps90
            go_wp2_with (first | (go_at_call 50; first | ((with_reducible refine N1.out.mono ?_); rintro e w1 ⟨rfl, hg1, hr1⟩) | ((with_reducible refine (N2.out _ (rd_alloc hr2 _)).mono ?_); rintro e w4 ⟨rfl, hg4, hr4⟩)) | (go_at_call 51; first | ((with_reducible refine (X.out _ hr1 (hE0'.out.grown hg1 hR)).mono ?_); rintro e w2 ⟨rfl, hg2, hr2⟩) | ((with_reducible refine (Y.out _ hr4 (((hE0'.out.grown hg1 hR).grown hg2 hR).grown ((grown_alloc w2 _ _).trans hg4) hR)).mono ?_); rintro e w5 ⟨rfl, hg5⟩)) | (go_at_call 49; refine (I.out _ (rd_alloc hr2 _)).mono ?_; rintro e w3 ⟨rfl, rfl⟩))
            exact ⟨rfl, (((grown_below hb0'.out _).trans (hg1.trans hg2)).trans (grown_alloc w2 _ _)).trans (hg4.trans (grown_below hg5 _)), rfl⟩
          | ok p2 =>
            obtain ⟨y, m⟩ := p2
            have Y := Lib.hid (fun w1 (hr : RD w1 R all (j + 1) line col) (hE : Env w1) => rname_calls R all (j + 1) line col w1 hr hE hm hsh y m hn2)
            simp only at hres
            unfold Sx.endedP Sx.mustP Sx.andR at hres
            cases his : Sx.isP [59] (bare all) m
            · rw [his] at hres
              simp at hres
              subst hres
              have D := Lib.hid (fun w1 (hr : RD w1 R all m line col) => ended_bad R all m line col 8 0 x y none 0 0 w1 hr hm his)
              clear h hE ht hn h0 hb0 hE0 hm hf hn2 ht2 his
              go_enter Tryd.func90, Tryd.ntmps90
              go_wp2_with (first | (go_at_call 50; first | ((with_reducible refine N1.out.mono ?_); rintro e w1 ⟨rfl, hg1, hr1⟩) | ((with_reducible refine (N2.out _ (rd_alloc hr2 _)).mono ?_); rintro e w4 ⟨rfl, hg4, hr4⟩)) | (go_at_call 51; first | ((with_reducible refine (X.out _ hr1 (hE0'.out.grown hg1 hR)).mono ?_); rintro e w2 ⟨rfl, hg2, hr2⟩) | ((with_reducible refine (Y.out _ hr4 (((hE0'.out.grown hg1 hR).grown hg2 hR).grown ((grown_alloc w2 _ _).trans hg4) hR)).mono ?_); rintro e w5 ⟨rfl, hg5, hr5⟩; have hbk := box_kept hr2.lt hg4 hg5; obtain ⟨p0, p1, p2, p3, p4, q0, q1, q2, q3, q4⟩ := box5 hbk; have hbk := Lib.hid hbk)) | (go_at_call 49; refine (I.out _ (rd_alloc hr2 _)).mono ?_; rintro e w3 ⟨rfl, rfl⟩) | (go_at_call 89; refine (D.out _ (hr5.keep (setC hr2.lt))).mono ?_; rintro e w7 ⟨rfl, hg7⟩))
              exact ⟨rfl, (grown_new ((((grown_below hb0'.out _).trans (hg1.trans hg2)).trans (grown_alloc w2 _ _)).trans (hg4.trans hg5)) (Nat.le_of_succ_le (alloc_le' (hg1.trans hg2))) (grown_set w5 w2.heap.size 2 (.string y))).trans hg7, rfl⟩
            · rw [his] at hres
              simp at hres
              subst hres
              have D := Lib.hid (fun w1 (hr : RD w1 R all m line col) => ended_ok R all m line col 8 0 x y none 0 0 w1 hr hm his)
              clear h hE ht hn h0 hb0 hE0 hm hf hn2 ht2 his
              go_enter Tryd.func90, Tryd.ntmps90
              go_wp2_with (first | (go_at_call 50; first | ((with_reducible refine N1.out.mono ?_); rintro e w1 ⟨rfl, hg1, hr1⟩) | ((with_reducible refine (N2.out _ (rd_alloc hr2 _)).mono ?_); rintro e w4 ⟨rfl, hg4, hr4⟩)) | (go_at_call 51; first | ((with_reducible refine (X.out _ hr1 (hE0'.out.grown hg1 hR)).mono ?_); rintro e w2 ⟨rfl, hg2, hr2⟩) | ((with_reducible refine (Y.out _ hr4 (((hE0'.out.grown hg1 hR).grown hg2 hR).grown ((grown_alloc w2 _ _).trans hg4) hR)).mono ?_); rintro e w5 ⟨rfl, hg5, hr5⟩; have hbk := box_kept hr2.lt hg4 hg5; obtain ⟨p0, p1, p2, p3, p4, q0, q1, q2, q3, q4⟩ := box5 hbk; have hbk := Lib.hid hbk)) | (go_at_call 49; refine (I.out _ (rd_alloc hr2 _)).mono ?_; rintro e w3 ⟨rfl, rfl⟩) | (go_at_call 89; refine (D.out _ (hr5.keep (setC hr2.lt))).mono ?_; rintro e w7 ⟨rfl, hg7, hr7⟩; have hgA := ((grown_new (((hg1.trans hg2).trans (grown_alloc w2 _ _)).trans (hg4.trans hg5)) (alloc_le (hg1.trans hg2)) (grown_set w5 w2.heap.size 2 (.string y)))).trans hg7; have hz := zero_at hgA hRlt.out; obtain ⟨z0, z1, z2, z3, z4, f0, f1, f2, f3, f4⟩ := box5 hz; have hz := Lib.hid hz))
              obtain ⟨hfin, hpost⟩ := stmt_end hRlt.out hgA hr7 (F := fun _ => False) (fun g h => h.elim) (show HSt w7 _ (.agg #[.int .i64 8, .string x, .string y, .int .i64 0, .slice none 0 0]) (.mk 8 x y 0 []) from ⟨none, 0, rfl, .inl rfl⟩)
              unfold put5 at hfin hpost
              obtain ⟨g0, g1, g2, g3, g4, _⟩ := box5 hfin
              exact ⟨rfl, _, by simp [results, Tryd.results90, go_sem, g0, g1, g2, g3, g4], hpost⟩
end Go.Proofs.YtifmalbdolpocaaDoor

namespace Go.Proofs.YtifmalbdolpocaaDoor
open Go.RowKit Go.Shelf

set_option maxHeartbeats 1000000 in
/-- Number: what a text spells, where it is a number. -/
theorem number_calls (s : ByteArray) (hs : s.size ≤ 281474976710656) (w : World) (hE : Env w) :
    Calls Tryd.prog 105 #[.string s] w fun e w' => (∃ er : Int, e = .returned (.tuple #[.int .i64 (Sx.numB s.data.toList), .int .i64 er])) ∧ Below w.heap.size w w' := by
  have R : Calls Tryd.prog 20 #[.string s, .int .i64 2] w fun e w' => e = .returned (.bool (Wd.right s.data.toList 2)) ∧ Below w.heap.size w w' := right_calls s hs 2 w hE
  cases hr : Wd.right s.data.toList 2
  · have hN : Sx.numB s.data.toList = 0 := by simp [Sx.numB, hr]
    rw [hr] at R
    rw [hN]
    have R := Lib.hid R
    clear hE hr hN
    go_enter Tryd.func105, Tryd.ntmps105
    go_wp2_with (go_at_call 20; refine R.out.mono ?_; rintro e w1 ⟨rfl, hb⟩)
    go_ret2
    exact ⟨⟨60, rfl⟩, hb⟩
  · rw [hr] at R
    have R := Lib.hid R
    obtain ⟨v, hv⟩ : ∃ v, Lib.parseIntB 64 s.data.toList = .ok v := by
      simp only [Wd.right, Nat.reduceEqDiff, if_false, if_true] at hr
      split at hr
      · rename_i v hv; exact ⟨v, hv⟩
      · cases hr
    have hN : Sx.numB s.data.toList = v := by simp [Sx.numB, hr, hv]
    have P : ∀ w1 : World, Calls Tryd.prog 44 #[.string s, .int .i64 10, .int .i64 64] w1 fun e w' => e = .returned (.tuple #[.int .i64 v, .nilIface]) ∧ Below w1.heap.size w1 w' := fun w1 =>
      (Tryd.strconv_ParseInt_10_at64_ok s (by omega) v hv w1).mono fun e w' ⟨he, hw⟩ => ⟨he, by
        rcases hw with rfl | ⟨t, rfl⟩
        · exact Below.refl _ _
        · exact Lib.bytesWorld_below w1 5 t⟩
    have P := Lib.hid P
    rw [hN]
    clear hE hr hN hv
    go_enter Tryd.func105, Tryd.ntmps105
    go_wp2_with (first | (go_at_call 20; refine R.out.mono ?_; rintro e w1 ⟨rfl, hb⟩) | (go_at_call 44; refine (P.out _).mono ?_; rintro e w2 ⟨rfl, hb2⟩))
    go_ret2
    exact ⟨⟨0, rfl⟩, below_chain hb hb2⟩
end Go.Proofs.YtifmalbdolpocaaDoor
