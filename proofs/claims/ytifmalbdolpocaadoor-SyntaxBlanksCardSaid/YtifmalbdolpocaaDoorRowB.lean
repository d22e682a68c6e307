/-
  Arguments opened: a slice of tokens, a slice of bytes.
-/
import Derived.Test.YtifmalbdolpocaaDoorWalkO
import Derived.Test.YtifmalbdolpocaaDoorRowA
import Derived.Deep.Slices
import Derived.Deep.Fields
import Derived.ChangeSame
import Derived.SizedLaws
import Derived.ChangeSlices
import Derived.Carry
namespace Go.Proofs.YtifmalbdolpocaaDoor
open Go.ChangeShapes Go.WideShapes Go.Deep Go.RowKit

section
variable {H : Type} {enc : TypeId × Value → H} {P : Program} {w : World} {base : Nat} {spare : Nat → Bool} {held : Bool}
theorem open_slice_fields {t e : TypeId} {fs : Array Field} {fuel : Nat} {cs : List Value} {x : DataW H × List MemPlace} (ht : P.underlying t = some (.slice e)) (he : P.underlying e = some (.struct fs))
    (hone : oneCellFields P fs = true) (hC : P.cellsOf e = fs.size) (h : DataW.trod enc P w base spare held fuel t cs = some x) :
    (cs = [.slice none 0 0] ∧ x = (.nil, [])) ∨
    ∃ (a : Addr) (len cap m : Nat) (D : Nat → DataW H) (Pl : Nat → List MemPlace), cs = [.slice (some a) len cap] ∧ base ≤ a.block ∧ len ≤ cap ∧ cap ≤ maxLen ∧ m = (if spare a.block then cap else len) ∧
      x = (.slice ((List.range len).map D) ((List.range (m - len)).map fun j => D (len + j)), MemPlace.row a (m * fs.size) ++ (List.range m).flatMap Pl) ∧
      ∀ i, i < m → ∃ (ys : List (DataW H × List MemPlace)) (n : Nat), D i = .agg (ys.map (·.1)) ∧ Pl i = ys.flatMap (·.2) ∧ ys.length = fs.size ∧
        ∀ (j : Nat) (f : Field), fs[j]? = some f → ∃ (v : Value) (y : DataW H × List MemPlace), w.cell? (a.add (i * fs.size + j)) = some v ∧ ys[j]? = some y ∧ DataW.trod enc P w base spare held n f.type [v] = some y := by
  rcases open_slice ht h with h0 | ⟨a, len, cap, m, n, D, Pl, hcs, hb, hl, hm, hmm, hx, hi⟩
  · exact .inl h0
  · refine .inr ⟨a, len, cap, m, D, Pl, hcs, hb, hl, hm, hmm, by rw [hC] at hx; exact hx, fun i him => ?_⟩
    obtain ⟨cs', hc, ht'⟩ := hi i him
    rw [hC] at hc
    obtain ⟨ys, n', hn', hy, hlen, hyl, hf⟩ := DataW.trod_struct he ht'
    obtain ⟨_, hcl, hat⟩ := World.cells?_some hc
    simp only [Prod.mk.injEq] at hy
    refine ⟨ys, n', hy.1, hy.2, hyl, fun j f hj => ?_⟩
    obtain ⟨ho, hk⟩ := hone_of hone j f hj
    have hjl : j < fs.size := (Array.getElem?_eq_some_iff.1 hj).1
    have hcell := hat j hjl
    have hv : cs'[j]? = some (cs'[j]'(by omega)) := List.getElem?_eq_getElem (by omega)
    have h1 := hf j f hj
    rw [ho, hk] at h1
    have hone' : (cs'.drop j).take 1 = [cs'[j]'(by omega)] := by
      rw [List.drop_eq_getElem_cons (by omega)]
      rfl
    rw [hone'] at h1
    have hys : ys[j]? = some (ys[j]'(by omega)) := List.getElem?_eq_getElem (by omega)
    refine ⟨_, _, ?_, hys, h1.trans hys⟩
    rw [← Go.Deep.add_add, hcell, hv]
end

theorem laidOut : laidOutB Tryd.prog = true := by kernel_rfl
theorem one29 : oneCellFields Tryd.prog #[{ name := "Kind", type := 27, offset := 0, embedded := false, tag := "", pkgPath := "", byteOffset := 0 }, { name := "Text", type := 9, offset := 1, embedded := false, tag := "", pkgPath := "", byteOffset := 8 },
    { name := "Line", type := 3, offset := 2, embedded := false, tag := "", pkgPath := "", byteOffset := 24 }, { name := "Col", type := 3, offset := 3, embedded := false, tag := "", pkgPath := "", byteOffset := 32 }] = true := by kernel_rfl
theorem cells29 : Tryd.prog.cellsOf 29 = 4 := by kernel_rfl
theorem cells5 : Tryd.prog.cellsOf 5 = 1 := by kernel_rfl
theorem bytes29 : Tryd.prog.bytesOf 29 = 40 := by kernel_rfl
theorem bytes5 : Tryd.prog.bytesOf 5 = 1 := by kernel_rfl
theorem block_of_cell {w : World} {a : Addr} {v : Value} (h : w.cell? a = some v) : a.block < w.heap.size := by
  rcases Nat.lt_or_ge a.block w.heap.size with h' | h'
  · exact h'
  · simp [World.cell?, Array.getElem?_eq_none h'] at h
theorem add_block (a : Addr) (n : Nat) : (a.add n).block = a.block := by unfold Addr.add; split <;> rfl
theorem add_field (ad : Addr) (m j : Nat) (hj : 0 < j) : ad.add (m + j) = ⟨(ad.add m).block, (ad.add m).off + j, none⟩ := by
  unfold Addr.add
  by_cases hm : m = 0
  · subst hm
    simp [Nat.ne_of_gt hj]
  · simp [hm, Nat.add_assoc]
theorem weights_all {H : Type} {e : TypeId} : ∀ {l : List (DataW H)} {d : DataW H}, d ∈ l → ∀ n ∈ d.weights Tryd.prog e, n ∈ DataW.weightsAll Tryd.prog e l
  | [], _, h, _, _ => by simp at h
  | x :: l, d, h, n, hn => by
    simp only [DataW.weightsAll, List.mem_append]
    rcases List.mem_cons.1 h with rfl | h
    · exact .inl hn
    · exact .inr (weights_all h n hn)
theorem choose_list {α : Type} (Q : Nat → α → Prop) : ∀ n : Nat, (∀ i, i < n → ∃ a, Q i a) → ∃ l : List α, l.length = n ∧ ∀ (i : Nat) (a : α), l[i]? = some a → Q i a
  | 0, _ => ⟨[], rfl, fun i a h => by simp at h⟩
  | n + 1, h => by
    obtain ⟨l, hl, hq⟩ := choose_list Q n (fun i hi => h i (by omega))
    obtain ⟨a, ha⟩ := h n (by omega)
    refine ⟨l ++ [a], by simp [hl], fun i b hb => ?_⟩
    by_cases hi : i < l.length
    · rw [List.getElem?_append_left hi] at hb; exact hq i b hb
    · rw [List.getElem?_append_right (by omega)] at hb
      have h0 : i - l.length = 0 := by
        rcases Nat.eq_zero_or_pos (i - l.length) with h | h
        · exact h
        · rw [List.getElem?_eq_none (by simp; omega)] at hb; cases hb
      rw [h0] at hb
      simp at hb
      rw [← hb, show i = n by omega]; exact ha

set_option maxRecDepth 100000 in
/-- A slice of tokens that came in. -/
theorem open_toks {H : Type} {enc : TypeId × Value → H} {W : World} {base : Nat} {v : Value} {d : DataW H} {p : List MemPlace} (hval : Value.okWide Tryd.prog W .any base 23 v)
    (h : DataW.Trod enc Tryd.prog W 0 (fun _ => true) true 23 v d p) (hsz : ∀ n ∈ d.weights Tryd.prog 23, n ≤ reachBytes) :
    ∃ A l cp, v = .slice A l.length cp ∧ Toks W A l ∧ l.length ≤ cp ∧ cp ≤ maxLen ∧ l.length * 40 ≤ reachBytes ∧ ∀ t ∈ l, t.text.size ≤ reachBytes := by
  obtain ⟨a0, len, cap, rfl⟩ := okWide_slice Tryd.underlying23 hval
  obtain ⟨fuel, hf⟩ := h
  rcases open_slice_fields Tryd.underlying23 Tryd.underlying29 one29 cells29 hf with ⟨hcs, hx⟩ | ⟨a, len', cap', m, D, Pl, hcs, _, hl, hm, hmm, hx, hi⟩
  · simp [Value.cells] at hcs
    obtain ⟨rfl, rfl, rfl⟩ := hcs
    exact ⟨none, [], 0, rfl, fun k t hk => by simp at hk, Nat.le_refl _, Nat.zero_le _, Nat.zero_le _, fun t ht => by simp at ht⟩
  · simp [Value.cells] at hcs
    obtain ⟨rfl, rfl, rfl⟩ := hcs
    obtain ⟨rfl, rfl⟩ := Prod.mk.inj hx
    rw [if_pos rfl] at hmm
    obtain ⟨l, hll, hq⟩ := choose_list (fun i (t : ITok) => W.cell? (a.add (i * 4)) = some (.int .i64 t.kind) ∧ W.cell? (a.add (i * 4 + 1)) = some (.string t.text) ∧ W.cell? (a.add (i * 4 + 2)) = some (.int .i64 t.line) ∧
        W.cell? (a.add (i * 4 + 3)) = some (.int .i64 t.col) ∧ t.text.size ≤ reachBytes) len (fun i hil => by
      obtain ⟨ys, n, hD, _, _, hfd⟩ := hi i (by omega)
      obtain ⟨v0, y0, c0, _, t0⟩ := hfd 0 _ rfl
      obtain ⟨v1, y1, c1, g1, t1⟩ := hfd 1 _ rfl
      obtain ⟨v2, y2, c2, _, t2⟩ := hfd 2 _ rfl
      obtain ⟨v3, y3, c3, _, t3⟩ := hfd 3 _ rfl
      obtain ⟨k, hk, _, _⟩ := DataW.trod_int Tryd.underlying27 t0
      obtain ⟨s, hs, hy1, _⟩ := DataW.trod_string und9 t1
      obtain ⟨ln, hln, _, _⟩ := DataW.trod_int Tryd.underlying3 t2
      obtain ⟨cl, hcl, _, _⟩ := DataW.trod_int Tryd.underlying3 t3
      rw [List.cons.inj hk |>.1] at c0
      rw [List.cons.inj hs |>.1] at c1
      rw [List.cons.inj hln |>.1] at c2
      rw [List.cons.inj hcl |>.1] at c3
      refine ⟨⟨k, s, ln, cl⟩, c0, c1, c2, c3, ?_⟩
      have hs0 : s.data.toList.length = s.size := by simp
      rw [← hs0]
      refine hsz _ ?_
      simp only [DataW.weights, Tryd.underlying23, List.mem_cons, List.mem_append]
      refine .inr (.inl (weights_all (d := D i) (List.mem_map.2 ⟨i, by simpa using hil, rfl⟩) _ ?_))
      rw [hD]
      simp only [DataW.weights, Tryd.underlying29]
      refine DataW.weights_mem_each (j := 1) (t := 9) (d := .lit (.string s.data.toList)) rfl (by rw [List.getElem?_map, g1, hy1]; rfl) _ (by simp [DataW.weights]))
    subst hll
    refine ⟨some a, l, cap, rfl, ?_, hl, hm, ?_, ?_⟩
    · intro k t hk
      obtain ⟨q0, q1, q2, q3, _⟩ := hq k t hk
      refine ⟨a, rfl, ?_, q0, ?_, ?_, ?_⟩
      · have := block_of_cell q0; rwa [add_block] at this
      · rw [← add_field _ _ 1 (by omega)]; exact q1
      · rw [← add_field _ _ 2 (by omega)]; exact q2
      · rw [← add_field _ _ 3 (by omega)]; exact q3
    · have := hsz ((((List.range l.length).map D).length + ((List.range (m - l.length)).map fun j => D (l.length + j)).length) * Tryd.prog.bytesOf 29) (by simp [DataW.weights, Tryd.underlying23])
      rw [bytes29] at this
      simp at this
      omega
    · intro t ht
      obtain ⟨i, hi'⟩ := List.getElem?_of_mem ht
      exact (hq i t hi').2.2.2.2

set_option maxRecDepth 100000 in
/-- A slice of bytes that came in. -/
theorem open_gaps {H : Type} {enc : TypeId × Value → H} {W : World} {base : Nat} {v : Value} {d : DataW H} {p : List MemPlace} (hval : Value.okWide Tryd.prog W .any base 34 v)
    (h : DataW.Trod enc Tryd.prog W 0 (fun _ => true) true 34 v d p) (hsz : ∀ n ∈ d.weights Tryd.prog 34, n ≤ reachBytes) :
    ∃ A gs cp, v = .slice A gs.length cp ∧ Gaps W A gs ∧ gs.length ≤ reachBytes := by
  obtain ⟨a0, len, cap, rfl⟩ := okWide_slice Tryd.underlying34 hval
  obtain ⟨fuel, hf⟩ := h
  rcases open_ints Tryd.underlying34 Tryd.underlying5 cells5 hf with ⟨hcs, hx⟩ | ⟨a, len', cap', zs, hcs, _, hl, hm, hzl, hx, hcell, hwf⟩
  · simp [Value.cells] at hcs
    obtain ⟨rfl, rfl, rfl⟩ := hcs
    exact ⟨none, [], 0, rfl, fun k t hk => by simp at hk, Nat.zero_le _⟩
  · simp [Value.cells] at hcs
    obtain ⟨rfl, rfl, rfl⟩ := hcs
    obtain ⟨rfl, rfl⟩ := Prod.mk.inj hx
    rw [if_pos rfl] at hzl
    have hlen : (zs.take len).length = len := by simp; omega
    refine ⟨some a, zs.take len, cap, by rw [hlen], ?_, ?_⟩
    · intro k z hk
      rw [List.getElem?_take] at hk
      split at hk
      · have hkz : k < zs.length := (List.getElem?_eq_some_iff.1 hk).1
        have hc := hcell k hkz
        rw [List.getD_eq_getElem?_getD, hk] at hc
        have hw := hwf z (List.mem_of_getElem? hk)
        have hb : 0 ≤ z ∧ z < 256 := by
          have e1 : IntKind.u8.min = 0 := rfl
          have e2 : IntKind.u8.max = 255 := rfl
          simp [Lit.wf, e1, e2] at hw
          omega
        refine ⟨a, rfl, ?_, hc, hb.1, hb.2⟩
        have := block_of_cell hc
        rwa [add_block] at this
      · cases hk
    · have := hsz (((lits (H := H) .u8 (zs.take len)).length + (lits (H := H) .u8 (zs.drop len)).length) * Tryd.prog.bytesOf 5) (by simp [DataW.weights, Tryd.underlying34])
      rw [bytes5] at this
      simp [lits] at this
      rw [hlen]
      omega
end Go.Proofs.YtifmalbdolpocaaDoor
