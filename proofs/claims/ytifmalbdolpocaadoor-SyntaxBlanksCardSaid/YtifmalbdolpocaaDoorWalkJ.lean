/-
  The walks of package words, tenth part: WordsStand.
-/
import Derived.Test.YtifmalbdolpocaaDoorWalkI
import Derived.Deep.QuietTactic
import Derived.BigQuiet
namespace Go.Proofs.YtifmalbdolpocaaDoor
open Go.RowKit Go.Shelf

namespace Wd
theorem toks_len : ∀ (n : Nat) (l : List B) (a b : Nat), (toks n l a b).1.length ≤ l.length
  | 0, _, _, _ => by simp [toks]
  | _ + 1, [], _, _ => by simp [toks]
  | n + 1, c :: r, a, b => by
    unfold toks
    split
    · have := toks_len n r (a + 1) 1; simp; omega
    · rename_i h10
      split
      · have := toks_len n r a (b + 1); simp; omega
      · split
        · split
          · simp
          · have := toks_len n ((c :: r).drop (row (· != 10) (c :: r))) a (b + row (· != 10) (c :: r))
            simp only [List.length_drop] at this
            omega
        · simp only
          split
          · have := toks_len n ((c :: r).drop (piece (c :: r)).1) a (b + (piece (c :: r)).1)
            have := (piece_ok c r h10).1
            simp only [List.length_cons] at this ⊢
            simp only [List.length_drop, List.length_cons] at *
            omega
          · simp
end Wd

theorem bytes_ext {a b : ByteArray} (h : a.data.toList = b.data.toList) : a = b := by
  cases a; cases b; simpa using h
/-- What the round of WordsStand asks, of the token at hand. -/
structure StandAt (s : ByteArray) (last : Nat) (t : Wd.Tok) (tx : ByteArray) (fr k o : Nat) : Prop where
  split : o = fr + k
  col : t.col = k + 1
  last : last ≤ o
  some : 0 < tx.size
  fits : o + tx.size ≤ s.size
  text : s.extract o (o + tx.size) = tx
  begin : ∀ w, Calls Tryd.prog 8 #[.string s, .int .i64 t.line] w fun e w' => e = .returned (.int .i64 fr) ∧ w = w'
  place : ∀ w, Calls Tryd.prog 9 #[.string s, .int .i64 o] w fun e w' => e = .returned (.tuple #[.int .i64 t.line, .int .i64 t.col, .int .i64 0]) ∧ w = w'
theorem standAt (s : ByteArray) (hs : s.size ≤ 20000) {last : Nat} {t : Wd.Tok} {r : List Wd.Tok} (h : Wd.Row s.data.toList last (t :: r)) :
    ∃ tx fr k o, (⟨t.text.toArray⟩ : ByteArray) = tx ∧ StandAt s last t tx fr k o ∧ Wd.Row s.data.toList (o + tx.size) r := by
  obtain ⟨o, hlo, hat, hr⟩ := h
  have hlen : s.data.toList.length = s.size := by simp
  have hsz : (⟨t.text.toArray⟩ : ByteArray).size = t.text.length := by simp [ByteArray.size]
  have hfit : o + t.text.length ≤ s.size := by have := hat.fits; omega
  have hk : Wd.cl (s.data.toList.take o) ≤ o := Nat.le_trans (Wd.cl_le _) (by simp; omega)
  refine ⟨_, o - Wd.cl (s.data.toList.take o), Wd.cl (s.data.toList.take o), o, rfl, ⟨by omega, hat.col, hlo, by rw [hsz]; exact hat.some, by rw [hsz]; exact hfit, ?_, ?_, ?_⟩, by rw [hsz]; exact hr⟩
  · rw [hsz]
    refine bytes_ext ?_
    rw [cut_data, show o + t.text.length - o = t.text.length from by omega]
    simpa using hat.text.symm
  · intro w
    have := begin_calls s (by omega) o (by omega) w
    rwa [← hat.line] at this
  · intro w
    have := place_calls s (by omega) o (by omega) w
    rwa [← hat.line, ← hat.col] at this

/-- What Split tells to WordsStand. -/
structure StandL (s : ByteArray) (w : World) (l : List Wd.Tok) (er : Nat) (A : Option Addr) (W : World) : Prop where
  row : er = 0 → Wd.Row s.data.toList 0 l
  nil : er ≠ 0 → l = []
  below : Below w.heap.size w W
  small : l.length ≤ 20000
  cells : ∀ (k : Nat) (t : Wd.Tok), l[k]? = some t → ∃ g, A = some ⟨g, 0, none⟩ ∧ g < W.heap.size ∧ ∀ j u, (tokCells t)[j]? = some u → W.cell? ⟨g, k * 4 + j, none⟩ = some u
theorem split_stand (s : ByteArray) (hs : s.size ≤ 20000) (w : World) (hE : Env w) : Calls Tryd.prog 7 #[.string s] w fun e W => ∃ A l cp li co er,
    e = .returned (.tuple #[.slice A l.length cp, .int .i64 (li : Nat), .int .i64 (co : Nat), .int .i64 (er : Nat)]) ∧ StandL s w l er A W := by
  have hl := Wd.toks_len (s.size + 1) s.data.toList 1 1
  have hsl : s.data.toList.length = s.size := by simp
  refine (split_calls s w hE (by omega) (fun _ => by omega)).mono ?_
  rintro e W ⟨v, he, hrow, hb⟩
  have hRow : (splitR s).2.2.2 = 0 → Wd.Row s.data.toList 0 (splitR s).1 := by
    unfold splitR
    rw [if_neg (by omega)]
    cases h : (Wd.toks (s.size + 1) s.data.toList 1 1).2 with
    | none =>
      intro _
      have := Wd.toks_row s.data.toList (s.size + 1) 0 1 1 (by simp) (by simp) (by simp [Wd.cl_nil])
      simpa using this
    | some p => obtain ⟨a, b⟩ := p; intro h; exact absurd (show 60 = 0 from h) (by decide)
  have hNil : (splitR s).2.2.2 ≠ 0 → (splitR s).1 = [] := by
    unfold splitR
    rw [if_neg (by omega)]
    cases h : (Wd.toks (s.size + 1) s.data.toList 1 1).2 with
    | none => intro h; exact absurd rfl h
    | some p => obtain ⟨a, b⟩ := p; intro _; rfl
  have hSm : (splitR s).1.length ≤ 20000 := by
    unfold splitR
    rw [if_neg (by omega)]
    cases h : (Wd.toks (s.size + 1) s.data.toList 1 1).2 with
    | none => simp only; omega
    | some p => simp
  generalize splitR s = R at he hrow hRow hNil hSm
  obtain ⟨l, li, co, er⟩ := R
  by_cases h0 : l = []
  · subst h0
    have hcells : ∀ (A : Option Addr) (k : Nat) (t : Wd.Tok), ([] : List Wd.Tok)[k]? = some t → ∃ g, A = some ⟨g, 0, none⟩ ∧ g < W.heap.size ∧ ∀ j u, (tokCells t)[j]? = some u → W.cell? ⟨g, k * 4 + j, none⟩ = some u := fun A k t h => by simp at h
    rcases hrow.2 with ⟨rfl, _⟩ | ⟨g, cap, cur, rfl, _⟩
    · exact ⟨none, [], 0, li, co, er, he, ⟨hRow, hNil, hb, hSm, hcells _⟩⟩
    · exact ⟨_, [], cap, li, co, er, he, ⟨hRow, hNil, hb, hSm, hcells _⟩⟩
  · obtain ⟨g, cap, rfl, _, hg, _, hc⟩ := row_reads hrow h0
    exact ⟨_, l, cap, li, co, er, he, ⟨hRow, hNil, hb, hSm, fun k t hk => ⟨g, rfl, hg, fun j u hu => hc k j t u hk hu⟩⟩⟩

set_option maxRecDepth 100000 in
set_option maxHeartbeats 2000000 in
theorem stand_calls (s : ByteArray) (w : World) (hE : Env w) : Calls Tryd.prog 3 #[.string s] w fun e w' => e = .returned (.bool true) ∧ Below w.heap.size w w' := by
  have AW := Lib.hid (awake_calls w hE)
  obtain ⟨s', hs', hz⟩ : ∃ s' : ByteArray, ((20000 < s.size ∧ s.extract 0 20000 = s') ∨ (¬ 20000 < s.size ∧ s' = s)) ∧ s'.size ≤ 20000 := by
    by_cases h : 20000 < s.size
    · exact ⟨_, .inl ⟨h, rfl⟩, by rw [ByteArray.size_extract]; omega⟩
    · exact ⟨_, .inr ⟨h, rfl⟩, by omega⟩
  have C := Lib.hid (fun w1 (hb : Below w.heap.size w w1) => split_stand s' hz w1 (hE.below hb))
  have hz2 := Lib.hid hz
  clear hE hz
  have hneg : ∀ er : Nat, er ≠ 0 → ((er : Int) == 0) = false := fun er h => by simp; omega
  rcases hs' with ⟨hbig, hcut⟩ | ⟨hbig, hcut⟩
  · have hbig' : 20000 < (s.size : Int) := by omega
    clear hbig
    go_enter Tryd.func3, Tryd.ntmps3
    go_wp2_with (first | (go_at_call 6; refine AW.out.mono ?_; rintro e w1 ⟨rfl, hb⟩) | (go_at_call 7; refine (C.out _ hb).mono ?_; rintro e w2 ⟨A, l, cp, li, co, er, rfl, hl⟩))
    · have hl0 : l = [] := by
        have hq : ((er : Int) != 0) = true := by assumption
        exact hl.nil (by rintro rfl; simp at hq)
      subst hl0
      have hlb := hl.below
      clear AW C hl hneg
      go_ret
      exact ⟨rfl, below_chain hb hlb⟩
    · have her : er = 0 := by
        have hq : ((er : Int) != 0) = false := by assumption
        simp at hq; omega
      have hRow := Lib.hid (hl.row her)
      have hcells := Lib.hid hl.cells
      have hlb := Lib.hid hl.below
      have hlen : l.length ≤ 20000 := hl.small
      subst her
      clear AW C hl hneg
      go_loopw [7, 8] (fun x y wr => ∃ i last : Nat, x = .int .i64 last ∧ y = .int .i64 i ∧ i ≤ l.length ∧ last ≤ s'.size ∧ Wd.Row s'.data.toList last (l.drop i) ∧ Below w2.heap.size w2 wr)
        (fun _ y _ => l.length - (intOf y).toNat)
      case atStart => exact ⟨0, 0, rfl, rfl, Nat.zero_le _, Nat.zero_le _, hRow.out, Below.refl _ _⟩
      case round =>
        obtain ⟨i, last, rfl, rfl, hi, hlast, hrow, hbw⟩ := hrel
        by_cases hlt : i < l.length
        · by_cases h300 : i < 300
          · obtain ⟨t, ht⟩ : ∃ t, l[i]? = some t := ⟨_, List.getElem?_eq_getElem hlt⟩
            have hdrop : l.drop i = t :: l.drop (i + 1) := by
              rw [List.drop_eq_getElem_cons hlt]
              rw [List.getElem?_eq_getElem hlt] at ht
              rw [Option.some.inj ht]
            rw [hdrop] at hrow
            obtain ⟨tx, fr, k, o, htx, hst, hrest⟩ := standAt s' hz2.out hrow
            obtain ⟨g, rfl, hg, hcl⟩ := hcells.out i t ht
            have c0 : wr.cell? ⟨g, i * 4, none⟩ = some (.int .i64 t.kind) := (World.cell?_of_block (hbw.block g hg)).trans (hcl 0 _ rfl)
            have c1 : wr.cell? ⟨g, i * 4 + 1, none⟩ = some (.string ⟨t.text.toArray⟩) := (World.cell?_of_block (hbw.block g hg)).trans (hcl 1 _ rfl)
            have c2 : wr.cell? ⟨g, i * 4 + 2, none⟩ = some (.int .i64 t.line) := (World.cell?_of_block (hbw.block g hg)).trans (hcl 2 _ rfl)
            have c3 : wr.cell? ⟨g, i * 4 + 3, none⟩ = some (.int .i64 t.col) := (World.cell?_of_block (hbw.block g hg)).trans (hcl 3 _ rfl)
            rw [htx] at c1
            have hz3 := hz2.out
            have e1 := hst.split
            have e2 := hst.col
            have e3 := hst.last
            have e4 := hst.some
            have e5 := hst.fits
            rw [e2] at c3
            have hB := Lib.hid hst.begin
            have hP := hst.place
            rw [e2] at hP
            have hP := Lib.hid hP
            have hX := Lib.hid hst.text
            have hR := Lib.hid hrest
            have hbw' := Lib.hid hbw
            clear hst hrest hrow hdrop ht htx hcl hRow hcells hbw hg
            generalize t.line = ln at c2 hB hP
            generalize t.kind = kd at c0
            go_wp2_with (first | (go_at_call 8; refine (hB.out _).mono ?_; rintro e w3 ⟨rfl, rfl⟩) | (go_at_call 9; refine (hP.out _).mono ?_; rintro e w3 ⟨rfl, rfl⟩))
            obtain ⟨W, hW⟩ : ∃ W, (wr.alloc (Obj.cells #[Value.int IntKind.i64 ↑kd, Value.string tx, Value.int IntKind.i64 ↑ln, Value.int IntKind.i64 (↑k + 1)] 29)) = W := ⟨_, rfl⟩
            have d1 : W.cell? ⟨wr.heap.size, 1, none⟩ = some (.string tx) := by rw [← hW]; simp [go_sem]
            have d2 : W.cell? ⟨wr.heap.size, 2, none⟩ = some (.int .i64 ln) := by rw [← hW]; simp [go_sem]
            have d3 : W.cell? ⟨wr.heap.size, 3, none⟩ = some (.int .i64 (k + 1)) := by rw [← hW]; simp [go_sem]
            have hbW := Lib.hid (show Below w2.heap.size w2 W from by rw [← hW]; exact hbw'.out.alloc hbw'.out.size _)
            rw [hW, show ((fr : Int) + ((k : Int) + 1) - 1) = o from by omega]
            clear hW
            have hX1 := hX.out
            have q1 : decide (o < last) = false := decide_eq_false (by omega)
            have q2 : IntKind.i64.wrap ((s'.size : Int) - (o : Int)) = (s'.size : Int) - (o : Int) := IntWalk.i64_in _ (by omega)
            have q3 : decide ((s'.size : Int) - (o : Int) < (tx.size : Int)) = false := decide_eq_false (by omega)
            have q5 : IntKind.i64.wrap ((o : Int) + (tx.size : Int)) = (o : Int) + (tx.size : Int) := IntWalk.i64_in _ (by omega)
            have q6 : ((o : Int) + (tx.size : Int)).toNat = o + tx.size := by omega
            have q4 : tx.toList.isEmpty = false := by
              rw [ByteArray.toList_eq]
              have : tx.data.toList.length = tx.size := by simp
              cases h : tx.data.toList with
              | nil => rw [h] at this; simp at this; omega
              | cons a b => rfl
            have q7 : 0 ≤ (o : Int) := by omega
            have q8 : (o : Int) ≤ (o : Int) + (tx.size : Int) := by omega
            have q9 : (o : Int) + (tx.size : Int) ≤ (s'.size : Int) := by omega
            have e2' := Lib.hid e2
            clear e1 e2 e3 hbig'
            go_quiet (fail)
            clear q1 q2 q3 q4 q5 q6 q7 q8 q9 hX1
            go_wp2_with (first | (go_at_call 8; refine (hB.out _).mono ?_; rintro e w3 ⟨rfl, rfl⟩) | (go_at_call 9; refine (hP.out _).mono ?_; rintro e w3 ⟨rfl, rfl⟩))
            go_roundw
            case rel =>
              refine ⟨_, _, _, _, _, _, _, _, _, _, _, _, _, _, _, _, _, _, _, _, _, _, _, _, _, _, _, _, _, _, _, _, _, _, _, _, _, _, _, _, _, _, _, _, _, _, _, _, _, _, _, _, _, _, _, _, _, _, _, _, _, _, _, _, _, _, _, _, _, _, _, _, _, _, _, _, _, _, _, _, _, _, _, _, _, _, _, _, _, _, _, _, _, _, _, _, _, _, _, _, _, _, _, _, _, ?_, rfl⟩
              exact ⟨i + 1, o + tx.size, by go_num, by go_num, hlt, e5, hR.out, hbW.out.trans ⟨rfl, rfl, rfl, Nat.le_refl _, fun _ _ => rfl⟩⟩
            case measure => simp [intOf]; omega
          · have h300' : ¬ (i : Int) < 300 := by omega
            clear hrow
            go_wp2
            go_ret
            exact ⟨rfl, below_chain (below_chain hb hlb.out) hbw⟩
        · have hlt' : ¬ (i : Int) < (l.length : Int) := by omega
          clear hrow
          go_wp2
          go_ret
          exact ⟨rfl, below_chain (below_chain hb hlb.out) hbw⟩
  · subst hcut
    have hbig' : ¬ 20000 < (s'.size : Int) := by omega
    clear hbig
    go_enter Tryd.func3, Tryd.ntmps3
    go_wp2_with (first | (go_at_call 6; refine AW.out.mono ?_; rintro e w1 ⟨rfl, hb⟩) | (go_at_call 7; refine (C.out _ hb).mono ?_; rintro e w2 ⟨A, l, cp, li, co, er, rfl, hl⟩))
    · have hl0 : l = [] := by
        have hq : ((er : Int) != 0) = true := by assumption
        exact hl.nil (by rintro rfl; simp at hq)
      subst hl0
      have hlb := hl.below
      clear AW C hl hneg
      go_ret
      exact ⟨rfl, below_chain hb hlb⟩
    · have her : er = 0 := by
        have hq : ((er : Int) != 0) = false := by assumption
        simp at hq; omega
      have hRow := Lib.hid (hl.row her)
      have hcells := Lib.hid hl.cells
      have hlb := Lib.hid hl.below
      have hlen : l.length ≤ 20000 := hl.small
      subst her
      clear AW C hl hneg
      go_loopw [7, 8] (fun x y wr => ∃ i last : Nat, x = .int .i64 last ∧ y = .int .i64 i ∧ i ≤ l.length ∧ last ≤ s'.size ∧ Wd.Row s'.data.toList last (l.drop i) ∧ Below w2.heap.size w2 wr)
        (fun _ y _ => l.length - (intOf y).toNat)
      case atStart => exact ⟨0, 0, rfl, rfl, Nat.zero_le _, Nat.zero_le _, hRow.out, Below.refl _ _⟩
      case round =>
        obtain ⟨i, last, rfl, rfl, hi, hlast, hrow, hbw⟩ := hrel
        by_cases hlt : i < l.length
        · by_cases h300 : i < 300
          · obtain ⟨t, ht⟩ : ∃ t, l[i]? = some t := ⟨_, List.getElem?_eq_getElem hlt⟩
            have hdrop : l.drop i = t :: l.drop (i + 1) := by
              rw [List.drop_eq_getElem_cons hlt]
              rw [List.getElem?_eq_getElem hlt] at ht
              rw [Option.some.inj ht]
            rw [hdrop] at hrow
            obtain ⟨tx, fr, k, o, htx, hst, hrest⟩ := standAt s' hz2.out hrow
            obtain ⟨g, rfl, hg, hcl⟩ := hcells.out i t ht
            have c0 : wr.cell? ⟨g, i * 4, none⟩ = some (.int .i64 t.kind) := (World.cell?_of_block (hbw.block g hg)).trans (hcl 0 _ rfl)
            have c1 : wr.cell? ⟨g, i * 4 + 1, none⟩ = some (.string ⟨t.text.toArray⟩) := (World.cell?_of_block (hbw.block g hg)).trans (hcl 1 _ rfl)
            have c2 : wr.cell? ⟨g, i * 4 + 2, none⟩ = some (.int .i64 t.line) := (World.cell?_of_block (hbw.block g hg)).trans (hcl 2 _ rfl)
            have c3 : wr.cell? ⟨g, i * 4 + 3, none⟩ = some (.int .i64 t.col) := (World.cell?_of_block (hbw.block g hg)).trans (hcl 3 _ rfl)
            rw [htx] at c1
            have hz3 := hz2.out
            have e1 := hst.split
            have e2 := hst.col
            have e3 := hst.last
            have e4 := hst.some
            have e5 := hst.fits
            rw [e2] at c3
            have hB := Lib.hid hst.begin
            have hP := hst.place
            rw [e2] at hP
            have hP := Lib.hid hP
            have hX := Lib.hid hst.text
            have hR := Lib.hid hrest
            have hbw' := Lib.hid hbw
            clear hst hrest hrow hdrop ht htx hcl hRow hcells hbw hg
            generalize t.line = ln at c2 hB hP
            generalize t.kind = kd at c0
            go_wp2_with (first | (go_at_call 8; refine (hB.out _).mono ?_; rintro e w3 ⟨rfl, rfl⟩) | (go_at_call 9; refine (hP.out _).mono ?_; rintro e w3 ⟨rfl, rfl⟩))
            obtain ⟨W, hW⟩ : ∃ W, (wr.alloc (Obj.cells #[Value.int IntKind.i64 ↑kd, Value.string tx, Value.int IntKind.i64 ↑ln, Value.int IntKind.i64 (↑k + 1)] 29)) = W := ⟨_, rfl⟩
            have d1 : W.cell? ⟨wr.heap.size, 1, none⟩ = some (.string tx) := by rw [← hW]; simp [go_sem]
            have d2 : W.cell? ⟨wr.heap.size, 2, none⟩ = some (.int .i64 ln) := by rw [← hW]; simp [go_sem]
            have d3 : W.cell? ⟨wr.heap.size, 3, none⟩ = some (.int .i64 (k + 1)) := by rw [← hW]; simp [go_sem]
            have hbW := Lib.hid (show Below w2.heap.size w2 W from by rw [← hW]; exact hbw'.out.alloc hbw'.out.size _)
            rw [hW, show ((fr : Int) + ((k : Int) + 1) - 1) = o from by omega]
            clear hW
            have hX1 := hX.out
            have q1 : decide (o < last) = false := decide_eq_false (by omega)
            have q2 : IntKind.i64.wrap ((s'.size : Int) - (o : Int)) = (s'.size : Int) - (o : Int) := IntWalk.i64_in _ (by omega)
            have q3 : decide ((s'.size : Int) - (o : Int) < (tx.size : Int)) = false := decide_eq_false (by omega)
            have q5 : IntKind.i64.wrap ((o : Int) + (tx.size : Int)) = (o : Int) + (tx.size : Int) := IntWalk.i64_in _ (by omega)
            have q6 : ((o : Int) + (tx.size : Int)).toNat = o + tx.size := by omega
            have q4 : tx.toList.isEmpty = false := by
              rw [ByteArray.toList_eq]
              have : tx.data.toList.length = tx.size := by simp
              cases h : tx.data.toList with
              | nil => rw [h] at this; simp at this; omega
              | cons a b => rfl
            have q7 : 0 ≤ (o : Int) := by omega
            have q8 : (o : Int) ≤ (o : Int) + (tx.size : Int) := by omega
            have q9 : (o : Int) + (tx.size : Int) ≤ (s'.size : Int) := by omega
            have e2' := Lib.hid e2
            clear e1 e2 e3 hbig'
            go_quiet (fail)
            clear q1 q2 q3 q4 q5 q6 q7 q8 q9 hX1
            go_wp2_with (first | (go_at_call 8; refine (hB.out _).mono ?_; rintro e w3 ⟨rfl, rfl⟩) | (go_at_call 9; refine (hP.out _).mono ?_; rintro e w3 ⟨rfl, rfl⟩))
            go_roundw
            case rel =>
              refine ⟨_, _, _, _, _, _, _, _, _, _, _, _, _, _, _, _, _, _, _, _, _, _, _, _, _, _, _, _, _, _, _, _, _, _, _, _, _, _, _, _, _, _, _, _, _, _, _, _, _, _, _, _, _, _, _, _, _, _, _, _, _, _, _, _, _, _, _, _, _, _, _, _, _, _, _, _, _, _, _, _, _, _, _, _, _, _, _, _, _, _, _, _, _, _, _, _, _, _, _, _, _, _, _, _, _, ?_, rfl⟩
              exact ⟨i + 1, o + tx.size, by go_num, by go_num, hlt, e5, hR.out, hbW.out.trans ⟨rfl, rfl, rfl, Nat.le_refl _, fun _ _ => rfl⟩⟩
            case measure => simp [intOf]; omega
          · have h300' : ¬ (i : Int) < 300 := by omega
            clear hrow
            go_wp2
            go_ret
            exact ⟨rfl, below_chain (below_chain hb hlb.out) hbw⟩
        · have hlt' : ¬ (i : Int) < (l.length : Int) := by omega
          clear hrow
          go_wp2
          go_ret
          exact ⟨rfl, below_chain (below_chain hb hlb.out) hbw⟩
end Go.Proofs.YtifmalbdolpocaaDoor
