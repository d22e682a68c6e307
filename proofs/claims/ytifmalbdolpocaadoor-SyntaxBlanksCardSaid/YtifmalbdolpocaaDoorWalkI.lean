/-
  The walks of package words, ninth part: the laws' witness.
-/
import Derived.Test.YtifmalbdolpocaaDoorWalkH
namespace Go.Proofs.YtifmalbdolpocaaDoor
open Go.RowKit Go.Shelf

theorem rowCells_at : ∀ (l : List Wd.Tok) (k j : Nat) (t : Wd.Tok), l[k]? = some t → j < 4 → (rowCells l)[k * 4 + j]? = (tokCells t)[j]?
  | [], _, _, _, h, _ => by simp at h
  | a :: l, 0, j, t, h, hj => by
    simp at h
    subst h
    show (tokCells a ++ rowCells l)[0 * 4 + j]? = _
    rw [List.getElem?_append_left (by simp [tokCells]; omega)]
    simp
  | a :: l, k + 1, j, t, h, hj => by
    show (tokCells a ++ rowCells l)[(k + 1) * 4 + j]? = _
    rw [List.getElem?_append_right (by simp [tokCells]; omega)]
    have := rowCells_at l k j t (by simpa using h) hj
    rw [← this]
    congr 1
    simp [tokCells]; omega
/-- The slice of tokens, and what lies in it. -/
theorem row_reads {w : World} {base : Nat} {v : Value} {l : List Wd.Tok} (h : w.ownsRow base 29 4 v l.length (rowCells l)) (hne : l ≠ []) :
    ∃ g cap, v = .slice (some ⟨g, 0, none⟩) l.length cap ∧ base ≤ g ∧ g < w.heap.size ∧ l.length ≤ maxLen ∧ ∀ (k j : Nat) (t : Wd.Tok) (u : Value), l[k]? = some t → (tokCells t)[j]? = some u → w.cell? ⟨g, k * 4 + j, none⟩ = some u := by
  rcases h.2 with ⟨_, h0⟩ | ⟨g, cap, cur, hv, hb, hg, hc, hm, hz, htk⟩
  · simp at h0; exact absurd h0 hne
  · refine ⟨g, cap, hv, hb, (Array.getElem?_eq_some_iff.1 hg).1, by omega, ?_⟩
    intro k j t u hk hu
    have hj : j < 4 := by
      rcases Nat.lt_or_ge j 4 with h | h
      · exact h
      · rw [List.getElem?_eq_none (by simpa [tokCells] using h)] at hu; cases hu
    have hkl : k < l.length := (List.getElem?_eq_some_iff.1 hk).1
    have h1 := rowCells_at l k j t hk hj
    rw [hu, ← htk, List.getElem?_take, if_pos (by omega)] at h1
    simp only [World.cell?, hg]
    simpa using h1

def awakeS : ByteArray := ⟨#[120, 49, 32, 61, 32, 45, 51, 59, 32, 35, 32, 110, 111, 10, 32, 97, 45, 62, 98]⟩
theorem awake_toks : Wd.toks 20 [120, 49, 32, 61, 32, 45, 51, 59, 32, 35, 32, 110, 111, 10, 32, 97, 45, 62, 98] 1 1 =
    ([⟨1, [120, 49], 1, 1⟩, ⟨3, [61], 1, 4⟩, ⟨2, [45, 51], 1, 6⟩, ⟨3, [59], 1, 8⟩, ⟨1, [97], 2, 2⟩, ⟨3, [45, 62], 2, 3⟩, ⟨1, [98], 2, 5⟩], none) := by decide +kernel
theorem awake_split : splitR awakeS = ([⟨1, [120, 49], 1, 1⟩, ⟨3, [61], 1, 4⟩, ⟨2, [45, 51], 1, 6⟩, ⟨3, [59], 1, 8⟩, ⟨1, [97], 2, 2⟩, ⟨3, [45, 62], 2, 3⟩, ⟨1, [98], 2, 5⟩], 0, 0, 0) := by
  have h := awake_toks
  unfold splitR
  rw [if_neg (by decide)]
  show (match (Wd.toks 20 [120, 49, 32, 61, 32, 45, 51, 59, 32, 35, 32, 110, 111, 10, 32, 97, 45, 62, 98] 1 1).2 with
    | some (line, col) => ([], line, col, 60)
    | none => ((Wd.toks 20 [120, 49, 32, 61, 32, 45, 51, 59, 32, 35, 32, 110, 111, 10, 32, 97, 45, 62, 98] 1 1).1, 0, 0, 0)) = _
  rw [h]

set_option maxHeartbeats 1000000 in
theorem awake_calls (w : World) (hE : Env w) : Calls Tryd.prog 6 #[] w fun e w' => e = .returned (.bool true) ∧ Below w.heap.size w w' := by
  have C : Calls Tryd.prog 7 #[.string awakeS] w (SplitPost awakeS w) := split_calls awakeS w hE (by decide) (fun _ => by
    show (Wd.toks 20 [120, 49, 32, 61, 32, 45, 51, 59, 32, 35, 32, 110, 111, 10, 32, 97, 45, 62, 98] 1 1).1.length ≤ 65536
    rw [awake_toks]; decide)
  have C1 : Calls Tryd.prog 7 #[.string awakeS] w fun e w' => ∃ g cap, e = .returned (.tuple #[.slice (some ⟨g, 0, none⟩) 7 cap, .int .i64 0, .int .i64 0, .int .i64 0]) ∧
      w'.cell? ⟨g, 8, none⟩ = some (.int .i64 2) ∧ w'.cell? ⟨g, 9, none⟩ = some (.string ⟨#[45, 51]⟩) ∧ w'.cell? ⟨g, 21, none⟩ = some (.string ⟨#[45, 62]⟩) ∧ w'.cell? ⟨g, 22, none⟩ = some (.int .i64 2) ∧ w'.cell? ⟨g, 23, none⟩ = some (.int .i64 3) ∧ Below w.heap.size w w' := by
    refine C.mono ?_
    rintro e w' ⟨v, he, hrow, hb⟩
    rw [awake_split] at he hrow
    obtain ⟨g, cap, rfl, _, _, _, hc⟩ := row_reads hrow (by simp)
    exact ⟨g, cap, he, hc 2 0 _ _ rfl rfl, hc 2 1 _ _ rfl rfl, hc 5 1 _ _ rfl rfl, hc 5 2 _ _ rfl rfl, hc 5 3 _ _ rfl rfl, hb⟩
  have C2 := Lib.hid C1
  clear C C1 hE
  unfold awakeS at C2
  go_enter Tryd.func6, Tryd.ntmps6
  go_wp2_with (go_at_call 7; refine C2.out.mono ?_; rintro e w' ⟨g, cap, rfl, c1, c2, c3, c4, c5, hb⟩)
  go_ret
  exact ⟨rfl, hb⟩
end Go.Proofs.YtifmalbdolpocaaDoor
