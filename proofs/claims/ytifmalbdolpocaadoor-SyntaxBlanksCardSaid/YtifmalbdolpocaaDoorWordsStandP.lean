import Derived.Test.YtifmalbdolpocaaDoorWordsFn
namespace Go.Proofs.YtifmalbdolpocaaDoor.Wd

/-! ### lines and columns of a place, by what stands ahead of it -/
/-- Bytes behind the last end of a line. -/
def cl (p : List B) : Nat := (p.reverse.takeWhile (· != 10)).length
theorem cl_nil : cl [] = 0 := rfl
theorem cl_snoc_nl (p : List B) : cl (p ++ [10]) = 0 := by simp [cl]
theorem cl_snoc {c : B} (p : List B) (h : c ≠ 10) : cl (p ++ [c]) = cl p + 1 := by
  simp [cl, h]
theorem cl_append (p t : List B) (h : ∀ c ∈ t, c ≠ 10) : cl (p ++ t) = cl p + t.length := by
  induction t generalizing p with
  | nil => simp
  | cons c t ih =>
    have := ih (p ++ [c]) (fun x hx => h x (by simp [hx]))
    rw [List.append_assoc] at this
    rw [show p ++ c :: t = p ++ ([c] ++ t) from by simp, this, cl_snoc p (h c (by simp))]
    simp; omega
theorem cl_le (p : List B) : cl p ≤ p.length := by
  unfold cl
  have := (List.takeWhile_prefix (fun x : B => x != 10) (l := p.reverse)).length_le
  simpa using this
theorem count_append_none (p t : List B) (h : ∀ c ∈ t, c ≠ 10) : (p ++ t).count 10 = p.count 10 := by
  rw [List.count_append, List.count_eq_zero.2 (fun hm => h 10 hm rfl)]; rfl

/-- A token stands at o in s, and says so. -/
structure At (s : List B) (t : Tok) (o : Nat) : Prop where
  fits : o + t.text.length ≤ s.length
  some : 0 < t.text.length
  text : t.text = (s.drop o).take t.text.length
  line : t.line = 1 + (s.take o).count 10
  col : t.col = cl (s.take o) + 1
/-- Tokens one behind the other, from a place on. -/
def Row (s : List B) : Nat → List Tok → Prop
  | _, [] => True
  | last, t :: r => ∃ o, last ≤ o ∧ At s t o ∧ Row s (o + t.text.length) r
theorem Row.mono {s : List B} {a b : Nat} (h : a ≤ b) : ∀ {l : List Tok}, Row s b l → Row s a l
  | [], _ => trivial
  | _ :: _, ⟨o, h1, h2⟩ => ⟨o, Nat.le_trans h h1, h2⟩

theorem takeWhile_all (p : B → Bool) (l : List B) : ∀ c ∈ l.takeWhile p, p c = true := by
  induction l with
  | nil => simp
  | cons a l ih =>
    intro c hc
    rw [List.takeWhile_cons] at hc
    split at hc
    · rename_i h
      rcases List.mem_cons.1 hc with rfl | h2
      · exact h
      · exact ih c h2
    · simp at hc
theorem take_row (p : B → Bool) (l : List B) : l.take (row p l) = l.takeWhile p := by
  unfold row
  exact (List.prefix_iff_eq_take.1 (List.takeWhile_prefix p)).symm
theorem row_le (p : B → Bool) (l : List B) : row p l ≤ l.length := (List.takeWhile_prefix p (l := l)).length_le
theorem word_ne (c : B) (h : word c = true) : c ≠ 10 := by rintro rfl; exact absurd h (by decide)
theorem digit_ne (c : B) (h : digit c = true) : c ≠ 10 := by rintro rfl; exact absurd h (by decide)
theorem digit_word (c : B) (h : digit c = true) : word c = true := by simp [word, h]

/-- What is taken at a token's beginning: some bytes, no end of a line among them. -/
theorem piece_ok (c : B) (r : List B) (hc : c ≠ 10) : 0 < (piece (c :: r)).1 ∧ (piece (c :: r)).1 ≤ (c :: r).length ∧ ∀ x ∈ (c :: r).take (piece (c :: r)).1, x ≠ 10 := by
  unfold piece
  by_cases h1 : letter c = true
  · simp only [h1, if_true]
    refine ⟨by simp [row, word, h1], row_le _ _, ?_⟩
    rw [take_row]
    exact fun x hx => word_ne x (takeWhile_all _ _ x hx)
  · simp only [h1, if_false, Bool.false_eq_true]
    by_cases h2 : digit c = true
    · simp only [h2, if_true]
      refine ⟨by simp [row, h2], row_le _ _, ?_⟩
      rw [take_row]
      exact fun x hx => digit_ne x (takeWhile_all _ _ x hx)
    · simp only [h2, if_false, Bool.false_eq_true]
      by_cases h3 : c = 45 ∧ digit (r.headD 0) = true
      · rw [if_pos h3]
        refine ⟨by omega, by have := row_le digit r; simp; omega, ?_⟩
        rw [Nat.add_comm, List.take_succ_cons, take_row]
        intro x hx
        rcases List.mem_cons.1 hx with rfl | hx
        · exact hc
        · exact digit_ne x (takeWhile_all _ _ x hx)
      · rw [if_neg h3]
        by_cases h4 : c = 45 ∧ r.headD 0 = 62
        · rw [if_pos h4]
          cases r with
          | nil => simp at h4
          | cons d r =>
            simp at h4
            obtain ⟨rfl, rfl⟩ := h4
            simp
        · rw [if_neg h4]
          simp [hc]

theorem take_add_drop (s : List B) (i m : Nat) : s.take (i + m) = s.take i ++ (s.drop i).take m := by
  rw [List.take_add]

theorem toks_row (s : List B) : ∀ (n i line col : Nat), i ≤ s.length → line = 1 + (s.take i).count 10 → col = cl (s.take i) + 1 →
    Row s i (toks n (s.drop i) line col).1
  | 0, _, _, _, _, _, _ => by simp [toks, Row]
  | n + 1, i, line, col, hi, hl, hc => by
    cases hd : s.drop i with
    | nil => simp [toks, Row]
    | cons c r =>
      have hlt : i < s.length := by
        rcases Nat.lt_or_ge i s.length with h | h
        · exact h
        · rw [List.drop_of_length_le h] at hd; simp at hd
      have hr : r = s.drop (i + 1) := by rw [← List.drop_drop, hd]; rfl
      have htk : ∀ m, s.take (i + m) = s.take i ++ (c :: r).take m := fun m => by rw [take_add_drop, hd]
      have hdr : ∀ m, (c :: r).drop m = s.drop (i + m) := fun m => by rw [← hd, List.drop_drop]
      have hlen : (c :: r).length = s.length - i := by rw [← hd]; simp
      unfold toks
      by_cases h1 : c = 10
      · rw [if_pos h1, hr]
        refine (toks_row s n (i + 1) _ _ (by omega) ?_ ?_).mono (Nat.le_succ i)
        · rw [htk 1]; simp [h1, hl]; omega
        · rw [htk 1]; simp [h1, cl_snoc_nl]
      · rw [if_neg h1]
        by_cases h2 : c = 9 ∨ c = 13 ∨ c = 32
        · rw [if_pos h2, hr]
          refine (toks_row s n (i + 1) _ _ (by omega) ?_ ?_).mono (Nat.le_succ i)
          · rw [htk 1]; simp only [List.take_succ_cons, List.take_zero]; rw [count_append_none _ _ (by simpa using h1)]; exact hl
          · rw [htk 1]; simp only [List.take_succ_cons, List.take_zero]; rw [cl_snoc _ h1, hc]
        · rw [if_neg h2]
          by_cases h3 : c = 35
          · rw [if_pos h3]
            by_cases h4 : row (· != 10) (c :: r) = (c :: r).length
            · rw [if_pos h4]; simp [Row]
            · rw [if_neg h4, hdr]
              have hle := row_le (· != 10) (c :: r)
              have hno : ∀ x ∈ (c :: r).take (row (· != 10) (c :: r)), x ≠ 10 := by
                rw [take_row]; exact fun x hx => by simpa using takeWhile_all _ _ x hx
              refine (toks_row s n (i + row (· != 10) (c :: r)) _ _ (by omega) ?_ ?_).mono (Nat.le_add_right _ _)
              · rw [htk, count_append_none _ _ hno]; exact hl
              · rw [htk, cl_append _ _ hno, hc, List.length_take_of_le hle]; omega
          · rw [if_neg h3]
            obtain ⟨hp, hle, hno⟩ := piece_ok c r h1
            simp only
            split
            · refine ⟨i, Nat.le_refl _, ⟨?_, ?_, ?_, ?_, ?_⟩, ?_⟩
              · simp only [List.length_take_of_le hle]; omega
              · simp only [List.length_take_of_le hle]; exact hp
              · simp only [List.length_take_of_le hle]; rw [hd]
              · exact hl
              · exact hc
              · simp only [List.length_take_of_le hle]
                rw [hdr]
                refine toks_row s n (i + (piece (c :: r)).1) _ _ (by omega) ?_ ?_
                · rw [htk, count_append_none _ _ hno]; exact hl
                · rw [htk, cl_append _ _ hno, hc, List.length_take_of_le hle]; omega
            · simp [Row]
end Go.Proofs.YtifmalbdolpocaaDoor.Wd
