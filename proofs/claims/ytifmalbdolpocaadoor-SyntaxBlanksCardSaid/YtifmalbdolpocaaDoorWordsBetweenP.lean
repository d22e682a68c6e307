import Derived.Test.YtifmalbdolpocaaDoorWordsStandP
import Derived.Lib.ParseIntBTie
namespace Go.Proofs.YtifmalbdolpocaaDoor.Wd

def kt (l : List Tok) : List (Nat × List B) := l.map fun t => (t.kind, t.text)

theorem toks_blank (n : Nat) (c : B) (r : List B) (line col : Nat) (h : c = 9 ∨ c = 13 ∨ c = 32) : toks (n + 1) (c :: r) line col = toks n r line (col + 1) := by
  have h1 : c ≠ 10 := by rintro rfl; revert h; decide
  rw [toks, if_neg h1, if_pos h]
theorem toks_nl (n : Nat) (r : List B) (line col : Nat) : toks (n + 1) (10 :: r) line col = toks n r (line + 1) 1 := by
  rw [toks, if_pos rfl]
theorem row_all {p : B → Bool} {l : List B} (h : ∀ c ∈ l, p c = true) (r : List B) : row p (l ++ r) = l.length + row p r := by
  induction l with
  | nil => simp [row]
  | cons a l ih =>
    have := ih (fun c hc => h c (by simp [hc]))
    unfold row at this ⊢
    rw [List.cons_append, List.takeWhile_cons, if_pos (h a (by simp)), List.length_cons, this, List.length_cons]
    omega
theorem row_stop {p : B → Bool} {c : B} (h : p c = false) (r : List B) : row p (c :: r) = 0 := by
  simp [row, h]
theorem row_end {p : B → Bool} {l : List B} (h : row p l = l.length) : ∀ c ∈ l, p c = true := by
  have hl : l.takeWhile p = l := (List.takeWhile_prefix p).eq_of_length h
  intro c hc
  rw [← hl] at hc
  exact takeWhile_all _ _ c hc
/-- A remark up to the end of its line. -/
theorem toks_remark (n : Nat) (l r : List B) (line col : Nat) (h : ∀ c ∈ l, c ≠ 10) : ∃ a b, toks (n + 2) (35 :: (l ++ 10 :: r)) line col = toks n r a b := by
  have hr : row (· != 10) (35 :: (l ++ 10 :: r)) = l.length + 1 := by
    have := row_all (p := (· != 10)) (l := 35 :: l) (by simpa using fun c hc => h c hc) (10 :: r)
    rw [row_stop (by decide)] at this
    simpa using this
  refine ⟨line + 1, 1, ?_⟩
  rw [toks, if_neg (by decide), if_neg (by decide), if_pos rfl, hr, if_neg (by simp), List.drop_succ_cons, List.drop_left', toks_nl]
  rfl
/-- A remark at the text's end. -/
theorem toks_last (n : Nat) (l : List B) (line col : Nat) (h : ∀ c ∈ l, c ≠ 10) : toks (n + 1) (35 :: l) line col = ([], none) := by
  have hr : row (· != 10) (35 :: l) = (35 :: l).length := by
    have := row_all (p := (· != 10)) (l := 35 :: l) (by simpa using fun c hc => h c hc) []
    simpa [row] using this
  rw [toks, if_neg (by decide), if_neg (by decide), if_pos rfl, if_pos hr]

/-! ### one token -/
theorem dec_digits (u : Nat) : ∀ c ∈ Lib.decDigits u, digit c = true := by
  rw [Lib.decDigits_eq]
  intro c hc
  obtain ⟨t, _, rfl⟩ := List.mem_map.1 hc
  unfold Lib.dg
  generalize Lib.nDigits u - 1 - t = j
  have : u / 10 ^ j % 10 < 10 := Nat.mod_lt _ (by decide)
  generalize u / 10 ^ j % 10 = d at this
  have : ∀ d : Fin 10, digit (UInt8.ofNat (48 + d.val)) = true := by decide
  exact this ⟨d, by assumption⟩
theorem dec_pos (u : Nat) : 0 < (Lib.decDigits u).length := by
  rw [Lib.decDigits_eq, List.length_map, List.length_range]; exact Lib.nDigits_pos u
/-- What a number is: digits, or a sign and digits. -/
theorem right_num {t : List B} (h : right t 2 = true) : ∃ d : List B, 0 < d.length ∧ (∀ c ∈ d, digit c = true) ∧ (t = d ∨ t = 45 :: d) := by
  simp only [right, Nat.reduceEqDiff, if_false, if_true] at h
  split at h
  · rename_i v hv
    rw [beq_iff_eq] at h
    unfold Lib.itoa at h
    split at h
    · exact ⟨_, dec_pos _, dec_digits _, .inr h.symm⟩
    · exact ⟨_, dec_pos _, dec_digits _, .inl h.symm⟩
  · simp at h
theorem right_num_len {t : List B} (h : right t 2 = true) : t.length ≤ 21 := by
  simp only [right, Nat.reduceEqDiff, if_false, if_true] at h
  split at h
  · rename_i v hv
    rw [beq_iff_eq] at h
    have := Lib.parseIntB_bounds hv
    rw [← h]
    exact Lib.itoa_length_le v (by omega) (by omega)
  · simp at h
theorem right_len {t : List B} {k : Nat} (h : right t k = true) : 0 < t.length ∧ t.length ≤ 64 := by
  by_cases h1 : k = 1
  · subst h1
    simp only [right, if_true, Bool.and_eq_true, decide_eq_true_eq, Bool.not_eq_true', List.isEmpty_eq_false_iff] at h
    exact ⟨List.length_pos_iff.2 h.1.1.1, h.1.1.2⟩
  by_cases h2 : k = 2
  · subst h2
    obtain ⟨d, hd, _, e | e⟩ := right_num h
    · have := right_num_len h; exact ⟨by rw [e]; exact hd, by omega⟩
    · have := right_num_len h; exact ⟨by rw [e]; simp, by omega⟩
  by_cases h3 : k = 3
  · subst h3
    simp only [right, Nat.reduceEqDiff, if_false, if_true, Bool.or_eq_true, beq_iff_eq, Bool.and_eq_true] at h
    rcases h with rfl | ⟨h, _⟩
    · simp
    · omega
  · simp [right, h1, h2, h3] at h

/-- A byte of those between tokens. -/
def gapHead (c : B) : Bool := c == 32 || c == 10 || c == 9
theorem gap_word {c : B} (h : gapHead c = true) : word c = false := by
  simp only [gapHead, Bool.or_eq_true, beq_iff_eq] at h
  rcases h with (rfl | rfl) | rfl <;> decide
theorem gap_digit {c : B} (h : gapHead c = true) : digit c = false := by
  simp only [gapHead, Bool.or_eq_true, beq_iff_eq] at h
  rcases h with (rfl | rfl) | rfl <;> decide
theorem letter_facts (c : B) (h : letter c = true) : c ≠ 10 ∧ ¬ (c = 9 ∨ c = 13 ∨ c = 32) ∧ c ≠ 35 := by
  refine ⟨?_, ?_, ?_⟩
  · rintro rfl; revert h; decide
  · rintro (rfl | rfl | rfl) <;> revert h <;> decide
  · rintro rfl; revert h; decide
theorem u8_all (p : B → Bool) (h : ∀ n : Fin 256, p (UInt8.ofNat n.val) = true) (c : B) : p c = true := by
  have := h ⟨c.toNat, c.toNat_lt⟩
  simpa using this
theorem digit_letter (c : B) (h : digit c = true) : letter c = false := by
  have := u8_all (fun c => !(digit c && letter c)) (by decide +kernel) c
  simpa [h] using this
theorem digit_facts (c : B) (h : digit c = true) : letter c = false ∧ c ≠ 10 ∧ ¬ (c = 9 ∨ c = 13 ∨ c = 32) ∧ c ≠ 35 := by
  refine ⟨digit_letter c h, ?_, ?_, ?_⟩
  · rintro rfl; revert h; decide
  · rintro (rfl | rfl | rfl) <;> revert h <;> decide
  · rintro rfl; revert h; decide
theorem sign_facts : ∀ c ∈ signs, letter c = false ∧ digit c = false ∧ c ≠ 45 ∧ c ≠ 10 ∧ ¬ (c = 9 ∨ c = 13 ∨ c = 32) ∧ c ≠ 35 := by decide

/-- A token ahead of a gap is taken whole, as of its kind. -/
theorem piece_right {t : List B} {k : Nat} (h : right t k = true) (g : B) (r : List B) (hg : gapHead g = true) :
    ∃ c u, t = c :: u ∧ c ≠ 10 ∧ ¬ (c = 9 ∨ c = 13 ∨ c = 32) ∧ c ≠ 35 ∧ piece (t ++ g :: r) = (t.length, k) := by
  by_cases h1 : k = 1
  · subst h1
    simp only [right, if_true, Bool.and_eq_true, decide_eq_true_eq, Bool.not_eq_true', List.isEmpty_eq_false_iff, beq_iff_eq] at h
    obtain ⟨⟨⟨hne, _⟩, hl⟩, hr⟩ := h
    cases t with
    | nil => exact absurd rfl hne
    | cons c u =>
      have hl' : letter c = true := hl
      obtain ⟨a, b, d⟩ := letter_facts c hl'
      refine ⟨c, u, rfl, a, b, d, ?_⟩
      have := row_all (row_end hr) (g :: r)
      rw [row_stop (gap_word hg)] at this
      rw [List.cons_append] at this ⊢
      simp only [piece, hl', if_true]
      rw [this]; rfl
  by_cases h2 : k = 2
  · subst h2
    obtain ⟨d, hd, hdig, e | e⟩ := right_num h
    · subst e
      cases t with
      | nil => simp at hd
      | cons c u =>
        have hc := hdig c (by simp)
        obtain ⟨a, b, e1, e2⟩ := digit_facts c hc
        refine ⟨c, u, rfl, b, e1, e2, ?_⟩
        have := row_all hdig (g :: r)
        rw [row_stop (gap_digit hg)] at this
        rw [List.cons_append] at this ⊢
        simp only [piece, a, hc, if_true, if_false, Bool.false_eq_true]
        rw [this]; rfl
    · subst e
      refine ⟨45, d, rfl, by decide, by decide, by decide, ?_⟩
      have := row_all hdig (g :: r)
      rw [row_stop (gap_digit hg)] at this
      cases d with
      | nil => simp at hd
      | cons c u =>
        have hc := hdig c (by simp)
        rw [List.cons_append]
        have e3 : digit ((c :: u ++ g :: r).headD 0) = true := hc
        simp only [piece]
        rw [if_neg (by decide), if_neg (by decide), if_pos ⟨trivial, e3⟩, this]
        simp; omega
  by_cases h3 : k = 3
  · subst h3
    simp only [right, Nat.reduceEqDiff, if_false, if_true, Bool.or_eq_true, beq_iff_eq, Bool.and_eq_true] at h
    rcases h with rfl | ⟨hl, hs⟩
    · exact ⟨45, [62], rfl, by decide, by decide, by decide, by simp [piece, letter, digit]⟩
    · cases t with
      | nil => simp at hl
      | cons c u =>
        cases u with
        | cons _ _ => simp at hl
        | nil =>
          obtain ⟨a, b, e, f, g1, g2⟩ := sign_facts c (by simpa using hs)
          exact ⟨c, [], rfl, f, g1, g2, by simp [piece, a, b, e]⟩
  · simp [right, h1, h2, h3] at h
theorem toks_token {t : List B} {k : Nat} (h : right t k = true) (g : B) (r : List B) (hg : gapHead g = true) (n line col : Nat) :
    ∃ a b, (kt (toks (n + 1) (t ++ g :: r) line col).1 = (k, t) :: kt (toks n (g :: r) a b).1) ∧ (toks (n + 1) (t ++ g :: r) line col).2 = (toks n (g :: r) a b).2 := by
  obtain ⟨c, u, rfl, h1, h2, h3, hp⟩ := piece_right h g r hg
  refine ⟨line, col + (c :: u).length, ?_⟩
  rw [List.cons_append] at hp ⊢
  have ht : List.take (c :: u).length (c :: (u ++ g :: r)) = c :: u := by
    rw [← List.cons_append]; exact List.take_left' rfl
  have hd : List.drop (c :: u).length (c :: (u ++ g :: r)) = g :: r := by
    rw [← List.cons_append]; exact List.drop_left' rfl
  rw [toks, if_neg h1, if_neg h2, if_neg h3]
  simp only [hp, ht, hd, h, if_true]
  constructor <;> first | rfl | trivial

/-! ### gaps -/
/-- What may stand ahead of a token: a blank, an end of a line, some blanks, or a remark and the end of its line. -/
def IsGap (line : List B) (g : List B) : Prop := g = [32] ∨ g = [10] ∨ g = [9, 32, 13] ∨ g = 32 :: 35 :: (line ++ [10])
theorem gap_head {line g : List B} (h : IsGap line g) : ∃ c r, g = c :: r ∧ gapHead c = true := by
  rcases h with rfl | rfl | rfl | rfl
  · exact ⟨_, _, rfl, by decide⟩
  · exact ⟨_, _, rfl, by decide⟩
  · exact ⟨_, _, rfl, by decide⟩
  · exact ⟨_, _, rfl, by decide⟩
theorem toks_gap {line g : List B} (hline : ∀ c ∈ line, c ≠ 10) (h : IsGap line g) (n : Nat) (r : List B) (a b : Nat) :
    ∃ m a' b', n ≤ m ∧ m ≤ n + g.length ∧ toks (n + g.length) (g ++ r) a b = toks m r a' b' := by
  rcases h with rfl | rfl | rfl | rfl
  · exact ⟨n, a, b + 1, Nat.le_refl _, by simp, toks_blank n 32 r a b (by decide)⟩
  · exact ⟨n, a + 1, 1, Nat.le_refl _, by simp, toks_nl n r a b⟩
  · exact ⟨n, a, b + 1 + 1 + 1, Nat.le_refl _, by simp, (toks_blank (n + 2) 9 _ a b (by decide)).trans ((toks_blank (n + 1) 32 _ a (b + 1) (by decide)).trans (toks_blank n 13 r a (b + 1 + 1) (by decide)))⟩
  · obtain ⟨a', b', e⟩ := toks_remark (n + line.length) line r a (b + 1) hline
    refine ⟨n + line.length, a', b', by omega, by simp; omega, ?_⟩
    have e2 : n + (32 :: 35 :: (line ++ [10])).length = (n + line.length + 2) + 1 := by simp; omega
    rw [e2, List.cons_append, toks_blank _ 32 _ a b (by decide)]
    have e3 : 35 :: (line ++ [10]) ++ r = 35 :: (line ++ 10 :: r) := by simp
    rw [e3, e]

/-- The text that is made of gaps and tokens. -/
def body : List (List B × Nat × List B) → List B
  | [] => []
  | (g, _, t) :: r => g ++ (t ++ body r)
theorem toks_body (line : List B) (hline : ∀ c ∈ line, c ≠ 10) : ∀ (l : List (List B × Nat × List B)) (n a b : Nat),
    (∀ x ∈ l, IsGap line x.1 ∧ right x.2.2 x.2.1 = true) → (body l ++ 32 :: 35 :: line).length ≤ n →
    kt (toks n (body l ++ 32 :: 35 :: line) a b).1 = l.map (·.2) ∧ (toks n (body l ++ 32 :: 35 :: line) a b).2 = none
  | [], n, a, b, _, hn => by
    obtain ⟨m, rfl⟩ : ∃ m, n = m + 2 := ⟨n - 2, by simp [body] at hn; omega⟩
    have e : toks (m + 2) (body [] ++ 32 :: 35 :: line) a b = ([], none) := by
      rw [show body [] ++ 32 :: 35 :: line = 32 :: (35 :: line) from rfl, toks_blank (m + 1) 32 _ a b (by decide), toks_last m line a (b + 1) hline]
    rw [e]; exact ⟨rfl, rfl⟩
  | (g, k, t) :: l, n, a, b, h, hn => by
    obtain ⟨hg, ht⟩ := h _ (List.mem_cons_self ..)
    have hbody : body ((g, k, t) :: l) ++ 32 :: 35 :: line = g ++ (t ++ (body l ++ 32 :: 35 :: line)) := by simp [body]
    rw [hbody] at hn ⊢
    have hlen : n = (n - g.length) + g.length := by simp at hn; omega
    obtain ⟨m, a1, b1, hm, hm2, e⟩ := toks_gap hline hg (n - g.length) (t ++ (body l ++ 32 :: 35 :: line)) a b
    rw [← hlen] at e
    rw [e]
    have htl : 0 < t.length ∧ t.length ≤ 64 := right_len ht
    have hml : (t ++ (body l ++ 32 :: 35 :: line)).length ≤ m := by simp at hn ⊢; omega
    obtain ⟨j, rfl⟩ : ∃ j, m = j + 1 := ⟨m - 1, by simp at hml; omega⟩
    obtain ⟨gh, rr, hrr, hgh⟩ : ∃ gh rr, body l ++ 32 :: 35 :: line = gh :: rr ∧ gapHead gh = true := by
      cases l with
      | nil => exact ⟨32, 35 :: line, rfl, by decide⟩
      | cons x l =>
        obtain ⟨g2, k2, t2⟩ := x
        obtain ⟨c, r, hc, hc2⟩ := gap_head (h _ (List.mem_cons_of_mem _ (List.mem_cons_self ..))).1
        have hc' : g2 = c :: r := hc
        exact ⟨c, r ++ (t2 ++ body l) ++ 32 :: 35 :: line, by simp [body, hc'], hc2⟩
    rw [hrr] at hml ⊢
    obtain ⟨a2, b2, e1, e2⟩ := toks_token ht gh rr hgh j a1 b1
    obtain ⟨f1, f2⟩ := toks_body line hline l j a2 b2 (fun x hx => h x (List.mem_cons_of_mem _ hx)) (by rw [hrr]; simp at hml ⊢; omega)
    rw [hrr] at f1 f2
    rw [e1, e2, f1, f2]
    exact ⟨rfl, rfl⟩
end Go.Proofs.YtifmalbdolpocaaDoor.Wd
