/-
  The plain law of SyntaxBlanks: gaps between tokens change no token; no program in sight.
-/
import Derived.Test.YtifmalbdolpocaaDoorWordsBetweenP
namespace Go.Proofs.YtifmalbdolpocaaDoor.Wd

/-- What stands ahead of a token: a blank, an end of a line, a remark, two tabs. -/
def Gap2 (g : List B) : Prop := g = [32] ∨ g = [10] ∨ g = [32, 35, 32, 120, 59, 10] ∨ g = [9, 9]
theorem gap2_head {g : List B} (h : Gap2 g) : ∃ c r, g = c :: r ∧ gapHead c = true := by
  rcases h with rfl | rfl | rfl | rfl
  · exact ⟨_, _, rfl, by decide⟩
  · exact ⟨_, _, rfl, by decide⟩
  · exact ⟨_, _, rfl, by decide⟩
  · exact ⟨_, _, rfl, by decide⟩
theorem toks_gap2 {g : List B} (h : Gap2 g) (n : Nat) (r : List B) (a b : Nat) : ∃ m a' b', n ≤ m ∧ m ≤ n + g.length ∧ toks (n + g.length) (g ++ r) a b = toks m r a' b' := by
  rcases h with rfl | rfl | rfl | rfl
  · exact ⟨n, a, b + 1, Nat.le_refl _, by simp, toks_blank n 32 r a b (by decide)⟩
  · exact ⟨n, a + 1, 1, Nat.le_refl _, by simp, toks_nl n r a b⟩
  · obtain ⟨a', b', e⟩ := toks_remark (n + 3) [32, 120, 59] r a (b + 1) (by decide)
    exact ⟨n + 3, a', b', by omega, by simp, (toks_blank (n + 5) 32 _ a b (by decide)).trans e⟩
  · exact ⟨n, a, b + 1 + 1, Nat.le_refl _, by simp, (toks_blank (n + 1) 9 _ a b (by decide)).trans (toks_blank n 9 r a (b + 1) (by decide))⟩
theorem row_full {p : B → Bool} {l : List B} (h : ∀ c ∈ l, p c = true) : row p l = l.length := by
  have := row_all h []
  simpa [row] using this
/-- A token at the text's end is taken whole, as of its kind. -/
theorem piece_last {t : List B} {k : Nat} (h : right t k = true) : piece t = (t.length, k) := by
  obtain ⟨c, u, e, _, _, _, hp⟩ := piece_right h 32 [] (by decide)
  subst e
  by_cases h1 : k = 1
  · subst h1
    simp only [right, if_true, Bool.and_eq_true, decide_eq_true_eq, Bool.not_eq_true', List.isEmpty_eq_false_iff, beq_iff_eq] at h
    obtain ⟨⟨_, hl⟩, hr⟩ := h
    have hl' : letter c = true := hl
    simp only [piece, hl', if_true]
    rw [hr]
  by_cases h2 : k = 2
  · subst h2
    obtain ⟨d, hd, hdig, e | e⟩ := right_num h
    · rw [← e] at hdig
      have hc := hdig c (by simp)
      obtain ⟨a, b, e1, e2⟩ := digit_facts c hc
      simp only [piece, a, hc, if_true, if_false, Bool.false_eq_true]
      rw [row_full hdig]
    · injection e with e1 e2
      subst e1; subst e2
      cases u with
      | nil => simp at hd
      | cons x v =>
        have hx := hdig x (by simp)
        have e3 : digit ((x :: v).headD 0) = true := hx
        simp only [piece]
        rw [if_neg (by decide), if_neg (by decide), if_pos ⟨trivial, e3⟩, row_full hdig]
        simp; omega
  by_cases h3 : k = 3
  · subst h3
    simp only [right, Nat.reduceEqDiff, if_false, if_true, Bool.or_eq_true, beq_iff_eq, Bool.and_eq_true] at h
    rcases h with h | ⟨hl, hs⟩
    · rw [h]; decide
    · cases u with
      | cons _ _ => simp at hl
      | nil =>
        obtain ⟨a, b, e, f, g1, g2⟩ := sign_facts c (by simpa using hs)
        simp [piece, a, b, e]
  · simp [right, h1, h2, h3] at h
theorem toks_one {t : List B} {k : Nat} (h : right t k = true) (n a b : Nat) : kt (toks (n + 1) t a b).1 = [(k, t)] ∧ (toks (n + 1) t a b).2 = none := by
  obtain ⟨c, u, e, h1, h2, h3, _⟩ := piece_right h 32 [] (by decide)
  have hp := piece_last h
  subst e
  rw [toks, if_neg h1, if_neg h2, if_neg h3]
  simp only [hp, List.take_length, List.drop_length, h, if_true]
  cases n <;> simp [toks, kt]
theorem toks_nil (n a b : Nat) : toks n [] a b = ([], none) := by cases n <;> simp [toks]
/-- The tokens of what is made of gaps and tokens. -/
theorem toks_body2 : ∀ (l : List (List B × Nat × List B)) (n a b : Nat), (∀ x ∈ l, Gap2 x.1 ∧ right x.2.2 x.2.1 = true) → (body l).length < n →
    kt (toks n (body l) a b).1 = l.map (·.2) ∧ (toks n (body l) a b).2 = none
  | [], n, a, b, _, _ => by rw [show body [] = [] from rfl, toks_nil]; exact ⟨rfl, rfl⟩
  | (g, k, t) :: l, n, a, b, h, hn => by
    obtain ⟨hg, ht⟩ := h _ (List.mem_cons_self ..)
    have hbody : body ((g, k, t) :: l) = g ++ (t ++ body l) := rfl
    rw [hbody] at hn ⊢
    have hlen : n = (n - g.length) + g.length := by simp at hn; omega
    obtain ⟨m, a1, b1, hm, hm2, e⟩ := toks_gap2 hg (n - g.length) (t ++ body l) a b
    rw [← hlen] at e
    rw [e]
    have htl : 0 < t.length ∧ t.length ≤ 64 := right_len ht
    have hml : (t ++ body l).length < m := by simp at hn ⊢; omega
    obtain ⟨j, rfl⟩ : ∃ j, m = j + 1 := ⟨m - 1, by omega⟩
    cases l with
    | nil =>
      rw [show body [] = [] from rfl, List.append_nil]
      exact toks_one ht j a1 b1
    | cons x l =>
      obtain ⟨g2, k2, t2⟩ := x
      obtain ⟨c, r, hc, hc2⟩ := gap2_head (h _ (List.mem_cons_of_mem _ (List.mem_cons_self ..))).1
      have hc' : g2 = c :: r := hc
      have hrr : body ((g2, k2, t2) :: l) = c :: (r ++ (t2 ++ body l)) := by simp [body, hc']
      obtain ⟨a2, b2, e1, e2⟩ := toks_token ht c (r ++ (t2 ++ body l)) hc2 j a1 b1
      rw [← hrr] at e1 e2
      obtain ⟨f1, f2⟩ := toks_body2 ((g2, k2, t2) :: l) j a2 b2 (fun x hx => h x (List.mem_cons_of_mem _ hx)) (by simp at hml ⊢; omega)
      rw [e1, e2, f1, f2]
      exact ⟨rfl, rfl⟩
/-- The tokens that are told are right ones. -/
theorem toks_right : ∀ (n : Nat) (l : List B) (a b : Nat), ∀ t ∈ (toks n l a b).1, right t.text t.kind = true
  | 0, _, _, _, t, h => by simp [toks] at h
  | n + 1, [], _, _, t, h => by simp [toks] at h
  | n + 1, c :: r, a, b, t, h => by
    unfold toks at h
    split at h
    · exact toks_right n _ _ _ t h
    split at h
    · exact toks_right n _ _ _ t h
    split at h
    · split at h
      · simp at h
      · exact toks_right n _ _ _ t h
    · simp only at h
      split at h
      · rename_i hr
        rcases List.mem_cons.1 h with rfl | h
        · exact hr
        · exact toks_right n _ _ _ t h
      · simp at h
theorem body_append (x y : List (List B × Nat × List B)) : body (x ++ y) = body x ++ body y := by
  induction x with
  | nil => rfl
  | cons z x ih => obtain ⟨a, b, c⟩ := z; simp only [List.cons_append, body, ih]; simp
end Go.Proofs.YtifmalbdolpocaaDoor.Wd
