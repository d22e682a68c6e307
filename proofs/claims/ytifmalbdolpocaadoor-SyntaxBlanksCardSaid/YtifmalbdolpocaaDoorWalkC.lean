/-
  The walks of package words, third part: what stands at a text's beginning; is a text a token of a kind?
-/
import Derived.Test.YtifmalbdolpocaaDoorWalkB
import Derived.Test.YtifmalbdolpocaaDoorShelf
namespace Go.Proofs.YtifmalbdolpocaaDoor
open Go.RowKit Go.Shelf

/-- A row's length as an int. -/
theorem row_bound (p : Wd.B → Bool) (s : ByteArray) : Wd.row p s.data.toList ≤ s.size := by
  have := Wd.row_le p s.data.toList
  simpa using this
def pieceN (s : ByteArray) : Nat := (Wd.piece s.data.toList).1
def pieceK (s : ByteArray) : Nat := (Wd.piece s.data.toList).2
theorem size_cons {s : ByteArray} {c : Wd.B} {r : List Wd.B} (h : s.data.toList = c :: r) : s.size = r.length + 1 := by
  have : s.data.toList.length = s.size := by simp
  rw [h] at this; simpa using this.symm
theorem atB_cons {s : ByteArray} {c : Wd.B} {r : List Wd.B} (h : s.data.toList = c :: r) : atB s 0 = c.toNat ∧ atB s 1 = (r.headD 0).toNat := by
  have hl := size_cons h
  have e0 : ∀ h0 : 0 < s.size, s[0]'h0 = c := by
    intro h0
    have := byte_at s 0 h0
    rw [h] at this; simpa using this.symm
  refine ⟨?_, ?_⟩
  · rw [atB, dif_pos (by omega), e0]
  · cases r with
    | nil => rw [atB, dif_neg (by simp at hl; omega)]; rfl
    | cons d r =>
      have h1 : 1 < s.size := by simp at hl; omega
      rw [atB, dif_pos h1]
      have := byte_at s 1 h1
      rw [h] at this
      simp at this
      rw [← this]; rfl
theorem drop_tail {s : ByteArray} {c : Wd.B} {r : List Wd.B} (h : s.data.toList = c :: r) : (s.extract 1 s.size).data.toList = r := by
  rw [ByteArray.data_extract, Array.toList_extract, h, size_cons h]
  simp
theorem piece_letter {c : Wd.B} (r : List Wd.B) (h : Wd.letter c = true) : Wd.piece (c :: r) = (Wd.row Wd.word (c :: r), 1) := by simp [Wd.piece, h]
theorem piece_digit {c : Wd.B} (r : List Wd.B) (h : Wd.letter c = false) (h1 : Wd.digit c = true) : Wd.piece (c :: r) = (Wd.row Wd.digit (c :: r), 2) := by simp [Wd.piece, h, h1]
theorem piece_minus {r : List Wd.B} (h : Wd.digit (r.headD 0) = true) : Wd.piece (45 :: r) = (1 + Wd.row Wd.digit r, 2) := by
  simp only [Wd.piece]
  rw [if_neg (by decide), if_neg (by decide), if_pos ⟨trivial, h⟩]
theorem piece_arrow {r : List Wd.B} (h : Wd.digit (r.headD 0) = false) (h1 : r.headD 0 = 62) : Wd.piece (45 :: r) = (2, 3) := by
  simp only [Wd.piece]
  rw [if_neg (by decide), if_neg (by decide), if_neg (fun h2 => by rw [h] at h2; cases h2.2), if_pos ⟨trivial, h1⟩]
theorem piece_one {c : Wd.B} (r : List Wd.B) (h : Wd.letter c = false) (h1 : Wd.digit c = false) (h2 : ¬ (c = 45 ∧ Wd.digit (r.headD 0) = true)) (h3 : ¬ (c = 45 ∧ r.headD 0 = 62)) : Wd.piece (c :: r) = (1, 3) := by
  have h2' : ¬ (c = 45 ∧ (r.headD 0 |> Wd.digit) = true) := h2
  show (if Wd.letter c = true then _ else _) = _
  rw [if_neg (by simp [h]), if_neg (by simp [h1]), if_neg h2', if_neg h3]
theorem arrow_pre (c : Wd.B) (r : List Wd.B) : Lib.hasPrefix (c :: r) [45, 62] = decide (c = 45 ∧ r.headD 0 = 62) := by
  cases r with
  | nil => simp [Lib.hasPrefix, List.isPrefixOf]
  | cons d r =>
    show (45 == c && (62 == d && _)) = decide (c = 45 ∧ d = 62)
    by_cases h : c = 45 ∧ d = 62
    · rw [decide_eq_true h]
      obtain ⟨rfl, rfl⟩ := h
      rfl
    · rw [decide_eq_false h]
      by_cases h1 : c = 45
      · have h2 : ¬ d = 62 := fun h2 => h ⟨h1, h2⟩
        simp [Ne.symm h2]
      · simp [Ne.symm h1]
/-- What the walk of 'piece' asks at each way. -/
theorem piece_calls (s : ByteArray) (hs : s.size ≤ 9223372036854775807) (h0 : 0 < s.size) (w : World) :
    Calls Tryd.prog 34 #[.string s] w fun e w' => e = .returned (.tuple #[.int .i64 (pieceN s), .int .i64 (pieceK s)]) ∧ Below w.heap.size w w' := by
  obtain ⟨c, r, hcr⟩ : ∃ c r, s.data.toList = c :: r := by
    cases h : s.data.toList with
    | nil => have : s.data.toList.length = s.size := by simp
             rw [h] at this; simp at this; omega
    | cons c r => exact ⟨c, r, rfl⟩
  obtain ⟨a0, a1⟩ := atB_cons hcr
  have A0 : Calls Tryd.prog 40 #[.string s, .int .i64 0] w fun e w' => e = .returned (.int .i32 (atB s 0)) ∧ w = w' := at_calls s 0 hs w
  have A1 : Calls Tryd.prog 40 #[.string s, .int .i64 1] w fun e w' => e = .returned (.int .i32 (atB s 1)) ∧ w = w' := at_calls s 1 hs w
  rw [a0] at A0
  rw [a1] at A1
  have L := letter_calls c.toNat w
  rw [letB_byte] at L
  have D := digit_calls c.toNat w
  rw [digB_byte] at D
  have D1 := digit_calls (r.headD 0).toNat w
  rw [digB_byte] at D1
  have H := Tryd.strings_HasPrefix s ⟨#[45, 62]⟩ w
  rw [show (⟨#[45, 62]⟩ : ByteArray).data.toList = [45, 62] from rfl, hcr, arrow_pre] at H
  have hne : (((c.toNat : Int)) == 45) = decide (c = 45) := by
    have := Wd.u8_all (fun b => ((b.toNat : Int) == 45) == decide (b = 45)) (by decide +kernel) c
    simpa using this
  have htail := drop_tail hcr
  have hn : pieceN s = (Wd.piece (c :: r)).1 := by rw [pieceN, hcr]
  have hk : pieceK s = (Wd.piece (c :: r)).2 := by rw [pieceK, hcr]
  have A := Lib.hid A0
  have A' := Lib.hid A1
  have H' := Lib.hid H
  have hcr' := Lib.hid hcr
  have htail' := Lib.hid htail
  clear A0 A1 H a0 a1 hcr htail
  generalize (c.toNat : Int) = ci at A L D hne
  generalize ((r.headD 0).toNat : Int) = di at A' D1
  cases hl : Wd.letter c
  · rw [hl] at L
    have L1 := Lib.hid L
    cases hd : Wd.digit c
    · rw [hd] at D
      have D' := Lib.hid D
      by_cases hm : c = 45
      · rw [decide_eq_true hm] at hne
        cases hd1 : Wd.digit (r.headD 0)
        · rw [hd1] at D1
          have D1' := Lib.hid D1
          have H2 := Lib.hid H'.out
          by_cases h62 : r.headD 0 = 62
          · rw [show decide (c = 45 ∧ r.headD 0 = 62) = true from decide_eq_true ⟨hm, h62⟩] at H2
            rw [hm, piece_arrow hd1 h62] at hn hk
            have hfin := Lib.hid (And.intro hn hk)
            clear L D D1 hl hd hd1 h62 h0 H' hn hk hm
            go_enter Tryd.func34, Tryd.ntmps34
            go_wp2_with (first | (go_at_call 40; (first | (with_reducible refine A.out.mono ?_) | (with_reducible refine A'.out.mono ?_)); rintro e w' ⟨rfl, rfl⟩) | (go_at_call 39; refine L1.out.mono ?_; rintro e w' ⟨rfl, rfl⟩) | (go_at_call 43; (first | (with_reducible refine D'.out.mono ?_) | (with_reducible refine D1'.out.mono ?_)); rintro e w' ⟨rfl, rfl⟩) | (go_at_call 63; refine H2.out.mono ?_; rintro e w' ⟨rfl, rfl⟩))
            go_ret2
            exact ⟨by rw [hfin.out.1, hfin.out.2]; rfl, Below.refl _ _⟩
          · rw [show decide (c = 45 ∧ r.headD 0 = 62) = false from decide_eq_false (fun h => h62 h.2)] at H2
            rw [piece_one r hl hd (fun h => by rw [hd1] at h; cases h.2) (fun h => h62 h.2)] at hn hk
            have hfin := Lib.hid (And.intro hn hk)
            clear L D D1 hl hd hd1 h62 h0 H' hn hk hm
            go_enter Tryd.func34, Tryd.ntmps34
            go_wp2_with (first | (go_at_call 40; (first | (with_reducible refine A.out.mono ?_) | (with_reducible refine A'.out.mono ?_)); rintro e w' ⟨rfl, rfl⟩) | (go_at_call 39; refine L1.out.mono ?_; rintro e w' ⟨rfl, rfl⟩) | (go_at_call 43; (first | (with_reducible refine D'.out.mono ?_) | (with_reducible refine D1'.out.mono ?_)); rintro e w' ⟨rfl, rfl⟩) | (go_at_call 63; refine H2.out.mono ?_; rintro e w' ⟨rfl, rfl⟩))
            go_ret2
            exact ⟨by rw [hfin.out.1, hfin.out.2]; rfl, Below.refl _ _⟩
        · rw [hd1] at D1
          have D1' := Lib.hid D1
          have hsz1 : 1 ≤ s.size := h0
          have R := row_digit (s.extract 1 s.size) (by rw [ByteArray.size_extract]; omega) w
          rw [htail'.out] at R
          have R1 := Lib.hid R
          have hrow : Wd.row Wd.digit r + 1 ≤ s.size := by
            have := Wd.row_le Wd.digit r
            have := size_cons hcr'.out
            omega
          rw [hm, piece_minus hd1] at hn hk
          have hfin := Lib.hid (And.intro hn hk)
          clear L D D1 hl hd hd1 H' hn hk hm R
          generalize Wd.row Wd.digit r = rw_ at R1 hrow hfin
          go_enter Tryd.func34, Tryd.ntmps34
          go_wp2_with (first | (go_at_call 40; (first | (with_reducible refine A.out.mono ?_) | (with_reducible refine A'.out.mono ?_)); rintro e w' ⟨rfl, rfl⟩) | (go_at_call 39; refine L1.out.mono ?_; rintro e w' ⟨rfl, rfl⟩) | (go_at_call 43; (first | (with_reducible refine D'.out.mono ?_) | (with_reducible refine D1'.out.mono ?_)); rintro e w' ⟨rfl, rfl⟩) | (go_at_call 41; refine R1.out.mono ?_; rintro e w1 ⟨rfl, hb⟩))
          go_ret2
          refine ⟨?_, hb⟩
          rw [hfin.out.1, hfin.out.2]
          have e : wrap64 (1 + (rw_ : Int)) = ((1 + rw_ : Nat) : Int) := by unfold wrap64; omega
          simp
      · rw [decide_eq_false hm] at hne
        have H2 := Lib.hid H'.out
        rw [show decide (c = 45 ∧ r.headD 0 = 62) = false from decide_eq_false (fun h => hm h.1)] at H2
        rw [piece_one r hl hd (fun h => hm h.1) (fun h => hm h.1)] at hn hk
        have hfin := Lib.hid (And.intro hn hk)
        clear L D D1 hl hd h0 H' hn hk hm
        go_enter Tryd.func34, Tryd.ntmps34
        go_wp2_with (first | (go_at_call 40; refine A.out.mono ?_; rintro e w' ⟨rfl, rfl⟩) | (go_at_call 39; refine L1.out.mono ?_; rintro e w' ⟨rfl, rfl⟩) | (go_at_call 43; refine D'.out.mono ?_; rintro e w' ⟨rfl, rfl⟩) | (go_at_call 63; refine H2.out.mono ?_; rintro e w' ⟨rfl, rfl⟩))
        go_ret2
        exact ⟨by rw [hfin.out.1, hfin.out.2]; rfl, Below.refl _ _⟩
    · rw [hd] at D
      have D' := Lib.hid D
      have R := row_digit s hs w
      rw [piece_digit r hl hd] at hn hk
      have hfin := Lib.hid (And.intro hn hk)
      have R1 := Lib.hid R
      clear A' H' D D1 L R hl hd hn hk hne
      go_enter Tryd.func34, Tryd.ntmps34
      go_wp2_with (first | (go_at_call 40; refine A.out.mono ?_; rintro e w' ⟨rfl, rfl⟩) | (go_at_call 39; refine L1.out.mono ?_; rintro e w' ⟨rfl, rfl⟩) | (go_at_call 43; refine D'.out.mono ?_; rintro e w' ⟨rfl, rfl⟩) | (go_at_call 41; refine R1.out.mono ?_; rintro e w1 ⟨rfl, hb⟩))
      go_ret2
      exact ⟨by rw [hfin.out.1, hfin.out.2, ← hcr'.out]; rfl, hb⟩
  · rw [hl] at L
    have R := row_word62 s hs w
    rw [piece_letter r hl] at hn hk
    have hfin := Lib.hid (And.intro hn hk)
    have L1 := Lib.hid L
    have R1 := Lib.hid R
    clear A' H' D D1 L R hl hn hk hne
    go_enter Tryd.func34, Tryd.ntmps34
    go_wp2_with (first | (go_at_call 40; refine A.out.mono ?_; rintro e w' ⟨rfl, rfl⟩) | (go_at_call 39; refine L1.out.mono ?_; rintro e w' ⟨rfl, rfl⟩) | (go_at_call 41; refine R1.out.mono ?_; rintro e w1 ⟨rfl, hb⟩))
    go_ret2
    exact ⟨by rw [hfin.out.1, hfin.out.2, ← hcr'.out]; rfl, hb⟩
end Go.Proofs.YtifmalbdolpocaaDoor
