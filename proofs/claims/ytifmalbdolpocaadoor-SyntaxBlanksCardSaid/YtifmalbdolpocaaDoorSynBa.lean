/-
  The walks of the reference's tokens, first part: letters, digits, names, numbers, signs.
-/
import Derived.Test.YtifmalbdolpocaaDoorSynZ
namespace Go.Proofs.YtifmalbdolpocaaDoor
open Go.RowKit Go.Shelf

set_option maxHeartbeats 400000 in
theorem rdigit_i (c : Int) (w : World) : Calls Tryd.prog 57 #[.int .u8 c] w fun e w' => e = .returned (.bool (digB c)) ∧ w = w' := by
  by_cases h1 : 48 ≤ c <;> by_cases h2 : c ≤ 57
  all_goals
    go_enter Tryd.func57, Tryd.ntmps57
    go_wp2
    go_ret
    exact ⟨by simp [digB, h1, h2], rfl⟩
set_option maxHeartbeats 400000 in
theorem rletter_i (c : Int) (w : World) : Calls Tryd.prog 56 #[.int .u8 c] w fun e w' => e = .returned (.bool (letB c)) ∧ w = w' := by
  by_cases h1 : 97 ≤ c <;> by_cases h2 : c ≤ 122 <;> by_cases h3 : 65 ≤ c <;> by_cases h4 : c ≤ 90 <;> cases h5 : (c == 95)
  all_goals first | (exfalso; have := h5; simp at this; omega) | skip
  all_goals
    go_enter Tryd.func56, Tryd.ntmps56
    go_wp2
    go_ret
    refine ⟨?_, rfl⟩
    first
    | (rw [(letB_eq c).2 (by simp at h5; omega)]; rfl)
    | (rw [(letB_ne c).2 (by simp at h5; omega)]; rfl)
def SomeB (e : Ending) : Prop := ∃ b : Bool, e = .returned (.bool b)
def SomeN (e : Ending) : Prop := ∃ n c : Int, e = .returned (.tuple #[.int .i64 n, .int .i64 c])
theorem byteW (b : UInt8) : (0 : Int) ≤ (b.toNat : Int) ∧ (b.toNat : Int) < 256 := by have := b.toNat_lt; omega
theorem full_str {s : ByteArray} (h : 0 < s.size) : s.toList ≠ [] ∧ s.toList.isEmpty = false := by
  have : s.toList ≠ [] := by
    intro e
    rw [ByteArray.toList_eq] at e
    have := congrArg List.length e
    simp only [Array.length_toList, List.length_nil, ByteArray.size_data] at this
    omega
  exact ⟨this, by simpa using this⟩
set_option maxHeartbeats 1000000 in
theorem ref_name (s : ByteArray) (hs : s.size ≤ 9223372036854775807) (w : World) : Calls Tryd.prog 59 #[.string s] w fun e w' => SomeB e ∧ w = w' := by
  have L := Lib.hid (fun (b : UInt8) w => rletter_i (b.toNat : Int) w)
  have D := Lib.hid (fun (b : UInt8) w => rdigit_i (b.toNat : Int) w)
  by_cases h0 : s.size = 0
  · have e0 : s = ⟨#[]⟩ := by cases s with | mk d => have : d = #[] := Array.eq_empty_of_size_eq_zero h0; rw [this]
    subst e0
    clear hs h0
    go_enter Tryd.func59, Tryd.ntmps59
    go_wp2
    go_ret
    exact ⟨⟨_, rfl⟩, rfl⟩
  · have hp : 0 < s.size := by omega
    obtain ⟨hl, hl2⟩ := full_str hp
    by_cases h64 : 64 < s.size
    · have hI : (64 : Int) < (s.size : Int) := by omega
      go_enter Tryd.func59, Tryd.ntmps59
      go_wp2
      go_ret
      exact ⟨⟨_, rfl⟩, rfl⟩
    · have hI : ¬ (64 : Int) < (s.size : Int) := by omega
      have L0 := Lib.hid (L.out s[0])
      cases hb : letB (s[0].toNat : Int)
      · rw [hb] at L0
        clear hb
        go_enter Tryd.func59, Tryd.ntmps59
        go_wp2_with (go_at_call 56; refine (L0.out _).mono ?_; rintro e w1 ⟨rfl, rfl⟩)
        go_ret
        exact ⟨⟨_, rfl⟩, rfl⟩
      · rw [hb] at L0
        clear hb
        go_enter Tryd.func59, Tryd.ntmps59
        go_wp2_with (go_at_call 56; refine (L0.out _).mono ?_; rintro e w1 ⟨rfl, rfl⟩)
        go_loop [3] (fun x => ∃ k : Nat, x = .int .i64 k ∧ k ≤ s.size) (fun x => s.size - (intOf x).toNat)
        case atStart => exact ⟨1, rfl, hp⟩
        case round =>
          obtain ⟨k, rfl, hk⟩ := hrel
          by_cases hlt : k < s.size
          · have L1 := Lib.hid (L.out s[k] w)
            have D1 := Lib.hid (D.out s[k] w)
            cases hb : letB (s[k].toNat : Int) <;> cases hd : digB (s[k].toNat : Int)
            all_goals
              rw [hb] at L1
              rw [hd] at D1
              clear hb hd
              go_wp2_with (first | (go_at_call 56; refine L1.out.mono ?_; rintro e w1 ⟨rfl, rfl⟩) | (go_at_call 57; refine D1.out.mono ?_; rintro e w1 ⟨rfl, rfl⟩))
            · go_ret
              exact ⟨⟨_, rfl⟩, rfl⟩
            all_goals
              go_round
              case rel => exact ⟨k + 1, by go_num, hlt⟩
              case measure => simp [intOf]; omega
          · go_wp2
            go_ret
            exact ⟨⟨_, rfl⟩, rfl⟩
set_option maxHeartbeats 1000000 in
theorem ref_sign (s : ByteArray) (w : World) : Calls Tryd.prog 60 #[.string s] w fun e w' => SomeB e ∧ w = w' := by
  cases h0 : (s.toList == [45, 62])
  rotate_left
  · go_enter Tryd.func60, Tryd.ntmps60
    go_wp2
    go_ret
    exact ⟨⟨_, rfl⟩, rfl⟩
  · go_enter Tryd.func60, Tryd.ntmps60
    go_wp2
    go_loop [3] (fun x => ∃ k : Nat, x = .int .i64 k ∧ k ≤ 15) (fun x => 15 - (intOf x).toNat)
    case atStart => exact ⟨0, rfl, by omega⟩
    case round =>
      obtain ⟨k, rfl, hk⟩ := hrel
      by_cases hlt : k < 15
      · have hI : (k : Int) < 15 := by omega
        go_wp2
        · go_ret
          exact ⟨⟨_, rfl⟩, rfl⟩
        · exact ⟨⟨k + 1, by go_num, hlt⟩, by simp [intOf]; omega⟩
      · have hI : ¬ (k : Int) < 15 := by omega
        go_wp2
        go_ret
        exact ⟨⟨_, rfl⟩, rfl⟩
set_option maxHeartbeats 2000000 in
theorem ref_number0 (s : ByteArray) (h0 : s.size = 0) (w : World) : Calls Tryd.prog 58 #[.string s] w fun e w' => SomeN e ∧ w = w' := by
  have e0 : s = ⟨#[]⟩ := by cases s with | mk d => have : d = #[] := Array.eq_empty_of_size_eq_zero h0; rw [this]
  subst e0
  clear h0
  go_enter Tryd.func58, Tryd.ntmps58
  go_wp2
  go_ret2
  exact ⟨⟨_, _, rfl⟩, rfl⟩
set_option maxHeartbeats 2000000 in
theorem ref_number1 (s : ByteArray) (hp : 0 < s.size) (hs : s.size ≤ 9223372036854775807) (hm : ((s[0].toNat : Int) == 45) = false) (w : World) : Calls Tryd.prog 58 #[.string s] w fun e w' => SomeN e ∧ w = w' := by
  have D := Lib.hid (fun (b : UInt8) w => rdigit_i (b.toNat : Int) w)
  obtain ⟨hl, hl2⟩ := full_str hp
  by_cases h19 : 19 < s.size
  · have hI : (19 : Int) < (s.size : Int) := by omega
    go_enter Tryd.func58, Tryd.ntmps58
    go_wp2
    go_ret2
    exact ⟨⟨_, _, rfl⟩, rfl⟩
  · have hI : ¬ (19 : Int) < (s.size : Int) := by omega
    go_enter Tryd.func58, Tryd.ntmps58
    go_wp2
    · go_ret2
      exact ⟨⟨_, _, rfl⟩, rfl⟩
    all_goals
      go_loop [5, 6] (fun n i => ∃ (m : Int) (k : Nat), n = .int .u64 m ∧ i = .int .i64 k ∧ k ≤ s.size) (fun _ i => s.size - (intOf i).toNat)
      case atStart => exact ⟨0, 0, rfl, rfl, Nat.zero_le _⟩
      case round =>
        obtain ⟨m, k, rfl, rfl, hk⟩ := hrel
        by_cases hlt : k < s.size
        · have D1 := Lib.hid (D.out s[k] w)
          cases hd : digB (s[k].toNat : Int)
          all_goals
            rw [hd] at D1
            clear hd
            go_wp2_with (go_at_call 57; refine D1.out.mono ?_; rintro e w1 ⟨rfl, rfl⟩)
          · go_ret2
            exact ⟨⟨_, _, rfl⟩, rfl⟩
          · go_round
            case rel => exact ⟨_, k + 1, rfl, by go_num, hlt⟩
            case measure => simp [intOf]; omega
        · go_wp2
          all_goals
            go_ret2
            exact ⟨⟨_, _, rfl⟩, rfl⟩
set_option maxHeartbeats 2000000 in
theorem ref_number2 (s : ByteArray) (hp : 0 < s.size) (hs : s.size ≤ 9223372036854775807) (hm : ((s[0].toNat : Int) == 45) = true) (w : World) : Calls Tryd.prog 58 #[.string s] w fun e w' => SomeN e ∧ w = w' := by
  have D := Lib.hid (fun (b : UInt8) w => rdigit_i (b.toNat : Int) w)
  have hm0 : (s[0].toNat : Int) = 45 := by simpa using hm
  have hm' := Lib.hid hm0
  clear hm0
  by_cases h1 : s.size = 1
  · have e1 : (s.extract 1 s.size).toList = [] := by
      rw [ByteArray.toList_eq]; simp; omega
    have e2 : (s.extract 1 s.size).toList.isEmpty = true := by rw [e1]; rfl
    have h1' := Lib.hid h1
    clear h1
    go_enter Tryd.func58, Tryd.ntmps58
    go_wp2
    go_ret2
    exact ⟨⟨_, _, rfl⟩, rfl⟩
  · have hp1 : 1 < s.size := by omega
    obtain ⟨hl, hl2⟩ := full_str (s := s.extract 1 s.size) (by simp; omega)
    have h48 : (s.toList == [48]) = false := by
      rw [beq_eq_false_iff_ne]
      intro e
      rw [ByteArray.toList_eq] at e
      have := congrArg List.length e
      simp only [Array.length_toList, ByteArray.size_data, List.length_cons, List.length_nil] at this
      omega
    have h48' : (!s.toList == [48]) = true := by rw [h48]; rfl
    by_cases h19 : 20 < s.size
    · have hI : (20 : Int) < (s.size : Int) := by omega
      have hI2 : (19 : Int) < ((s.size - 1 : Nat) : Int) := by omega
      go_enter Tryd.func58, Tryd.ntmps58
      go_wp2
      go_ret2
      exact ⟨⟨_, _, rfl⟩, rfl⟩
    · have hI : ¬ (20 : Int) < (s.size : Int) := by omega
      have hI2 : ¬ (19 : Int) < ((s.size - 1 : Nat) : Int) := by omega
      go_enter Tryd.func58, Tryd.ntmps58
      go_wp2
      all_goals try (go_ret2; exact ⟨⟨_, _, rfl⟩, rfl⟩)
      all_goals
        go_loop [5, 6] (fun n i => ∃ (m : Int) (k : Nat), n = .int .u64 m ∧ i = .int .i64 k ∧ k ≤ s.size - 1) (fun _ i => s.size - 1 - (intOf i).toNat)
        case atStart => exact ⟨0, 0, rfl, rfl, Nat.zero_le _⟩
        case round =>
          obtain ⟨m, k, rfl, rfl, hk⟩ := hrel
          by_cases hlt : k < s.size - 1
          · have hlt2 : k < (s.extract 1 s.size).size := by simp; omega
            have D1 := Lib.hid (D.out (s.extract 1 s.size)[k] w)
            cases hd : digB ((s.extract 1 s.size)[k].toNat : Int)
            all_goals
              rw [hd] at D1
              clear hd
              go_wp2_with (go_at_call 57; refine D1.out.mono ?_; rintro e w1 ⟨rfl, rfl⟩)
            · go_ret2
              exact ⟨⟨_, _, rfl⟩, rfl⟩
            · go_round
              case rel => exact ⟨_, k + 1, rfl, by go_num, hlt⟩
              case measure => simp [intOf]; omega
          · have hne : (((s.size - 1 : Nat) : Int) == (s.size : Int)) = false := by rw [beq_eq_false_iff_ne]; omega
            go_wp2
            all_goals
              go_ret2
              exact ⟨⟨_, _, rfl⟩, rfl⟩
theorem ref_number (s : ByteArray) (hs : s.size ≤ 9223372036854775807) (w : World) : Calls Tryd.prog 58 #[.string s] w fun e w' => SomeN e ∧ w = w' := by
  by_cases h0 : s.size = 0
  · exact ref_number0 s h0 w
  · have hp : 0 < s.size := by omega
    cases hm : ((s[0].toNat : Int) == 45)
    · exact ref_number1 s hp hs hm w
    · exact ref_number2 s hp hs hm w
def SomeK (e : Ending) : Prop := ∃ (k : Int) (b : Bool), e = .returned (.tuple #[.int .i64 k, .bool b])
set_option maxHeartbeats 1000000 in
theorem ref_kind (s : ByteArray) (hs : s.size ≤ 9223372036854775807) (w : World) : Calls Tryd.prog 30 #[.string s] w fun e w' => SomeK e ∧ w = w' := by
  have A := Lib.hid (ref_number s hs w)
  have B := Lib.hid (ref_name s hs w)
  have C := Lib.hid (ref_sign s w)
  go_enter Tryd.func30, Tryd.ntmps30
  go_wp2_with (first | (go_at_call 58; refine A.out.mono ?_; rintro e w1 ⟨⟨n, c, rfl⟩, rfl⟩) | (go_at_call 59; refine B.out.mono ?_; rintro e w1 ⟨⟨b, rfl⟩, rfl⟩) | (go_at_call 60; refine C.out.mono ?_; rintro e w1 ⟨⟨b2, rfl⟩, rfl⟩))
  all_goals
    go_ret2
    exact ⟨⟨_, _, rfl⟩, rfl⟩
end Go.Proofs.YtifmalbdolpocaaDoor

namespace Go.Proofs.YtifmalbdolpocaaDoor
open Go.RowKit Go.Shelf

theorem head_byte {s : ByteArray} {c : Wd.B} {r : List Wd.B} (h : s.data.toList = c :: r) (hp : 0 < s.size) : s[0] = c := by
  have := byte_at s 0 hp
  rw [h] at this
  simpa using this.symm
theorem next_byte {s : ByteArray} {c : Wd.B} {r : List Wd.B} (h : s.data.toList = c :: r) (hp : 1 < s.size) : s[1] = r.headD 0 := by
  have := byte_at s 1 hp
  rw [h] at this
  cases r with
  | nil => have := size_cons h; simp at this; omega
  | cons d r => simpa using this.symm
set_option maxHeartbeats 2000000 in
theorem taken_word (s : ByteArray) (c : Wd.B) (r : List Wd.B) (h : s.data.toList = c :: r) (hs : s.size ≤ 9223372036854775807) (hl : Wd.letter c = true) (w : World) :
    Calls Tryd.prog 29 #[.string s] w fun e w' => e = .returned (.int .i64 ((Wd.piece s.data.toList).1 : Int)) ∧ w = w' := by
  have hsz := size_cons h
  have hp : 0 < s.size := by omega
  have hb := head_byte h hp
  have L := Lib.hid (fun (b : UInt8) (w : World) => show Calls Tryd.prog 56 #[.int .u8 (b.toNat : Int)] w fun e w' => e = .returned (.bool (Wd.letter b)) ∧ w = w' from by rw [← letB_byte]; exact rletter_i (b.toNat : Int) w)
  have D := Lib.hid (fun (b : UInt8) (w : World) => show Calls Tryd.prog 57 #[.int .u8 (b.toNat : Int)] w fun e w' => e = .returned (.bool (Wd.digit b)) ∧ w = w' from by rw [← digB_byte]; exact rdigit_i (b.toNat : Int) w)
  have L0 := L.out s[0] w
  rw [hb, hl] at L0
  rw [← hb] at L0
  have L0 := Lib.hid L0
  have hpc := Lib.hid (show (Wd.piece s.data.toList).1 = Wd.row Wd.word s.data.toList by rw [h, piece_letter r hl])
  have hw0 := Lib.hid (show ∀ x ∈ s.data.toList.take 1, Wd.word x = true by rw [h]; simp [Wd.word, hl])
  clear hb h hsz
  go_enter Tryd.func29, Tryd.ntmps29
  go_wp2_with (go_at_call 56; refine L0.out.mono ?_; rintro e w1 ⟨rfl, rfl⟩)
  go_loop [3] (fun x => ∃ k : Nat, x = .int .i64 k ∧ k ≤ s.size ∧ ∀ x ∈ s.data.toList.take k, Wd.word x = true) (fun x => s.size - (intOf x).toNat)
  case atStart => exact ⟨1, rfl, hp, hw0.out⟩
  case round =>
    obtain ⟨k, rfl, hk, hall⟩ := hrel
    have hall := Lib.hid hall
    by_cases hlt : k < s.size
    · have hat := byte_at s k hlt
      have hsn := byte_snoc s k hlt
      have L1 := Lib.hid (L.out s[k] w)
      have D1 := Lib.hid (D.out s[k] w)
      cases hlk : Wd.letter s[k] <;> cases hdk : Wd.digit s[k]
      · have hfin := Lib.hid (show (Wd.piece s.data.toList).1 = k by
          rw [hpc.out]
          refine row_eq Wd.word s.data.toList k (by simpa using hk) hall.out fun x hx => ?_
          rw [hat] at hx
          rw [← Option.some.inj hx]
          simp [Wd.word, hlk, hdk])
        rw [hlk] at L1
        rw [hdk] at D1
        clear hlk hdk hat hsn
        go_wp2_with (first | (go_at_call 56; refine L1.out.mono ?_; rintro e w1 ⟨rfl, rfl⟩) | (go_at_call 57; refine D1.out.mono ?_; rintro e w1 ⟨rfl, rfl⟩))
        go_ret
        exact ⟨by rw [hfin.out]; rfl, rfl⟩
      all_goals
        have hnew := Lib.hid (show ∀ x ∈ s.data.toList.take (k + 1), Wd.word x = true by
          rw [hsn]
          intro x hx
          rcases List.mem_append.1 hx with hx | hx
          · exact hall.out x hx
          · rw [List.mem_singleton.1 hx]; simp [Wd.word, hlk, hdk])
        rw [hlk] at L1
        rw [hdk] at D1
        clear hlk hdk hat hsn
        go_wp2_with (first | (go_at_call 56; refine L1.out.mono ?_; rintro e w1 ⟨rfl, rfl⟩) | (go_at_call 57; refine D1.out.mono ?_; rintro e w1 ⟨rfl, rfl⟩))
        go_round
        case rel => exact ⟨k + 1, by go_num, hlt, hnew.out⟩
        case measure => simp [intOf]; omega
    · have hfin := Lib.hid (show (Wd.piece s.data.toList).1 = k by
        rw [hpc.out]
        refine row_eq Wd.word s.data.toList k (by simpa using hk) hall.out fun x hx => ?_
        rw [List.getElem?_eq_none (by simp; omega)] at hx
        cases hx)
      go_wp2
      go_ret
      exact ⟨by rw [hfin.out]; rfl, rfl⟩
theorem tail_byte {s : ByteArray} {c : Wd.B} {r : List Wd.B} (h : s.data.toList = c :: r) (k : Nat) (hk : k + 1 < s.size) : r[k]? = some s[k + 1] := by
  have := byte_at s (k + 1) hk
  rw [h] at this
  simpa using this
set_option maxHeartbeats 2000000 in
/-- The loop over digits, from the second byte on. -/
theorem taken_num (s : ByteArray) (c : Wd.B) (r : List Wd.B) (h : s.data.toList = c :: r) (hs : s.size ≤ 9223372036854775807) (hl : Wd.letter c = false) (hd : Wd.digit c = true ∨ c = 45 ∧ Wd.digit (r.headD 0) = true) (w : World) :
    Calls Tryd.prog 29 #[.string s] w fun e w' => e = .returned (.int .i64 ((Wd.piece s.data.toList).1 : Int)) ∧ w = w' := by
  have hsz := size_cons h
  have hp : 0 < s.size := by omega
  have hb := head_byte h hp
  have L := Lib.hid (fun (b : UInt8) (w : World) => show Calls Tryd.prog 56 #[.int .u8 (b.toNat : Int)] w fun e w' => e = .returned (.bool (Wd.letter b)) ∧ w = w' from by rw [← letB_byte]; exact rletter_i (b.toNat : Int) w)
  have D := Lib.hid (fun (b : UInt8) (w : World) => show Calls Tryd.prog 57 #[.int .u8 (b.toNat : Int)] w fun e w' => e = .returned (.bool (Wd.digit b)) ∧ w = w' from by rw [← digB_byte]; exact rdigit_i (b.toNat : Int) w)
  have L0 := L.out s[0] w
  rw [hb, hl, ← hb] at L0
  have L0 := Lib.hid L0
  have hpc := Lib.hid (show (Wd.piece s.data.toList).1 = 1 + Wd.row Wd.digit r by
    rw [h]
    cases hdc : Wd.digit c
    · rcases hd with h1 | ⟨rfl, h1⟩
      · rw [hdc] at h1; cases h1
      · rw [piece_minus h1]
    · rw [piece_digit r hl hdc]
      simp [Wd.row, hdc]; omega)
  have htl := Lib.hid (fun k (hk : k + 1 < s.size) => tail_byte h k hk)
  have hrl : r.length = s.size - 1 := by omega
  have hrl := Lib.hid hrl
  have loop : True := trivial
  cases hdc : Wd.digit c
  · obtain ⟨h45, hd1⟩ : c = 45 ∧ Wd.digit (r.headD 0) = true := by
      rcases hd with h1 | h1
      · rw [hdc] at h1; cases h1
      · exact h1
    have hp1 : 1 < s.size := by
      cases r with
      | nil =>
        have h0 : Wd.digit 0 = false := by decide
        rw [show ([] : List Wd.B).headD 0 = 0 from rfl, h0] at hd1
        cases hd1
      | cons _ _ => simp at hsz; omega
    have hb1 := next_byte h hp1
    have D0 := D.out s[0] w
    rw [hb, hdc, ← hb] at D0
    have D0 := Lib.hid D0
    have D2 := D.out s[1] w
    rw [hb1, hd1, ← hb1] at D2
    have D2 := Lib.hid D2
    have e45 : ((s[0].toNat : Int) == 45) = true := by rw [hb, h45]; rfl
    clear hb h hsz hd hl hdc h45 hd1 hb1
    go_enter Tryd.func29, Tryd.ntmps29
    go_wp2_with (first | (go_at_call 56; refine L0.out.mono ?_; rintro e w1 ⟨rfl, rfl⟩) | (go_at_call 57; first | ((with_reducible refine D0.out.mono ?_); rintro e w1 ⟨rfl, rfl⟩) | ((with_reducible refine D2.out.mono ?_); rintro e w1 ⟨rfl, rfl⟩)))
    go_loop [3] (fun x => ∃ k : Nat, x = .int .i64 ((k + 1 : Nat) : Int) ∧ k + 1 ≤ s.size ∧ ∀ x ∈ r.take k, Wd.digit x = true) (fun x => s.size - (intOf x).toNat)
    case atStart => exact ⟨0, rfl, hp, by simp⟩
    case round =>
      obtain ⟨k, rfl, hk, hall⟩ := hrel
      have hall := Lib.hid hall
      by_cases hlt : k + 1 < s.size
      · have hat := Lib.hid (htl.out k hlt)
        have D1 := Lib.hid (D.out s[k + 1] w)
        cases hdk : Wd.digit s[k + 1]
        · have hfin := Lib.hid (show ((Wd.piece s.data.toList).1 : Int) = ((k + 1 : Nat) : Int) by
            rw [hpc.out, row_eq Wd.digit r k (by have := hrl.out; omega) hall.out fun x hx => by rw [hat.out] at hx; rw [← Option.some.inj hx]; exact hdk]
            omega)
          rw [hdk] at D1
          clear hdk
          go_wp2_with (go_at_call 57; refine D1.out.mono ?_; rintro e w1 ⟨rfl, rfl⟩)
          go_ret
          exact ⟨by rw [hfin.out]; rfl, rfl⟩
        · have hnew := Lib.hid (show ∀ x ∈ r.take (k + 1), Wd.digit x = true by
            rw [List.take_succ_eq_append_getElem (by have := hrl.out; omega)]
            intro x hx
            rcases List.mem_append.1 hx with hx | hx
            · exact hall.out x hx
            · rw [List.mem_singleton.1 hx]
              have h1 := hat.out
              rw [List.getElem?_eq_getElem (by have := hrl.out; omega)] at h1
              rw [Option.some.inj h1]; exact hdk)
          rw [hdk] at D1
          clear hdk
          go_wp2_with (go_at_call 57; refine D1.out.mono ?_; rintro e w1 ⟨rfl, rfl⟩)
          go_round
          case rel => exact ⟨k + 1, by go_num, hlt, hnew.out⟩
          case measure => simp [intOf]; omega
      · have hfin := Lib.hid (show ((Wd.piece s.data.toList).1 : Int) = ((k + 1 : Nat) : Int) by
          rw [hpc.out, row_eq Wd.digit r k (by have := hrl.out; omega) hall.out fun x hx => by rw [List.getElem?_eq_none (by have := hrl.out; omega)] at hx; cases hx]
          omega)
        go_wp2
        go_ret
        exact ⟨by rw [hfin.out]; rfl, rfl⟩
  · have D0 := D.out s[0] w
    rw [hb, hdc, ← hb] at D0
    have D0 := Lib.hid D0
    clear hb h hsz hd hl hdc
    go_enter Tryd.func29, Tryd.ntmps29
    go_wp2_with (first | (go_at_call 56; refine L0.out.mono ?_; rintro e w1 ⟨rfl, rfl⟩) | (go_at_call 57; refine D0.out.mono ?_; rintro e w1 ⟨rfl, rfl⟩))
    go_loop [3] (fun x => ∃ k : Nat, x = .int .i64 ((k + 1 : Nat) : Int) ∧ k + 1 ≤ s.size ∧ ∀ x ∈ r.take k, Wd.digit x = true) (fun x => s.size - (intOf x).toNat)
    case atStart => exact ⟨0, rfl, hp, by simp⟩
    case round =>
      obtain ⟨k, rfl, hk, hall⟩ := hrel
      have hall := Lib.hid hall
      by_cases hlt : k + 1 < s.size
      · have hat := Lib.hid (htl.out k hlt)
        have D1 := Lib.hid (D.out s[k + 1] w)
        cases hdk : Wd.digit s[k + 1]
        · have hfin := Lib.hid (show ((Wd.piece s.data.toList).1 : Int) = ((k + 1 : Nat) : Int) by
            rw [hpc.out, row_eq Wd.digit r k (by have := hrl.out; omega) hall.out fun x hx => by rw [hat.out] at hx; rw [← Option.some.inj hx]; exact hdk]
            omega)
          rw [hdk] at D1
          clear hdk
          go_wp2_with (go_at_call 57; refine D1.out.mono ?_; rintro e w1 ⟨rfl, rfl⟩)
          go_ret
          exact ⟨by rw [hfin.out]; rfl, rfl⟩
        · have hnew := Lib.hid (show ∀ x ∈ r.take (k + 1), Wd.digit x = true by
            rw [List.take_succ_eq_append_getElem (by have := hrl.out; omega)]
            intro x hx
            rcases List.mem_append.1 hx with hx | hx
            · exact hall.out x hx
            · rw [List.mem_singleton.1 hx]
              have h1 := hat.out
              rw [List.getElem?_eq_getElem (by have := hrl.out; omega)] at h1
              rw [Option.some.inj h1]; exact hdk)
          rw [hdk] at D1
          clear hdk
          go_wp2_with (go_at_call 57; refine D1.out.mono ?_; rintro e w1 ⟨rfl, rfl⟩)
          go_round
          case rel => exact ⟨k + 1, by go_num, hlt, hnew.out⟩
          case measure => simp [intOf]; omega
      · have hfin := Lib.hid (show ((Wd.piece s.data.toList).1 : Int) = ((k + 1 : Nat) : Int) by
          rw [hpc.out, row_eq Wd.digit r k (by have := hrl.out; omega) hall.out fun x hx => by rw [List.getElem?_eq_none (by have := hrl.out; omega)] at hx; cases hx]
          omega)
        go_wp2
        go_ret
        exact ⟨by rw [hfin.out]; rfl, rfl⟩
set_option maxHeartbeats 2000000 in
theorem taken_sign (s : ByteArray) (c : Wd.B) (r : List Wd.B) (h : s.data.toList = c :: r) (hs : s.size ≤ 9223372036854775807) (hl : Wd.letter c = false) (hd : Wd.digit c = false) (hd2 : ¬ (c = 45 ∧ Wd.digit (r.headD 0) = true)) (w : World) :
    Calls Tryd.prog 29 #[.string s] w fun e w' => e = .returned (.int .i64 ((Wd.piece s.data.toList).1 : Int)) ∧ w = w' := by
  have hsz := size_cons h
  have hp : 0 < s.size := by omega
  have hb := head_byte h hp
  have L0 := rletter_i (s[0].toNat : Int) w
  rw [letB_byte, hb, hl, ← hb] at L0
  have L0 := Lib.hid L0
  have D0 := rdigit_i (s[0].toNat : Int) w
  rw [digB_byte, hb, hd, ← hb] at D0
  have D0 := Lib.hid D0
  by_cases hp1 : 1 < s.size
  · have hb1 := next_byte h hp1
    have h2 : (s.extract 0 2).toList = [c, r.headD 0] := by
      rw [ByteArray.toList_eq, cut_data, h]
      cases r with
      | nil => simp at hsz; omega
      | cons d r => rfl
    have hpI : (1 : Int) < (s.size : Int) := by omega
    cases h45 : ((s[0].toNat : Int) == 45)
    · have hc45 : ¬ c = 45 := by
        rintro rfl
        rw [hb] at h45
        exact absurd h45 (by decide)
      have hpc := Lib.hid (show (Wd.piece s.data.toList).1 = 1 by rw [h, piece_one r hl hd hd2 (fun h1 => hc45 h1.1)])
      have h3 : ((s.extract 0 2).toList == [45, 62]) = false := by
        rw [h2, beq_eq_false_iff_ne]
        intro e
        exact hc45 (List.cons.inj e).1
      clear h2 hb1 hb h hd hl hsz hd2
      go_enter Tryd.func29, Tryd.ntmps29
      go_wp2_with (first | (go_at_call 56; refine L0.out.mono ?_; rintro e w1 ⟨rfl, rfl⟩) | (go_at_call 57; refine D0.out.mono ?_; rintro e w1 ⟨rfl, rfl⟩))
      go_ret
      exact ⟨by rw [hpc.out]; rfl, rfl⟩
    · have hc45 : c = 45 := by
        rw [hb] at h45
        rw [beq_iff_eq] at h45
        have : c.toNat = 45 := by omega
        exact UInt8.toNat_inj.1 this
      have hdn : Wd.digit (r.headD 0) = false := by
        cases hx : Wd.digit (r.headD 0)
        · rfl
        · exact absurd ⟨hc45, hx⟩ hd2
      have D2 := rdigit_i (s[1].toNat : Int) w
      rw [digB_byte, hb1, hdn, ← hb1] at D2
      have D2 := Lib.hid D2
      by_cases h62 : r.headD 0 = 62
      · have hpc := Lib.hid (show (Wd.piece s.data.toList).1 = 2 by rw [h, hc45, piece_arrow hdn h62])
        have h3 : ((s.extract 0 2).toList == [45, 62]) = true := by rw [h2, hc45, h62]; rfl
        clear h2 hb1 hb h hd hl hsz hd2 hc45 h62 hdn
        go_enter Tryd.func29, Tryd.ntmps29
        go_wp2_with (first | (go_at_call 56; refine L0.out.mono ?_; rintro e w1 ⟨rfl, rfl⟩) | (go_at_call 57; first | ((with_reducible refine D0.out.mono ?_); rintro e w1 ⟨rfl, rfl⟩) | ((with_reducible refine D2.out.mono ?_); rintro e w1 ⟨rfl, rfl⟩)))
        go_ret
        exact ⟨by rw [hpc.out]; rfl, rfl⟩
      · have hpc := Lib.hid (show (Wd.piece s.data.toList).1 = 1 by rw [h, piece_one r hl hd hd2 (fun h1 => h62 h1.2)])
        have h3 : ((s.extract 0 2).toList == [45, 62]) = false := by
          rw [h2, beq_eq_false_iff_ne]
          intro e
          exact h62 (List.cons.inj (List.cons.inj e).2).1
        clear h2 hb1 hb h hd hl hsz hd2 hc45 h62 hdn
        go_enter Tryd.func29, Tryd.ntmps29
        go_wp2_with (first | (go_at_call 56; refine L0.out.mono ?_; rintro e w1 ⟨rfl, rfl⟩) | (go_at_call 57; first | ((with_reducible refine D0.out.mono ?_); rintro e w1 ⟨rfl, rfl⟩) | ((with_reducible refine D2.out.mono ?_); rintro e w1 ⟨rfl, rfl⟩)))
        go_ret
        exact ⟨by rw [hpc.out]; rfl, rfl⟩
  · have hr : r = [] := by cases r with
      | nil => rfl
      | cons _ _ => simp at hsz; omega
    have hpI : ¬ (1 : Int) < (s.size : Int) := by omega
    have hpc := Lib.hid (show (Wd.piece s.data.toList).1 = 1 by
      rw [h, piece_one r hl hd hd2 ?_]
      rintro ⟨_, h1⟩
      rw [hr] at h1
      exact absurd h1 (by decide))
    clear hb h hd hl hsz hd2 hr
    cases h45 : ((s[0].toNat : Int) == 45)
    all_goals
      go_enter Tryd.func29, Tryd.ntmps29
      go_wp2_with (first | (go_at_call 56; refine L0.out.mono ?_; rintro e w1 ⟨rfl, rfl⟩) | (go_at_call 57; refine D0.out.mono ?_; rintro e w1 ⟨rfl, rfl⟩))
      go_ret
      exact ⟨by rw [hpc.out]; rfl, rfl⟩
theorem taken_calls (s : ByteArray) (hs : s.size ≤ 9223372036854775807) (h0 : 0 < s.size) (w : World) :
    Calls Tryd.prog 29 #[.string s] w fun e w' => e = .returned (.int .i64 ((Wd.piece s.data.toList).1 : Int)) ∧ w = w' := by
  cases h : s.data.toList with
  | nil =>
    have := congrArg List.length h
    simp only [Array.length_toList, ByteArray.size_data, List.length_nil] at this
    omega
  | cons c r =>
    rw [← h]
    cases hl : Wd.letter c
    · cases hd : Wd.digit c
      · by_cases h1 : c = 45 ∧ Wd.digit (r.headD 0) = true
        · exact taken_num s c r h hs hl (.inr h1) w
        · exact taken_sign s c r h hs hl hd h1 w
      · exact taken_num s c r h hs hl (.inl hd) w
    · exact taken_word s c r h hs hl w
end Go.Proofs.YtifmalbdolpocaaDoor
