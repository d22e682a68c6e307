/-
  The walks of package words, first part: letters, digits, rows.
-/
import Derived.Test.YtifmalbdolpocaaDoorProg
import Derived.WalkKit
import Derived.WalkSpells
import Derived.WalkLawsBesides
import Derived.Outline
import Derived.Lib.Hide
namespace Go.Proofs.YtifmalbdolpocaaDoor
open Go.RowKit

def digB (c : Int) : Bool := decide (48 ≤ c) && decide (c ≤ 57)
def letB (c : Int) : Bool := (decide (97 ≤ c) && decide (c ≤ 122)) || (decide (65 ≤ c) && decide (c ≤ 90)) || decide (c = 95)
set_option maxHeartbeats 400000 in
theorem digit_calls (c : Int) (w : World) : Calls Tryd.prog 43 #[.int .i32 c] w fun e w' => e = .returned (.bool (digB c)) ∧ w = w' := by
  by_cases h1 : 48 ≤ c <;> by_cases h2 : c ≤ 57
  all_goals
    go_enter Tryd.func43, Tryd.ntmps43
    go_wp2
    go_ret
    exact ⟨by simp [digB, h1, h2], rfl⟩
theorem letB_eq (c : Int) : letB c = true ↔ (97 ≤ c ∧ c ≤ 122) ∨ (65 ≤ c ∧ c ≤ 90) ∨ c = 95 := by
  simp [letB, or_assoc]
theorem letB_ne (c : Int) : letB c = false ↔ ¬ ((97 ≤ c ∧ c ≤ 122) ∨ (65 ≤ c ∧ c ≤ 90) ∨ c = 95) := by
  rw [← letB_eq]; simp
set_option maxHeartbeats 400000 in
theorem letter_calls (c : Int) (w : World) : Calls Tryd.prog 39 #[.int .i32 c] w fun e w' => e = .returned (.bool (letB c)) ∧ w = w' := by
  by_cases h1 : 97 ≤ c <;> by_cases h2 : c ≤ 122 <;> by_cases h3 : 65 ≤ c <;> by_cases h4 : c ≤ 90 <;> cases h5 : (c == 95)
  all_goals first | (exfalso; have := h5; simp at this; omega) | skip
  all_goals
    go_enter Tryd.func39, Tryd.ntmps39
    go_wp2
    go_ret
    refine ⟨?_, rfl⟩
    first
    | (rw [(letB_eq c).2 (by simp at h5; omega)]; rfl)
    | (rw [(letB_ne c).2 (by simp at h5; omega)]; rfl)
theorem wrap32_byte (b : UInt8) : wrap32 (b.toNat : Int) = b.toNat := by
  have := b.toNat_lt
  unfold wrap32
  omega
/-- The byte at a place, as a letter. -/
def atB (s : ByteArray) (i : Nat) : Int := if h : i < s.size then (s[i].toNat : Int) else 0
set_option maxHeartbeats 400000 in
theorem at_calls (s : ByteArray) (i : Nat) (_hs : s.size ≤ 9223372036854775807) (w : World) : Calls Tryd.prog 40 #[.string s, .int .i64 i] w fun e w' => e = .returned (.int .i32 (atB s i)) ∧ w = w' := by
  by_cases h : i < s.size
  all_goals
    go_enter Tryd.func40, Tryd.ntmps40
    go_wp2
    go_ret
    exact ⟨by first | (simp only [atB, h, dif_pos]; rw [wrap32_byte]; rfl) | (simp [atB, h]; done), rfl⟩
def wordB (c : Int) : Bool := letB c || digB c
set_option maxHeartbeats 400000 in
theorem piece1_calls (c : Int) (w : World) : Calls Tryd.prog 62 #[.int .i32 c] w fun e w' => e = .returned (.bool (wordB c)) ∧ w = w' := by
  cases h1 : letB c <;> cases h2 : digB c
  all_goals
    have L := letter_calls c w
    have D := digit_calls c w
    rw [h1] at L
    rw [h2] at D
    have hW : wordB c = (letB c || digB c) := rfl
    rw [h1, h2] at hW
    rw [hW]
    clear hW h1 h2
    have L1 := Lib.hid L
    have D1 := Lib.hid D
    clear L D
    go_enter Tryd.func62, Tryd.ntmps62
    go_wp2_with (first | (go_at_call 39; refine L1.out.mono ?_; rintro e w' ⟨rfl, rfl⟩) | (go_at_call 43; refine D1.out.mono ?_; rintro e w' ⟨rfl, rfl⟩))
    go_ret
    exact ⟨rfl, rfl⟩
set_option maxHeartbeats 400000 in
theorem right1_calls (c : Int) (w : World) : Calls Tryd.prog 42 #[.int .i32 c] w fun e w' => e = .returned (.bool (wordB c)) ∧ w = w' := by
  cases h1 : letB c <;> cases h2 : digB c
  all_goals
    have L := letter_calls c w
    have D := digit_calls c w
    rw [h1] at L
    rw [h2] at D
    have hW : wordB c = (letB c || digB c) := rfl
    rw [h1, h2] at hW
    rw [hW]
    clear hW h1 h2
    have L1 := Lib.hid L
    have D1 := Lib.hid D
    clear L D
    go_enter Tryd.func42, Tryd.ntmps42
    go_wp2_with (first | (go_at_call 39; refine L1.out.mono ?_; rintro e w' ⟨rfl, rfl⟩) | (go_at_call 43; refine D1.out.mono ?_; rintro e w' ⟨rfl, rfl⟩))
    go_ret
    exact ⟨rfl, rfl⟩
end Go.Proofs.YtifmalbdolpocaaDoor
