/-
  The walks of package words, thirteenth part: alike.
-/
import Derived.Test.YtifmalbdolpocaaDoorWalkL
import Derived.Deep.QuietTactic
import Derived.BigQuiet
namespace Go.Proofs.YtifmalbdolpocaaDoor
open Go.RowKit Go.Shelf

theorem below_drewN {B : Nat} {a w : World} (h : Below B a w) (n : Nat) : Below B a (w.drewN n) := h.trans ⟨rfl, rfl, rfl, Nat.le_refl _, fun _ _ => rfl⟩

set_option maxRecDepth 100000 in
set_option maxHeartbeats 1000000 in
theorem alike_calls (A A' : Option Addr) (cp cp' : Nat) (l m : List ITok) (w : World) (hl : l.length ≤ 9223372036854775806) (hT : Toks w A l) (hM : Toks w A' m) (hlen : l.length = m.length)
    (hsame : ∀ (k : Nat) (t u : ITok), l[k]? = some t → m[k]? = some u → t.kind = u.kind ∧ t.text = u.text) :
    Calls Tryd.prog 11 #[.slice A l.length cp, .slice A' m.length cp'] w fun e w' => e = .returned (.bool true) ∧ Below w.heap.size w w' := by
  have hT' := Lib.hid hT
  have hM' := Lib.hid hM
  have hs' := Lib.hid hsame
  have hlen' := Lib.hid hlen
  rw [← hlen]
  clear hT hM hsame hlen
  go_enter Tryd.func11, Tryd.ntmps11
  go_wp2
  go_loopw [5] (fun x wr => ∃ i : Nat, x = .int .i64 i ∧ i ≤ l.length ∧ Below w.heap.size w wr)
    (fun x _ => l.length - (intOf x).toNat)
  case atStart => exact ⟨0, rfl, Nat.zero_le _, Below.refl _ _⟩
  case round =>
    obtain ⟨i, rfl, hi, hbw⟩ := hrel
    by_cases hlt : i < l.length
    · obtain ⟨t, ht⟩ : ∃ t, l[i]? = some t := ⟨_, List.getElem?_eq_getElem hlt⟩
      obtain ⟨u, hu⟩ : ∃ u, m[i]? = some u := ⟨_, List.getElem?_eq_getElem (by have := hlen'.out; omega)⟩
      obtain ⟨e1, e2⟩ := hs'.out i t u ht hu
      obtain ⟨ad, rfl, _, c0, c1, _, _⟩ := (hT'.out.below hbw) i t ht
      obtain ⟨ae, rfl, _, d0, d1, _, _⟩ := (hM'.out.below hbw) i u hu
      rw [← e1] at d0
      rw [← e2] at d1
      have hbw' := Lib.hid hbw
      clear e1 e2 ht hu hbw
      go_wp2
      go_quiet (fail)
      go_wp2
      go_roundw
      case rel => exact ⟨i + 1, by go_num, hlt, below_drewN hbw'.out _⟩
      case measure => simp [intOf]; omega
    · have hlt' : ¬ (i : Int) < (l.length : Int) := by omega
      go_wp2
      go_ret
      exact ⟨rfl, hbw⟩
end Go.Proofs.YtifmalbdolpocaaDoor
