/-
  The walks of package words, second part: the length of a row.
-/
import Derived.Test.YtifmalbdolpocaaDoorWalkA
import Derived.Test.YtifmalbdolpocaaDoorWordsBetweenP
import Derived.Lib.OthersKept
import Derived.BigCall
import Derived.Shelf.Abstract
namespace Go.Proofs.YtifmalbdolpocaaDoor
open Go.RowKit Go.Shelf

theorem row_eq (p : Wd.B → Bool) : ∀ (l : List Wd.B) (k : Nat), k ≤ l.length → (∀ c ∈ l.take k, p c = true) → (∀ c, l[k]? = some c → p c = false) → Wd.row p l = k
  | [], 0, _, _, _ => rfl
  | [], _ + 1, h, _, _ => by simp at h
  | c :: l, 0, _, _, h => by simp [Wd.row, h c rfl]
  | c :: l, k + 1, h, h1, h2 => by
    have := row_eq p l k (by simpa using h) (fun x hx => h1 x (by simp [hx])) (fun x hx => h2 x (by simpa using hx))
    unfold Wd.row at this ⊢
    rw [List.takeWhile_cons, if_pos (h1 c (by simp)), List.length_cons, this]
theorem byte_at (s : ByteArray) (k : Nat) (h : k < s.size) : s.data.toList[k]? = some s[k] := by
  rw [List.getElem?_eq_getElem (by simpa using h)]
  rfl
theorem byte_snoc (s : ByteArray) (k : Nat) (h : k < s.size) : s.data.toList.take (k + 1) = s.data.toList.take k ++ [s[k]] := by
  rw [List.take_succ_eq_append_getElem (by simpa using h)]; rfl

set_option maxHeartbeats 1000000 in
theorem row_calls (f : FuncId) (p : Int → Bool) (hent : ∀ args w, (callFunc f args).run Tryd.prog w = .ok (.enter f args) w)
    (hp : ∀ (c : Int) (w : World), Calls Tryd.prog f #[.int .i32 c] w fun e w' => e = .returned (.bool (p c)) ∧ w = w')
    (hhigh : ∀ c : Int, 128 ≤ c → p c = false) (s : ByteArray) (_hs : s.size ≤ 9223372036854775807) (w : World) :
    Calls Tryd.prog 41 #[.string s, .func (.func f) #[] #[]] w fun e w' => e = .returned (.int .i64 (Wd.row (fun b => p b.toNat) s.data.toList)) ∧ Below w.heap.size w w' := by
  have hlen : s.data.toList.length = s.size := by simp
  have hk0 : (w.iter s 0).heap[w.heap.size]? = some (.stringIter s 0) := World.iter_heap w s 0
  have hb0 : Below w.heap.size w (w.iter s 0) := (Below.refl _ w).alloc (Nat.le_refl _) _
  have hhid := Lib.hid hhigh
  have hphid := Lib.hid hp
  clear hhigh hp
  go_enter Tryd.func41, Tryd.ntmps41
  go_wp2
  go_loopw [] (fun wr => ∃ pos : Nat, pos ≤ s.size ∧ wr.heap[w.heap.size]? = some (.stringIter s pos) ∧ (∀ c ∈ s.data.toList.take pos, p c.toNat = true) ∧ Below w.heap.size w wr)
    (fun wr => s.size - wr.iterPos w.heap.size)
  case atStart => exact ⟨0, Nat.zero_le _, hk0, by simp, hb0⟩
  case round =>
    obtain ⟨pos, hps, hk, hall, hnx⟩ := hrel
    have hmu : wr.iterPos w.heap.size = pos := by simp [World.iterPos, hk]
    by_cases hlt : pos < s.size
    · have hby := byte_at s pos hlt
      by_cases ha : s[pos].toNat < 128
      · have hnext : ∀ ty, (Instr.next (.pointer (some ⟨w.heap.size, 0, none⟩)) true ty).run Tryd.prog wr = _ := fun ty => Lib.run_next_ascii_at wr w.heap.size s pos ty hk hlt ha
        have hk1 := Lib.iterAt_heap wr w.heap.size s pos (pos + 1) hk
        have hnx1 : Below w.heap.size w (wr.iterAt w.heap.size s (pos + 1)) := Lib.below_iterAt hnx (Nat.le_refl _) s (pos + 1)
        generalize wr.iterAt w.heap.size s (pos + 1) = W1 at hnext hk1 hnx1
        have hC := hphid.out s[pos].toNat W1
        cases hpc : p s[pos].toNat
        · rw [hpc] at hC
          have hfin := Lib.hid (row_eq (fun b => p b.toNat) s.data.toList pos (by omega) hall (fun c hc => by rw [hby] at hc; injection hc with hc; rw [← hc]; exact hpc))
          have hC1 := Lib.hid hC
          clear hall hpc hby hk hnx hmu ha hC hk1 hhid hphid
          go_wp2_with (go_at_fn f; refine hC1.out.mono ?_; rintro e w' ⟨rfl, rfl⟩)
          go_ret
          exact ⟨by rw [hfin.out]; rfl, hnx1⟩
        · rw [hpc] at hC
          have hall1 := Lib.hid (show ∀ c ∈ s.data.toList.take (pos + 1), p c.toNat = true by
            rw [byte_snoc s pos hlt]; intro c hc; rcases List.mem_append.1 hc with h | h
            · exact hall c h
            · rw [List.mem_singleton.1 h]; exact hpc)
          have hC1 := Lib.hid hC
          have hk2 := Lib.hid hk1
          clear hall hpc hby hk hnx ha hC hk1 hhid hphid
          go_wp2_with (go_at_fn f; refine hC1.out.mono ?_; rintro e w' ⟨rfl, rfl⟩)
          go_roundw
          case rel => exact ⟨pos + 1, hlt, hk2.out, hall1.out, hnx1⟩
          case measure =>
            have hmu2 : W1.iterPos w.heap.size = pos + 1 := by simp [World.iterPos, hk2.out]
            rw [hmu, hmu2]; omega
      · have hnext : ∀ ty, (Instr.next (.pointer (some ⟨w.heap.size, 0, none⟩)) true ty).run Tryd.prog wr = _ := fun ty => Lib.run_next_any_at wr w.heap.size s pos ty hk hlt
        have hnx1 : Below w.heap.size w (wr.iterAt w.heap.size s (pos + (Utf8.decode s pos).2)) := Lib.below_iterAt hnx (Nat.le_refl _) s _
        have hge := (decode_high s pos hlt (by omega)).1
        generalize wr.iterAt w.heap.size s (pos + (Utf8.decode s pos).2) = W1 at hnext hnx1
        have hC := hphid.out (Utf8.decode s pos).1 W1
        rw [hhid.out _ (by omega)] at hC
        generalize (Utf8.decode s pos).1 = rn at hnext hC
        have hfin := Lib.hid (row_eq (fun b => p b.toNat) s.data.toList pos (by omega) hall (fun c hc => by rw [hby] at hc; injection hc with hc; rw [← hc]; exact hhid.out _ (by omega)))
        have hC1 := Lib.hid hC
        clear hall hby hk hnx hmu ha hC hhid hphid hge
        go_wp2_with (go_at_fn f; refine hC1.out.mono ?_; rintro e w' ⟨rfl, rfl⟩)
        go_ret
        exact ⟨by rw [hfin.out]; rfl, hnx1⟩
    · have hnext : ∀ ty, (Instr.next (.pointer (some ⟨w.heap.size, 0, none⟩)) true ty).run Tryd.prog wr = _ := fun ty => Lib.run_next_end_at wr w.heap.size s pos ty hk hlt
      have hps : pos = s.size := by omega
      have hfin := Lib.hid (row_eq (fun b => p b.toNat) s.data.toList s.size (by omega) (by rw [← hps]; exact hall) (fun c hc => by rw [List.getElem?_eq_none (by omega)] at hc; cases hc))
      clear hall hk hmu hhid hphid hps
      go_wp2
      go_ret
      exact ⟨by rw [hfin.out]; rfl, hnx⟩
theorem digB_high (c : Int) (h : 128 ≤ c) : digB c = false := by simp [digB]; omega
theorem wordB_high (c : Int) (h : 128 ≤ c) : wordB c = false := by
  rw [wordB, digB_high c h, (letB_ne c).2 (by omega)]; rfl
theorem digB_byte (b : Wd.B) : digB b.toNat = Wd.digit b := by
  rw [Bool.eq_iff_iff]; simp [digB, Wd.digit, UInt8.le_iff_toNat_le]; omega
theorem letB_byte (b : Wd.B) : letB b.toNat = Wd.letter b := by
  have := Wd.u8_all (fun b => letB b.toNat == Wd.letter b) (by decide +kernel) b
  simpa using this
theorem wordB_byte (b : Wd.B) : wordB b.toNat = Wd.word b := by rw [wordB, Wd.word, digB_byte, letB_byte]
theorem row_digit (s : ByteArray) (hs : s.size ≤ 9223372036854775807) (w : World) :
    Calls Tryd.prog 41 #[.string s, .func (.func 43) #[] #[]] w fun e w' => e = .returned (.int .i64 (Wd.row Wd.digit s.data.toList)) ∧ Below w.heap.size w w' := by
  have := row_calls 43 digB (enters_of Tryd.func43 (by kernel_rfl) rfl) digit_calls digB_high s hs w
  rwa [show (fun b : Wd.B => digB b.toNat) = Wd.digit from funext digB_byte] at this
theorem row_word62 (s : ByteArray) (hs : s.size ≤ 9223372036854775807) (w : World) :
    Calls Tryd.prog 41 #[.string s, .func (.func 62) #[] #[]] w fun e w' => e = .returned (.int .i64 (Wd.row Wd.word s.data.toList)) ∧ Below w.heap.size w w' := by
  have := row_calls 62 wordB (enters_of Tryd.func62 (by kernel_rfl) rfl) piece1_calls wordB_high s hs w
  rwa [show (fun b : Wd.B => wordB b.toNat) = Wd.word from funext wordB_byte] at this
theorem row_word42 (s : ByteArray) (hs : s.size ≤ 9223372036854775807) (w : World) :
    Calls Tryd.prog 41 #[.string s, .func (.func 42) #[] #[]] w fun e w' => e = .returned (.int .i64 (Wd.row Wd.word s.data.toList)) ∧ Below w.heap.size w w' := by
  have := row_calls 42 wordB (enters_of Tryd.func42 (by kernel_rfl) rfl) right1_calls wordB_high s hs w
  rwa [show (fun b : Wd.B => wordB b.toNat) = Wd.word from funext wordB_byte] at this
end Go.Proofs.YtifmalbdolpocaaDoor
