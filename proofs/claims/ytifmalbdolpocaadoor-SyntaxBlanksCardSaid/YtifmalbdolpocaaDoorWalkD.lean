/-
  The walks of package words, fourth part: is a text a token of a kind?
-/
import Derived.Test.YtifmalbdolpocaaDoorWalkC
import Derived.Lib.LaidTab
import Derived.Lib.AppendIntMem
import Derived.Lib.AtoiErrMem
namespace Go.Proofs.YtifmalbdolpocaaDoor
open Go.RowKit Go.Shelf

/-- What the listed variables hold. -/
structure Env (w : World) : Prop where
  syn : ∃ tp p, w.var? Tryd.prog "strconv.ErrSyntax" = some #[.iface tp p]
  rng : ∃ tp p, w.var? Tryd.prog "strconv.ErrRange" = some #[.iface tp p]
  tab : Lib.TabIs Tryd.prog w "internal/strconv.uint64pow10" .u64 Lib.pow10Tab
theorem var_keeps {P : Program} {w w' : World} {n : String} {cs : Array Value} (h : Below w.heap.size w w') (hv : w.var? P n = some cs) : w'.var? P n = some cs := by
  unfold World.var? at hv ⊢
  cases hg : P.globalNamed n with
  | none => rw [hg] at hv; simp at hv
  | some g =>
    rw [hg] at hv
    simp only [Option.bind_some] at hv ⊢
    have hlt : g < w.heap.size := by
      rcases Nat.lt_or_ge g w.heap.size with h1 | h1
      · exact h1
      · rw [Array.getElem?_eq_none h1] at hv; simp at hv
    rw [h.block g hlt]
    exact hv
theorem Env.below {w w' : World} (h : Env w) (hb : Below w.heap.size w w') : Env w' :=
  ⟨let ⟨tp, p, e⟩ := h.syn; ⟨tp, p, var_keeps hb e⟩, let ⟨tp, p, e⟩ := h.rng; ⟨tp, p, var_keeps hb e⟩, var_keeps hb h.tab⟩
theorem below_chain {w w1 w2 : World} (h : Below w.heap.size w w1) (h1 : Below w1.heap.size w1 w2) : Below w.heap.size w w2 :=
  h.trans (h1.mono h.size)

set_option maxHeartbeats 1000000 in
theorem right_other (s : ByteArray) (k : Int) (h1 : (k == 1) = false) (h2 : (k == 2) = false) (h3 : (k == 3) = false) (w : World) :
    Calls Tryd.prog 20 #[.string s, .int .i64 k] w fun e w' => e = .returned (.bool false) ∧ Below w.heap.size w w' := by
  go_enter Tryd.func20, Tryd.ntmps20
  go_wp2
  go_ret
  exact ⟨rfl, Below.refl _ _⟩
set_option maxHeartbeats 1000000 in
theorem right_name (s : ByteArray) (hs : s.size ≤ 9223372036854775807) (w : World) :
    Calls Tryd.prog 20 #[.string s, .int .i64 1] w fun e w' => e = .returned (.bool (Wd.right s.data.toList 1)) ∧ Below w.heap.size w w' := by
  have hlist : s.toList = s.data.toList := ByteArray.toList_eq s
  cases hcr : s.data.toList with
  | nil =>
    have hnil : s.toList = [] := by rw [hlist, hcr]
    clear hlist hcr
    go_enter Tryd.func20, Tryd.ntmps20
    go_wp2
    go_ret
    exact ⟨rfl, Below.refl _ _⟩
  | cons c r =>
    have hne : ¬ s.toList = [] := by rw [hlist, hcr]; simp
    have hne2 : s.toList.isEmpty = false := by rw [hlist, hcr]; rfl
    have hsz := size_cons hcr
    have hl : (c :: r).length = s.size := by rw [hsz]; rfl
    by_cases h64 : s.size ≤ 64
    · have A : Calls Tryd.prog 40 #[.string s, .int .i64 0] w fun e w' => e = .returned (.int .i32 (atB s 0)) ∧ w = w' := at_calls s 0 hs w
      rw [(atB_cons hcr).1] at A
      have L := letter_calls c.toNat w
      rw [letB_byte] at L
      have R := row_word42 s hs w
      rw [hcr] at R
      have A' := Lib.hid A
      have h64' : (s.size : Int) ≤ 64 := by omega
      have hdec : decide ((c :: r).length ≤ 64) = true := decide_eq_true (by rw [hl]; exact h64)
      have hfin : Wd.right (c :: r) 1 = (Wd.letter c && (Wd.row Wd.word (c :: r) == s.size)) := by
        simp [Wd.right, hl, h64]
      have hrow := row_bound Wd.word s
      rw [hcr] at hrow
      generalize (c.toNat : Int) = ci at A' L
      clear A hlist hcr hl hsz hdec h64
      cases hlt : Wd.letter c
      · rw [hlt] at L hfin
        have L1 := Lib.hid L
        have hf := Lib.hid hfin
        clear L R hlt hfin hrow
        go_enter Tryd.func20, Tryd.ntmps20
        go_wp2_with (first | (go_at_call 40; refine A'.out.mono ?_; rintro e w' ⟨rfl, rfl⟩) | (go_at_call 39; refine L1.out.mono ?_; rintro e w' ⟨rfl, rfl⟩))
        go_ret
        exact ⟨by rw [hf.out]; rfl, Below.refl _ _⟩
      · rw [hlt] at L hfin
        have L1 := Lib.hid L
        have hf := Lib.hid hfin
        clear L hlt hfin
        generalize Wd.row Wd.word (c :: r) = n at R hf hrow
        have R1 := Lib.hid R
        clear R
        by_cases heq : n = s.size
        · have hb : ((n : Int) == (s.size : Int)) = true := by simp [heq]
          have hf2 := Lib.hid (show (n == s.size) = true by simp [heq])
          clear heq
          go_enter Tryd.func20, Tryd.ntmps20
          go_wp2_with (first | (go_at_call 40; refine A'.out.mono ?_; rintro e w' ⟨rfl, rfl⟩) | (go_at_call 39; refine L1.out.mono ?_; rintro e w' ⟨rfl, rfl⟩) | (go_at_call 41; refine R1.out.mono ?_; rintro e w1 ⟨rfl, hbw⟩))
          go_ret
          exact ⟨by rw [hf.out, hf2.out]; rfl, hbw⟩
        · have hb : ((n : Int) == (s.size : Int)) = false := beq_eq_false_iff_ne.2 (by omega)
          have hf2 := Lib.hid (show (n == s.size) = false by simp [heq])
          clear heq
          go_enter Tryd.func20, Tryd.ntmps20
          go_wp2_with (first | (go_at_call 40; refine A'.out.mono ?_; rintro e w' ⟨rfl, rfl⟩) | (go_at_call 39; refine L1.out.mono ?_; rintro e w' ⟨rfl, rfl⟩) | (go_at_call 41; refine R1.out.mono ?_; rintro e w1 ⟨rfl, hbw⟩))
          go_ret
          exact ⟨by rw [hf.out, hf2.out]; rfl, hbw⟩
    · have h64' : 64 < (s.size : Int) := by omega
      have hf := Lib.hid (show Wd.right (c :: r) 1 = false by simp [Wd.right, hl, h64])
      clear hlist hcr hl hsz h64
      go_enter Tryd.func20, Tryd.ntmps20
      go_wp2
      go_ret
      exact ⟨by rw [hf.out]; rfl, Below.refl _ _⟩

theorem signs_at (c : Wd.B) : decide (0 ≤ Lib.indexByte [123, 125, 40, 41, 59, 44, 58, 61, 42, 43, 63, 124, 46, 33, 38] c) = Wd.signs.contains c := by
  have := Wd.u8_all (fun c => decide (0 ≤ Lib.indexByte [123, 125, 40, 41, 59, 44, 58, 61, 42, 43, 63, 124, 46, 33, 38] c) == Wd.signs.contains c) (by decide +kernel) c
  simpa using this
set_option maxHeartbeats 1000000 in
theorem right_sign (s : ByteArray) (hs : s.size ≤ 9223372036854775807) (w : World) :
    Calls Tryd.prog 20 #[.string s, .int .i64 3] w fun e w' => e = .returned (.bool (Wd.right s.data.toList 3)) ∧ Below w.heap.size w w' := by
  have hlist : s.toList = s.data.toList := ByteArray.toList_eq s
  have hlen : s.data.toList.length = s.size := by simp
  by_cases h1 : s.data.toList = [45, 62]
  · have hf := Lib.hid (show Wd.right s.data.toList 3 = true by rw [h1]; rfl)
    have e1 : s.toList = [45, 62] := by rw [hlist, h1]
    clear h1 hlist hlen
    go_enter Tryd.func20, Tryd.ntmps20
    go_wp2
    go_ret
    exact ⟨by rw [hf.out]; rfl, Below.refl _ _⟩
  · by_cases h2 : s.size = 1
    · obtain ⟨c, hc⟩ : ∃ c, s.data.toList = [c] := by
        match h : s.data.toList, hlen with
        | [c], _ => exact ⟨c, rfl⟩
        | [], hl => simp at hl; omega
        | _ :: _ :: _, hl => simp at hl; omega
      have hsc : s = ⟨#[c]⟩ := by
        cases s with
        | mk d => cases d with
          | mk l => simp at hc; rw [hc]
      subst hsc
      have C := Tryd.strings_Contains_one ⟨#[123, 125, 40, 41, 59, 44, 58, 61, 42, 43, 63, 124, 46, 33, 38]⟩ c w
      rw [show (⟨#[123, 125, 40, 41, 59, 44, 58, 61, 42, 43, 63, 124, 46, 33, 38]⟩ : ByteArray).data.toList = [123, 125, 40, 41, 59, 44, 58, 61, 42, 43, 63, 124, 46, 33, 38] from rfl, signs_at] at C
      have hf : Wd.right [c] 3 = Wd.signs.contains c := by simp [Wd.right]
      have hb : (([c] : List UInt8) == [45, 62]) = false := by simp
      generalize Wd.signs.contains c = b at C hf
      have C1 := Lib.hid C
      have hf1 := Lib.hid hf
      clear C hf h1 h2 hc hlist hlen
      cases b
      all_goals
        go_enter Tryd.func20, Tryd.ntmps20
        go_wp2_with (go_at_call 46; refine C1.out.mono ?_; rintro e w' ⟨rfl, rfl⟩)
        go_ret
        exact ⟨by rw [hf1.out]; rfl, Below.refl _ _⟩
    · have hb : (s.toList == [45, 62]) = false := by rw [hlist]; simpa using h1
      have hn : ¬ s.toList = [45, 62] := by rw [hlist]; exact h1
      have h3 : ((s.size : Int) == 1) = false := beq_eq_false_iff_ne.2 (by omega)
      have hf := Lib.hid (show Wd.right s.data.toList 3 = false by
        have e : (s.data.toList.length == 1) = false := by rw [hlen]; simpa using h2
        simp only [Wd.right, Nat.reduceEqDiff, if_false, if_true, e, Bool.false_and, Bool.or_false]
        simpa using h1)
      clear h1 h2 hlist hlen
      go_enter Tryd.func20, Tryd.ntmps20
      go_wp2
      go_ret
      exact ⟨by rw [hf.out]; rfl, Below.refl _ _⟩
set_option maxHeartbeats 1000000 in
theorem right_num (s : ByteArray) (hs : s.size ≤ 281474976710656) (w : World) (hE : Env w) :
    Calls Tryd.prog 20 #[.string s, .int .i64 2] w fun e w' => e = .returned (.bool (Wd.right s.data.toList 2)) ∧ Below w.heap.size w w' := by
  have hlist : s.toList = s.data.toList := ByteArray.toList_eq s
  cases hp : Lib.parseIntB 64 s.data.toList
  case ok v =>
    have hf : Wd.right s.data.toList 2 = (Lib.itoa v == s.data.toList) := by simp [Wd.right, hp]
    have hbd := Lib.parseIntB_bounds hp
    have P : Calls Tryd.prog 44 #[.string s, .int .i64 10, .int .i64 64] w fun e w' => e = .returned (.tuple #[.int .i64 v, .nilIface]) ∧ Below w.heap.size w w' :=
      (Tryd.strconv_ParseInt_10_at64_ok s (by omega) v hp w).mono fun e w' ⟨he, hw⟩ => ⟨he, by
        rcases hw with rfl | ⟨t, rfl⟩
        · exact Below.refl _ _
        · exact Lib.bytesWorld_below w 5 t⟩
    have P' := Lib.hid P
    have F : ∀ w1, Below w.heap.size w w1 → Calls Tryd.prog 45 #[.int .i64 v, .int .i64 10] w1 fun e w' => e = .returned (.string ⟨(Lib.itoa v).toArray⟩) ∧ Below w1.heap.size w1 w' := fun w1 hb =>
      (Tryd.strconv_FormatInt_10 v (by omega) (by omega) w1 (hE.below hb).tab).mono fun e w' ⟨he, k, os, hw⟩ => ⟨he, hw ▸ Lib.below_grow _ w1 (Nat.le_refl _) k os⟩
    have F' := Lib.hid F
    have h0 : -9223372036854775808 ≤ v := by omega
    have h1 : v ≤ 9223372036854775807 := by omega
    have hf' := Lib.hid hf
    clear P F hp hbd hf hlist
    go_enter Tryd.func20, Tryd.ntmps20
    go_wp2_with (first | (go_at_call 44; refine P'.out.mono ?_; rintro e w1 ⟨rfl, hb⟩) | (go_at_call 45; refine (F'.out _ (by assumption)).mono ?_; rintro e w2 ⟨rfl, hb2⟩))
    go_ret
    exact ⟨by rw [hf'.out, ← ByteArray.toList_eq]; rfl, below_chain hb hb2⟩
  case range =>
    obtain ⟨tp, p, hv⟩ := hE.rng
    have P := Lib.hid (Tryd.strconv_ParseInt_10_at64_range_var s hs hp tp p w hv)
    have hf := Lib.hid (show Wd.right s.data.toList 2 = false by simp [Wd.right, hp])
    clear hv hp hlist
    go_enter Tryd.func20, Tryd.ntmps20
    go_wp2_with (go_at_call 44; refine P.out.mono ?_; rintro e w1 ⟨N, rfl, hN, hc, hb⟩)
    go_ret
    exact ⟨by rw [hf.out]; rfl, hb⟩
  · obtain ⟨tp, p, hv⟩ := hE.syn
    have P := Lib.hid (Tryd.strconv_ParseInt_10_at64_syntax_var s hs hp tp p w hv)
    have hf := Lib.hid (show Wd.right s.data.toList 2 = false by simp [Wd.right, hp])
    clear hv hp hlist
    go_enter Tryd.func20, Tryd.ntmps20
    go_wp2_with (go_at_call 44; refine P.out.mono ?_; rintro e w1 ⟨N, rfl, hN, hc, hb⟩)
    go_ret
    exact ⟨by rw [hf.out]; rfl, hb⟩
theorem right_calls (s : ByteArray) (hs : s.size ≤ 281474976710656) (k : Nat) (w : World) (hE : Env w) :
    Calls Tryd.prog 20 #[.string s, .int .i64 k] w fun e w' => e = .returned (.bool (Wd.right s.data.toList k)) ∧ Below w.heap.size w w' := by
  by_cases h1 : k = 1
  · subst h1; exact right_name s (by omega) w
  by_cases h2 : k = 2
  · subst h2; exact right_num s hs w hE
  by_cases h3 : k = 3
  · subst h3; exact right_sign s (by omega) w
  have hf : Wd.right s.data.toList k = false := by simp [Wd.right, h1, h2, h3]
  rw [hf]
  exact right_other s k (beq_eq_false_iff_ne.2 (by omega)) (beq_eq_false_iff_ne.2 (by omega)) (beq_eq_false_iff_ne.2 (by omega)) w
end Go.Proofs.YtifmalbdolpocaaDoor
