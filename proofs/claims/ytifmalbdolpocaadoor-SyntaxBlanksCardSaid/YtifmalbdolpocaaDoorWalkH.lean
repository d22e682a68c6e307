/-
  The walks of package words, eighth part: the place at which a line begins; the line and the column of a place.
-/
import Derived.Test.YtifmalbdolpocaaDoorWalkG
import Derived.Test.YtifmalbdolpocaaDoorWordsStandP
namespace Go.Proofs.YtifmalbdolpocaaDoor
open Go.RowKit Go.Shelf

namespace Wd
/-- Behind the last end of a line ahead of o there is none up to o. -/
theorem cl_split (p : List B) : ∃ a t, p = a ++ t ∧ t.length = cl p ∧ (∀ c ∈ t, c ≠ 10) ∧ (a = [] ∨ ∃ a', a = a' ++ [10]) := by
  refine ⟨(p.reverse.dropWhile (· != 10)).reverse, (p.reverse.takeWhile (· != 10)).reverse, ?_, ?_, ?_, ?_⟩
  · rw [← List.reverse_append, List.takeWhile_append_dropWhile, List.reverse_reverse]
  · simp [cl]
  · intro c hc
    have := takeWhile_all (· != 10) p.reverse c (by simpa using hc)
    simpa using this
  · cases h : p.reverse.dropWhile (· != 10) with
    | nil => exact .inl rfl
    | cons x r =>
      have h2 : (x != 10) = false := by
        have := List.head?_dropWhile_not (fun x : B => x != 10) p.reverse
        rw [h] at this
        simpa using this
      refine .inr ⟨r.reverse, ?_⟩
      have : x = 10 := by simpa using h2
      rw [this]; simp
end Wd

theorem count_snoc (s : ByteArray) (i : Nat) (h : i < s.size) : (s.data.toList.take (i + 1)).count 10 = (s.data.toList.take i).count 10 + if s[i] = 10 then 1 else 0 := by
  rw [byte_snoc s i h, List.count_append]
  by_cases h2 : s[i] = 10
  · rw [h2]; rfl
  · rw [if_neg h2]
    have : List.count 10 [s[i]] = 0 := List.count_eq_zero.2 (by simpa using fun h3 => h2 h3.symm)
    rw [this]

/-- What the walk of begin asks. -/
theorem begin_calls0 (s : ByteArray) (hs : s.size ≤ 9223372036854775806) (b ln : Nat) (hb : b ≤ s.size) (hln : 1 + (s.data.toList.take b).count 10 = ln)
    (hbeg : b = 0 ∨ ∃ k, ∃ h : k < s.size, b = k + 1 ∧ s[k] = 10)
    (hmin : ∀ i, i < b → 1 + (s.data.toList.take i).count 10 = ln → i ≠ 0 ∧ ∀ k, ∀ h : k < s.size, i = k + 1 → s[k] ≠ 10) (w : World) :
    Calls Tryd.prog 8 #[.string s, .int .i64 ln] w fun e w' => e = .returned (.int .i64 b) ∧ w = w' := by
  have hcle : ∀ i, (s.data.toList.take i).count 10 ≤ i := fun i => Nat.le_trans List.count_le_length (by simp; omega)
  have hmin' := Lib.hid hmin
  have hcle' := Lib.hid hcle
  have hbeg' := Lib.hid hbeg
  have hln' := Lib.hid hln
  clear hmin hcle hbeg hln
  go_enter Tryd.func8, Tryd.ntmps8
  go_wp2
  go_loopw [5, 6] (fun x y wr => ∃ i n : Nat, x = .int .i64 n ∧ y = .int .i64 i ∧ i ≤ b ∧ n = 1 + (s.data.toList.take i).count 10 ∧ w = wr)
    (fun _ y _ => s.size - (intOf y).toNat)
  case atStart => exact ⟨0, 1, rfl, rfl, Nat.zero_le _, by simp, rfl⟩
  case round =>
    obtain ⟨i, n, rfl, rfl, hi, hn, rfl⟩ := hrel
    have hni : n ≤ i + 1 := by have := hcle'.out i; omega
    by_cases hib : i = b
    · subst hib
      have hnl : n = ln := by rw [hn]; exact hln'.out
      have hq : ((n : Int) == (ln : Int)) = true := by rw [hnl]; simp
      rcases hbeg'.out with h0 | ⟨k, hk, h1, h2⟩
      · have h0' : ((i : Int) == 0) = true := by rw [h0]; rfl
        clear hn hmin' hcle' hbeg' hln' hnl
        go_wp2
        go_ret
        exact ⟨rfl, rfl⟩
      · have h0' : (((k : Int) + 1) == 0) = false := by simp; omega
        subst h1
        have hq2 : ((s[k].toNat : Int) == 10) = true := by rw [h2]; rfl
        clear hn hmin' hcle' hbeg' hln' hnl
        go_wp2
        go_ret
        exact ⟨rfl, rfl⟩
    · have hlt : i < s.size := by omega
      have hcs := Lib.hid (count_snoc s i hlt)
      have hmn := Lib.hid (hmin'.out i (by omega))
      by_cases hnl : n = ln
      · have hq : ((n : Int) == (ln : Int)) = true := by rw [hnl]; simp
        have hne := hmn.out (by omega)
        obtain ⟨k, rfl⟩ : ∃ k, i = k + 1 := ⟨i - 1, by have := hne.1; omega⟩
        have h0' : (((k : Int) + 1) == 0) = false := by simp; omega
        have hk : s[k] ≠ 10 := hne.2 k (by omega) rfl
        have hq2 : ((s[k].toNat : Int) == 10) = false := by
          have := Wd.u8_all (fun c => ((c.toNat : Int) == 10) == decide (c = 10)) (by decide +kernel) s[k]
          simpa [hk] using this
        by_cases h3 : s[k + 1] = 10
        · have hq3 : ((s[k + 1].toNat : Int) == 10) = true := by rw [h3]; rfl
          have hn' := Lib.hid hn
          have hib' := Lib.hid hib
          have h3' := Lib.hid h3
          clear hn hmin' hcle' hbeg' hln' hnl hmn hne hib h3 hk
          go_wp2
          go_roundw
          case rel => exact ⟨k + 1 + 1, n + 1, by go_num, by go_num, by have := hib'.out; omega, by rw [hcs.out, if_pos h3'.out]; have := hn'.out; omega, trivial⟩
          case measure => simp [intOf]; omega
        · have hq3 : ((s[k + 1].toNat : Int) == 10) = false := by
            have := Wd.u8_all (fun c => ((c.toNat : Int) == 10) == decide (c = 10)) (by decide +kernel) s[k + 1]
            simpa [h3] using this
          have hn' := Lib.hid hn
          have hib' := Lib.hid hib
          have h3' := Lib.hid h3
          clear hn hmin' hcle' hbeg' hln' hnl hmn hne hib h3 hk
          go_wp2
          go_roundw
          case rel => exact ⟨k + 1 + 1, n, by go_num, by go_num, by have := hib'.out; omega, by rw [hcs.out, if_neg h3'.out]; have := hn'.out; omega, trivial⟩
          case measure => simp [intOf]; omega
      · have hq : ((n : Int) == (ln : Int)) = false := by simp; omega
        by_cases h3 : s[i] = 10
        · have hq3 : ((s[i].toNat : Int) == 10) = true := by rw [h3]; rfl
          have hn' := Lib.hid hn
          have hib' := Lib.hid hib
          have h3' := Lib.hid h3
          clear hn hmin' hcle' hbeg' hln' hnl hmn hib h3
          go_wp2
          go_roundw
          case rel => exact ⟨i + 1, n + 1, by go_num, by go_num, by have := hib'.out; omega, by rw [hcs.out, if_pos h3'.out]; have := hn'.out; omega, trivial⟩
          case measure => simp [intOf]; omega
        · have hq3 : ((s[i].toNat : Int) == 10) = false := by
            have := Wd.u8_all (fun c => ((c.toNat : Int) == 10) == decide (c = 10)) (by decide +kernel) s[i]
            simpa [h3] using this
          have hn' := Lib.hid hn
          have hib' := Lib.hid hib
          have h3' := Lib.hid h3
          clear hn hmin' hcle' hbeg' hln' hnl hmn hib h3
          go_wp2
          go_roundw
          case rel => exact ⟨i + 1, n, by go_num, by go_num, by have := hib'.out; omega, by rw [hcs.out, if_neg h3'.out]; have := hn'.out; omega, trivial⟩
          case measure => simp [intOf]; omega
/-- The line of a place begins there. -/
theorem begin_calls (s : ByteArray) (hs : s.size ≤ 9223372036854775806) (o : Nat) (ho : o ≤ s.size) (w : World) :
    Calls Tryd.prog 8 #[.string s, .int .i64 ((1 + (s.data.toList.take o).count 10 : Nat) : Int)] w fun e w' => e = .returned (.int .i64 ((o - Wd.cl (s.data.toList.take o) : Nat) : Int)) ∧ w = w' := by
  obtain ⟨a, t, hat, htl, hno, hbeg⟩ := Wd.cl_split (s.data.toList.take o)
  have hlen : (s.data.toList.take o).length = o := by simp; omega
  have hal : a.length = o - Wd.cl (s.data.toList.take o) := by have := congrArg List.length hat; simp only [hlen, List.length_append] at this; omega
  rw [← hal]
  have hao : a.length ≤ o := by omega
  have hta : s.data.toList.take a.length = a := by
    have : (s.data.toList.take o).take a.length = a := by rw [hat, List.take_left']; rfl
    rwa [List.take_take, Nat.min_eq_left hao] at this
  have hca : (s.data.toList.take o).count 10 = a.count 10 := by rw [hat, Wd.count_append_none _ _ hno]
  refine begin_calls0 s hs a.length _ (by omega) (by rw [hta, hca]) ?_ ?_ w
  · rcases hbeg with rfl | ⟨a', rfl⟩
    · exact .inl rfl
    · refine .inr ⟨a'.length, ?_⟩
      have hk : a'.length < s.size := by simp at hao; omega
      refine ⟨hk, by simp, ?_⟩
      have h1 := byte_snoc s a'.length hk
      rw [show a'.length + 1 = (a' ++ [10]).length from by simp, hta] at h1
      have := List.append_inj_right' h1 rfl
      simpa using this.symm
  · intro i hi hc
    rw [hca] at hc
    have hin : i < a.length := hi
    refine absurd hc ?_
    rcases hbeg with rfl | ⟨a', rfl⟩
    · simp at hin
    · have h1 : s.data.toList.take i <+: a' := by
        have : (s.data.toList.take (a' ++ [10]).length).take i = s.data.toList.take i := by rw [List.take_take, Nat.min_eq_left (by omega)]
        rw [← this, hta, List.take_append_of_le_length (by simp at hin; omega)]
        exact List.take_prefix _ _
      have := h1.sublist.count_le 10
      simp
      omega
/-- The last end of a line ahead of a place. -/
theorem last_cl (p : ByteArray) : Lib.lastIndexByte p 10 = (p.size : Int) - Wd.cl p.data.toList - 1 := by
  obtain ⟨a, t, hat, htl, hno, hbeg⟩ := Wd.cl_split p.data.toList
  have hlen : p.data.toList.length = p.size := by simp
  have hl2 : a.length + t.length = p.size := by rw [← hlen, hat]; simp
  have hget : ∀ j, ∀ h : j < p.size, p.data[j]! = (a ++ t)[j]'(by simp; omega) := by
    intro j h
    have h1 := byte_at p j h
    have h2 : p.data[j]! = p[j] := getElem!_pos p.data j h
    rw [h2]
    rw [hat] at h1
    have h3 := List.getElem?_eq_getElem (l := a ++ t) (i := j) (by simp; omega)
    rw [h3] at h1
    exact (Option.some.inj h1).symm
  rcases Lib.lastIndexByte_spec p 10 with ⟨e, hn⟩ | ⟨i, hi, e, hc, hn⟩
  · rcases hbeg with rfl | ⟨a', rfl⟩
    · rw [e]; simp at hl2; omega
    · exfalso
      have hk : a'.length < p.size := by simp at hl2; omega
      refine hn a'.length hk ?_
      rw [hget _ hk]
      simp
  · rw [e]
    have hia : i < a.length := by
      refine Nat.lt_of_not_le fun h => ?_
      have h1 := hget i hi
      rw [List.getElem_append_right h] at h1
      rw [h1] at hc
      refine hno _ (List.getElem_mem (by omega : i - a.length < t.length)) ?_
      have := Wd.u8_all (fun c => decide ((c.toNat : Int) = 10 → c = 10)) (by decide +kernel) (t[i - a.length]'(by omega))
      exact (of_decide_eq_true this) hc
    rcases hbeg with rfl | ⟨a', rfl⟩
    · simp at hia
    · have hk : a'.length < p.size := by simp at hl2; omega
      have : i = a'.length := by
        simp at hia
        rcases Nat.lt_or_ge i a'.length with h | h
        · exfalso
          refine hn a'.length h hk ?_
          rw [hget _ hk]
          simp
        · omega
      simp at hl2
      omega

set_option maxHeartbeats 400000 in
theorem place_calls (s : ByteArray) (hs : s.size < 4611686018427387904) (o : Nat) (ho : o ≤ s.size) (w : World) :
    Calls Tryd.prog 9 #[.string s, .int .i64 o] w fun e w' => e = .returned (.tuple #[.int .i64 ((1 + (s.data.toList.take o).count 10 : Nat) : Int), .int .i64 ((Wd.cl (s.data.toList.take o) + 1 : Nat) : Int), .int .i64 0]) ∧ w = w' := by
  have hex : (s.extract 0 o).data.toList = s.data.toList.take o := by rw [cut_data]; simp
  have hsz : (s.extract 0 o).size = o := by rw [ByteArray.size_extract]; omega
  have C := Tryd.strings_Count_one (s.extract 0 o) 10 w
  rw [hex] at C
  have L := Tryd.strings_LastIndexByte (s.extract 0 o) 10 (by omega) w
  rw [last_cl, hex, hsz] at L
  have hcc : Lib.countByte (s.data.toList.take o) 10 = (s.data.toList.take o).count 10 := rfl
  rw [hcc] at C
  have hc1 : (s.data.toList.take o).count 10 ≤ o := Nat.le_trans List.count_le_length (by simp; omega)
  have hc2 : Wd.cl (s.data.toList.take o) ≤ o := Nat.le_trans (Wd.cl_le _) (by simp; omega)
  generalize (s.data.toList.take o).count 10 = n at C hc1 ⊢
  generalize Wd.cl (s.data.toList.take o) = k at L hc2 ⊢
  have C' := Lib.hid C
  have L' := Lib.hid L
  clear C L hcc hex hsz
  go_enter Tryd.func9, Tryd.ntmps9
  go_wp2_with (first | (go_at_call 18; refine C'.out.mono ?_; rintro e w' ⟨rfl, rfl⟩) | (go_at_call 19; refine L'.out.mono ?_; rintro e w' ⟨rfl, rfl⟩))
  go_ret3
  exact ⟨by go_num, rfl⟩
end Go.Proofs.YtifmalbdolpocaaDoor
