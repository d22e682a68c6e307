/-
  The walks of package words, fifth part: the iterator over a text's tokens.
-/
import Derived.Test.YtifmalbdolpocaaDoorWalkD
import Derived.Test.YtifmalbdolpocaaDoorRound
import Derived.RangeFuncSeq
import Derived.RangeFuncOwn
import Derived.RangeFuncCalls
import Derived.OwnWalkIn
import Derived.TacticsInMore
import Derived.LoopNIn
import Derived.LoopIn
namespace Go.Proofs.YtifmalbdolpocaaDoor
open Go.RowKit Go.Shelf

/-- A token as a value. -/
def tokV (t : Wd.Tok) : Value := .agg #[.int .i64 t.kind, .string ⟨t.text.toArray⟩, .int .i64 t.line, .int .i64 t.col]
/-- What the first fault is told by. -/
def faultV (line col : Nat) (e : Int) : PanicEntry := { v := .iface 48 (.agg #[.int .i64 line, .int .i64 col, .int .i64 e]), recovered := false }

set_option maxHeartbeats 400000 in
theorem tokens_calls (s : ByteArray) (w : World) :
    Calls Tryd.prog 17 #[.string s] w fun e w' => e = .returned (.func (.func 32) #[] #[.pointer (some ⟨w.heap.size, 0, none⟩)]) ∧ w' = w.alloc (.cells #[.string s] 9) := by
  go_enter Tryd.func17, Tryd.ntmps17
  go_wp2
  go_ret
  exact ⟨rfl, rfl⟩

theorem index_row (l : List Wd.B) : Lib.indexByte l 10 = if Wd.row (· != 10) l = l.length then -1 else (Wd.row (· != 10) l : Int) := by
  induction l with
  | nil => rfl
  | cons c l ih =>
    unfold Lib.indexByte
    by_cases h : c = 10
    · subst h
      simp [Wd.row]
    · have h2 : (c == 10) = false := by simpa using h
      have hr : Wd.row (· != 10) (c :: l) = Wd.row (· != 10) l + 1 := by simp [Wd.row, h]
      rw [hr, h2, ih]
      by_cases he : Wd.row (· != 10) l = l.length
      · simp [he]
      · have : ¬ ((Wd.row (· != 10) l : Int) = -1) := by omega
        simp [he, this]
theorem drop_data (s : ByteArray) (i : Nat) : (s.extract i s.size).data.toList = s.data.toList.drop i := by
  rw [ByteArray.data_extract, Array.toList_extract]
  exact List.take_of_length_le (by simp)
theorem cut_data (s : ByteArray) (i j : Nat) : (s.extract i j).data.toList = (s.data.toList.drop i).take (j - i) := by
  rw [ByteArray.data_extract, Array.toList_extract]

set_option maxRecDepth 100000 in
set_option maxHeartbeats 2000000 in
theorem tokens1_calls (l Bn n : Nat) (s : ByteArray) (hs : s.size ≤ 1048576) (J : List Wd.Tok → World → Prop) (Jp : List PanicEntry → World → Prop)
    (hJ : ∀ pre W, J pre W → W.cell? ⟨Bn, 0, none⟩ = some (.string s) ∧ Env W)
    (hstep : ∀ pre W W', J pre W → Below W.heap.size W W' → J pre W')
    (hY : ∀ pre t W, J pre W → (pre ++ [t]) <+: (Wd.toks (s.size + 1) s.data.toList 1 1).1 → YieldAt Fence.wide (n - 1) Tryd.prog l #[tokV t] W fun e W' =>
      (e = .returned (.bool true) ∧ J (pre ++ [t]) W') ∨ (∃ chain, e = .panicked chain ∧ Jp chain W'))
    (W : World) (h0 : J [] W) :
    CallsIn Fence.wide n Tryd.prog 32 #[.func (.yield l) #[] #[], .pointer (some ⟨Bn, 0, none⟩)] W fun e W' =>
      (e = .returned (.tuple #[]) ∧ (Wd.toks (s.size + 1) s.data.toList 1 1).2 = none ∧ J (Wd.toks (s.size + 1) s.data.toList 1 1).1 W') ∨
      (∃ line col, (Wd.toks (s.size + 1) s.data.toList 1 1).2 = some (line, col) ∧ e = .panicked [faultV line col 60] ∧ J (Wd.toks (s.size + 1) s.data.toList 1 1).1 W') ∨
      (∃ chain, e = .panicked chain ∧ Jp chain W') := by
  have hlen : s.data.toList.length = s.size := by simp
  generalize hts : Wd.toks (s.size + 1) s.data.toList 1 1 = tf at hY ⊢
  obtain ⟨ts, fault⟩ := tf
  refine callsIn_of_wp Tryd.func32 rfl trivial ?_ rfl
  simp only [Tryd.ntmps32, List.size_toArray, List.length_cons, List.length_nil, Nat.reduceAdd, Nat.reduceSub, Array.replicate_succ, Array.replicate_zero, List.push_toArray, List.append_toArray, List.nil_append, List.cons_append]
  have hstep' := Lib.hid hstep
  have hY' := Lib.hid hY
  have hts' := Lib.hid hts
  have hlen' := Lib.hid hlen
  have hJ' := Lib.hid hJ
  clear hstep hY hts hlen hJ
  have hFf : ∀ f, Fence.wide.fn f := fun _ => trivial
  have hFd : Fence.wide.depth.isSome = false := rfl
  gi_wp2
  gi_loopw [3, 4, 5] (fun a b c wr => ∃ (i line col m : Nat) (pre rest : List Wd.Tok), a = .int .i64 line ∧ b = .int .i64 col ∧ c = .int .i64 i ∧ i ≤ s.size ∧ line ≤ i + 1 ∧ col ≤ i + 1 ∧ ts = pre ++ rest ∧ s.size < m + i ∧ Wd.toks m (s.data.toList.drop i) line col = (rest, fault) ∧ J pre wr)
    (fun _ _ c _ => s.size - (intOf c).toNat)
  case atStart => exact ⟨0, 1, 1, s.size + 1, [], ts, rfl, rfl, rfl, Nat.zero_le _, by omega, by omega, rfl, by omega, hts'.out, h0⟩
  case round =>
    obtain ⟨i, line, col, m, pre, rest, rfl, rfl, rfl, hi, hli, hco, hpre, hm, htk, hj⟩ := hrel
    obtain ⟨hcell, hE⟩ := hJ'.out pre wr hj
    obtain ⟨m, rfl⟩ : ∃ k, m = k + 1 := ⟨m - 1, by omega⟩
    by_cases hlt : i < s.size
    · have hdrop : s.data.toList.drop i = s[i] :: s.data.toList.drop (i + 1) := by
        have := List.drop_eq_getElem_cons (l := s.data.toList) (i := i) (by rw [hlen'.out]; exact hlt)
        rw [this]; rfl
      rw [hdrop] at htk
      generalize hc : s[i] = c at htk hdrop
      by_cases h10 : c = 10
      · rw [Wd.toks, if_pos h10] at htk
        have hb : ((c.toNat : Int) == 10) = true := by rw [h10]; rfl
        have htk' := Lib.hid htk
        have hpre' := Lib.hid hpre
        clear htk hpre hdrop h10 hstep' hY' hts' hlen' hJ' h0 hE
        gi_wp2
        go_roundw
        case rel => exact ⟨i + 1, line + 1, 1, m, pre, rest, by go_num, rfl, by go_num, hlt, by omega, by omega, hpre'.out, by omega, htk'.out, hj⟩
        case measure => simp [intOf]; omega
      · by_cases h9 : c = 9 ∨ c = 13 ∨ c = 32
        · rw [Wd.toks, if_neg h10, if_pos h9] at htk
          have hb : ((c.toNat : Int) == 10) = false := by
            have := Wd.u8_all (fun c => ((c.toNat : Int) == 10) == decide (c = 10)) (by decide +kernel) c
            simpa [h10] using this
          have htk' := Lib.hid htk
          have hpre' := Lib.hid hpre
          have hcs := Lib.hid hc
          rcases h9 with h9 | h9 | h9
          · have hb9 : ((c.toNat : Int) == 9) = true := by rw [h9]; rfl
            clear htk hpre hdrop h10 h9 hstep' hY' hts' hlen' hJ' h0 hE
            gi_wp2
            go_roundw
            case rel => exact ⟨i + 1, line, col + 1, m, pre, rest, rfl, by go_num, by go_num, hlt, by omega, by omega, hpre'.out, by omega, htk'.out, hj⟩
            case measure => simp [intOf]; omega
          · have hb9 : ((c.toNat : Int) == 9) = false := by rw [h9]; rfl
            have hb13 : ((c.toNat : Int) == 13) = true := by rw [h9]; rfl
            clear htk hpre hdrop h10 h9 hstep' hY' hts' hlen' hJ' h0 hE
            gi_wp2
            go_roundw
            case rel => exact ⟨i + 1, line, col + 1, m, pre, rest, rfl, by go_num, by go_num, hlt, by omega, by omega, hpre'.out, by omega, htk'.out, hj⟩
            case measure => simp [intOf]; omega
          · have hb9 : ((c.toNat : Int) == 9) = false := by rw [h9]; rfl
            have hb13 : ((c.toNat : Int) == 13) = false := by rw [h9]; rfl
            have hb32 : ((c.toNat : Int) == 32) = true := by rw [h9]; rfl
            clear htk hpre hdrop h10 h9 hstep' hY' hts' hlen' hJ' h0 hE
            gi_wp2
            go_roundw
            case rel => exact ⟨i + 1, line, col + 1, m, pre, rest, rfl, by go_num, by go_num, hlt, by omega, by omega, hpre'.out, by omega, htk'.out, hj⟩
            case measure => simp [intOf]; omega
        · have hb10 : ((c.toNat : Int) == 10) = false := by
            have := Wd.u8_all (fun c => ((c.toNat : Int) == 10) == decide (c = 10)) (by decide +kernel) c
            simpa [h10] using this
          have hb9 : ((c.toNat : Int) == 9) = false := by
            have := Wd.u8_all (fun c => ((c.toNat : Int) == 9) == decide (c = 9)) (by decide +kernel) c
            simpa [show ¬ c = 9 from fun h => h9 (.inl h)] using this
          have hb13 : ((c.toNat : Int) == 13) = false := by
            have := Wd.u8_all (fun c => ((c.toNat : Int) == 13) == decide (c = 13)) (by decide +kernel) c
            simpa [show ¬ c = 13 from fun h => h9 (.inr (.inl h))] using this
          have hb32 : ((c.toNat : Int) == 32) = false := by
            have := Wd.u8_all (fun c => ((c.toNat : Int) == 32) == decide (c = 32)) (by decide +kernel) c
            simpa [show ¬ c = 32 from fun h => h9 (.inr (.inr h))] using this
          have hcs := Lib.hid hc
          by_cases h35 : c = 35
          · rw [Wd.toks, if_neg h10, if_neg h9, if_pos h35] at htk
            have hb35 : ((c.toNat : Int) == 35) = true := by rw [h35]; rfl
            have I := Tryd.strings_IndexByte (s.extract i s.size) 10 wr
            rw [drop_data, hdrop, show (10 : Int).toNat.toUInt8 = 10 from rfl, index_row] at I
            have hrl := Wd.row_le (· != 10) (c :: s.data.toList.drop (i + 1))
            have hcl : (c :: s.data.toList.drop (i + 1)).length = s.size - i := by rw [← hdrop, List.length_drop, hlen'.out]
            have hr1 : 1 ≤ Wd.row (· != 10) (c :: s.data.toList.drop (i + 1)) := by
              rw [h35]; simp [Wd.row]
            rw [hcl] at htk hrl I
            have hdd : ∀ k, (c :: s.data.toList.drop (i + 1)).drop k = s.data.toList.drop (i + k) := fun k => by rw [← hdrop, List.drop_drop]
            rw [hdd] at htk
            generalize Wd.row (· != 10) (c :: s.data.toList.drop (i + 1)) = k at htk hrl I hr1
            by_cases hk : k = s.size - i
            · rw [if_pos hk] at htk I
              injection htk with hr hf
              have hfin := Lib.hid (show fault = none ∧ ts = pre from ⟨hf.symm, by rw [hpre, ← hr, List.append_nil]⟩)
              have I1 := Lib.hid I
              clear I hr hf hpre hstep' hY' hts' hlen' hJ' h0 hdrop h10 h9 h35 hcs hcl hdd hk hrl hr1 hE
              gi_wp2_with (gi_at_call 33; refine (callsIn_wide.2 I1.out).mono ?_; rintro e w' ⟨rfl, rfl⟩)
              refine bodyPost_ret (results_none rfl _ _ _) rfl ?_
              obtain ⟨h1, h2⟩ := hfin.out
              exact .inl ⟨rfl, h1, by rw [h2]; exact hj⟩
            · rw [if_neg hk] at htk I
              have I1 := Lib.hid I
              have htk' := Lib.hid htk
              have hpre' := Lib.hid hpre
              have hkl : i + k < s.size := by omega
              clear I htk hpre hstep' hY' hts' hlen' hJ' h0 hdrop h10 h9 h35 hcs hcl hdd hk hrl hE
              gi_wp2_with (gi_at_call 33; refine (callsIn_wide.2 I1.out).mono ?_; rintro e w' ⟨rfl, rfl⟩)
              go_roundw
              case rel => exact ⟨i + k, line, col + k, m, pre, rest, rfl, by go_num, by go_num, by omega, by omega, by omega, hpre'.out, by omega, htk'.out, hj⟩
              case measure => simp [intOf]; omega
          · rw [Wd.toks, if_neg h10, if_neg h9, if_neg h35] at htk
            have hb35 : ((c.toNat : Int) == 35) = false := by
              have := Wd.u8_all (fun c => ((c.toNat : Int) == 35) == decide (c = 35)) (by decide +kernel) c
              simpa [h35] using this
            have hpo := Wd.piece_ok c (s.data.toList.drop (i + 1)) h10
            have hcl : (c :: s.data.toList.drop (i + 1)).length = s.size - i := by rw [← hdrop, List.length_drop, hlen'.out]
            rw [hcl] at hpo
            have P := piece_calls (s.extract i s.size) (by rw [ByteArray.size_extract]; omega) (by rw [ByteArray.size_extract]; omega) wr
            have hpn : pieceN (s.extract i s.size) = (Wd.piece (c :: s.data.toList.drop (i + 1))).1 := by rw [pieceN, drop_data, hdrop]
            have hpk : pieceK (s.extract i s.size) = (Wd.piece (c :: s.data.toList.drop (i + 1))).2 := by rw [pieceK, drop_data, hdrop]
            rw [hpn, hpk] at P
            have hdd : ∀ k, (c :: s.data.toList.drop (i + 1)).drop k = s.data.toList.drop (i + k) := fun k => by rw [← hdrop, List.drop_drop]
            have htt : ∀ k, (c :: s.data.toList.drop (i + 1)).take k = (s.extract i (i + k)).data.toList := fun k => by rw [← hdrop, cut_data, Nat.add_sub_cancel_left]
            simp only [hdd, htt] at htk
            generalize (Wd.piece (c :: s.data.toList.drop (i + 1))).1 = k at htk P hpo
            generalize (Wd.piece (c :: s.data.toList.drop (i + 1))).2 = kd at htk P
            obtain ⟨hk1, hk2, _⟩ := hpo
            have hik : i + k ≤ s.size := by omega
            have R : ∀ w1, Below wr.heap.size wr w1 → Calls Tryd.prog 20 #[.string (s.extract i (i + k)), .int .i64 kd] w1 fun e w' => e = .returned (.bool (Wd.right (s.extract i (i + k)).data.toList kd)) ∧ Below w1.heap.size w1 w' := fun w1 hb =>
              right_calls (s.extract i (i + k)) (by rw [ByteArray.size_extract]; omega) kd w1 (hE.below hb)
            generalize hrt : Wd.right (s.extract i (i + k)).data.toList kd = b at htk R
            have P1 := Lib.hid P
            cases b
            · injection htk with hr hf
              have hfin := Lib.hid (show fault = some (line, col) ∧ ts = pre from ⟨hf.symm, by rw [hpre, ← hr, List.append_nil]⟩)
              have R1 := Lib.hid R
              have hst : ∀ W', Below wr.heap.size wr W' → J pre W' := fun W' hb => hstep'.out pre wr W' hj hb
              have hst' := Lib.hid hst
              have hcell' : ∀ W', Below wr.heap.size wr W' → W'.cell? ⟨Bn, 0, none⟩ = some (.string s) := fun W' hb => (hJ'.out pre W' (hst W' hb)).1
              clear P R hr hf hpre hstep' hY' hts' hlen' hJ' h0 hdrop h10 h9 h35 hcs hcl hdd htt hE hpn hpk hrt hst hj
              gi_wp2_with (first | (gi_at_call 34; refine (callsIn_wide.2 P1.out).mono ?_; rintro e w1 ⟨rfl, hb1⟩; have hc1 := hcell' w1 hb1) | (gi_at_call 20; refine (callsIn_wide.2 (R1.out _ (by assumption))).mono ?_; rintro e w2 ⟨rfl, hb2⟩))
              obtain ⟨h1, h2⟩ := hfin.out
              exact ⟨rfl, .inr (.inl ⟨line, col, h1, rfl, by rw [h2]; exact hst'.out _ (below_chain hb1 hb2)⟩)⟩
            · simp only [if_true, Prod.mk.injEq] at htk
              obtain ⟨hr, hf⟩ := htk
              have htx : (⟨(s.extract i (i + k)).data.toList.toArray⟩ : ByteArray) = s.extract i (i + k) := rfl
              have hpre2 : ts = (pre ++ [⟨kd, (s.extract i (i + k)).data.toList, line, col⟩]) ++ (Wd.toks m (s.data.toList.drop (i + k)) line (col + k)).1 := by
                rw [hpre, ← hr]; simp
              have hY2 : ∀ W', Below wr.heap.size wr W' → YieldAt Fence.wide (n - 1) Tryd.prog l #[.agg #[.int .i64 kd, .string (s.extract i (i + k)), .int .i64 line, .int .i64 col]] W' fun e W' =>
                  (e = .returned (.bool true) ∧ J (pre ++ [⟨kd, (s.extract i (i + k)).data.toList, line, col⟩]) W') ∨ (∃ chain, e = .panicked chain ∧ Jp chain W') := fun W' hb => by
                have := hY'.out pre ⟨kd, (s.extract i (i + k)).data.toList, line, col⟩ W' (hstep'.out pre wr W' hj hb) ⟨_, hpre2.symm⟩
                unfold tokV at this
                simp only [htx] at this
                exact this
              have htk' := Lib.hid (show Wd.toks m (s.data.toList.drop (i + k)) line (col + k) = ((Wd.toks m (s.data.toList.drop (i + k)) line (col + k)).1, fault) by rw [← hf])
              have hpre' := Lib.hid hpre2
              have hY3 := Lib.hid hY2
              have R1 := Lib.hid R
              have hcell' : ∀ W', Below wr.heap.size wr W' → W'.cell? ⟨Bn, 0, none⟩ = some (.string s) := fun W' hb => (hJ'.out pre W' (hstep'.out pre wr W' hj hb)).1
              clear P R hr hf hpre hpre2 hstep' hY' hts' hlen' h0 hdrop h10 h9 h35 hcs hcl hdd htt hE hpn hpk hrt hj hY2 htx
              gi_wp2_with (first | (gi_at_call 34; refine (callsIn_wide.2 P1.out).mono ?_; rintro e w1 ⟨rfl, hb1⟩; have hc1 := hcell' w1 hb1) | (gi_at_call 20; refine (callsIn_wide.2 (R1.out _ (by assumption))).mono ?_; rintro e w2 ⟨rfl, hb2⟩; have hc2 := hcell' w2 (below_chain hb1 hb2); obtain ⟨fn, tmps, assign, body, hy, hR⟩ := hY3.out w2 (below_chain hb1 hb2)))
              refine hR.mono ?_
              rintro e W3 (⟨rfl, hJ3⟩ | ⟨chain, rfl, hJp⟩)
              · gi_wp2
                go_roundw
                case rel => exact ⟨i + k, line, col + k, m, _, _, rfl, by go_num, by go_num, hik, by omega, by omega, hpre'.out, by omega, htk'.out, hJ3⟩
                case measure => simp [intOf]; omega
              · exact ⟨rfl, .inr (.inr ⟨chain, rfl, hJp⟩)⟩
    · have he : i = s.size := by omega
      rw [List.drop_of_length_le (by rw [hlen'.out]; omega)] at htk
      rw [Wd.toks] at htk
      injection htk with hr hf
      have hfin := Lib.hid (show fault = none ∧ ts = pre from ⟨hf.symm, by rw [hpre, ← hr, List.append_nil]⟩)
      clear hr hf hpre hstep' hY' hts' hlen' hJ' h0 hm he
      gi_wp2
      go_end0
      obtain ⟨h1, h2⟩ := hfin.out
      exact .inl ⟨rfl, h1, by rw [h2]; exact hj⟩
end Go.Proofs.YtifmalbdolpocaaDoor
