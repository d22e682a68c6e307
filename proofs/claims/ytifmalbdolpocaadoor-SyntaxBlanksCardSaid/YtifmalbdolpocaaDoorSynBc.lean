/-
  The walks of the reference's tokens, third part: Split.
-/
import Derived.Test.YtifmalbdolpocaaDoorSynBa
import Derived.Deep.AppendLies
namespace Go.Proofs.YtifmalbdolpocaaDoor
open Go.RowKit Go.Shelf

/-- A token's cells, of whatever kind. -/
def itCells (t : ITok) : List Value := [.int .i64 t.kind, .string t.text, .int .i64 t.line, .int .i64 t.col]
def itRow (l : List ITok) : List Value := l.flatMap itCells
theorem itRow_snoc (l : List ITok) (t : ITok) : itRow (l ++ [t]) = itRow l ++ itCells t := by simp [itRow]
theorem itRow_at : ∀ (l : List ITok) (k j : Nat) (t : ITok), l[k]? = some t → j < 4 → (itRow l)[k * 4 + j]? = (itCells t)[j]?
  | [], k, _, _, h, _ => by simp at h
  | a :: l, 0, j, t, h, hj => by
    simp only [List.getElem?_cons_zero, Option.some.injEq] at h
    subst h
    rw [show itRow (a :: l) = itCells a ++ itRow l from rfl, List.getElem?_append_left (by simp [itCells]; omega)]
    simp
  | a :: l, k + 1, j, t, h, hj => by
    simp only [List.getElem?_cons_succ] at h
    have ih := itRow_at l k j t h hj
    rw [show itRow (a :: l) = itCells a ++ itRow l from rfl, List.getElem?_append_right (by simp [itCells]; omega)]
    rw [← ih]
    congr 1
    simp [itCells]; omega
theorem toks_of_itRow {w : World} {base : Nat} {v : Value} {l : List ITok} (h : w.ownsRow base 29 4 v l.length (itRow l)) : ∃ A cp, v = .slice A l.length cp ∧ Toks w A l := by
  rcases h.2 with ⟨rfl, h0⟩ | ⟨g, cap, cur, rfl, hb, hg, hc, hm, hz, htk⟩
  · refine ⟨none, 0, by rw [h0], fun k t hk => ?_⟩
    rw [List.eq_nil_of_length_eq_zero h0] at hk
    simp at hk
  · refine ⟨_, cap, rfl, fun k t hk => ?_⟩
    have hlt := (Array.getElem?_eq_some_iff.1 hg).1
    have hkl := (List.getElem?_eq_some_iff.1 hk).1
    have e : ((⟨g, 0, none⟩ : Addr).add (k * 4)) = ⟨g, k * 4, none⟩ := by simp [Addr.add]; omega
    have hcell : ∀ (j : Nat) (u : Value), j < 4 → (itCells t)[j]? = some u → w.cell? ⟨g, k * 4 + j, none⟩ = some u := by
      intro j u hj hu
      have h1 := itRow_at l k j t hk hj
      rw [hu, ← htk, List.getElem?_take, if_pos (by omega)] at h1
      rw [Lib.cell_of_heap hg, ← Array.getElem?_toList]
      exact h1
    refine ⟨⟨g, 0, none⟩, rfl, hlt, ?_⟩
    rw [e]
    exact ⟨hcell 0 _ (by omega) rfl, hcell 1 _ (by omega) rfl, hcell 2 _ (by omega) rfl, hcell 3 _ (by omega) rfl⟩
def txt (t : Wd.Tok) : ByteArray := ⟨t.text.toArray⟩
/-- What is told of the reference's Split, where the text has no fault. -/
def RefPost (ok : Prop) (T : List ByteArray) (w : World) (e : Ending) (w' : World) : Prop :=
  ∃ (A : Option Addr) (cp : Nat) (l : List ITok) (ln cl er : Int), e = .returned (.tuple #[.slice A l.length cp, .int .i64 ln, .int .i64 cl, .int .i64 er]) ∧ (er = 0 → ok → l.map (·.text) = T) ∧ Toks w' A l ∧ Below w.heap.size w w'
/-- Between two rounds. -/
structure RefI (ok : Prop) (s : ByteArray) (T : List ByteArray) (w : World) (k : Nat) (pre : List ITok) (v : Value) (W : World) : Prop where
  row : W.ownsRow w.heap.size 29 4 v pre.length (itRow pre)
  below : Below w.heap.size w W
  few : pre.length ≤ 65536
  rest : ok → ∃ n a b, (Wd.toks n (s.data.toList.drop k) a b).2 = none ∧ T = pre.map (·.text) ++ (Wd.toks n (s.data.toList.drop k) a b).1.map txt ∧ s.size - k < n
theorem drop_cons {s : ByteArray} {k : Nat} (h : k < s.size) : s.data.toList.drop k = s[k] :: s.data.toList.drop (k + 1) := by
  rw [List.drop_eq_getElem_cons (by simpa using h)]
  simp
  rfl
theorem ref_blank {ok : Prop} {s : ByteArray} {T : List ByteArray} {w W : World} {k : Nat} {pre : List ITok} {v : Value} (h : RefI ok s T w k pre v W) (hk : k < s.size) (hc : s[k] = 10 ∨ s[k] = 9 ∨ s[k] = 13 ∨ s[k] = 32) : RefI ok s T w (k + 1) pre v W := by
  obtain ⟨h1, h2, h3, h⟩ := h
  refine ⟨h1, h2, h3, fun hok => ?_⟩
  obtain ⟨n, a, b, h4, h5, h6⟩ := h hok
  obtain ⟨m, rfl⟩ : ∃ m, n = m + 1 := ⟨n - 1, by omega⟩
  rw [drop_cons hk] at h4 h5
  by_cases h10 : s[k] = 10
  · rw [h10, Wd.toks_nl] at h4 h5
    exact ⟨m, a + 1, 1, h4, h5, by omega⟩
  · rw [Wd.toks_blank m s[k] _ a b (by rcases hc with h | h | h | h <;> simp_all)] at h4 h5
    exact ⟨m, a, b + 1, h4, h5, by omega⟩
theorem ref_remark {ok : Prop} {s : ByteArray} {T : List ByteArray} {w W : World} {k : Nat} {pre : List ITok} {v : Value} (h : RefI ok s T w k pre v W) (hk : k < s.size) (hc : s[k] = 35) : RefI ok s T w (k + Wd.row (· != 10) (s.data.toList.drop k)) pre v W := by
  obtain ⟨h1, h2, h3, h⟩ := h
  refine ⟨h1, h2, h3, fun hok => ?_⟩
  obtain ⟨n, a, b, h4, h5, h6⟩ := h hok
  obtain ⟨m, rfl⟩ : ∃ m, n = m + 1 := ⟨n - 1, by omega⟩
  have hd := drop_cons hk
  have hrl : 0 < Wd.row (· != 10) (s.data.toList.drop k) := by
    rw [hd, hc]; simp [Wd.row]
  have hlen : (s.data.toList.drop k).length = s.size - k := by simp
  rw [← List.drop_drop]
  generalize hL : s.data.toList.drop k = L at *
  subst hd
  rw [hc] at h4 h5 hrl hlen ⊢
  rw [Wd.toks, if_neg (by decide), if_neg (by decide), if_pos rfl] at h4 h5
  by_cases hr : Wd.row (· != 10) (35 :: s.data.toList.drop (k + 1)) = (35 :: s.data.toList.drop (k + 1)).length
  · rw [if_pos hr] at h4 h5
    rw [hr, List.drop_of_length_le (Nat.le_refl _)]
    exact ⟨m + 1, a, b, by simp [Wd.toks], by rw [h5]; simp [Wd.toks], by omega⟩
  · rw [if_neg hr] at h4 h5
    exact ⟨m, a, _, h4, h5, by omega⟩
theorem ref_token {ok : Prop} {s : ByteArray} {T : List ByteArray} {w W W' : World} {k : Nat} {pre : List ITok} {v v' : Value} (h : RefI ok s T w k pre v W) (hk : k < s.size) (hc : ¬ (s[k] = 10 ∨ s[k] = 9 ∨ s[k] = 13 ∨ s[k] = 32)) (hc2 : s[k] ≠ 35) (t : ITok)
    (ht : t.text.data.toList = (s.data.toList.drop k).take (Wd.piece (s.data.toList.drop k)).1) (hlt : pre.length < 65536) (hrow : W'.ownsRow w.heap.size 29 4 v' (pre ++ [t]).length (itRow (pre ++ [t]))) (hb : Below w.heap.size w W') :
    RefI ok s T w (k + (Wd.piece (s.data.toList.drop k)).1) (pre ++ [t]) v' W' := by
  obtain ⟨h1, h2, h3, h⟩ := h
  refine ⟨hrow, hb, by simp; omega, fun hok => ?_⟩
  obtain ⟨n, a, b, h4, h5, h6⟩ := h hok
  obtain ⟨m, rfl⟩ : ∃ m, n = m + 1 := ⟨n - 1, by omega⟩
  have hd := drop_cons hk
  have hpos := Wd.piece_ok s[k] (s.data.toList.drop (k + 1)) (fun e => hc (.inl e))
  rw [← hd] at hpos
  rw [← List.drop_drop]
  have htoks : ∀ a b, Wd.toks (m + 1) (s.data.toList.drop k) a b = if Wd.right ((s.data.toList.drop k).take (Wd.piece (s.data.toList.drop k)).1) (Wd.piece (s.data.toList.drop k)).2 then
      (⟨(Wd.piece (s.data.toList.drop k)).2, (s.data.toList.drop k).take (Wd.piece (s.data.toList.drop k)).1, a, b⟩ :: (Wd.toks m ((s.data.toList.drop k).drop (Wd.piece (s.data.toList.drop k)).1) a (b + (Wd.piece (s.data.toList.drop k)).1)).1,
        (Wd.toks m ((s.data.toList.drop k).drop (Wd.piece (s.data.toList.drop k)).1) a (b + (Wd.piece (s.data.toList.drop k)).1)).2) else ([], some (a, b)) := by
    intro a b
    rw [hd, Wd.toks, if_neg (fun e => hc (.inl e)), if_neg (fun e => hc (.inr e)), if_neg hc2]
  rw [htoks] at h4 h5
  split at h4
  · rename_i hr
    rw [if_pos hr] at h5
    refine ⟨m, a, b + (Wd.piece (s.data.toList.drop k)).1, h4, ?_, by omega⟩
    rw [h5]
    simp only [List.map_append, List.map_cons, List.map_nil, List.append_assoc, List.cons_append, List.nil_append]
    congr 2
    unfold txt
    simp only
    rw [← ht]
  · simp at h4
theorem ref_start (s : ByteArray) (w : World) : RefI ((Wd.toks (s.size + 1) s.data.toList 1 1).2 = none) s ((Wd.toks (s.size + 1) s.data.toList 1 1).1.map txt) w 0 [] (.slice none 0 0) w :=
  ⟨World.ownsRow_nil _ _ _ _, Below.refl _ _, by simp, fun hn => ⟨s.size + 1, 1, 1, hn, rfl, by omega⟩⟩
theorem ref_end {ok : Prop} {s : ByteArray} {T : List ByteArray} {w W : World} {k : Nat} {pre : List ITok} {v : Value} (h : RefI ok s T w k pre v W) (hk : s.size ≤ k) (hok : ok) : pre.map (·.text) = T := by
  obtain ⟨h1, h2, h3, h⟩ := h
  obtain ⟨n, a, b, h4, h5, h6⟩ := h hok
  rw [h5, List.drop_of_length_le (by simpa using hk)]
  cases n <;> simp [Wd.toks]
end Go.Proofs.YtifmalbdolpocaaDoor

namespace Go.Proofs.YtifmalbdolpocaaDoor
open Go.RowKit Go.Shelf

theorem byte_test (b : UInt8) (n : Nat) (hn : n < 256) : ((b.toNat : Int) == (n : Int)) = (b == UInt8.ofNat n) := by
  rw [Bool.eq_iff_iff, beq_iff_eq, beq_iff_eq]
  constructor
  · intro h
    have : b.toNat = n := by omega
    rw [← this]; simp
  · intro h
    rw [h]
    simp; omega
theorem ref_grown {ok : Prop} {s : ByteArray} {T : List ByteArray} {w W W' : World} {k : Nat} {pre : List ITok} {v : Value} {o : Obj} (h : RefI ok s T w k pre v W) (hg : (W.alloc o).grownBy W' v.ownBlock) : Below w.heap.size w W' := by
  have hb : Below w.heap.size w (W.alloc o) := below_chain h.below ((Below.refl _ W).alloc (Nat.le_refl _) o)
  exact hb.grown hg hb.size fun k e => (h.row.lt k e).1
theorem remark_pos {s : ByteArray} {k : Nat} (hk : k < s.size) (hc : s[k] = 35) : 0 < Wd.row (· != 10) (s.data.toList.drop k) := by
  rw [drop_cons hk, hc]; simp [Wd.row]
set_option maxRecDepth 100000 in
set_option maxHeartbeats 4000000 in
theorem refsplit_calls (s : ByteArray) (hs : s.size ≤ 1048576) (w : World) : Calls Tryd.prog 14 #[.string s] w (RefPost ((Wd.toks (s.size + 1) s.data.toList 1 1).2 = none) ((Wd.toks (s.size + 1) s.data.toList 1 1).1.map txt) w) := by
  have h0 := ref_start s w
  generalize ((Wd.toks (s.size + 1) s.data.toList 1 1).2 = none) = ok at h0 ⊢
  generalize (Wd.toks (s.size + 1) s.data.toList 1 1).1.map txt = T at h0 ⊢
  have h0' := Lib.hid h0
  have hsI : (s.size : Int) ≤ 1048576 := by omega
  clear h0
  have h0 := h0'
  go_enter Tryd.func14, Tryd.ntmps14
  go_wp2
  go_loopw [6, 7, 8, 9] (fun v x y z wr => ∃ (k : Nat) (pre : List ITok) (a b : Int), z = .int .i64 k ∧ x = .int .i64 a ∧ y = .int .i64 b ∧ k ≤ s.size ∧ RefI ok s T w k pre v wr) (fun _ _ _ z _ => s.size - (intOf z).toNat)
  case atStart => exact ⟨0, [], 1, 0, rfl, rfl, rfl, Nat.zero_le _, h0.out⟩
  case round =>
    clear h0
    obtain ⟨k, pre, a, b, rfl, rfl, rfl, hk, hI⟩ := hrel
    obtain ⟨A, cp, rfl, hT⟩ := toks_of_itRow hI.row
    have hT := Lib.hid hT
    have hIh := Lib.hid hI
    clear hI
    by_cases hlt : k < s.size
    · have hltI : (k : Int) < (s.size : Int) := by omega
      cases h10 : ((s[k].toNat : Int) == 10)
      · cases h9 : ((s[k].toNat : Int) == 9)
        · cases h13 : ((s[k].toNat : Int) == 13)
          · cases h32 : ((s[k].toNat : Int) == 32)
            · cases h35 : ((s[k].toNat : Int) == 35)
              · have n10 : s[k] ≠ 10 := (by have := byte_test s[k] 10 (by omega); rw [show ((10 : Nat) : Int) = 10 from rfl, h10] at this; exact beq_eq_false_iff_ne.1 this.symm)
                have n9 : s[k] ≠ 9 := (by have := byte_test s[k] 9 (by omega); rw [show ((9 : Nat) : Int) = 9 from rfl, h9] at this; exact beq_eq_false_iff_ne.1 this.symm)
                have n13 : s[k] ≠ 13 := (by have := byte_test s[k] 13 (by omega); rw [show ((13 : Nat) : Int) = 13 from rfl, h13] at this; exact beq_eq_false_iff_ne.1 this.symm)
                have n32 : s[k] ≠ 32 := (by have := byte_test s[k] 32 (by omega); rw [show ((32 : Nat) : Int) = 32 from rfl, h32] at this; exact beq_eq_false_iff_ne.1 this.symm)
                have n35 : s[k] ≠ 35 := (by have := byte_test s[k] 35 (by omega); rw [show ((35 : Nat) : Int) = 35 from rfl, h35] at this; exact beq_eq_false_iff_ne.1 this.symm)
                have hno : ¬ (s[k] = 10 ∨ s[k] = 9 ∨ s[k] = 13 ∨ s[k] = 32) := by
                  rintro (h | h | h | h)
                  · exact n10 h
                  · exact n9 h
                  · exact n13 h
                  · exact n32 h
                have hpk := Wd.piece_ok s[k] (s.data.toList.drop (k + 1)) n10
                rw [← drop_cons hlt] at hpk
                have htok := Lib.hid (fun (W' : World) (v' : Value) (t : ITok) ht hl hr hb => ref_token (W' := W') (v' := v') hIh.out hlt hno n35 t ht hl hr hb)
                have Tk := taken_calls (s.extract k s.size) (by simp; omega) (by simp; omega) wr
                rw [drop_data] at Tk
                have hdl : (s.data.toList.drop k).length = s.size - k := by simp
                rw [hdl] at hpk
                obtain ⟨hp1, hp2, _⟩ := hpk
                have htext := Lib.hid (cut_data s k)
                generalize (Wd.piece (s.data.toList.drop k)).1 = m at Tk hp1 hp2 htok
                have Tk := Lib.hid Tk
                have Kd := Lib.hid (ref_kind (s.extract k (k + m)) (by simp; omega) wr)
                have hkm : ((k + m : Nat) : Int) ≤ (s.size : Int) := by omega
                clear n10 n9 n13 n32 n35 hno hdl
                by_cases hmany : pre.length < 65536
                · have hmI : (pre.length : Int) < 65536 := by omega
                  have hmh := Lib.hid hmany
                  generalize (65536 : Int) = N at hmI ⊢
                  obtain ⟨i0, hi0, hz0, hz1, hz2⟩ := info_parts Tryd.info29
                  have hrow := Lib.hid hIh.out.row
                  have hsz := Lib.hid hIh.out.below.size
                  go_wp2_with (first | (go_at_call 29; refine Tk.out.mono ?_; rintro e w1 ⟨rfl, rfl⟩) | (go_at_call 30; refine Kd.out.mono ?_; rintro e w1 ⟨⟨kd, ok, rfl⟩, rfl⟩) | (at_builtin; refine wpList_append_lies _ rfl _ _ 23 rfl w.heap.size 29 i0 _ 4 40 Tryd.underlying23 hi0 hz0 hz1 hz2 rfl (by decide) _ _ _ rfl (hrow.out.alloc _) ⟨wr.heap.size, 0, none⟩ 1 1 [Value.int IntKind.i64 kd, Value.string (s.extract k (k + m)), Value.int IntKind.i64 a, Value.int IntKind.i64 (wrap64 (wrap64 ((k : Int) - b) + 1))] rfl rfl ?c1 ?c2 (by decide) ?c3 ?c4 ?c5 _ rfl ?c6))
                  case c1 => exact World.news_of_block (cs := #[Value.int IntKind.i64 kd, Value.string (s.extract k (k + m)), Value.int IntKind.i64 a, Value.int IntKind.i64 (wrap64 (wrap64 ((k : Int) - b) + 1))]) (World.alloc_heap_new wr _)
                  case c2 =>
                    intro u hu
                    simp only [List.mem_cons, List.not_mem_nil, or_false] at hu
                    rcases hu with rfl | rfl | rfl | rfl <;> rfl
                  case c3 => have := hmh.out; simp only [maxLen]; omega
                  case c4 => have := hmh.out; omega
                  case c5 => have := hsz.out; rw [World.size_alloc]; omega
                  case c6 =>
                    intro g cp' w4 hown' hgrow hat hlt4
                    have hnew := Lib.hid (htok.out w4 _ ⟨kd, s.extract k (k + m), a, wrap64 (wrap64 ((k : Int) - b) + 1)⟩ (by rw [htext.out]; congr 1; omega) hmh.out (by rw [itRow_snoc, List.length_append]; exact hown') (ref_grown hIh.out hgrow))
                    clear hown' hgrow hat hlt4
                    go_wp2
                    exact ⟨⟨k + m, _, a, b, by go_num, rfl, rfl, by omega, hnew.out⟩, by simp [intOf]; omega⟩
                  exact bodyPost_ret (v := .tuple #[.slice none 0 0, .int .i64 a, .int .i64 (wrap64 (wrap64 ((k : Int) - b) + 1)), .int .i64 60]) (by simp [results, Tryd.results14, go_sem]) rfl ⟨none, 0, [], _, _, 60, rfl, fun h => absurd h (by decide), fun k t hk => (by simp at hk), hIh.out.below⟩
                · have hmI : ¬ (pre.length : Int) < 65536 := by omega
                  generalize (65536 : Int) = N at hmI ⊢
                  go_wp2_with (first | (go_at_call 29; refine Tk.out.mono ?_; rintro e w1 ⟨rfl, rfl⟩) | (go_at_call 30; refine Kd.out.mono ?_; rintro e w1 ⟨⟨kd, ok, rfl⟩, rfl⟩))
                  · exact bodyPost_ret (v := .tuple #[.slice none 0 0, .int .i64 a, .int .i64 (wrap64 (wrap64 ((k : Int) - b) + 1)), .int .i64 60]) (by simp [results, Tryd.results14, go_sem]) rfl ⟨none, 0, [], _, _, 60, rfl, fun h => absurd h (by decide), fun k t hk => (by simp at hk), hIh.out.below⟩
                  · exact bodyPost_ret (v := .tuple #[.slice none 0 0, .int .i64 a, .int .i64 (wrap64 (wrap64 ((k : Int) - b) + 1)), .int .i64 3]) (by simp [results, Tryd.results14, go_sem]) rfl ⟨none, 0, [], _, _, 3, rfl, fun h => absurd h (by decide), fun k t hk => (by simp at hk), hIh.out.below⟩
              · have c35 : s[k] = 35 := (by have := byte_test s[k] 35 (by omega); rw [show ((35 : Nat) : Int) = 35 from rfl, h35] at this; exact beq_iff_eq.1 this.symm)
                have hrem := Lib.hid (ref_remark hIh.out hlt c35)
                have hpos := Lib.hid (remark_pos hlt c35)
                clear c35
                obtain ⟨wo, rfl⟩ : ∃ wo : World, wo = wr := ⟨_, rfl⟩
                go_wp2
                go_loopw [9] (fun z w2 => ∃ m : Nat, z = .int .i64 ((k + m : Nat) : Int) ∧ k + m ≤ s.size ∧ (∀ x ∈ (s.data.toList.drop k).take m, (x != 10) = true) ∧ wo = w2) (fun z _ => s.size - (intOf z).toNat)
                case atStart => exact ⟨0, rfl, hk, by simp, rfl⟩
                case round =>
                  obtain ⟨m, rfl, hm, hall, rfl⟩ := hrel
                  have hall := Lib.hid hall
                  by_cases hlt2 : k + m < s.size
                  · have hltI2 : ((k + m : Nat) : Int) < (s.size : Int) := by omega
                    have hat : (s.data.toList.drop k)[m]? = some s[k + m] := by rw [List.getElem?_drop]; exact byte_at s (k + m) hlt2
                    have hat := Lib.hid hat
                    cases hnl : ((s[k + m].toNat : Int) != 10)
                    · have hrw := Lib.hid (show Wd.row (· != 10) (s.data.toList.drop k) = m from row_eq _ _ m (by simp; omega) hall.out fun x hx => by
                        rw [hat.out] at hx
                        rw [← Option.some.inj hx]
                        have h1 := byte_test s[k + m] 10 (by omega)
                        rw [bne_eq_false_iff_eq] at hnl ⊢
                        rw [show ((10 : Nat) : Int) = 10 from rfl, hnl] at h1
                        exact beq_iff_eq.1 h1.symm)
                      go_wp2
                      go_roundw
                      case rel => exact ⟨k + m, pre, _, _, rfl, rfl, rfl, hm, by have := hrem.out; rw [hrw.out] at this; exact this⟩
                      case measure => have h1 := hpos.out; rw [hrw.out] at h1; simp [intOf]; omega
                    · have hnew := Lib.hid (show ∀ x ∈ (s.data.toList.drop k).take (m + 1), (x != 10) = true by
                        rw [List.take_succ_eq_append_getElem (by simp; omega)]
                        intro x hx
                        rcases List.mem_append.1 hx with hx | hx
                        · exact hall.out x hx
                        · have h2 := hat.out
                          rw [List.getElem?_eq_getElem (by simp; omega)] at h2
                          rw [List.mem_singleton.1 hx, Option.some.inj h2, bne_iff_ne]
                          rw [bne_iff_ne] at hnl
                          intro e
                          exact hnl (by rw [e]; rfl))
                      go_wp2
                      go_roundw
                      case rel => exact ⟨m + 1, by go_num, hlt2, hnew.out, trivial⟩
                      case measure => simp [intOf]; omega
                  · have hltI2 : ¬ ((k + m : Nat) : Int) < (s.size : Int) := by omega
                    have hrw := Lib.hid (show Wd.row (· != 10) (s.data.toList.drop k) = m from row_eq _ _ m (by simp; omega) hall.out fun x hx => by
                      rw [List.getElem?_eq_none (by simp; omega)] at hx; cases hx)
                    go_wp2
                    go_roundw
                    case rel => exact ⟨k + m, pre, _, _, rfl, rfl, rfl, hm, by have := hrem.out; rw [hrw.out] at this; exact this⟩
                    case measure => have h1 := hpos.out; rw [hrw.out] at h1; simp [intOf]; omega
            · have hnew := Lib.hid (ref_blank hIh.out hlt (.inr (.inr (.inr (by have := byte_test s[k] 32 (by omega); rw [show ((32 : Nat) : Int) = 32 from rfl, h32] at this; exact beq_iff_eq.1 this.symm)))))
              go_wp2
              go_roundw
              case rel => exact ⟨k + 1, pre, _, _, by go_num, rfl, rfl, hlt, hnew.out⟩
              case measure => simp [intOf]; omega
          · have hnew := Lib.hid (ref_blank hIh.out hlt (.inr (.inr (.inl (by have := byte_test s[k] 13 (by omega); rw [show ((13 : Nat) : Int) = 13 from rfl, h13] at this; exact beq_iff_eq.1 this.symm)))))
            go_wp2
            go_roundw
            case rel => exact ⟨k + 1, pre, _, _, by go_num, rfl, rfl, hlt, hnew.out⟩
            case measure => simp [intOf]; omega
        · have hnew := Lib.hid (ref_blank hIh.out hlt (.inr (.inl (by have := byte_test s[k] 9 (by omega); rw [show ((9 : Nat) : Int) = 9 from rfl, h9] at this; exact beq_iff_eq.1 this.symm))))
          go_wp2
          go_roundw
          case rel => exact ⟨k + 1, pre, _, _, by go_num, rfl, rfl, hlt, hnew.out⟩
          case measure => simp [intOf]; omega
      · have hnew := Lib.hid (ref_blank hIh.out hlt (.inl (by have := byte_test s[k] 10 (by omega); rw [show ((10 : Nat) : Int) = 10 from rfl, h10] at this; exact beq_iff_eq.1 this.symm)))
        go_wp2
        go_roundw
        case rel => exact ⟨k + 1, pre, _, _, by go_num, rfl, rfl, hlt, hnew.out⟩
        case measure => simp [intOf]; omega
    · have hltI : ¬ (k : Int) < (s.size : Int) := by omega
      have hfin := Lib.hid (ref_end hIh.out (by omega))
      go_wp2
      exact bodyPost_ret (v := .tuple #[.slice A pre.length cp, .int .i64 0, .int .i64 0, .int .i64 0]) (by simp [results, Tryd.results14, go_sem]) rfl ⟨A, cp, pre, 0, 0, 0, rfl, fun _ hok => hfin.out hok, hT.out, hIh.out.below⟩
end Go.Proofs.YtifmalbdolpocaaDoor
