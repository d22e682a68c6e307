/-
  The walks of package syntax, first part: is a text a name?
-/
import Derived.Test.YtifmalbdolpocaaDoorWalkL
import Derived.Test.YtifmalbdolpocaaDoorSynFn
namespace Go.Proofs.YtifmalbdolpocaaDoor
open Go.RowKit Go.Shelf

set_option maxHeartbeats 1000000 in
theorem index_calls (g n : Nat) (ss : List ByteArray) (s : ByteArray) (r : Bool) (hr : Hid ((ss.map (·.data.toList)).contains s.data.toList = r)) (w : World) (hn : ss.length = n) (hm : n ≤ 1000) (hc : ∀ (j : Nat) (t : ByteArray), ss[j]? = some t → w.cell? ⟨g, j, none⟩ = some (.string t)) :
    Calls Tryd.prog 106 #[.slice (some ⟨g, 0, none⟩) n n, .string s] w fun e w' => (∃ i : Int, e = .returned (.int .i64 i) ∧ decide (0 ≤ i) = r) ∧ w = w' := by
  have hc' := Lib.hid hc
  have hn' := Lib.hid hn
  clear hc hn
  go_enter Tryd.func106, Tryd.ntmps106
  go_wp2
  go_loopw [8] (fun x wr => ∃ i : Nat, x = .int .i64 i ∧ i ≤ n ∧ (∀ t ∈ ss.take i, (s.data.toList == t.data.toList) = false) ∧ w = wr)
    (fun x _ => n - (intOf x).toNat)
  case atStart => exact ⟨0, rfl, Nat.zero_le _, by simp, rfl⟩
  case round =>
    obtain ⟨i, rfl, hi, hall, rfl⟩ := hrel
    by_cases hlt : i < n
    · have hlt2 : i < ss.length := by rw [hn'.out]; exact hlt
      have c0 := hc'.out i ss[i] (List.getElem?_eq_getElem hlt2)
      cases hq : (s.data.toList == ss[i].data.toList)
      · have hq2 : (s.toList == ss[i].toList) = false := by rw [ByteArray.toList_eq, ByteArray.toList_eq]; exact hq
        have hall2 := Lib.hid (show ∀ t ∈ ss.take (i + 1), (s.data.toList == t.data.toList) = false by
          rw [List.take_succ_eq_append_getElem hlt2]
          intro t ht
          rcases List.mem_append.1 ht with h | h
          · exact hall t h
          · rw [List.mem_singleton] at h; rw [h]; exact hq)
        clear hall hq
        go_wp2
        go_roundw
        case rel => exact ⟨i + 1, by go_num, hlt, hall2.out, trivial⟩
        case measure => simp [intOf]; omega
      · have hq2 : (s.toList == ss[i].toList) = true := by rw [ByteArray.toList_eq, ByteArray.toList_eq]; exact hq
        have hfin := Lib.hid (show decide ((0 : Int) ≤ (i : Int)) = r by
          rw [← hr.out]
          rw [decide_eq_true (by omega)]
          symm
          rw [List.contains_iff_mem]
          refine List.mem_map.2 ⟨ss[i], List.getElem_mem hlt2, ?_⟩
          exact (beq_iff_eq.1 hq).symm)
        clear hall hq
        go_wp2
        go_ret
        exact ⟨⟨_, rfl, hfin.out⟩, rfl⟩
    · have hlt' : ¬ (i : Int) < (n : Int) := by omega
      have hfin := Lib.hid (show decide ((0 : Int) ≤ -1) = r by
        rw [← hr.out]
        rw [decide_eq_false (by omega)]
        symm
        rw [← Bool.not_eq_true, List.contains_iff_mem]
        intro h
        obtain ⟨t, ht, he⟩ := List.mem_map.1 h
        rw [show i = ss.length by rw [hn'.out]; omega, List.take_length] at hall
        have := hall t ht
        rw [he] at this
        simp at this)
      clear hall
      go_wp2
      go_ret
      exact ⟨⟨_, rfl, hfin.out⟩, rfl⟩
theorem contains_calls (g n : Nat) (ss : List ByteArray) (s : ByteArray) (r : Bool) (hr : Hid ((ss.map (·.data.toList)).contains s.data.toList = r)) (w : World) (hn : ss.length = n) (hm : n ≤ 1000) (hc : ∀ (j : Nat) (t : ByteArray), ss[j]? = some t → w.cell? ⟨g, j, none⟩ = some (.string t)) :
    Calls Tryd.prog 93 #[.slice (some ⟨g, 0, none⟩) n n, .string s] w fun e w' => e = .returned (.bool r) ∧ w = w' := by
  have I := Lib.hid (index_calls g n ss s r hr w hn hm hc)
  clear hc
  go_enter Tryd.func93, Tryd.ntmps93
  go_wp2_with (go_at_call 106; refine I.out.mono ?_; rintro e w1 ⟨⟨i, rfl, hi⟩, rfl⟩)
  go_ret
  exact ⟨rfl, rfl⟩
def ownTexts : List ByteArray := [⟨#[118, 97, 114]⟩, ⟨#[112, 114, 111, 99]⟩, ⟨#[115, 107, 105, 112]⟩, ⟨#[109, 97, 114, 107]⟩, ⟨#[99, 108, 101, 97, 110]⟩, ⟨#[115, 105, 110, 107]⟩, ⟨#[99, 97, 108, 108]⟩, ⟨#[102, 114, 111, 109]⟩,
  ⟨#[101, 105, 116, 104, 101, 114]⟩, ⟨#[111, 114]⟩, ⟨#[108, 111, 111, 112]⟩, ⟨#[114, 101, 116, 117, 114, 110]⟩, ⟨#[97, 116]⟩]
set_option maxHeartbeats 1000000 in
theorem own_calls (s : ByteArray) (r : Bool) (hr : Sx.owns.contains s.data.toList = r) (w : World) : Calls Tryd.prog 73 #[.string s] w fun e w' => e = .returned (.bool r) ∧ Below w.heap.size w w' := by
  have C := Lib.hid (fun W (h : ∀ (j : Nat) (t : ByteArray), ownTexts[j]? = some t → W.cell? ⟨w.heap.size, j, none⟩ = some (.string t)) => contains_calls w.heap.size 13 ownTexts s r (Lib.hid hr) W rfl (by decide) h)
  clear hr
  have hB := Lib.hid ((Below.refl w.heap.size w).alloc (Nat.le_refl _) (Obj.cells (ownTexts.map Value.string).toArray 9))
  have hcell := Lib.hid (show ∀ (j : Nat) (t : ByteArray), ownTexts[j]? = some t → (w.alloc (Obj.cells (ownTexts.map Value.string).toArray 9)).cell? ⟨w.heap.size, j, none⟩ = some (.string t) from fun j t h => by
    have h1 : (w.alloc (Obj.cells (ownTexts.map Value.string).toArray 9)).heap[w.heap.size]? = some (.cells (ownTexts.map Value.string).toArray 9 (0, 0)) := World.alloc_heap_new w _
    rw [Lib.cell_of_heap h1 j]
    simp [h])
  go_enter Tryd.func73, Tryd.ntmps73
  go_wp2_with (go_at_call 93; refine (C.out _ hcell.out).mono ?_; rintro e w1 ⟨rfl, rfl⟩)
  go_ret
  exact ⟨rfl, hB.out⟩

inductive KindR (r : Bool) (e : Ending) : Prop
  | mk (k : Int) (ok : Bool) (he : e = .returned (.tuple #[.int .i64 k, .bool ok])) (hk : (ok && (k == 1)) = r)
set_option maxHeartbeats 2000000 in
/-- Kind: is it a name? -/
theorem kind_calls (s : ByteArray) (hs : s.size ≤ 281474976710656) (w : World) (hE : Env w) :
    Calls Tryd.prog 72 #[.string s] w fun e w' => KindR (Wd.right s.data.toList 1) e ∧ Below w.heap.size w w' := by
  have R1 := Lib.hid (fun W (h : Below w.heap.size w W) => show Calls Tryd.prog 20 #[.string s, .int .i64 1] W fun e w' => e = .returned (.bool (Wd.right s.data.toList 1)) ∧ Below W.heap.size W w' from right_calls s hs 1 W (hE.below h))
  have R2 := Lib.hid (fun W (h : Below w.heap.size w W) => show Calls Tryd.prog 20 #[.string s, .int .i64 2] W fun e w' => e = .returned (.bool (Wd.right s.data.toList 2)) ∧ Below W.heap.size W w' from right_calls s hs 2 W (hE.below h))
  have R3 := Lib.hid (fun W (h : Below w.heap.size w W) => show Calls Tryd.prog 20 #[.string s, .int .i64 3] W fun e w' => e = .returned (.bool (Wd.right s.data.toList 3)) ∧ Below W.heap.size W w' from right_calls s hs 3 W (hE.below h))
  have hB := Lib.hid ((Below.refl w.heap.size w).alloc (Nat.le_refl _) (Obj.cells #[Value.int .i64 1, Value.int .i64 2, Value.int .i64 3] 27))
  have hcell := Lib.hid (show (w.alloc (Obj.cells #[Value.int .i64 1, Value.int .i64 2, Value.int .i64 3] 27)).heap[w.heap.size]? = some (.cells #[Value.int .i64 1, Value.int .i64 2, Value.int .i64 3] 27 (0, 0)) from World.alloc_heap_new w _)
  have hlt := Lib.hid (show w.heap.size < (w.alloc (Obj.cells #[Value.int .i64 1, Value.int .i64 2, Value.int .i64 3] 27)).heap.size from by simp)
  clear hE
  generalize Wd.right s.data.toList 1 = r1 at R1 ⊢
  generalize Wd.right s.data.toList 2 = r2 at R2
  generalize Wd.right s.data.toList 3 = r3 at R3
  go_enter Tryd.func72, Tryd.ntmps72
  go_wp2
  go_loopw [8] (fun x wr => ∃ i : Nat, x = .int .i64 i ∧ i ≤ 3 ∧ (1 ≤ i → r1 = false) ∧ Below (w.alloc (Obj.cells #[Value.int .i64 1, Value.int .i64 2, Value.int .i64 3] 27)).heap.size (w.alloc (Obj.cells #[Value.int .i64 1, Value.int .i64 2, Value.int .i64 3] 27)) wr)
    (fun x _ => 3 - (intOf x).toNat)
  case atStart => exact ⟨0, rfl, by omega, fun h => by omega, Below.refl _ _⟩
  case round =>
    obtain ⟨i, rfl, hi, hr1, hbw⟩ := hrel
    have hb1 := Lib.hid (hbw.block _ hlt.out)
    have hh := hb1.out.trans hcell.out
    have c0 : wr.cell? ⟨w.heap.size, 0, none⟩ = some (.int .i64 1) := by rw [Lib.cell_of_heap hh]; rfl
    have c1 : wr.cell? ⟨w.heap.size, 1, none⟩ = some (.int .i64 2) := by rw [Lib.cell_of_heap hh]; rfl
    have c2 : wr.cell? ⟨w.heap.size, 2, none⟩ = some (.int .i64 3) := by rw [Lib.cell_of_heap hh]; rfl
    have hbw0 := Lib.hid (below_chain hB.out hbw)
    have hbw' := Lib.hid hbw
    have hr1' := Lib.hid hr1
    clear hh hbw hr1
    have h4 : i = 0 ∨ i = 1 ∨ i = 2 ∨ i = 3 := by omega
    rcases h4 with rfl | rfl | rfl | rfl
    · cases r1
      · go_wp2_with (go_at_call 20; refine (R1.out _ hbw0.out).mono ?_; rintro e w2 ⟨rfl, hb2⟩)
        go_roundw
        case rel => exact ⟨1, rfl, by omega, fun _ => trivial, below_chain hbw'.out hb2⟩
        case measure => simp [intOf]
      · go_wp2_with (go_at_call 20; refine (R1.out _ hbw0.out).mono ?_; rintro e w2 ⟨rfl, hb2⟩)
        go_ret2
        exact ⟨⟨1, true, rfl, rfl⟩, below_chain hbw0.out hb2⟩
    · have e1 := hr1'.out (by omega)
      subst e1
      cases r2
      · go_wp2_with (go_at_call 20; refine (R2.out _ hbw0.out).mono ?_; rintro e w2 ⟨rfl, hb2⟩)
        go_roundw
        case rel => exact ⟨2, rfl, by omega, fun _ => trivial, below_chain hbw'.out hb2⟩
        case measure => simp [intOf]
      · go_wp2_with (go_at_call 20; refine (R2.out _ hbw0.out).mono ?_; rintro e w2 ⟨rfl, hb2⟩)
        go_ret2
        exact ⟨⟨2, true, rfl, rfl⟩, below_chain hbw0.out hb2⟩
    · have e1 := hr1'.out (by omega)
      subst e1
      cases r3
      · go_wp2_with (go_at_call 20; refine (R3.out _ hbw0.out).mono ?_; rintro e w2 ⟨rfl, hb2⟩)
        go_roundw
        case rel => exact ⟨3, rfl, by omega, fun _ => trivial, below_chain hbw'.out hb2⟩
        case measure => simp [intOf]
      · go_wp2_with (go_at_call 20; refine (R3.out _ hbw0.out).mono ?_; rintro e w2 ⟨rfl, hb2⟩)
        go_ret2
        exact ⟨⟨3, true, rfl, rfl⟩, below_chain hbw0.out hb2⟩
    · have e1 := hr1'.out (by omega)
      subst e1
      go_wp2
      go_ret2
      exact ⟨⟨0, false, rfl, rfl⟩, hbw0.out⟩
set_option maxHeartbeats 1000000 in
/-- Is a text a name of the language? -/
theorem name_calls (s : ByteArray) (hs : s.size ≤ 281474976710656) (w : World) (hE : Env w) :
    Calls Tryd.prog 54 #[.string s] w fun e w' => e = .returned (.bool (Sx.nameB s.data.toList)) ∧ Below w.heap.size w w' := by
  have K := Lib.hid (kind_calls s hs w hE)
  have hO := Lib.hid (fun w1 => own_calls s (Sx.owns.contains s.data.toList) rfl w1)
  have hN := Lib.hid (show Sx.nameB s.data.toList = (Wd.right s.data.toList 1 && !Sx.owns.contains s.data.toList) from rfl)
  generalize Sx.nameB s.data.toList = nb at hN ⊢
  generalize Wd.right s.data.toList 1 = r at K hN
  generalize Sx.owns.contains s.data.toList = o at hO hN
  clear hE
  cases o
  all_goals
    go_enter Tryd.func54, Tryd.ntmps54
    go_wp2_with (first | (go_at_call 72; refine K.out.mono ?_; rintro e w1 ⟨⟨k, ok, rfl, hk⟩, hb⟩) | (go_at_call 73; refine (hO.out _).mono ?_; rintro e w2 ⟨rfl, hb2⟩))
    all_goals first
      | (have hnb : nb = true := by (have h1 := hN.out; rw [h1, ← hk]; clear h1 hk hN; simp_all)
         subst hnb
         go_ret
         exact ⟨rfl, by first | exact below_chain hb hb2 | exact hb⟩)
      | (have hnb : nb = false := by (have h1 := hN.out; rw [h1, ← hk]; clear h1 hk hN; simp_all)
         subst hnb
         go_ret
         exact ⟨rfl, by first | exact below_chain hb hb2 | exact hb⟩)
end Go.Proofs.YtifmalbdolpocaaDoor
