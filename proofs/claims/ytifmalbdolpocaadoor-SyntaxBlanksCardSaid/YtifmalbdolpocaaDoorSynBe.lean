/-
  The walks of the reference's trees, first part: two blocks that are alike.
-/
import Derived.Test.YtifmalbdolpocaaDoorSynBc
import Derived.RegionTactic
import Derived.BigRegion
import Derived.Deep.RegionWith
namespace Go.Proofs.YtifmalbdolpocaaDoor
open Go.RowKit Go.Shelf

theorem same_two (w : World) (cs ds : Array Value) : ((w.alloc (Obj.cells cs 107)).alloc (Obj.cells ds 107)).drew.heap[w.heap.size]? = some (.cells cs 107 (0, 0)) ∧ ((w.alloc (Obj.cells cs 107)).alloc (Obj.cells ds 107)).drew.heap[w.heap.size + 1]? = some (.cells ds 107 (0, 0)) ∧ Below w.heap.size w ((w.alloc (Obj.cells cs 107)).alloc (Obj.cells ds 107)).drew ∧ ((w.alloc (Obj.cells cs 107)).alloc (Obj.cells ds 107)).drew.heap.size = w.heap.size + 2 := by
  refine ⟨?_, ?_, (((Below.refl _ w).alloc (Nat.le_refl _) _).alloc (by simp) _).drew, by simp⟩
  · exact (Lib.alloc_old _ _ _ (by simp)).trans (World.alloc_heap_new w _)
  · have := World.alloc_heap_new (w.alloc (Obj.cells cs 107)) (Obj.cells ds 107)
    rwa [World.size_alloc] at this
theorem same_round {W w2 w3 : World} {P Q H : Nat} {o1 o2 : Obj} (h1 : Below W.heap.size W w2) (hP : w2.heap[P]? = some o1) (hQ : w2.heap[Q]? = some o2) (hs : H ≤ w2.heap.size) (hb : Below w2.heap.size w2 w3) :
    Below W.heap.size W w3 ∧ w3.heap[P]? = some o1 ∧ w3.heap[Q]? = some o2 ∧ H ≤ w3.heap.size :=
  ⟨below_chain h1 hb, (hb.block P (Array.getElem?_eq_some_iff.1 hP).1).trans hP, (hb.block Q (Array.getElem?_eq_some_iff.1 hQ).1).trans hQ, Nat.le_trans hs hb.size⟩
def SameC (N : Nat) : Prop :=
  ∀ (l : List Sx.St) (v1 v2 : Value) (W : World) (F1 F2 : Nat → Prop), HRow W F1 v1 l → HRow W F2 v2 l → (∀ g, F1 g → g < W.heap.size) → (∀ g, F2 g → g < W.heap.size) → l.length ≤ 281474976710656 → Sx.shortL l → SizeOf.sizeOf l < N →
    Calls Tryd.prog 31 #[v1, v2] W fun e W' => e = .returned (.bool true) ∧ Below W.heap.size W W'
set_option maxRecDepth 100000 in
set_option maxHeartbeats 4000000 in
theorem same_step (N : Nat) (ih : SameC N) : SameC (N + 1) := by
  intro l v1 v2 W F1 F2 hr1 hr2 hF1 hF2 hlen hsm hN
  obtain ⟨A1, cp1, rfl, hr10⟩ := hr1
  obtain ⟨A2, cp2, rfl, hr20⟩ := hr2
  have hr1 := Lib.hid (show HRow W F1 (.slice A1 l.length cp1) l from ⟨A1, cp1, rfl, hr10⟩)
  have hr2 := Lib.hid (show HRow W F2 (.slice A2 l.length cp2) l from ⟨A2, cp2, rfl, hr20⟩)
  have hFh1 := Lib.hid hF1
  have hFh2 := Lib.hid hF2
  have hsh := Lib.hid hsm
  have ihh := Lib.hid ih
  have hNh := Lib.hid hN
  clear hr10 hr20 hF1 hF2 hsm ih hN
  go_enter Tryd.func31, Tryd.ntmps31
  go_wp2
  go_loopw [5] (fun x wr => ∃ i : Nat, x = .int .i64 i ∧ i ≤ l.length ∧ Below W.heap.size W wr) (fun x _ => l.length - (intOf x).toNat)
  case atStart => exact ⟨0, rfl, Nat.zero_le _, Below.refl _ _⟩
  case round =>
    obtain ⟨i, rfl, hi, hb1⟩ := hrel
    have hb1h := Lib.hid hb1
    have hszw := hb1.size
    clear hb1
    by_cases hlt : i < l.length
    · obtain ⟨kind, x, y, k, kids, hl⟩ : ∃ kind x y k kids, l[i]? = some (.mk kind x y k kids) := by
        cases hl : l[i] with
        | mk kind x y k kids => exact ⟨kind, x, y, k, kids, by rw [List.getElem?_eq_getElem hlt, hl]⟩
      obtain ⟨g1, B1, c1, rfl, hf1, a0, a1, a2, a3, a4, hk1⟩ := (hr1.out.below hFh1.out hb1h.out).at i kind x y k kids hl
      obtain ⟨g2, B2, c2, rfl, hf2, b0, b1, b2, b3, b4, hk2⟩ := (hr2.out.below hFh2.out hb1h.out).at i kind x y k kids hl
      have hltI : (i : Int) < (l.length : Int) := by omega
      have hI0 : (0 : Int) ≤ (i : Int) := by omega
      have hst := Sx.shortL_at hsh.out hl
      have hkl : kids.length ≤ 281474976710656 := hst.2.2.1
      have hsk := Lib.hid hst.2.2.2
      have hk1 := Lib.hid hk1
      have hk2 := Lib.hid hk2
      have hlh := Lib.hid hl
      obtain ⟨wo, rfl⟩ : ∃ wo : World, wo = wr := ⟨_, rfl⟩
      have hq1 : g1 < wo.heap.size := Nat.lt_of_lt_of_le (hFh1.out g1 hf1) hszw
      have hq2 : g2 < wo.heap.size := Nat.lt_of_lt_of_le (hFh2.out g2 hf2) hszw
      have m1 : ¬ wo.heap.size = g1 := by omega
      have m2 : ¬ wo.heap.size = g2 := by omega
      have m3 : ¬ wo.heap.size + 1 = g1 := by omega
      have m4 : ¬ wo.heap.size + 1 = g2 := by omega
      clear hl hst
      go_wp2
      go_region
      · have h6 := same_two wo #[.int .i64 kind, .string x, .string y, .int .i64 k, .slice B1 kids.length c1] #[.int .i64 kind, .string x, .string y, .int .i64 k, .slice B2 kids.length c2]
        have hI6 := Lib.hid (show Below W.heap.size W _ ∧ _ ∧ _ ∧ _ from ⟨below_chain hb1h.out h6.2.2.1, h6.1, h6.2.1, Nat.le_of_eq h6.2.2.2.symm⟩)
        clear h6
        go_wp2
        go_loopw [8] (fun z w2 => ∃ j : Nat, z = .int .i64 j ∧ j ≤ kids.length ∧ Below W.heap.size W w2 ∧ w2.heap[wo.heap.size]? = some (.cells #[.int .i64 kind, .string x, .string y, .int .i64 k, .slice B1 kids.length c1] 107 (0, 0)) ∧ w2.heap[wo.heap.size + 1]? = some (.cells #[.int .i64 kind, .string x, .string y, .int .i64 k, .slice B2 kids.length c2] 107 (0, 0)) ∧ wo.heap.size + 2 ≤ w2.heap.size) (fun z _ => kids.length - (intOf z).toNat)
        case atStart => exact ⟨0, rfl, Nat.zero_le _, hI6.out⟩
        case round =>
          clear hI6
          obtain ⟨j, rfl, hj, hbw, hP, hQ, hsz2⟩ := hrel
          clear a0 a1 a2 a3 a4 b0 b1 b2 b3 b4 m1 m2 m3 m4
          have hbwh := Lib.hid hbw
          have hPh := Lib.hid hP
          have hQh := Lib.hid hQ
          have hszh := Lib.hid hsz2
          obtain ⟨p0, p1, p2, p3, p4, p5, p6, p7, p8, p9⟩ := box5 hP
          obtain ⟨q0, q1, q2, q3, q4, q5, q6, q7, q8, q9⟩ := box5 hQ
          clear p0 p1 p2 p3 p5 p6 p7 p8 p9 q0 q1 q2 q3 q5 q6 q7 q8 q9
          clear hbw hP hQ hsz2
          have hk1w := kids_keep hk1.out (fun q hq => (hbwh.out.block q (hFh1.out q hq)).trans (hb1h.out.block q (hFh1.out q hq)).symm)
          have hk2w := kids_keep hk2.out (fun q hq => (hbwh.out.block q (hFh2.out q hq)).trans (hb1h.out.block q (hFh2.out q hq)).symm)
          by_cases hlt2 : j < kids.length
          · obtain ⟨h1, u1, rfl, hf3, e0, hr3⟩ := kids_at hk1w j kids[j] (List.getElem?_eq_getElem hlt2)
            obtain ⟨h2, u2, rfl, hf4, e1, hr4⟩ := kids_at hk2w j kids[j] (List.getElem?_eq_getElem hlt2)
            have C := Lib.hid (fun wq (hq : Below wr.heap.size wr wq) => ihh.out kids[j] u1 u2 wq F1 F2 (hr3.below (fun q hq => Nat.lt_of_lt_of_le (hFh1.out q hq) hbwh.out.size) hq) (hr4.below (fun q hq => Nat.lt_of_lt_of_le (hFh2.out q hq) hbwh.out.size) hq) (fun q hq2 => Nat.lt_of_lt_of_le (Nat.lt_of_lt_of_le (hFh1.out q hq2) hbwh.out.size) hq.size) (fun q hq2 => Nat.lt_of_lt_of_le (Nat.lt_of_lt_of_le (hFh2.out q hq2) hbwh.out.size) hq.size) (Sx.shortK_at hsk.out (List.getElem?_eq_getElem hlt2)).1 (Sx.shortK_at hsk.out (List.getElem?_eq_getElem hlt2)).2 (by have := kid_less hlh.out (List.getElem?_eq_getElem hlt2); have := hNh.out; omega))
            obtain ⟨D1, d1, rfl, _⟩ := hr3
            obtain ⟨D2, d2, rfl, _⟩ := hr4
            have hltI2 : (j : Int) < (kids.length : Int) := by omega
            have hI02 : (0 : Int) ≤ (j : Int) := by omega
            generalize kids[j].length = n2 at C e0 e1
            clear hk1w hk2w
            have hdr := Lib.hid (Below.drew (Below.refl wr.heap.size wr))
            go_wp2
            go_region_with (go_at_call 31; refine (C.out _ hdr.out).mono ?_; rintro e w3 ⟨rfl, hb3⟩)
            all_goals
              have hend := Lib.hid (same_round hbwh.out hPh.out hQh.out hszh.out (show Below wr.heap.size wr _ from below_chain hdr.out hb3))
              clear hb3
              go_wp2
              go_roundw
              case rel => exact ⟨j + 1, by go_num, hlt2, hend.out⟩
              case measure => simp [intOf]; omega
          · have hltI2 : ¬ (j : Int) < (kids.length : Int) := by omega
            clear hk1w hk2w
            go_wp2
            go_roundw
            case rel => exact ⟨i + 1, by go_num, hlt, hbwh.out⟩
            case measure => simp [intOf]; omega
      · have h6 := same_two wo #[.int .i64 kind, .string x, .string y, .int .i64 k, .slice B2 kids.length c2] #[.int .i64 kind, .string x, .string y, .int .i64 k, .slice B1 kids.length c1]
        have hI6 := Lib.hid (show Below W.heap.size W _ ∧ _ ∧ _ ∧ _ from ⟨below_chain hb1h.out h6.2.2.1, h6.2.1, h6.1, Nat.le_of_eq h6.2.2.2.symm⟩)
        clear h6
        go_wp2
        go_loopw [8] (fun z w2 => ∃ j : Nat, z = .int .i64 j ∧ j ≤ kids.length ∧ Below W.heap.size W w2 ∧ w2.heap[wo.heap.size + 1]? = some (.cells #[.int .i64 kind, .string x, .string y, .int .i64 k, .slice B1 kids.length c1] 107 (0, 0)) ∧ w2.heap[wo.heap.size]? = some (.cells #[.int .i64 kind, .string x, .string y, .int .i64 k, .slice B2 kids.length c2] 107 (0, 0)) ∧ wo.heap.size + 2 ≤ w2.heap.size) (fun z _ => kids.length - (intOf z).toNat)
        case atStart => exact ⟨0, rfl, Nat.zero_le _, hI6.out⟩
        case round =>
          clear hI6
          obtain ⟨j, rfl, hj, hbw, hP, hQ, hsz2⟩ := hrel
          clear a0 a1 a2 a3 a4 b0 b1 b2 b3 b4 m1 m2 m3 m4
          have hbwh := Lib.hid hbw
          have hPh := Lib.hid hP
          have hQh := Lib.hid hQ
          have hszh := Lib.hid hsz2
          obtain ⟨p0, p1, p2, p3, p4, p5, p6, p7, p8, p9⟩ := box5 hP
          obtain ⟨q0, q1, q2, q3, q4, q5, q6, q7, q8, q9⟩ := box5 hQ
          clear p0 p1 p2 p3 p5 p6 p7 p8 p9 q0 q1 q2 q3 q5 q6 q7 q8 q9
          clear hbw hP hQ hsz2
          have hk1w := kids_keep hk1.out (fun q hq => (hbwh.out.block q (hFh1.out q hq)).trans (hb1h.out.block q (hFh1.out q hq)).symm)
          have hk2w := kids_keep hk2.out (fun q hq => (hbwh.out.block q (hFh2.out q hq)).trans (hb1h.out.block q (hFh2.out q hq)).symm)
          by_cases hlt2 : j < kids.length
          · obtain ⟨h1, u1, rfl, hf3, e0, hr3⟩ := kids_at hk1w j kids[j] (List.getElem?_eq_getElem hlt2)
            obtain ⟨h2, u2, rfl, hf4, e1, hr4⟩ := kids_at hk2w j kids[j] (List.getElem?_eq_getElem hlt2)
            have C := Lib.hid (fun wq (hq : Below wr.heap.size wr wq) => ihh.out kids[j] u1 u2 wq F1 F2 (hr3.below (fun q hq => Nat.lt_of_lt_of_le (hFh1.out q hq) hbwh.out.size) hq) (hr4.below (fun q hq => Nat.lt_of_lt_of_le (hFh2.out q hq) hbwh.out.size) hq) (fun q hq2 => Nat.lt_of_lt_of_le (Nat.lt_of_lt_of_le (hFh1.out q hq2) hbwh.out.size) hq.size) (fun q hq2 => Nat.lt_of_lt_of_le (Nat.lt_of_lt_of_le (hFh2.out q hq2) hbwh.out.size) hq.size) (Sx.shortK_at hsk.out (List.getElem?_eq_getElem hlt2)).1 (Sx.shortK_at hsk.out (List.getElem?_eq_getElem hlt2)).2 (by have := kid_less hlh.out (List.getElem?_eq_getElem hlt2); have := hNh.out; omega))
            obtain ⟨D1, d1, rfl, _⟩ := hr3
            obtain ⟨D2, d2, rfl, _⟩ := hr4
            have hltI2 : (j : Int) < (kids.length : Int) := by omega
            have hI02 : (0 : Int) ≤ (j : Int) := by omega
            generalize kids[j].length = n2 at C e0 e1
            clear hk1w hk2w
            have hdr := Lib.hid (Below.drew (Below.refl wr.heap.size wr))
            go_wp2
            go_region_with (go_at_call 31; refine (C.out _ hdr.out).mono ?_; rintro e w3 ⟨rfl, hb3⟩)
            all_goals
              have hend := Lib.hid (same_round hbwh.out hPh.out hQh.out hszh.out (show Below wr.heap.size wr _ from below_chain hdr.out hb3))
              clear hb3
              go_wp2
              go_roundw
              case rel => exact ⟨j + 1, by go_num, hlt2, hend.out⟩
              case measure => simp [intOf]; omega
          · have hltI2 : ¬ (j : Int) < (kids.length : Int) := by omega
            clear hk1w hk2w
            go_wp2
            go_roundw
            case rel => exact ⟨i + 1, by go_num, hlt, hbwh.out⟩
            case measure => simp [intOf]; omega
    · have hltI : ¬ (i : Int) < (l.length : Int) := by omega
      go_wp2
      go_ret
      exact ⟨rfl, hb1h.out⟩
end Go.Proofs.YtifmalbdolpocaaDoor
