/-
  The walks of package syntax, fourteenth part: how great a tree is.
-/
import Derived.Test.YtifmalbdolpocaaDoorSynM
import Derived.Test.YtifmalbdolpocaaDoorSynP
namespace Go.Proofs.YtifmalbdolpocaaDoor
open Go.RowKit Go.Shelf

theorem HCells.at {W : World} {F : Nat → Prop} : ∀ {l : List Sx.St} {cs : List Value}, HCells W F cs l → ∀ (i : Nat) (kind : Int) (x y : ByteArray) (k : Int) (kids : List (List Sx.St)), l[i]? = some (.mk kind x y k kids) →
    ∃ A cp, cs[i * 5]? = some (.int .i64 kind) ∧ cs[i * 5 + 1]? = some (.string x) ∧ cs[i * 5 + 2]? = some (.string y) ∧ cs[i * 5 + 3]? = some (.int .i64 k) ∧ cs[i * 5 + 4]? = some (.slice A kids.length cp) ∧
      (kids = [] ∨ ∃ g cur, A = some ⟨g, 0, none⟩ ∧ F g ∧ W.heap[g]? = some (.cells cur 80 (0, 0)) ∧ HKids W F cur.toList kids)
  | [], _, _, i, _, _, _, _, _, h => by simp at h
  | .mk kind' x' y' k' kids' :: r, cs, hc, i, kind, x, y, k, kids, h => by
    simp only [HCells] at hc
    obtain ⟨A, cp, rest, rfl, hk, hr⟩ := hc
    cases i with
    | zero =>
      simp only [List.getElem?_cons_zero, Option.some.injEq, Sx.St.mk.injEq] at h
      obtain ⟨rfl, rfl, rfl, rfl, rfl⟩ := h
      exact ⟨A, cp, rfl, rfl, rfl, rfl, rfl, hk⟩
    | succ i =>
      simp only [List.getElem?_cons_succ] at h
      obtain ⟨A2, cp2, e0, e1, e2, e3, e4, hk2⟩ := HCells.at hr i kind x y k kids h
      have e5 : (i + 1) * 5 = i * 5 + 5 := by omega
      refine ⟨A2, cp2, ?_, ?_, ?_, ?_, ?_, hk2⟩ <;> rw [e5]
      · simpa using e0
      · simpa [show i * 5 + 5 + 1 = (i * 5 + 1) + 5 by omega] using e1
      · simpa [show i * 5 + 5 + 2 = (i * 5 + 2) + 5 by omega] using e2
      · simpa [show i * 5 + 5 + 3 = (i * 5 + 3) + 5 by omega] using e3
      · simpa [show i * 5 + 5 + 4 = (i * 5 + 4) + 5 by omega] using e4
theorem HKids.at {W : World} {F : Nat → Prop} : ∀ {l : List (List Sx.St)} {cs : List Value}, HKids W F cs l → ∀ (i : Nat) (b : List Sx.St), l[i]? = some b → ∃ v, cs[i]? = some v ∧ HRow W F v b
  | [], _, _, i, _, h => by simp at h
  | a :: r, cs, hc, i, b, h => by
    simp only [HKids] at hc
    obtain ⟨A, cp, rest, rfl, hk, hr⟩ := hc
    cases i with
    | zero =>
      simp only [List.getElem?_cons_zero, Option.some.injEq] at h
      obtain rfl := h
      exact ⟨_, rfl, A, cp, rfl, hk⟩
    | succ i =>
      simp only [List.getElem?_cons_succ] at h ⊢
      exact HKids.at hr i b h
/-- A row of statements in memory, read at a place. -/
theorem HRow.at {W : World} {F : Nat → Prop} {A : Option Addr} {n cp : Nat} {l : List Sx.St} (h : HRow W F (.slice A n cp) l) (i : Nat) (kind : Int) (x y : ByteArray) (k : Int) (kids : List (List Sx.St)) (hi : l[i]? = some (.mk kind x y k kids)) :
    ∃ g B c, A = some ⟨g, 0, none⟩ ∧ F g ∧ W.cell? ⟨g, i * 5, none⟩ = some (.int .i64 kind) ∧ W.cell? ⟨g, i * 5 + 1, none⟩ = some (.string x) ∧ W.cell? ⟨g, i * 5 + 2, none⟩ = some (.string y) ∧ W.cell? ⟨g, i * 5 + 3, none⟩ = some (.int .i64 k) ∧ W.cell? ⟨g, i * 5 + 4, none⟩ = some (.slice B kids.length c) ∧
      (kids = [] ∨ ∃ g2 cur, B = some ⟨g2, 0, none⟩ ∧ F g2 ∧ W.heap[g2]? = some (.cells cur 80 (0, 0)) ∧ HKids W F cur.toList kids) := by
  obtain ⟨A', cp', e, h⟩ := h
  cases e
  rcases h with rfl | ⟨g, cur, e1, hf, hg, hc⟩
  · simp at hi
  · obtain ⟨B, c, e0, e2, e3, e4, e5, hk⟩ := hc.at i kind x y k kids hi
    refine ⟨g, B, c, e1, hf, ?_, ?_, ?_, ?_, ?_, hk⟩ <;> rw [Lib.cell_of_heap hg, ← Array.getElem?_toList] <;> assumption
/-- A statement's blocks in memory, read at a place. -/
theorem kids_at {W : World} {F : Nat → Prop} {B : Option Addr} {kids : List (List Sx.St)} (h : kids = [] ∨ ∃ g2 cur, B = some ⟨g2, 0, none⟩ ∧ F g2 ∧ W.heap[g2]? = some (.cells cur 80 (0, 0)) ∧ HKids W F cur.toList kids) (j : Nat) (b : List Sx.St) (hj : kids[j]? = some b) :
    ∃ g2 v, B = some ⟨g2, 0, none⟩ ∧ F g2 ∧ W.cell? ⟨g2, j, none⟩ = some v ∧ HRow W F v b := by
  rcases h with rfl | ⟨g2, cur, e1, hf, hg, hk⟩
  · simp at hj
  · obtain ⟨v, hv, hr⟩ := hk.at j b hj
    exact ⟨g2, v, e1, hf, by rw [Lib.cell_of_heap hg]; simpa using hv, hr⟩
abbrev mBox (m : Nat × Nat) : Obj := .cells #[.int .i64 (m.1 : Int), .int .i64 (m.2 : Int)] 96 (0, 0)
/-- What measuring a row tells, at some depth. -/
def MRowC (Mb d : Nat) : Prop :=
  ∀ (l : List Sx.St) (v : Value) (W : World) (F : Nat → Prop) (m : Nat × Nat), HRow W F v l → (∀ g, F g → g < Mb) → W.heap[Mb]? = some (mBox m) → Sx.overM m = false → l.length ≤ 281474976710656 → Sx.shortL l →
    Calls Tryd.prog 69 #[.pointer (some ⟨Mb, 0, none⟩), v, .int .i64 (d : Int)] W fun e W' => e = .returned (.tuple #[]) ∧ W.grownBy W' (some Mb) ∧ W'.heap[Mb]? = some (mBox (Sx.mRow l m d))
set_option maxRecDepth 100000 in
set_option maxHeartbeats 4000000 in
theorem mrow_deep (Mb : Nat) : MRowC Mb 51 := by
  intro l v W F m hr hF hb hov hlen _
  obtain ⟨a, b⟩ := m
  obtain ⟨A, cp, rfl, _⟩ := hr
  obtain ⟨c0, c1, f0, f1⟩ := box2 hb
  have hb' : b ≤ 50 := by simp [Sx.overM] at hov; omega
  have hfin : ∀ v1 : Value, (W.setCell ⟨Mb, 1, none⟩ v1).heap[Mb]? = some (.cells #[.int .i64 (a : Int), v1] 96 (0, 0)) := fun v1 => by simp [World.setCell, Array.getElem?_modify, hb]
  have hfin := Lib.hid hfin
  clear hF hb hov
  go_enter Tryd.func69, Tryd.ntmps69
  go_wp2
  refine bodyPost_ret (v := .tuple #[]) (results_none rfl _ _ _) rfl ⟨rfl, grown_set W Mb 1 _, ?_⟩
  rw [hfin.out, show max (b : Int) 51 = ((max b 51 : Nat) : Int) by omega]
  rfl
theorem mstmts_cons {kind k : Int} {x y : ByteArray} {kids : List (List Sx.St)} {r : List Sx.St} {a b d : Nat} (h : ¬ 4096 < a + 1) : Sx.mStmts (.mk kind x y k kids :: r) (a, b) d = if Sx.overM (Sx.mKids kids (a + 1, b) d) then Sx.mKids kids (a + 1, b) d else Sx.mStmts r (Sx.mKids kids (a + 1, b) d) d := by
  simp only [Sx.mStmts]
  rw [if_neg h]
theorem mstmts_many {kind k : Int} {x y : ByteArray} {kids : List (List Sx.St)} {r : List Sx.St} {a b d : Nat} (h : 4096 < a + 1) : Sx.mStmts (.mk kind x y k kids :: r) (a, b) d = (a + 1, b) := by
  simp only [Sx.mStmts]
  rw [if_pos h]
theorem over_no {a b : Nat} (ha : a ≤ 4096) (hb : b ≤ 50) : Sx.overM (a, b) = false := by simp [Sx.overM]; omega
theorem over_of {m : Nat × Nat} (h : Sx.overM m = false) : m.1 ≤ 4096 ∧ m.2 ≤ 50 := by simp [Sx.overM] at h; omega
/-- Between two statements. -/
structure MRowI (W : World) (Mb d : Nat) (l : List Sx.St) (m : Nat × Nat) (i : Nat) (w : World) : Prop where
  st : ∃ a b : Nat, w.heap[Mb]? = some (mBox (a, b)) ∧ a ≤ 4096 ∧ b ≤ 50 ∧ Sx.mRow l m d = Sx.mStmts (l.drop i) (a, b) d
  grown : W.grownBy w (some Mb)
/-- Between two blocks of a statement. -/
structure MKidI (W : World) (Mb d : Nat) (kids : List (List Sx.St)) (m : Nat × Nat) (j : Nat) (w : World) : Prop where
  st : ∃ a b : Nat, w.heap[Mb]? = some (mBox (a, b)) ∧ a ≤ 4096 ∧ b ≤ 50 ∧ Sx.mKids kids m d = Sx.mKids (kids.drop j) (a, b) d
  grown : W.grownBy w (some Mb)
theorem kids_keep {W W' : World} {F : Nat → Prop} {B : Option Addr} {kids : List (List Sx.St)} (h : kids = [] ∨ ∃ g2 cur, B = some ⟨g2, 0, none⟩ ∧ F g2 ∧ W.heap[g2]? = some (.cells cur 80 (0, 0)) ∧ HKids W F cur.toList kids) (hk : ∀ q, F q → W'.heap[q]? = W.heap[q]?) :
    kids = [] ∨ ∃ g2 cur, B = some ⟨g2, 0, none⟩ ∧ F g2 ∧ W'.heap[g2]? = some (.cells cur 80 (0, 0)) ∧ HKids W' F cur.toList kids := by
  rcases h with h0 | ⟨g2, cur, e1, hf, hg, hh⟩
  · exact .inl h0
  · exact .inr ⟨g2, cur, e1, hf, (hk g2 hf).trans hg, hh.keep fun q hq => ⟨hq, hk q hq⟩⟩
theorem max_cast (b d : Nat) : max (b : Int) (d : Int) = ((max b d : Nat) : Int) := by omega
set_option maxRecDepth 100000 in
set_option maxHeartbeats 4000000 in
theorem mrow_step (Mb d : Nat) (hd : d ≤ 50) (ih : MRowC Mb (d + 1)) : MRowC Mb d := by
  intro l v W F m hr hF hb hov hlen hsm
  obtain ⟨a, b⟩ := m
  obtain ⟨A, cp, rfl, hr0⟩ := hr
  have hr := Lib.hid (show HRow W F (.slice A l.length cp) l from ⟨A, cp, rfl, hr0⟩)
  obtain ⟨c0, c1, f0, f1⟩ := box2 hb
  have hov := Lib.hid (over_of hov)
  have hF := Lib.hid hF
  have hset : ∀ v1 : Value, (W.setCell ⟨Mb, 1, none⟩ v1).heap[Mb]? = some (.cells #[.int .i64 (a : Int), v1] 96 (0, 0)) := fun v1 => by simp [World.setCell, Array.getElem?_modify, hb]
  have h0 := Lib.hid (show MRowI W Mb d l (a, b) 0 (W.setCell ⟨Mb, 1, none⟩ (.int .i64 (max (b : Int) (d : Int)))) from
    ⟨⟨a, max b d, by rw [hset, max_cast], hov.out.1, by have : b ≤ 50 := hov.out.2; omega, by unfold Sx.mRow; rw [if_neg (by omega)]; rfl⟩, grown_set _ _ _ _⟩)
  have ih := Lib.hid ih
  have hd0 : (d : Int) ≤ 50 := by omega
  have hsm' := Lib.hid hsm
  have hMb := Lib.hid (Array.getElem?_eq_some_iff.1 hb).1
  clear hset hb hr0
  go_enter Tryd.func69, Tryd.ntmps69
  go_wp2
  go_loopw [23] (fun x wr => ∃ i : Nat, x = .int .i64 i ∧ i ≤ l.length ∧ MRowI W Mb d l (a, b) i wr) (fun x _ => l.length - (intOf x).toNat)
  case atStart => exact ⟨0, rfl, Nat.zero_le _, h0.out⟩
  case round =>
    obtain ⟨i, rfl, hi, ⟨a1, b1, hb1, ha1, hbb1, he1⟩, hg1⟩ := hrel
    clear h0 c0 c1 f0 f1
    obtain ⟨c0, c1, f0, f1⟩ := box2 hb1
    have he1' := Lib.hid he1
    clear he1
    by_cases hlt : i < l.length
    · obtain ⟨kind, x, y, k, kids, hl⟩ : ∃ kind x y k kids, l[i]? = some (.mk kind x y k kids) := by
        cases hl : l[i] with
        | mk kind x y k kids => exact ⟨kind, x, y, k, kids, by rw [List.getElem?_eq_getElem hlt, hl]⟩
      have hkeep : ∀ w', W.grownBy w' (some Mb) → ∀ q, F q → w'.heap[q]? = W.heap[q]? := fun w' hg q hq => hg.block q (Nat.lt_trans (hF.out q hq) hMb.out) (by have := hF.out q hq; simp; omega)
      have hrw : HRow wr F (.slice A l.length cp) l := hr.out.keep fun q hq => ⟨hq, hkeep wr hg1 q hq⟩
      obtain ⟨g, B, c, rfl, hfg, e0, e1, e2, e3, e4, hk⟩ := hrw.at i kind x y k kids hl
      have hltI : (i : Int) < (l.length : Int) := by omega
      have hMbw : Mb < wr.heap.size := Nat.lt_of_lt_of_le hMb.out hg1.size
      have hne : ¬ wr.heap.size = Mb := by omega
      have hstep := Lib.hid (show Sx.mStmts (l.drop i) (a1, b1) d = Sx.mStmts (.mk kind x y k kids :: l.drop (i + 1)) (a1, b1) d by
        rw [List.drop_eq_getElem_cons hlt]
        have : l[i] = .mk kind x y k kids := by rw [List.getElem?_eq_getElem hlt] at hl; exact Option.some.inj hl
        rw [this])
      have hW1 : ∀ o v1, ((wr.setCell ⟨Mb, 0, none⟩ v1).alloc o).heap[Mb]? = some (.cells #[v1, .int .i64 (b1 : Int)] 96 (0, 0)) := fun o v1 => by
        rw [Lib.alloc_old _ _ _ (by simpa [World.setCell] using hMbw)]
        simp [World.setCell, Array.getElem?_modify, hb1]
      have hG1 : ∀ o v1, wr.grownBy ((wr.setCell ⟨Mb, 0, none⟩ v1).alloc o) (some Mb) := fun o v1 => (grown_set _ Mb 0 v1).trans (grown_alloc _ o _)
      have hsk := Lib.hid (Sx.shortL_at hsm'.out hl).2.2
      have hkl : kids.length ≤ 281474976710656 := hsk.out.1
      have hW1 := Lib.hid hW1
      have hG1 := Lib.hid hG1
      have hg1' := Lib.hid hg1
      have hk' := Lib.hid hk
      have hkeep := Lib.hid hkeep
      by_cases hmany : 4096 < a1 + 1
      · have hmanyI : (4096 : Int) < (a1 : Int) + 1 := by omega
        have hfin := Lib.hid (show Sx.mRow l (a, b) d = (a1 + 1, b1) by rw [he1'.out, hstep.out, mstmts_many hmany])
        clear hb1 hk hl hrw
        go_wp2
        refine bodyPost_ret (v := .tuple #[]) (results_none rfl _ _ _) rfl ⟨rfl, hg1'.out.trans (hG1.out _ _), ?_⟩
        rw [hW1.out, hfin.out]
        rfl
      · have hmanyI : ¬ (4096 : Int) < (a1 : Int) + 1 := by omega
        have hb4 : (a1 : Int) ≤ 4096 := by omega
        clear hb1 hk hl hrw
        go_wp2
        obtain ⟨wo, rfl⟩ : ∃ wo : World, wo = wr := ⟨_, rfl⟩
        have hI0 := Lib.hid (show MKidI wo Mb d kids (a1 + 1, b1) 0 ((wo.setCell ⟨Mb, 0, none⟩ (.int .i64 ((a1 : Int) + 1))).alloc (Obj.cells #[Value.int IntKind.i64 kind, Value.string x, Value.string y, Value.int IntKind.i64 k, Value.slice B kids.length c] 107)) from
          ⟨⟨a1 + 1, b1, by rw [hW1.out]; rfl, by omega, hbb1, rfl⟩, hG1.out _ _⟩)
        go_loopw [42] (fun x w2 => ∃ j : Nat, x = .int .i64 j ∧ j ≤ kids.length ∧ MKidI wo Mb d kids (a1 + 1, b1) j w2) (fun x _ => kids.length - (intOf x).toNat)
        case atStart => exact ⟨0, rfl, Nat.zero_le _, hI0.out⟩
        case round =>
          obtain ⟨j, rfl, hj, ⟨a2, b2, hb2, ha2, hbb2, he2⟩, hg2⟩ := hrel
          clear hI0 c0 c1 f0 f1 e0 e1 e2 e3 e4
          have hgW := Lib.hid (hg1'.out.trans hg2)
          have he2' := Lib.hid he2
          have hkw := kids_keep hk'.out (fun q hq => (hkeep.out wr hgW.out q hq).trans (hkeep.out wo hg1'.out q hq).symm)
          have hb2' := Lib.hid hb2
          clear he2 hmanyI hb4
          by_cases hlt2 : j < kids.length
          · obtain ⟨g2, v2, rfl, hf2, e0, hr2⟩ := kids_at hkw j kids[j] (List.getElem?_eq_getElem hlt2)
            obtain ⟨A2, c2, rfl, hr20⟩ := hr2
            have hltI2 : (j : Int) < (kids.length : Int) := by omega
            have C := Lib.hid (show Calls Tryd.prog 69 #[.pointer (some ⟨Mb, 0, none⟩), .slice A2 kids[j].length c2, .int .i64 ((d : Int) + 1)] wr fun e W' => e = .returned (.tuple #[]) ∧ wr.grownBy W' (some Mb) ∧ W'.heap[Mb]? = some (mBox (Sx.mRow kids[j] (a2, b2) (d + 1))) from
              ih.out kids[j] _ wr F (a2, b2) ⟨A2, c2, rfl, hr20⟩ hF.out hb2 (over_no ha2 hbb2) (Sx.shortK_at hsk.out.2 (List.getElem?_eq_getElem hlt2)).1 (Sx.shortK_at hsk.out.2 (List.getElem?_eq_getElem hlt2)).2)
            have hcons := Lib.hid (show Sx.mKids kids (a1 + 1, b1) d = if Sx.overM (Sx.mRow kids[j] (a2, b2) (d + 1)) then Sx.mRow kids[j] (a2, b2) (d + 1) else Sx.mKids (kids.drop (j + 1)) (Sx.mRow kids[j] (a2, b2) (d + 1)) d by
              rw [he2'.out, List.drop_eq_getElem_cons hlt2, Sx.mKids_cons])
            generalize Sx.mRow kids[j] (a2, b2) (d + 1) = m3 at C hcons
            obtain ⟨a3, b3⟩ := m3
            generalize kids[j].length = n2 at C e0
            clear hb2 hkw hr20
            by_cases h1 : 4096 < a3
            · have h1I : (4096 : Int) < (a3 : Int) := by omega
              have hfin := Lib.hid (show Sx.mRow l (a, b) d = (a3, b3) by
                rw [he1'.out, hstep.out, mstmts_cons hmany, hcons.out]
                simp [Sx.overM, h1])
              go_wp2_with (go_at_call 69; refine C.out.mono ?_; rintro e w3 ⟨rfl, hg3, hb3⟩; obtain ⟨c0, c1, f0, f1⟩ := box2 hb3; have hb3' := Lib.hid hb3)
              refine bodyPost_ret (v := .tuple #[]) (results_none rfl _ _ _) rfl ⟨rfl, hgW.out.trans hg3, ?_⟩
              rw [hfin.out]; exact hb3'.out
            · have h1I : ¬ (4096 : Int) < (a3 : Int) := by omega
              by_cases h2 : 50 < b3
              · have h2I : (50 : Int) < (b3 : Int) := by omega
                have hfin := Lib.hid (show Sx.mRow l (a, b) d = (a3, b3) by
                  rw [he1'.out, hstep.out, mstmts_cons hmany, hcons.out]
                  simp [Sx.overM, h2])
                go_wp2_with (go_at_call 69; refine C.out.mono ?_; rintro e w3 ⟨rfl, hg3, hb3⟩; obtain ⟨c0, c1, f0, f1⟩ := box2 hb3; have hb3' := Lib.hid hb3)
                refine bodyPost_ret (v := .tuple #[]) (results_none rfl _ _ _) rfl ⟨rfl, hgW.out.trans hg3, ?_⟩
                rw [hfin.out]; exact hb3'.out
              · have h2I : ¬ (50 : Int) < (b3 : Int) := by omega
                have hfin := Lib.hid (show Sx.mKids kids (a1 + 1, b1) d = Sx.mKids (kids.drop (j + 1)) (a3, b3) d by
                  rw [hcons.out, over_no (by omega) (by omega)]
                  rfl)
                have ha3 : a3 ≤ 4096 := by omega
                have hb3b : b3 ≤ 50 := by omega
                go_wp2_with (go_at_call 69; refine C.out.mono ?_; rintro e w3 ⟨rfl, hg3, hb3⟩; obtain ⟨c0, c1, f0, f1⟩ := box2 hb3; have hb3' := Lib.hid hb3)
                go_roundw
                case rel => exact ⟨j + 1, by go_num, by omega, ⟨a3, b3, hb3'.out, ha3, hb3b, hfin.out⟩, hg2.trans hg3⟩
                case measure => simp [intOf]; omega
          · have hlt2' : ¬ (j : Int) < (kids.length : Int) := by omega
            have hfin := Lib.hid (show Sx.mRow l (a, b) d = Sx.mStmts (l.drop (i + 1)) (a2, b2) d by
              rw [he1'.out, hstep.out, mstmts_cons hmany, he2'.out, List.drop_of_length_le (by omega)]
              simp only [Sx.mKids]
              rw [over_no ha2 hbb2]
              rfl)
            clear hb2 hkw
            go_wp2
            go_roundw
            case rel => exact ⟨i + 1, by go_num, by omega, ⟨a2, b2, hb2'.out, ha2, hbb2, hfin.out⟩, hgW.out⟩
            case measure => simp [intOf]; omega
    · have hlt' : ¬ (i : Int) < (l.length : Int) := by omega
      have hfin := Lib.hid (show wr.heap[Mb]? = some (mBox (Sx.mRow l (a, b) d)) by
        rw [he1'.out, List.drop_of_length_le (by omega)]; simpa [Sx.mStmts] using hb1)
      clear hb1
      go_wp2
      go_end0
      exact ⟨rfl, hg1, hfin.out⟩
end Go.Proofs.YtifmalbdolpocaaDoor

namespace Go.Proofs.YtifmalbdolpocaaDoor
open Go.RowKit Go.Shelf

theorem mrow_all (Mb : Nat) : ∀ k d, d + k = 51 → MRowC Mb d := by
  intro k
  induction k with
  | zero =>
    intro d h
    have h2 : d = 51 := by omega
    rw [h2]
    exact mrow_deep Mb
  | succ k ih => intro d h; exact mrow_step Mb d (by omega) (ih (d + 1) (by omega))
theorem HProcs.at {W : World} {F : Nat → Prop} : ∀ {l : List Sx.Prc} {cs : List Value}, HProcs W F cs l → ∀ (i : Nat) (p : Sx.Prc), l[i]? = some p → ∃ v, cs[i * 2]? = some (.string p.name) ∧ cs[i * 2 + 1]? = some v ∧ HRow W F v p.body
  | [], _, _, i, _, h => by simp at h
  | q :: r, cs, hc, i, p, h => by
    simp only [HProcs] at hc
    obtain ⟨A, cp, rest, rfl, hk, hr⟩ := hc
    cases i with
    | zero =>
      simp only [List.getElem?_cons_zero, Option.some.injEq] at h
      obtain rfl := h
      exact ⟨_, rfl, rfl, A, cp, rfl, hk⟩
    | succ i =>
      simp only [List.getElem?_cons_succ] at h
      obtain ⟨v, e0, e1, h2⟩ := HProcs.at hr i p h
      refine ⟨v, ?_, ?_, h2⟩
      · rw [show (i + 1) * 2 = i * 2 + 2 by omega]; simpa using e0
      · rw [show (i + 1) * 2 + 1 = (i * 2 + 1) + 2 by omega]; simpa using e1
theorem procs_at {W : World} {F : Nat → Prop} {A : Option Addr} {l : List Sx.Prc} (h : l = [] ∨ ∃ g cur, A = some ⟨g, 0, none⟩ ∧ F g ∧ W.heap[g]? = some (.cells cur 82 (0, 0)) ∧ HProcs W F cur.toList l) (i : Nat) (p : Sx.Prc) (hi : l[i]? = some p) :
    ∃ g B c, A = some ⟨g, 0, none⟩ ∧ F g ∧ W.cell? ⟨g, i * 2, none⟩ = some (.string p.name) ∧ W.cell? ⟨g, i * 2 + 1, none⟩ = some (.slice B p.body.length c) ∧ HRow W F (.slice B p.body.length c) p.body := by
  rcases h with rfl | ⟨g, cur, e1, hf, hg, hk⟩
  · simp at hi
  · obtain ⟨v, e2, e3, hr⟩ := hk.at i p hi
    obtain ⟨B, c, rfl, hr2⟩ := hr
    exact ⟨g, B, c, e1, hf, by rw [Lib.cell_of_heap hg, ← Array.getElem?_toList]; exact e2, by rw [Lib.cell_of_heap hg, ← Array.getElem?_toList]; exact e3, B, c, rfl, hr2⟩
theorem procs_keep {W W' : World} {F : Nat → Prop} {A : Option Addr} {l : List Sx.Prc} (h : l = [] ∨ ∃ g cur, A = some ⟨g, 0, none⟩ ∧ F g ∧ W.heap[g]? = some (.cells cur 82 (0, 0)) ∧ HProcs W F cur.toList l) (hk : ∀ q, F q → W'.heap[q]? = W.heap[q]?) :
    l = [] ∨ ∃ g cur, A = some ⟨g, 0, none⟩ ∧ F g ∧ W'.heap[g]? = some (.cells cur 82 (0, 0)) ∧ HProcs W' F cur.toList l := by
  rcases h with h0 | ⟨g2, cur, e1, hf, hg, hh⟩
  · exact .inl h0
  · exact .inr ⟨g2, cur, e1, hf, (hk g2 hf).trans hg, hh.keep fun q hq => ⟨hq, hk q hq⟩⟩
/-- Between two procedures. -/
structure MPrcI (W : World) (Mb : Nat) (l : List Sx.Prc) (i : Nat) (w : World) : Prop where
  st : ∃ a b : Nat, w.heap[Mb]? = some (mBox (a, b)) ∧ a ≤ 4096 ∧ b ≤ 50 ∧ Sx.mProcs l (0, 0) = Sx.mProcs (l.drop i) (a, b)
  grown : W.grownBy w (some Mb)
/-- The end: what is measured is laid into the result. -/
theorem measured_end {W W3 w : World} {m : Nat × Nat} (hB : Below W.heap.size W W3) (hR : W3.heap[W.heap.size + 1]? = some (mBox (0, 0))) (hz : W3.heap.size = W.heap.size + 3) (hg : W3.grownBy w (some (W.heap.size + 2))) :
    ((w.setCell ⟨W.heap.size + 1, 0, none⟩ (.int .i64 (m.1 : Int))).setCell ⟨W.heap.size + 1, 1, none⟩ (.int .i64 (m.2 : Int))).heap[W.heap.size + 1]? = some (mBox m) ∧
    Below W.heap.size W ((w.setCell ⟨W.heap.size + 1, 0, none⟩ (.int .i64 (m.1 : Int))).setCell ⟨W.heap.size + 1, 1, none⟩ (.int .i64 (m.2 : Int))) := by
  have h1 : w.heap[W.heap.size + 1]? = some (mBox (0, 0)) := (hg.block _ (by omega) (by simp)).trans hR
  refine ⟨by simp [World.setCell, Array.getElem?_modify, h1], ?_⟩
  have hb : Below W.heap.size W w := hB.grown hg (by omega) (fun k e => by cases e; omega)
  have hs := hb.size
  have hs2 := hg.size
  exact (hb.setCell (by simp) _).setCell (by simp) _
set_option maxRecDepth 100000 in
set_option maxHeartbeats 4000000 in
theorem measured_calls (p : Sx.Prg) (v : Value) (W : World) (F : Nat → Prop) (hv : HPrg W F v p) (hF : ∀ g, F g → g < W.heap.size) (hs : Sx.shortP p) :
    Calls Tryd.prog 48 #[v] W fun e W' => e = .returned (.agg #[.int .i64 ((Sx.mProcs p.procs (0, 0)).1 : Int), .int .i64 ((Sx.mProcs p.procs (0, 0)).2 : Int)]) ∧ Below W.heap.size W W' := by
  obtain ⟨A, c, A2, c2, rfl, _, hp⟩ := hv
  obtain ⟨_, hpl, _, hps⟩ := hs
  have hps := Lib.hid hps
  have hF := Lib.hid hF
  have C := Lib.hid (fun Mb => mrow_all Mb 51 0 rfl)
  generalize p.vars.length = n1
  generalize hpp : p.procs = l at *
  clear hpp
  obtain ⟨W3, hW3⟩ : ∃ W3, ((W.alloc (Obj.cells #[Value.slice A n1 c, Value.slice A2 l.length c2] 42)).alloc (mBox (0, 0))).alloc (mBox (0, 0)) = W3 := ⟨_, rfl⟩
  have hB : Below W.heap.size W W3 := by rw [← hW3]; exact (((Below.refl _ W).alloc (Nat.le_refl _) _).alloc (by simp) _).alloc (by simp; omega) _
  have hMb : W3.heap[W.heap.size + 2]? = some (mBox (0, 0)) := by
    rw [← hW3]
    have := World.alloc_heap_new ((W.alloc (Obj.cells #[Value.slice A n1 c, Value.slice A2 l.length c2] 42)).alloc (mBox (0, 0))) (mBox (0, 0))
    rwa [World.size_alloc, World.size_alloc] at this
  have hRb : W3.heap[W.heap.size + 1]? = some (mBox (0, 0)) := by
    rw [← hW3]
    have := World.alloc_heap_new (W.alloc (Obj.cells #[Value.slice A n1 c, Value.slice A2 l.length c2] 42)) (mBox (0, 0))
    rw [World.size_alloc] at this
    exact (Lib.alloc_old _ _ _ (by simp)).trans this
  have hz : W3.heap.size = W.heap.size + 3 := by rw [← hW3]; simp
  have hI0 := Lib.hid (show MPrcI W3 (W.heap.size + 2) l 0 W3 from ⟨⟨0, 0, hMb, by omega, by omega, rfl⟩, grown_below (Below.refl _ _) _⟩)
  have hBh := Lib.hid hB
  have hRh := Lib.hid hRb
  have hzh := Lib.hid hz
  have hph := Lib.hid hp
  have hW3' := Lib.hid hW3
  have hF' := Lib.hid hF.out
  clear hB hRb hz hp hW3 hMb
  go_enter Tryd.func48, Tryd.ntmps48
  go_wp2
  go_loopw [9] (fun x wr => ∃ i : Nat, x = .int .i64 i ∧ i ≤ l.length ∧ MPrcI W3 (W.heap.size + 2) l i wr) (fun x _ => l.length - (intOf x).toNat)
  case atStart => exact ⟨0, rfl, Nat.zero_le _, Eq.mp (congrArg (MPrcI W3 (W.heap.size + 2) l 0) hW3'.out.symm) hI0.out⟩
  case round =>
    obtain ⟨i, rfl, hi, ⟨a1, b1, hb1, ha1, hbb1, he1⟩, hg1⟩ := hrel
    clear hI0
    have he1' := Lib.hid he1
    have hg1' := Lib.hid hg1
    have hsz1 : W.heap.size + 3 ≤ wr.heap.size := by have := hg1.size; have := hzh.out; omega
    have hpw := procs_keep hph.out (fun q hq => (hg1.block q (by have := hF.out q hq; have := hzh.out; omega) (by have := hF.out q hq; simp; omega)).trans (hBh.out.block q (hF.out q hq)))
    have hb1' := Lib.hid hb1
    obtain ⟨c0, c1, f0, f1⟩ := box2 hb1
    have hr1 := (hg1.block (W.heap.size + 1) (by have := hzh.out; omega) (by simp)).trans hRh.out
    obtain ⟨z0, z1, zf0, zf1⟩ := box2 hr1
    clear he1 hg1
    by_cases hlt : i < l.length
    · obtain ⟨g, B, cc, rfl, hf, e0, e1, hr⟩ := procs_at hpw i l[i] (List.getElem?_eq_getElem hlt)
      have hltI : (i : Int) < (l.length : Int) := by omega
      have hq := hps.out l[i] (List.getElem_mem hlt)
      have D := Lib.hid (fun o => show Calls Tryd.prog 69 #[.pointer (some ⟨W.heap.size + 2, 0, none⟩), .slice B l[i].body.length cc, .int .i64 0] (wr.alloc o) fun e W' => e = .returned (.tuple #[]) ∧ (wr.alloc o).grownBy W' (some (W.heap.size + 2)) ∧ W'.heap[W.heap.size + 2]? = some (mBox (Sx.mRow l[i].body (a1, b1) 0)) from
        C.out (W.heap.size + 2) l[i].body _ (wr.alloc o) F (a1, b1) (hr.keep fun q hq => ⟨hq, Lib.alloc_old _ _ _ (by have := hF.out q hq; omega)⟩) (fun q hq => by have := hF.out q hq; omega) ((Lib.alloc_old _ _ _ (by omega)).trans hb1) (over_no ha1 hbb1) hq.2.1 hq.2.2)
      have hcons := Lib.hid (show Sx.mProcs l (0, 0) = if Sx.overM (Sx.mRow l[i].body (a1, b1) 0) then Sx.mRow l[i].body (a1, b1) 0 else Sx.mProcs (l.drop (i + 1)) (Sx.mRow l[i].body (a1, b1) 0) by
        rw [he1'.out, List.drop_eq_getElem_cons hlt, Sx.mProcs])
      generalize Sx.mRow l[i].body (a1, b1) 0 = m3 at D hcons
      obtain ⟨a3, b3⟩ := m3
      generalize l[i].body.length = n2 at D e1
      generalize l[i].name = nm at e0
      clear hb1 hpw hr hq c0 c1 f0 f1 hr1 z0 z1 zf0 zf1
      by_cases h1 : 4096 < a3
      · have h1I : (4096 : Int) < (a3 : Int) := by omega
        have hfin := Lib.hid (show Sx.mProcs l (0, 0) = (a3, b3) by rw [hcons.out]; simp [Sx.overM, h1])
        go_wp2_with (go_at_call 69; refine (D.out _).mono ?_; rintro e w3 ⟨rfl, hg3, hb3⟩; obtain ⟨c0, c1, f0, f1⟩ := box2 hb3; have hgw := hg1'.out.trans ((grown_alloc wr _ _).trans hg3); obtain ⟨z0, z1, zf0, zf1⟩ := box2 ((hgw.block (W.heap.size + 1) (by have := hzh.out; omega) (by simp)).trans hRh.out); have hb3' := Lib.hid hb3)
        obtain ⟨hfin2, hpost⟩ := measured_end (m := (a3, b3)) hBh.out hRh.out hzh.out hgw
        obtain ⟨g0, g1, _⟩ := box2 hfin2
        exact ⟨rfl, .agg #[.int .i64 (a3 : Int), .int .i64 (b3 : Int)], by simp [results, Tryd.results48, go_sem, g0, g1], by rw [hfin.out], hpost⟩
      · have h1I : ¬ (4096 : Int) < (a3 : Int) := by omega
        by_cases h2 : 50 < b3
        · have h2I : (50 : Int) < (b3 : Int) := by omega
          have hfin := Lib.hid (show Sx.mProcs l (0, 0) = (a3, b3) by rw [hcons.out]; simp [Sx.overM, h2])
          go_wp2_with (go_at_call 69; refine (D.out _).mono ?_; rintro e w3 ⟨rfl, hg3, hb3⟩; obtain ⟨c0, c1, f0, f1⟩ := box2 hb3; have hgw := hg1'.out.trans ((grown_alloc wr _ _).trans hg3); obtain ⟨z0, z1, zf0, zf1⟩ := box2 ((hgw.block (W.heap.size + 1) (by have := hzh.out; omega) (by simp)).trans hRh.out); have hb3' := Lib.hid hb3)
          obtain ⟨hfin2, hpost⟩ := measured_end (m := (a3, b3)) hBh.out hRh.out hzh.out hgw
          obtain ⟨g0, g1, _⟩ := box2 hfin2
          exact ⟨rfl, .agg #[.int .i64 (a3 : Int), .int .i64 (b3 : Int)], by simp [results, Tryd.results48, go_sem, g0, g1], by rw [hfin.out], hpost⟩
        · have h2I : ¬ (50 : Int) < (b3 : Int) := by omega
          have hfin := Lib.hid (show Sx.mProcs l (0, 0) = Sx.mProcs (l.drop (i + 1)) (a3, b3) by rw [hcons.out, over_no (by omega) (by omega)]; rfl)
          have ha3 : a3 ≤ 4096 := by omega
          have hb3b : b3 ≤ 50 := by omega
          go_wp2_with (go_at_call 69; refine (D.out _).mono ?_; rintro e w3 ⟨rfl, hg3, hb3⟩; obtain ⟨c0, c1, f0, f1⟩ := box2 hb3; have hgw := hg1'.out.trans ((grown_alloc wr _ _).trans hg3); obtain ⟨z0, z1, zf0, zf1⟩ := box2 ((hgw.block (W.heap.size + 1) (by have := hzh.out; omega) (by simp)).trans hRh.out); have hb3' := Lib.hid hb3)
          go_roundw
          case rel => exact ⟨i + 1, by go_num, by omega, ⟨a3, b3, hb3'.out, ha3, hb3b, hfin.out⟩, hgw⟩
          case measure => simp [intOf]; omega
    · have hltI : ¬ (i : Int) < (l.length : Int) := by omega
      have hfin := Lib.hid (show Sx.mProcs l (0, 0) = (a1, b1) by rw [he1'.out, List.drop_of_length_le (by omega)]; rfl)
      have hgw := hg1'.out
      clear hb1 hpw hr1
      go_wp2
      obtain ⟨hfin2, hpost⟩ := measured_end (m := (a1, b1)) hBh.out hRh.out hzh.out hgw
      obtain ⟨g0, g1, _⟩ := box2 hfin2
      exact ⟨rfl, .agg #[.int .i64 (a1 : Int), .int .i64 (b1 : Int)], by simp [results, Tryd.results48, go_sem, g0, g1], by rw [hfin.out], hpost⟩
end Go.Proofs.YtifmalbdolpocaaDoor
