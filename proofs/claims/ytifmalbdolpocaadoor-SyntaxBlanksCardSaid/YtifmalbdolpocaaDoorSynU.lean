/-
  The walks of package syntax, seventeenth part: are statements right.
-/
import Derived.Test.YtifmalbdolpocaaDoorSynT
namespace Go.Proofs.YtifmalbdolpocaaDoor
open Go.RowKit Go.Shelf

set_option maxRecDepth 100000 in
set_option maxHeartbeats 4000000 in
theorem stRight_other (kind : Int) (x y : ByteArray) (k : Int) (A : Option Addr) (n cp : Nat) (W : World) (h1 : (kind == 1) = false) (h2 : (kind == 2) = false) (h3 : (kind == 3) = false) (h4 : (kind == 4) = false) (h5 : (kind == 5) = false) (h6 : (kind == 6) = false) (h7 : (kind == 7) = false)
    (h8 : (kind == 8) = false) (h9 : (kind == 9) = false) (h10 : (kind == 10) = false) (h11 : (kind == 11) = false) (h12 : (kind == 12) = false) :
    Calls Tryd.prog 74 #[.agg #[.int .i64 kind, .string x, .string y, .int .i64 k, .slice A n cp]] W fun e W' => e = .returned (.bool false) ∧ Below W.heap.size W W' := by
  have hB := Lib.hid (two_below W)
  go_enter Tryd.func74, Tryd.ntmps74
  go_wp2
  go_ret
  exact ⟨rfl, hB.out _ _⟩
theorem stRight_calls (kind : Int) (x y : ByteArray) (k : Int) (kids : List (List Sx.St)) (A : Option Addr) (cp : Nat) (W : World) (hn : kids.length ≤ 281474976710656) (hx : Sx.shortT x) (hy : Sx.shortT y) (hE : Env W) :
    Calls Tryd.prog 74 #[.agg #[.int .i64 kind, .string x, .string y, .int .i64 k, .slice A kids.length cp]] W fun e W' => e = .returned (.bool (Sx.rightB (.mk kind x y k kids))) ∧ Below W.heap.size W W' := by
  by_cases h1 : kind = 1
  · subst h1; exact right_1 x y k A _ cp W hn
  by_cases h11 : kind = 11
  · subst h11; exact right_11 x y k A _ cp W hn
  by_cases h2 : kind = 2
  · subst h2; exact right_2 x y k A _ cp W hn hx hE
  by_cases h3 : kind = 3
  · subst h3; exact right_3 x y k A _ cp W hn hx hy hE
  by_cases h8 : kind = 8
  · subst h8; exact right_8 x y k A _ cp W hn hx hy hE
  by_cases h4 : kind = 4
  · subst h4; exact right_4 x y k A _ cp W hn hx hE
  by_cases h5 : kind = 5
  · subst h5; exact right_5 x y k A _ cp W hn hx hE
  by_cases h6 : kind = 6
  · subst h6; exact right_6 x y k A _ cp W hn hx hE
  by_cases h7 : kind = 7
  · subst h7; exact right_7 x y k A _ cp W hn hx hE
  by_cases h12 : kind = 12
  · subst h12; exact right_12 x y k A _ cp W hn hx hE
  by_cases h9 : kind = 9
  · subst h9; exact right_9 x y k A _ cp W hn
  by_cases h10 : kind = 10
  · subst h10; exact right_10 x y k A _ cp W hn
  have hr : Sx.rightB (.mk kind x y k kids) = false := by simp [Sx.rightB, h1, h2, h3, h4, h5, h6, h7, h8, h9, h10, h11, h12]
  rw [hr]
  refine stRight_other kind x y k A _ cp W ?_ ?_ ?_ ?_ ?_ ?_ ?_ ?_ ?_ ?_ ?_ ?_ <;> rw [beq_eq_false_iff_ne] <;> assumption
def RightsC (N : Nat) : Prop :=
  ∀ (l : List Sx.St) (v : Value) (W : World) (F : Nat → Prop), HRow W F v l → (∀ g, F g → g < W.heap.size) → Env W → l.length ≤ 281474976710656 → Sx.shortL l → SizeOf.sizeOf l < N →
    Calls Tryd.prog 55 #[v] W fun e W' => e = .returned (.bool (Sx.rightsL l)) ∧ Below W.heap.size W W'
theorem kid_less {l : List Sx.St} {i j : Nat} {kind k : Int} {x y : ByteArray} {kids : List (List Sx.St)} {b : List Sx.St} (hl : l[i]? = some (.mk kind x y k kids)) (hj : kids[j]? = some b) : SizeOf.sizeOf b < SizeOf.sizeOf l := by
  have h1 := List.sizeOf_lt_of_mem (List.mem_of_getElem? hl)
  have h2 := List.sizeOf_lt_of_mem (List.mem_of_getElem? hj)
  simp at h1
  omega
theorem HRow.below {W w' : World} {F : Nat → Prop} {v : Value} {l : List Sx.St} (h : HRow W F v l) (hF : ∀ g, F g → g < W.heap.size) (hb : Below W.heap.size W w') : HRow w' F v l := h.keep fun q hq => ⟨hq, hb.block q (hF q hq)⟩
set_option maxRecDepth 100000 in
set_option maxHeartbeats 4000000 in
theorem rights_step (N : Nat) (ih : RightsC N) : RightsC (N + 1) := by
  intro l v W F hr hF hE hlen hsm hN
  obtain ⟨A, cp, rfl, hr0⟩ := hr
  have hr := Lib.hid (show HRow W F (.slice A l.length cp) l from ⟨A, cp, rfl, hr0⟩)
  have hFh := Lib.hid hF
  have hEh := Lib.hid hE
  have hsh := Lib.hid hsm
  have ihh := Lib.hid ih
  have hNh := Lib.hid hN
  clear hr0 hF hE hsm ih hN
  go_enter Tryd.func55, Tryd.ntmps55
  go_wp2
  go_loopw [9] (fun x wr => ∃ i : Nat, x = .int .i64 i ∧ i ≤ l.length ∧ Sx.rightsL l = Sx.rightsL (l.drop i) ∧ Below W.heap.size W wr) (fun x _ => l.length - (intOf x).toNat)
  case atStart => exact ⟨0, rfl, Nat.zero_le _, rfl, Below.refl _ _⟩
  case round =>
    obtain ⟨i, rfl, hi, he1, hb1⟩ := hrel
    have he1h := Lib.hid he1
    have hb1h := Lib.hid hb1
    have hszw := hb1.size
    clear he1 hb1
    by_cases hlt : i < l.length
    · obtain ⟨kind, x, y, k, kids, hl⟩ : ∃ kind x y k kids, l[i]? = some (.mk kind x y k kids) := by
        cases hl : l[i] with
        | mk kind x y k kids => exact ⟨kind, x, y, k, kids, by rw [List.getElem?_eq_getElem hlt, hl]⟩
      obtain ⟨g, B, c, rfl, hfg, e0, e1, e2, e3, e4, hk⟩ := (hr.out.below hFh.out hb1h.out).at i kind x y k kids hl
      have hltI : (i : Int) < (l.length : Int) := by omega
      have hst := Sx.shortL_at hsh.out hl
      have hkl : kids.length ≤ 281474976710656 := hst.2.2.1
      have hsk := Lib.hid hst.2.2.2
      have hstep := Lib.hid (show Sx.rightsL l = (Sx.rightB (.mk kind x y k kids) && Sx.rightsK kids && Sx.rightsL (l.drop (i + 1))) by
        rw [he1h.out, List.drop_eq_getElem_cons hlt]
        have : l[i] = .mk kind x y k kids := by rw [List.getElem?_eq_getElem hlt] at hl; exact Option.some.inj hl
        rw [this]
        simp only [Sx.rightsL])
      have R := Lib.hid (fun o => stRight_calls kind x y k kids B c (wr.alloc o) hkl hst.1 hst.2.1 ((hEh.out.below hb1h.out).below ((Below.refl _ wr).alloc (Nat.le_refl _) o)))
      have hkh := Lib.hid hk
      have hlh := Lib.hid hl
      obtain ⟨wo, rfl⟩ : ∃ wo : World, wo = wr := ⟨_, rfl⟩
      clear hk hl hst
      generalize Sx.rightB (.mk kind x y k kids) = rb at R hstep
      cases rb
      · have hfin := Lib.hid (show Sx.rightsL l = false by rw [hstep.out]; rfl)
        go_wp2_with (go_at_call 74; refine (R.out _).mono ?_; rintro e w1 ⟨rfl, hb2⟩)
        go_ret
        exact ⟨by rw [hfin.out]; try rfl, below_chain (below_chain hb1h.out ((Below.refl _ wo).alloc (Nat.le_refl _) _)) hb2⟩
      · go_wp2_with (go_at_call 74; refine (R.out _).mono ?_; rintro e w1 ⟨rfl, hb2⟩; obtain ⟨p0, p1, p2, p3, p4, _, _, _, _, _⟩ := box5 ((hb2.block wo.heap.size (by simp)).trans (World.alloc_heap_new wo _)))
        go_loopw [19] (fun x w2 => ∃ j : Nat, x = .int .i64 j ∧ j ≤ kids.length ∧ Sx.rightsK kids = Sx.rightsK (kids.drop j) ∧ Below W.heap.size W w2 ∧ Below wo.heap.size wo w2) (fun x _ => kids.length - (intOf x).toNat)
        case atStart =>
          have hb3 := below_chain ((Below.refl wo.heap.size wo).alloc (Nat.le_refl _) _) hb2
          exact ⟨0, rfl, Nat.zero_le _, rfl, below_chain hb1h.out hb3, hb3⟩
        case round =>
          obtain ⟨j, rfl, hj, he2, hbw, hbo⟩ := hrel
          clear p0 p1 p2 p3 p4 e0 e1 e2 e3 e4
          have he2h := Lib.hid he2
          have hbwh := Lib.hid hbw
          have hboh := Lib.hid hbo
          clear he2 hbw hbo hb2
          have hkw := kids_keep hkh.out (fun q hq => hboh.out.block q (Nat.lt_of_lt_of_le (hFh.out q hq) hszw))
          by_cases hlt2 : j < kids.length
          · obtain ⟨g2, v2, rfl, hf2, e0, hr2⟩ := kids_at hkw j kids[j] (List.getElem?_eq_getElem hlt2)
            obtain ⟨A2, c2, rfl, hr20⟩ := hr2
            have hltI2 : (j : Int) < (kids.length : Int) := by omega
            have C := Lib.hid (ihh.out kids[j] _ wr F ⟨A2, c2, rfl, hr20⟩ (fun q hq => Nat.lt_of_lt_of_le (hFh.out q hq) hbwh.out.size) (hEh.out.below hbwh.out) (Sx.shortK_at hsk.out (List.getElem?_eq_getElem hlt2)).1 (Sx.shortK_at hsk.out (List.getElem?_eq_getElem hlt2)).2 (by have := kid_less hlh.out (List.getElem?_eq_getElem hlt2); have := hNh.out; omega))
            have hcons := Lib.hid (show Sx.rightsK kids = (Sx.rightsL kids[j] && Sx.rightsK (kids.drop (j + 1))) by
              rw [he2h.out, List.drop_eq_getElem_cons hlt2]
              simp only [Sx.rightsK])
            generalize Sx.rightsL kids[j] = rk at C hcons
            generalize kids[j].length = n2 at C e0
            clear hkw hr20
            cases rk
            · have hfin := Lib.hid (show Sx.rightsL l = false by rw [hstep.out, hcons.out]; simp)
              go_wp2_with (go_at_call 55; refine C.out.mono ?_; rintro e w3 ⟨rfl, hb3⟩)
              go_ret
              exact ⟨by rw [hfin.out]; try rfl, below_chain hbwh.out hb3⟩
            · have hfin := Lib.hid (show Sx.rightsK kids = Sx.rightsK (kids.drop (j + 1)) by rw [hcons.out]; simp)
              go_wp2_with (go_at_call 55; refine C.out.mono ?_; rintro e w3 ⟨rfl, hb3⟩)
              go_roundw
              case rel => exact ⟨j + 1, by go_num, by omega, hfin.out, below_chain hbwh.out hb3, hboh.out.trans (hb3.mono hboh.out.size)⟩
              case measure => simp [intOf]; omega
          · have hltI2 : ¬ (j : Int) < (kids.length : Int) := by omega
            have hfin := Lib.hid (show Sx.rightsL l = Sx.rightsL (l.drop (i + 1)) by
              rw [hstep.out, he2h.out, List.drop_of_length_le (by omega)]
              simp [Sx.rightsK])
            clear hkw
            go_wp2
            go_roundw
            case rel => exact ⟨i + 1, by go_num, by omega, hfin.out, hbwh.out⟩
            case measure => simp [intOf]; omega
    · have hltI : ¬ (i : Int) < (l.length : Int) := by omega
      have hfin := Lib.hid (show Sx.rightsL l = true by rw [he1h.out, List.drop_of_length_le (by omega)]; simp only [Sx.rightsL])
      go_wp2
      go_ret
      exact ⟨by rw [hfin.out]; try rfl, hb1h.out⟩
end Go.Proofs.YtifmalbdolpocaaDoor

namespace Go.Proofs.YtifmalbdolpocaaDoor
open Go.RowKit Go.Shelf

theorem rights_all : ∀ N, RightsC N := by
  intro N
  induction N with
  | zero => intro l v W F _ _ _ _ _ h; omega
  | succ N ih => exact rights_step N ih
theorem rights_calls (l : List Sx.St) (v : Value) (W : World) (F : Nat → Prop) (h : HRow W F v l) (hF : ∀ g, F g → g < W.heap.size) (hE : Env W) (hl : l.length ≤ 281474976710656) (hs : Sx.shortL l) :
    Calls Tryd.prog 55 #[v] W fun e W' => e = .returned (.bool (Sx.rightsL l)) ∧ Below W.heap.size W W' := rights_all (SizeOf.sizeOf l + 1) l v W F h hF hE hl hs (Nat.lt_succ_self _)
theorem vars_at {W : World} {F : Nat → Prop} {A : Option Addr} {l : List ByteArray} (h : l = [] ∨ ∃ g cur rest, A = some ⟨g, 0, none⟩ ∧ F g ∧ W.heap[g]? = some (.cells cur 9 (0, 0)) ∧ cur.toList = l.map Value.string ++ rest) (i : Nat) (s : ByteArray) (hi : l[i]? = some s) :
    ∃ g, A = some ⟨g, 0, none⟩ ∧ F g ∧ W.cell? ⟨g, i, none⟩ = some (.string s) := by
  rcases h with rfl | ⟨g, cur, rest, e1, hf, hg, hc⟩
  · simp at hi
  · refine ⟨g, e1, hf, ?_⟩
    have hlt : i < l.length := (List.getElem?_eq_some_iff.1 hi).1
    rw [Lib.cell_of_heap hg, ← Array.getElem?_toList, hc, List.getElem?_append_left (by simpa using hlt)]
    simp [hi]
theorem vars_keep {W W' : World} {F : Nat → Prop} {A : Option Addr} {l : List ByteArray} (h : l = [] ∨ ∃ g cur rest, A = some ⟨g, 0, none⟩ ∧ F g ∧ W.heap[g]? = some (.cells cur 9 (0, 0)) ∧ cur.toList = l.map Value.string ++ rest) (hk : ∀ q, F q → W'.heap[q]? = W.heap[q]?) :
    l = [] ∨ ∃ g cur rest, A = some ⟨g, 0, none⟩ ∧ F g ∧ W'.heap[g]? = some (.cells cur 9 (0, 0)) ∧ cur.toList = l.map Value.string ++ rest := by
  rcases h with h0 | ⟨g, cur, rest, e1, hf, hg, hc⟩
  · exact .inl h0
  · exact .inr ⟨g, cur, rest, e1, hf, (hk g hf).trans hg, hc⟩
theorem chk_many {p : Sx.Prg} (h : Sx.overM (Sx.mProcs p.procs (0, 0)) = true) : Sx.chk p = 3 := by unfold Sx.chk; rw [if_pos h]
theorem chk_few {p : Sx.Prg} (h : Sx.overM (Sx.mProcs p.procs (0, 0)) = false) : Sx.chk p = if (p.vars.all fun v => Sx.nameB v.data.toList) && (p.procs.all fun q => Sx.nameB q.name.data.toList && Sx.rightsL q.body) then 0 else 201 := by
  unfold Sx.chk
  rw [h]
  cases (p.vars.all fun v => Sx.nameB v.data.toList) <;> cases (p.procs.all fun q => Sx.nameB q.name.data.toList && Sx.rightsL q.body) <;> rfl
set_option maxRecDepth 100000 in
set_option maxHeartbeats 4000000 in
theorem check_calls (p : Sx.Prg) (v : Value) (W : World) (F : Nat → Prop) (hv : HPrg W F v p) (hF : ∀ g, F g → g < W.heap.size) (hE : Env W) (hs : Sx.shortP p) :
    Calls Tryd.prog 28 #[v] W fun e W' => e = .returned (.int .i64 (Sx.chk p : Int)) ∧ Below W.heap.size W W' := by
  have hvh := Lib.hid hv
  obtain ⟨A, c, A2, c2, rfl, hvv, hpp⟩ := hv
  have hvvh := Lib.hid hvv
  have hpph := Lib.hid hpp
  have hFh := Lib.hid hF
  have hEh := Lib.hid hE
  have hsh := Lib.hid hs
  have hlv := hs.1
  have hlp := hs.2.1
  have hB0 := Lib.hid (fun o => (Below.refl W.heap.size W).alloc (Nat.le_refl _) o)
  have M := Lib.hid (fun o => measured_calls p _ (W.alloc o) F (hvh.out.keep fun q hq => ⟨hq, Lib.alloc_old _ _ _ (hFh.out q hq)⟩) (fun q hq => by have := hFh.out q hq; rw [World.size_alloc]; omega) hs)
  have hmany := Lib.hid (@chk_many p)
  have hfew := Lib.hid (@chk_few p)
  generalize Sx.mProcs p.procs (0, 0) = mm at M hmany hfew
  obtain ⟨a, b⟩ := mm
  clear hvv hpp hF hE hs
  by_cases h1 : 4096 < a
  · have h1I : (4096 : Int) < (a : Int) := by omega
    have d1 : decide ((4096 : Int) < (a : Int)) = true := by simp; omega
    have hfin := Lib.hid (hmany.out (by simp [Sx.overM, h1]))
    go_enter Tryd.func28, Tryd.ntmps28
    go_wp2_with (go_at_call 48; refine (M.out _).mono ?_; rintro e w1 ⟨rfl, hb1⟩)
    go_ret
    exact ⟨by rw [hfin.out]; try rfl, (below_chain (hB0.out _) hb1).alloc (by first | exact Nat.le_refl _ | exact (below_chain (hB0.out _) hb1).size) _⟩
  · have h1I : ¬ (4096 : Int) < (a : Int) := by omega
    have d1 : decide ((4096 : Int) < (a : Int)) = false := by simp; omega
    by_cases h2 : 50 < b
    · have h2I : (50 : Int) < (b : Int) := by omega
      have d2 : decide ((50 : Int) < (b : Int)) = true := by simp; omega
      have hfin := Lib.hid (hmany.out (by simp [Sx.overM, h2]))
      go_enter Tryd.func28, Tryd.ntmps28
      go_wp2_with (go_at_call 48; refine (M.out _).mono ?_; rintro e w1 ⟨rfl, hb1⟩)
      go_ret
      exact ⟨by rw [hfin.out]; try rfl, (below_chain (hB0.out _) hb1).alloc (by first | exact Nat.le_refl _ | exact (below_chain (hB0.out _) hb1).size) _⟩
    · have h2I : ¬ (50 : Int) < (b : Int) := by omega
      have d2 : decide ((50 : Int) < (b : Int)) = false := by simp; omega
      have hfin0 := Lib.hid (hfew.out (over_no (by omega) (by omega)))
      go_enter Tryd.func28, Tryd.ntmps28
      go_wp2_with (go_at_call 48; refine (M.out _).mono ?_; rintro e w1 ⟨rfl, hb1⟩; obtain ⟨p0, p1, _, _⟩ := box2 ((hb1.block W.heap.size (by simp)).trans (World.alloc_heap_new W _)); have hlt1 : W.heap.size < w1.heap.size := by (have := hb1.size; rw [World.size_alloc] at this; omega))
      have hst := Lib.hid (show ∀ o, Below W.heap.size W (w1.alloc o) ∧ (w1.alloc o).heap[W.heap.size]? = some (.cells #[.slice A p.vars.length c, .slice A2 p.procs.length c2] 42 (0, 0)) from fun o =>
        ⟨below_chain (below_chain (hB0.out _) hb1) ((Below.refl _ w1).alloc (Nat.le_refl _) o), (Lib.alloc_old _ _ _ hlt1).trans ((hb1.block W.heap.size (by simp)).trans (World.alloc_heap_new W _))⟩)
      clear hb1
      go_loopw [21] (fun x wr => ∃ i : Nat, x = .int .i64 i ∧ i ≤ p.vars.length ∧ (p.vars.all fun v => Sx.nameB v.data.toList) = ((p.vars.drop i).all fun v => Sx.nameB v.data.toList) ∧ Below W.heap.size W wr ∧ wr.heap[W.heap.size]? = some (.cells #[.slice A p.vars.length c, .slice A2 p.procs.length c2] 42 (0, 0)))
        (fun x _ => p.vars.length - (intOf x).toNat)
      case atStart => exact ⟨0, rfl, Nat.zero_le _, rfl, (hst.out _).1, (hst.out _).2⟩
      case round =>
        clear hst p0 p1
        obtain ⟨i, rfl, hi, he1, hbw, hbx⟩ := hrel
        have he1h := Lib.hid he1
        have hbwh := Lib.hid hbw
        have hbxh := Lib.hid hbx
        clear he1 hbw
        by_cases hlt : i < p.vars.length
        · have hltI : (i : Int) < (p.vars.length : Int) := by omega
          obtain ⟨g, rfl, hf, e0⟩ := vars_at (vars_keep hvvh.out fun q hq => hbwh.out.block q (hFh.out q hq)) i p.vars[i] (List.getElem?_eq_getElem hlt)
          have N := Lib.hid (name_calls p.vars[i] (hsh.out.2.2.1 _ (List.getElem_mem hlt)) wr (hEh.out.below hbwh.out))
          have hcons := Lib.hid (show (p.vars.all fun v => Sx.nameB v.data.toList) = (Sx.nameB p.vars[i].data.toList && (p.vars.drop (i + 1)).all fun v => Sx.nameB v.data.toList) by
            rw [he1h.out, List.drop_eq_getElem_cons hlt, List.all_cons])
          generalize Sx.nameB p.vars[i].data.toList = nb at N hcons
          generalize p.vars[i] = s at N e0
          clear hbx
          cases nb
          · have hfin := Lib.hid (show Sx.chk p = 201 by rw [hfin0.out, hcons.out]; rfl)
            go_wp2_with (go_at_call 54; refine N.out.mono ?_; rintro e w2 ⟨rfl, hb2⟩)
            go_ret
            exact ⟨by rw [hfin.out]; try rfl, below_chain hbwh.out hb2⟩
          · go_wp2_with (go_at_call 54; refine N.out.mono ?_; rintro e w2 ⟨rfl, hb2⟩)
            go_roundw
            case rel => exact ⟨i + 1, by go_num, by omega, by rw [hcons.out]; rfl, below_chain hbwh.out hb2, (hb2.block _ (Array.getElem?_eq_some_iff.1 hbxh.out).1).trans hbxh.out⟩
            case measure => simp [intOf]; omega
        · have hltI : ¬ (i : Int) < (p.vars.length : Int) := by omega
          have hvall := Lib.hid (show (p.vars.all fun v => Sx.nameB v.data.toList) = true by rw [he1h.out, List.drop_of_length_le (by omega)]; rfl)
          obtain ⟨p0, p1, _, _⟩ := box2 hbx
          clear hbx
          go_wp2
          go_loopw [32] (fun x w2 => ∃ i : Nat, x = .int .i64 i ∧ i ≤ p.procs.length ∧ (p.procs.all fun q => Sx.nameB q.name.data.toList && Sx.rightsL q.body) = ((p.procs.drop i).all fun q => Sx.nameB q.name.data.toList && Sx.rightsL q.body) ∧ Below W.heap.size W w2)
            (fun x _ => p.procs.length - (intOf x).toNat)
          case atStart => exact ⟨0, rfl, Nat.zero_le _, rfl, hbwh.out⟩
          case round =>
            clear p0 p1
            obtain ⟨j, rfl, hj, he2, hbw2⟩ := hrel
            have he2h := Lib.hid he2
            have hbw2h := Lib.hid hbw2
            clear he2 hbw2
            obtain ⟨wo, rfl⟩ : ∃ wo : World, wo = wr := ⟨_, rfl⟩
            by_cases hlt2 : j < p.procs.length
            · have hltI2 : (j : Int) < (p.procs.length : Int) := by omega
              obtain ⟨g, B, cc, rfl, hf, e0, e1, hr⟩ := procs_at (procs_keep hpph.out fun q hq => hbw2h.out.block q (hFh.out q hq)) j p.procs[j] (List.getElem?_eq_getElem hlt2)
              have hq := hsh.out.2.2.2 p.procs[j] (List.getElem_mem hlt2)
              have hal := Lib.hid (fun o => below_chain hbw2h.out ((Below.refl _ wo).alloc (Nat.le_refl _) o))
              have N := Lib.hid (fun o => name_calls p.procs[j].name hq.1 (wo.alloc o) (hEh.out.below (hal.out o)))
              have R := Lib.hid (fun w3 (hb : Below W.heap.size W w3) (hs : wo.heap.size ≤ w3.heap.size) (hk : ∀ q, F q → w3.heap[q]? = wo.heap[q]?) => rights_calls p.procs[j].body _ w3 F (hr.keep fun q hq => ⟨hq, hk q hq⟩) (fun q hq => Nat.lt_of_lt_of_le (Nat.lt_of_lt_of_le (hFh.out q hq) hbw2h.out.size) hs) (hEh.out.below hb) hq.2.1 hq.2.2)
              have hcons := Lib.hid (show (p.procs.all fun q => Sx.nameB q.name.data.toList && Sx.rightsL q.body) = ((Sx.nameB p.procs[j].name.data.toList && Sx.rightsL p.procs[j].body) && (p.procs.drop (j + 1)).all fun q => Sx.nameB q.name.data.toList && Sx.rightsL q.body) by
                rw [he2h.out, List.drop_eq_getElem_cons hlt2, List.all_cons])
              generalize Sx.nameB p.procs[j].name.data.toList = nb at N hcons
              generalize Sx.rightsL p.procs[j].body = rb at R hcons
              generalize p.procs[j].name = s at N e0
              generalize p.procs[j].body.length = n2 at R e1
              clear hr hq
              cases nb
              · have hfin := Lib.hid (show Sx.chk p = 201 by rw [hfin0.out, hcons.out, hvall.out]; rfl)
                go_wp2_with (go_at_call 54; refine (N.out _).mono ?_; rintro e w2 ⟨rfl, hb2⟩)
                go_ret
                exact ⟨by rw [hfin.out]; try rfl, below_chain (hal.out _) hb2⟩
              · have keep := Lib.hid (fun o w2 (hb2 : Below (wo.alloc o).heap.size (wo.alloc o) w2) => show Below W.heap.size W w2 ∧ wo.heap.size ≤ w2.heap.size ∧ ∀ q, F q → w2.heap[q]? = wo.heap[q]? from
                  ⟨below_chain (hal.out _) hb2, by have := hb2.size; rw [World.size_alloc] at this; omega, fun q hq => (hb2.block q (by rw [World.size_alloc]; have := hFh.out q hq; have := hbw2h.out.size; omega)).trans (Lib.alloc_old _ _ _ (by have := hFh.out q hq; have := hbw2h.out.size; omega))⟩)
                cases rb
                · have hfin := Lib.hid (show Sx.chk p = 201 by rw [hfin0.out, hcons.out, hvall.out]; rfl)
                  go_wp2_with (first | (go_at_call 54; refine (N.out _).mono ?_; rintro e w2 ⟨rfl, hb2⟩; obtain ⟨p0, p1, _, _⟩ := box2 ((hb2.block wo.heap.size (by simp)).trans (World.alloc_heap_new wo _))) | (go_at_call 55; refine (R.out _ (keep.out _ _ hb2).1 (keep.out _ _ hb2).2.1 (keep.out _ _ hb2).2.2).mono ?_; rintro e w3 ⟨rfl, hb3⟩))
                  go_ret
                  exact ⟨by rw [hfin.out]; try rfl, below_chain (keep.out _ _ hb2).1 hb3⟩
                · go_wp2_with (first | (go_at_call 54; refine (N.out _).mono ?_; rintro e w2 ⟨rfl, hb2⟩; obtain ⟨p0, p1, _, _⟩ := box2 ((hb2.block wo.heap.size (by simp)).trans (World.alloc_heap_new wo _))) | (go_at_call 55; refine (R.out _ (keep.out _ _ hb2).1 (keep.out _ _ hb2).2.1 (keep.out _ _ hb2).2.2).mono ?_; rintro e w3 ⟨rfl, hb3⟩))
                  go_roundw
                  case rel => exact ⟨j + 1, by go_num, by omega, by rw [hcons.out]; rfl, below_chain (keep.out _ _ hb2).1 hb3⟩
                  case measure => simp [intOf]; omega
            · have hltI2 : ¬ (j : Int) < (p.procs.length : Int) := by omega
              have hfin := Lib.hid (show Sx.chk p = 0 by rw [hfin0.out, hvall.out, he2h.out, List.drop_of_length_le (by omega)]; rfl)
              go_wp2
              go_ret
              exact ⟨by rw [hfin.out]; try rfl, hbw2h.out⟩
end Go.Proofs.YtifmalbdolpocaaDoor
