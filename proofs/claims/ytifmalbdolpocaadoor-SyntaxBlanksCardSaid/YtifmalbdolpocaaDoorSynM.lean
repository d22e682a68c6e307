/-
  The walks of package syntax, thirteenth part: a program.
-/
import Derived.Test.YtifmalbdolpocaaDoorSynL
import Derived.RegionDies
namespace Go.Proofs.YtifmalbdolpocaaDoor
open Go.RowKit Go.Shelf

namespace Sx
def contP (n : Nat) (P : List PT) (v : List ByteArray) (z : Nat) : Res Prg := andR (procsP n P z) fun l k => some (.ok (⟨v, l⟩, k))
def contV (n kq : Nat) (P : List PT) (vs : List ByteArray) (z : Nat) : Res Prg := andR (mustP [59] P z) fun _ m => andR (varsP kq P m) fun r y => contP n P (vs ++ r) y
theorem andR_congr {α β : Type} {r : Res α} {f g : α → Nat → Res β} (h : ∀ a j, f a j = g a j) : andR r f = andR r g := by
  have : f = g := funext fun a => funext fun j => h a j
  rw [this]
theorem l1_yes {n k j : Nat} {P : List PT} {vars : List ByteArray} (h : isP [118, 97, 114] P j = true) :
    andR (varsP (k + 1) P j) (fun r z => contP n P (vars ++ r) z) = andR (nameP P (j + 1)) fun x i => andR (moreP k P i) fun l z => contV n k P ((vars ++ [x]) ++ l) z := by
  rw [varsP, if_pos h]
  simp only [andR_assoc]
  refine andR_congr fun x i => andR_congr fun l z => andR_congr fun _ m => andR_congr fun r y => ?_
  rw [andR_mk]
  simp
theorem l1_no {n k j : Nat} {P : List PT} {vars : List ByteArray} (h : isP [118, 97, 114] P j = false) :
    andR (varsP (k + 1) P j) (fun r z => contP n P (vars ++ r) z) = contP n P vars j := by
  rw [varsP, if_neg (by rw [h]; simp), andR_mk, List.append_nil]
theorem l2_yes {n k1 k j : Nat} {P : List PT} {vs : List ByteArray} (h : isP [44] P j = true) :
    andR (moreP (k + 1) P j) (fun l z => contV n k1 P (vs ++ l) z) = andR (nameP P (j + 1)) fun x i => andR (moreP k P i) fun l z => contV n k1 P ((vs ++ [x]) ++ l) z := by
  rw [moreP, if_pos h]
  simp only [andR_assoc]
  refine andR_congr fun x i => andR_congr fun l z => ?_
  rw [andR_mk]
  simp
theorem l2_no {n k1 k j : Nat} {P : List PT} {vs : List ByteArray} (h : isP [44] P j = false) :
    andR (moreP (k + 1) P j) (fun l z => contV n k1 P (vs ++ l) z) = contV n k1 P vs j := by
  rw [moreP, if_neg (by rw [h]; simp), andR_mk, List.append_nil]
def cont3 (vars : List ByteArray) (procs : List Prc) (k : Nat) (P : List PT) (j : Nat) : Res Prg := andR (procsP k P j) fun l z => some (.ok (⟨vars, procs ++ l⟩, z))
theorem l3_yes {k j : Nat} {P : List PT} {vars : List ByteArray} {procs : List Prc} (h : j < P.length) :
    cont3 vars procs (k + 1) P j = andR (mustP [112, 114, 111, 99] P j) fun _ a => andR (nameP P a) fun x b => andR (blockP k P b) fun body m => cont3 vars (procs ++ [⟨x, body⟩]) k P m := by
  unfold cont3
  rw [procsP, if_pos h]
  simp only [andR_assoc]
  refine andR_congr fun _ a => andR_congr fun x b => andR_congr fun body m => andR_congr fun l z => ?_
  rw [andR_mk]
  simp
theorem l3_no {k j : Nat} {P : List PT} {vars : List ByteArray} {procs : List Prc} (h : ¬ j < P.length) :
    cont3 vars procs (k + 1) P j = some (.ok (⟨vars, procs⟩, j)) := by
  unfold cont3
  rw [procsP, if_neg h, andR_mk, List.append_nil]
theorem contP_3 {n z : Nat} {P : List PT} {v : List ByteArray} : contP n P v z = cont3 v [] n P z := rfl
end Sx
/-- Between two rounds: of the variables' lines; of one line; of the procedures. -/
def PrgL1 (n : Nat) (W : World) (R : Nat) (all : List ITok) (line col : Int) (res : Except Nat (Sx.Prg × Nat)) (kq : Nat) (w : World) : Prop :=
  ∃ vars j va ys F, PrgS W R all line col vars [] j va (.slice none 0 0) w ys F ∧ Sx.andR (Sx.varsP kq (bare all) j) (fun r z => Sx.contP n (bare all) (vars ++ r) z) = some res ∧ vars.length ≤ j
def PrgL2 (n k1 : Nat) (W : World) (R : Nat) (all : List ITok) (line col : Int) (res : Except Nat (Sx.Prg × Nat)) (kq : Nat) (w : World) : Prop :=
  ∃ vars j va ys F, PrgS W R all line col vars [] j va (.slice none 0 0) w ys F ∧ Sx.andR (Sx.moreP kq (bare all) j) (fun r z => Sx.contV n k1 (bare all) (vars ++ r) z) = some res ∧ vars.length ≤ j
def PrgL3 (n : Nat) (W : World) (R : Nat) (all : List ITok) (line col : Int) (res : Except Nat (Sx.Prg × Nat)) (kq : Nat) (w : World) : Prop :=
  ∃ vars procs j va vp ys F, PrgS W R all line col vars procs j va vp w ys F ∧ Sx.cont3 vars procs kq (bare all) j = some res ∧ procs.length ≤ j ∧ kq ≤ n
theorem bare_length (l : List ITok) : (bare l).length = l.length := by simp [bare]
theorem k64b (n : Nat) (h : n ≤ 2000000) : (n + 1) * 16 ≤ 140737488355328 := by omega
theorem k64c (n : Nat) (h : n ≤ 2000000) : (n + 1) * 40 ≤ 140737488355328 := by omega

theorem news_set (w : World) (a : Addr) (u : Value) (cs : Array Value) {t : TypeId} : ∀ j v, cs.toList[j]? = some v → ((w.setCell a u).alloc (.cells cs t)).cell? ((⟨w.heap.size, 0, none⟩ : Addr).add j) = some v := by
  have h := World.alloc_heap_new (w.setCell a u) (.cells cs t)
  have hs : (w.setCell a u).heap.size = w.heap.size := by simp [World.setCell]
  rw [hs] at h
  exact World.news_of_block h
theorem prc_kept {w2 w3 : World} {o : Obj} {F4 : Nat → Prop} {b : List Sx.St} {Ab : Option Addr} (v : Value) (hF4 : ∀ g, F4 g → (w2.alloc o).heap.size ≤ g ∧ g < w3.heap.size) (hk4 : b = [] ∨ ∃ g cur, Ab = some ⟨g, 0, none⟩ ∧ F4 g ∧ w3.heap[g]? = some (.cells cur 107 (0, 0)) ∧ HCells w3 F4 cur.toList b) :
    b = [] ∨ ∃ g cur, Ab = some ⟨g, 0, none⟩ ∧ F4 g ∧ (w3.setCell ⟨w2.heap.size, 1, none⟩ v).heap[g]? = some (.cells cur 107 (0, 0)) ∧ HCells (w3.setCell ⟨w2.heap.size, 1, none⟩ v) F4 cur.toList b := by
  have KS : ∀ q, F4 q → (w3.setCell ⟨w2.heap.size, 1, none⟩ v).heap[q]? = w3.heap[q]? := fun q hq => Below.heap_setCell _ _ _ q (by
    have := (hF4 q hq).1
    rw [World.size_alloc] at this
    simp; omega)
  rcases hk4 with h0 | ⟨g0, cur, e1, hf, hgc, hh⟩
  · exact .inl h0
  · exact .inr ⟨g0, cur, e1, hf, (KS g0 hf).trans hgc, hh.keep fun q hq => ⟨hq, KS q hq⟩⟩
theorem prc_far {w w2 w3 : World} {o : Obj} {F4 : Nat → Prop} (v : Value) (h : w.heap.size ≤ w2.heap.size) (hF4 : ∀ g, F4 g → (w2.alloc o).heap.size ≤ g ∧ g < w3.heap.size) : ∀ g, F4 g → w.heap.size ≤ g ∧ g < (w3.setCell ⟨w2.heap.size, 1, none⟩ v).heap.size := by
  intro q hq
  have := hF4 q hq
  rw [World.size_alloc] at this
  have hs : (w3.setCell ⟨w2.heap.size, 1, none⟩ v).heap.size = w3.heap.size := by simp [World.setCell]
  omega
theorem prc_ne {W w w1 w2 : World} {R : Nat} {all : List ITok} {line col : Int} {vars : List ByteArray} {procs : List Sx.Prc} {j : Nat} {va vp : Value} {ys : List Value} {F : Nat → Prop} (hS : PrgS W R all line col vars procs j va vp w ys F) (hg1 : w.grownBy w1 (some R)) (hg2 : w1.grownBy w2 (some R)) : ¬ w2.heap.size = W.heap.size + 1 := by
  have := hS.high
  have := hg1.size
  have := hg2.size
  omega
set_option maxRecDepth 100000 in
set_option maxHeartbeats 8000000 in
theorem program_calls (n R : Nat) (all : List ITok) (line col : Int) (res : Except Nat (Sx.Prg × Nat)) (hres : Sx.programP n (bare all) 0 = some res) (W : World) (h : RD W R all 0 line col) (hE : Env W) (hR : 4 ≤ R)
    (hm0 : all.length ≤ 200000) (hsh : Short all) (hn : n ≤ 1000000) : Calls Tryd.prog 27 #[.pointer (some ⟨R, 0, none⟩)] W (Post W R all line col HPrg res) := by
  have hm : all.length ≤ 9223372036854775807 := by omega
  have hB' := Lib.hid (fun m (hmn : m ≤ n) => (both_calls R all line col hR hm hsh n hn m hmn).2)
  have hm' := Lib.hid hm
  have hm0' := Lib.hid hm0
  have hRlt := Lib.hid h.lt
  have hE' := Lib.hid (hE.below ((Below.refl _ W).alloc (Nat.le_refl _) zero42))
  have hI0 := Lib.hid (show PrgL1 n W R all line col res n ((W.alloc zero42).alloc zero42) from ⟨[], 0, _, _, _, prg_start h.lt h, by simpa [Sx.programP, Sx.contP] using hres, Nat.le_refl _⟩)
  obtain ⟨i0, hi0, hz0, hz1, hz2⟩ := info_parts info9
  obtain ⟨i1, hj0, hj1, hj2, hj3⟩ := info_parts info82
  have hsh' := Lib.hid hsh
  clear h hE hres hm hm0 hsh
  go_enter Tryd.func27, Tryd.ntmps27
  go_wp2
  go_loopg [] n (fun kq wr => PrgL1 n W R all line col res kq wr)
  case atStart => exact hI0.out
  case round =>
    clear hI0
    obtain ⟨vars, j, va, ys, F, hS, hcont, hlen⟩ := hrel
    have hlen := Lib.hid hlen
    obtain ⟨⟨Av, cv, rfl⟩, _⟩ := prg_vals hS
    cases gk with
    | zero => simp [Sx.varsP, Sx.andR] at hcont
    | succ k1 =>
      cases hq : Sx.isP [118, 97, 114] (bare all) j
      · rw [Sx.l1_no hq, Sx.contP_3] at hcont
        have I := Lib.hid (is_b ⟨#[118, 97, 114]⟩ R all j line col false wr hS.rd hm'.out hq)
        have h3 := Lib.hid (show PrgL3 n W R all line col res n wr from ⟨vars, [], j, _, _, ys, F, hS, hcont, Nat.zero_le _, Nat.le_refl _⟩)
        clear hS hcont hq
        go_wp2_with (go_at_call 49; refine I.out.mono ?_; rintro e w6 ⟨rfl, rfl⟩)
        go_loopg [] n (fun kq wr => PrgL3 n W R all line col res kq wr)
        case atStart => exact h3.out
        case round =>
          clear h3 I
          obtain ⟨vars, procs, j, va, vp, ys, F, hS, hcont, hlen, hkn⟩ := hrel
          have hlen := Lib.hid hlen
          have hkn' := Lib.hid hkn
          obtain ⟨⟨Av, cv, rfl⟩, ⟨Ap, cq, rfl⟩⟩ := prg_vals hS
          cases gk with
          | zero => simp [Sx.cont3, Sx.procsP, Sx.andR] at hcont
          | succ k1 =>
            cases ht : all[j]? with
            | none =>
              have hj : ¬ j < (bare all).length := by rw [bare_length]; exact Nat.not_lt.2 (List.getElem?_eq_none_iff.1 ht)
              rw [Sx.l3_no hj] at hcont
              obtain rfl : .ok (⟨vars, procs⟩, j) = res := Option.some.inj hcont
              obtain ⟨A, cp, c0⟩ := rd_end hS.rd ht
              obtain ⟨p0, p1, p2, p3, _⟩ := prg_cells hS (grown_below (Below.refl _ _) (some R)) hRlt.out
              obtain ⟨z0, z1, z2, z3⟩ := box2 (prg_zero hS hRlt.out)
              have hend := Lib.hid (prg_end hS hRlt.out)
              clear hS hcont hj ht
              go_wp2
              obtain ⟨hfin, hpost⟩ := hend.out
              obtain ⟨g0, g1, _⟩ := box2 hfin
              exact ⟨rfl, _, by simp [results, Tryd.results27, go_sem, g0, g1], hpost⟩
            | some t =>
              have hj : j < (bare all).length := by rw [bare_length]; exact (List.getElem?_eq_some_iff.1 ht).1
              rw [Sx.l3_yes hj] at hcont
              obtain ⟨ad, n0, cp, c0, hn0, hn1, d0, d1⟩ := rd_head hS.rd ht hm'.out
              have hgr := Lib.hid ((grown_below ((Below.refl W.heap.size W).alloc (Nat.le_refl _) zero42) (some R)).trans hS.grown)
              have hEr := Lib.hid (hE'.out.grown hS.grown hR)
              unfold Sx.mustP at hcont
              cases hq2 : Sx.isP [112, 114, 111, 99] (bare all) j
              · rw [hq2] at hcont
                obtain rfl : .error j = res := by simpa [Sx.andR] using hcont
                have M := Lib.hid (must_bad ⟨#[112, 114, 111, 99]⟩ R all j line col wr hS.rd hm'.out hq2)
                clear hS hcont hj ht hq2 hB'
                go_wp2_with (go_at_call 52; refine M.out.mono ?_; rintro e w1 ⟨rfl, hb1⟩)
                exact ⟨rfl, hgr.out.trans (grown_below hb1 _), rfl⟩
              · rw [hq2] at hcont
                simp only [if_true] at hcont
                rw [andR_mk] at hcont
                have M := Lib.hid (must_ok ⟨#[112, 114, 111, 99]⟩ R all j line col wr hS.rd hm'.out hq2)
                cases hn2 : Sx.nameP (bare all) (j + 1) with
                | none => exact absurd hn2 (nameP_not _ _)
                | some r2 =>
                  rw [hn2] at hcont
                  cases r2 with
                  | error e2 =>
                    obtain rfl : .error e2 = res := by simpa [Sx.andR] using hcont
                    have X := Lib.hid (fun w1 (hr : RD w1 R all (j + 1) line col) (hE : Env w1) => rname_fault R all (j + 1) line col w1 hr hE hm'.out hsh'.out e2 hn2)
                    clear hS hcont hj ht hq2 hB' hn2
                    go_wp2_with (first | (go_at_call 52; refine M.out.mono ?_; rintro e w1 ⟨rfl, hg1, hr1⟩) | (go_at_call 51; refine (X.out _ hr1 (hEr.out.grown hg1 hR)).mono ?_; rintro e w2 ⟨rfl, hb2⟩))
                    exact ⟨rfl, (hgr.out.trans hg1).trans (grown_below hb2 _), rfl⟩
                  | ok p2 =>
                    obtain ⟨x, a⟩ := p2
                    rw [andR_mk] at hcont
                    have X := Lib.hid (fun w1 (hr : RD w1 R all (j + 1) line col) (hE : Env w1) => rname_calls R all (j + 1) line col w1 hr hE hm'.out hsh'.out x a hn2)
                    have hja : j < a := by have := (Sx.nameP_ok hn2).1; omega
                    cases hb2 : Sx.blockP k1 (bare all) a with
                    | none => rw [hb2] at hcont; simp [Sx.andR] at hcont
                    | some rb =>
                      rw [hb2] at hcont
                      have B := Lib.hid (hB'.out k1 (by have := hkn'.out; omega) a rb hb2)
                      cases rb with
                      | error e3 =>
                        obtain rfl : .error e3 = res := by simpa [Sx.andR] using hcont
                        clear hS hcont hj ht hq2 hB' hn2 hb2
                        go_wp2_with (first | (go_at_call 52; refine M.out.mono ?_; rintro e w1 ⟨rfl, hg1, hr1⟩) | (go_at_call 51; refine (X.out _ hr1 (hEr.out.grown hg1 hR)).mono ?_; rintro e w2 ⟨rfl, hg2, hr2⟩) | (go_at_call 53; refine (B.out _ (rd_alloc hr2 _) (((hEr.out.grown hg1 hR).grown hg2 hR).grown (grown_alloc w2 _ _) hR)).mono ?_; rintro e w3 ⟨hg3, rfl⟩))
                        exact ⟨rfl, ((hgr.out.trans hg1).trans hg2).trans ((grown_alloc w2 _ _).trans hg3), rfl⟩
                      | ok p3 =>
                        obtain ⟨body, mm⟩ := p3
                        rw [andR_mk] at hcont
                        have hmm := Lib.hid (show procs.length + 1 ≤ mm by have := hlen.out; have := (Sx.steps_ok k1 (bare all)).1 _ _ _ hb2; omega)
                        have hpl := Lib.hid (show procs.length ≤ 2000000 by have := hlen.out; have := hm0'.out; have := hS.rd.le; omega)
                        have hS' := Lib.hid hS
                        have hcont' := Lib.hid hcont
                        clear hS hcont hj ht hq2 hB' hn2 hb2 hja
                        go_wp2_with (first | (go_at_call 52; refine M.out.mono ?_; rintro e w1 ⟨rfl, hg1, hr1⟩) | (go_at_call 51; refine (X.out _ hr1 (hEr.out.grown hg1 hR)).mono ?_; rintro e w2 ⟨rfl, hg2, hr2⟩) | (go_at_call 53; refine (B.out _ (rd_alloc hr2 _) (((hEr.out.grown hg1 hR).grown hg2 hR).grown (grown_alloc w2 _ _) hR)).mono ?_; rintro e w3 ⟨hg3, hr3, v, F4, rfl, hF4, Ab, cpb, rfl, hk4⟩; obtain ⟨x0, x1, xf0, xf1⟩ := box2 (cells_kept hg3 (World.alloc_heap_new w2 _) hr2.lt); have hgw := Lib.hid ((hg1.trans hg2).trans ((grown_alloc w2 _ _).trans hg3)); obtain ⟨p0, p1, p2, p3, p4⟩ := prg_cells hS'.out hgw.out hRlt.out; have hne := prc_ne hS'.out hg1 hg2; have hF4 := Lib.hid hF4; have hk4 := Lib.hid hk4; have hgs := Lib.hid (grown_new hgw.out (Nat.le_trans hg1.size hg2.size) (grown_set w3 w2.heap.size 1 (.slice Ab body.length cpb)))) | (at_builtin; refine wpList_append_lies _ rfl _ _ 40 rfl (W.heap.size + 2) 82 i1 _ 2 40 Tryd.underlying40 hj0 hj1 hj2 hj3 rfl (by decide) _ _ _ rfl (prg_prow hS'.out hgs.out hRlt.out _) ⟨w3.heap.size, 0, none⟩ 1 1 [.string x, .slice Ab body.length cpb] rfl rfl ?c1 ?c2 (by decide) ?c3 ?c4 ?c5 _ rfl ?c6))
                        case c1 => exact news_set w3 _ _ _
                        case c2 =>
                          intro u hu
                          simp only [List.mem_cons, List.not_mem_nil, or_false] at hu
                          rcases hu with rfl | rfl <;> rfl
                        case c3 => exact k63 _ hpl.out
                        case c4 => exact k64c _ hpl.out
                        case c5 => exact prg_base hS'.out hgs.out _
                        case c6 =>
                          intro g cap w5 hown hgrow hat hlt
                          obtain ⟨b0, b1, b2, b3⟩ := prg_after hS'.out hgs.out hRlt.out (.inr rfl) hgrow
                          have hend := Lib.hid (And.intro hown (And.intro hgrow hat))
                          clear hown hgrow hat hlt
                          have hr3' := Lib.hid (hr3.keep (setC (v := .slice Ab body.length cpb) (j := 1) hr2.lt))
                          have hk5 := Lib.hid (prc_kept (.slice Ab body.length cpb) hF4.out hk4.out)
                          have hF5 := Lib.hid (prc_far (w2 := w2) (.slice Ab body.length cpb) (Nat.le_trans hg1.size hg2.size) hF4.out)
                          clear hr3 hg1 hg2 hg3 hr1 hr2
                          go_wp2
                          go_roundg k1
                          case measure => omega
                          case rel =>
                            obtain ⟨hown, hgrow, hat⟩ := hend.out
                            exact ⟨_, _, _, _, _, _, _, prg_proc hRlt.out hS'.out hgs.out hr3'.out hF5.out hk5.out hown hgrow (by rw [show (w3.setCell ⟨w2.heap.size, 1, none⟩ (.slice Ab body.length cpb)).heap.size = w3.heap.size by simp [World.setCell]]; exact hat), hcont'.out, by have := hmm.out; simp; omega, by have := hkn'.out; omega⟩
      · rw [Sx.l1_yes hq] at hcont
        have I := Lib.hid (is_b ⟨#[118, 97, 114]⟩ R all j line col true wr hS.rd hm'.out hq)
        obtain ⟨t1, ht1⟩ : ∃ t, all[j]? = some t := by
          cases h2 : all[j]? with
          | none => simp [Sx.isP, bare_at, h2] at hq
          | some t => exact ⟨t, rfl⟩
        have N := Lib.hid (next_calls R all j line col wr hS.rd hm'.out t1 ht1)
        have hEr := Lib.hid (hE'.out.grown hS.grown hR)
        have hgr := Lib.hid ((grown_below ((Below.refl W.heap.size W).alloc (Nat.le_refl _) zero42) (some R)).trans hS.grown)
        have hkp := Lib.hid (fun w' (hg : wr.grownBy w' (some R)) (hr : RD w' R all (j + 1) line col) => prg_keep hRlt.out hS hg hr)
        have hpl := Lib.hid (show vars.length ≤ 2000000 by have := hlen.out; have := hm0'.out; have := hS.rd.le; omega)
        cases hn2 : Sx.nameP (bare all) (j + 1) with
        | none => exact absurd hn2 (nameP_not _ _)
        | some r2 =>
          rw [hn2] at hcont
          cases r2 with
          | error e2 =>
            obtain rfl : .error e2 = res := by simpa [Sx.andR] using hcont
            have X := Lib.hid (fun w1 (hr : RD w1 R all (j + 1) line col) (hE : Env w1) => rname_fault R all (j + 1) line col w1 hr hE hm'.out hsh'.out e2 hn2)
            clear hS hcont hq hB' hn2 ht1
            go_wp2_with (first | (go_at_call 49; refine I.out.mono ?_; rintro e w6 ⟨rfl, rfl⟩) | (go_at_call 50; refine N.out.mono ?_; rintro e w7 ⟨rfl, hg7, hr7⟩; have hS7 := hkp.out w7 hg7 hr7; have hr7d := hr7.below (Below.drew (Below.refl w7.heap.size w7)); have hE7 := (hEr.out.grown hg7 hR).grown (grown_below (Below.drew (Below.refl w7.heap.size w7)) _) hR; have hS0 := Lib.hid (prg_keep hRlt.out hS7 (grown_below (Below.drew (Below.refl w7.heap.size w7)) _) hr7d); have p4 := (prg_cells hS7 (grown_below (Below.refl _ w7) (some R)) hRlt.out).1; have hS7 := Lib.hid hS7))
            go_region_dies
            all_goals
              refine (X.out _ hr7d hE7).mono ?_
              rintro e w4 ⟨rfl, hb4⟩
              exact ⟨rfl, ((hgr.out.trans hg7).trans (grown_below (Below.drew (Below.refl w7.heap.size w7)) _)).trans (grown_below hb4 _), rfl⟩
          | ok p2 =>
            obtain ⟨x, a⟩ := p2
            rw [andR_mk] at hcont
            have X := Lib.hid (fun w1 (hr : RD w1 R all (j + 1) line col) (hE : Env w1) => rname_calls R all (j + 1) line col w1 hr hE hm'.out hsh'.out x a hn2)
            have hja := Lib.hid (show vars.length + 1 ≤ a by have := (Sx.nameP_ok hn2).1; have := hlen.out; omega)
            have hcont' := Lib.hid hcont
            clear hS hcont hq hn2 ht1
            go_wp2_with (first | (go_at_call 49; refine I.out.mono ?_; rintro e w6 ⟨rfl, rfl⟩) | (go_at_call 50; refine N.out.mono ?_; rintro e w7 ⟨rfl, hg7, hr7⟩; have hS7 := hkp.out w7 hg7 hr7; have hr7d := hr7.below (Below.drew (Below.refl w7.heap.size w7)); have hE7 := (hEr.out.grown hg7 hR).grown (grown_below (Below.drew (Below.refl w7.heap.size w7)) _) hR; have hS0 := Lib.hid (prg_keep hRlt.out hS7 (grown_below (Below.drew (Below.refl w7.heap.size w7)) _) hr7d); have p4 := (prg_cells hS7 (grown_below (Below.refl _ w7) (some R)) hRlt.out).1; have hS7 := Lib.hid hS7))
            go_region_law (first
                | (refine step_append_lies _ (by rfl) (.tmp 14) (.tmp 19) 37 (by rfl) (W.heap.size + 2) 9 i0 (.string ⟨#[]⟩) 1 16 Tryd.underlying37 hi0 hz0 hz1 hz2 (by rfl) (by decide) (.slice Av vars.length cv) vars.length (vars.map Value.string) (by first | rfl | simp [Act.eval, Act.put]) (prg_vrow hS0.out hg4 hRlt.out _) ⟨w4.heap.size, 0, none⟩ 1 1 [.string x] (by first | rfl | simp [Act.eval, Act.put]) (by rfl) (World.news_of_block (cs := #[.string x]) (World.alloc_heap_new w4 _)) (own_one (u := .string x) rfl) (by decide) (k63 _ hpl.out) (k64b _ hpl.out) (prg_base hS0.out hg4 _) (w4.heap.size + 1) (by simp) ?_; intro g cap w5 hown hgrow hat hlt; obtain ⟨c5, d5, f5, e5⟩ := prg_after hS0.out hg4 hRlt.out (.inl rfl) hgrow)
                | (go_simp; go_at_call 51; refine (X.out _ hr7d hE7).mono ?_; rintro e w4 ⟨rfl, hg4, hr4⟩; obtain ⟨c4, d4, f4, e4, n4⟩ := prg_cells hS0.out hg4 hRlt.out; obtain ⟨c4a, d4a, f4a, e4a, n4a⟩ := prg_cells hS0.out (hg4.trans (grown_alloc w4 (Obj.cells #[Value.string x] 9) (some R))) hRlt.out))
            all_goals
              have h2 := Lib.hid (show PrgL2 n k1 W R all line col res k1 (w5.setCell ⟨W.heap.size + 1, 0, none⟩ (.slice (some ⟨g, 0, none⟩) (vars.length + 1) cap)) from
                ⟨_, _, _, _, _, prg_var hRlt.out hS0.out hg4 hr4 hown hgrow hat, hcont'.out, by have := hja.out; simp; omega⟩)
              clear hS0 hS7 hg4 hr4 hown hgrow hat hlt c5 d5 f5 e5 c4 d4 f4 e4 n4 c4a d4a f4a e4a n4a hr7d hE7 p4 hr7 hg7 hja hpl hkp hgr hEr N I X hcont'
              go_wp2
              go_loopg [] k1 (fun kq wr => PrgL2 n k1 W R all line col res kq wr)
              case atStart => exact h2.out
              case round =>
                clear h2
                obtain ⟨vars, j, va, ys, F, hS, hcont, hlen⟩ := hrel
                have hlen := Lib.hid hlen
                obtain ⟨⟨Av, cv, rfl⟩, _⟩ := prg_vals hS
                have hgr := Lib.hid ((grown_below ((Below.refl W.heap.size W).alloc (Nat.le_refl _) zero42) (some R)).trans hS.grown)
                cases gk with
                | zero => simp [Sx.moreP, Sx.andR] at hcont
                | succ k2 =>
                  cases hq : Sx.isP [44] (bare all) j
                  · rw [Sx.l2_no hq] at hcont
                    unfold Sx.contV Sx.mustP at hcont
                    have I := Lib.hid (is_b ⟨#[44]⟩ R all j line col false _ hS.rd hm'.out hq)
                    cases hq2 : Sx.isP [59] (bare all) j
                    · rw [hq2] at hcont
                      obtain rfl : .error j = res := by simpa [Sx.andR] using hcont
                      have M := Lib.hid (must_bad ⟨#[59]⟩ R all j line col _ hS.rd hm'.out hq2)
                      clear hS hcont hq hq2 hB'
                      go_wp2_with (first | (go_at_call 49; refine I.out.mono ?_; rintro e w6 ⟨rfl, rfl⟩) | (go_at_call 52; refine M.out.mono ?_; rintro e w1 ⟨rfl, hb1⟩))
                      exact ⟨rfl, hgr.out.trans (grown_below hb1 _), rfl⟩
                    · rw [hq2] at hcont
                      simp only [if_true] at hcont
                      rw [andR_mk] at hcont
                      have M := Lib.hid (must_ok ⟨#[59]⟩ R all j line col _ hS.rd hm'.out hq2)
                      have hS' := Lib.hid hS
                      have hcont' := Lib.hid hcont
                      clear hS hcont hq hq2 hB'
                      go_wp2_with (first | (go_at_call 49; refine I.out.mono ?_; rintro e w6 ⟨rfl, rfl⟩) | (go_at_call 52; refine M.out.mono ?_; rintro e w1 ⟨rfl, hg1, hr1⟩))
                      go_roundg k1
                      case measure => omega
                      case rel => exact ⟨_, _, _, _, _, prg_keep hRlt.out hS'.out hg1 hr1, hcont'.out, by have := hlen.out; omega⟩
                  · rw [Sx.l2_yes hq] at hcont
                    have I := Lib.hid (is_b ⟨#[44]⟩ R all j line col true _ hS.rd hm'.out hq)
                    obtain ⟨t1, ht1⟩ : ∃ t, all[j]? = some t := by
                      cases h2 : all[j]? with
                      | none => simp [Sx.isP, bare_at, h2] at hq
                      | some t => exact ⟨t, rfl⟩
                    have N := Lib.hid (next_calls R all j line col _ hS.rd hm'.out t1 ht1)
                    have hEr := Lib.hid (hE'.out.grown hS.grown hR)
                    have hkp := Lib.hid (fun w' hg (hr : RD w' R all (j + 1) line col) => prg_keep hRlt.out hS hg hr)
                    have hpl := Lib.hid (show vars.length ≤ 2000000 by have := hlen.out; have := hm0'.out; have := hS.rd.le; omega)
                    cases hn2 : Sx.nameP (bare all) (j + 1) with
                    | none => exact absurd hn2 (nameP_not _ _)
                    | some r2 =>
                      rw [hn2] at hcont
                      cases r2 with
                      | error e2 =>
                        obtain rfl : .error e2 = res := by simpa [Sx.andR] using hcont
                        have X := Lib.hid (fun w1 (hr : RD w1 R all (j + 1) line col) (hE : Env w1) => rname_fault R all (j + 1) line col w1 hr hE hm'.out hsh'.out e2 hn2)
                        clear hS hcont hq hB' hn2 ht1
                        go_wp2_with (first | (go_at_call 49; refine I.out.mono ?_; rintro e w6 ⟨rfl, rfl⟩) | (go_at_call 50; refine N.out.mono ?_; rintro e w7 ⟨rfl, hg7, hr7⟩; have hS7 := hkp.out w7 hg7 hr7; have hr7d := hr7.below (Below.drew (Below.refl w7.heap.size w7)); have hE7 := (hEr.out.grown hg7 hR).grown (grown_below (Below.drew (Below.refl w7.heap.size w7)) _) hR; have hS0 := Lib.hid (prg_keep hRlt.out hS7 (grown_below (Below.drew (Below.refl w7.heap.size w7)) _) hr7d); have p4 := (prg_cells hS7 (grown_below (Below.refl _ w7) (some R)) hRlt.out).1; have hS7 := Lib.hid hS7))
                        go_region_dies
                        all_goals
                          refine (X.out _ hr7d hE7).mono ?_
                          rintro e w4 ⟨rfl, hb4⟩
                          exact ⟨rfl, ((hgr.out.trans hg7).trans (grown_below (Below.drew (Below.refl w7.heap.size w7)) _)).trans (grown_below hb4 _), rfl⟩
                      | ok p2 =>
                        obtain ⟨x, a⟩ := p2
                        rw [andR_mk] at hcont
                        have X := Lib.hid (fun w1 (hr : RD w1 R all (j + 1) line col) (hE : Env w1) => rname_calls R all (j + 1) line col w1 hr hE hm'.out hsh'.out x a hn2)
                        have hja := Lib.hid (show vars.length + 1 ≤ a by have := (Sx.nameP_ok hn2).1; have := hlen.out; omega)
                        have hcont' := Lib.hid hcont
                        clear hS hcont hq hn2 ht1
                        go_wp2_with (first | (go_at_call 49; refine I.out.mono ?_; rintro e w6 ⟨rfl, rfl⟩) | (go_at_call 50; refine N.out.mono ?_; rintro e w7 ⟨rfl, hg7, hr7⟩; have hS7 := hkp.out w7 hg7 hr7; have hr7d := hr7.below (Below.drew (Below.refl w7.heap.size w7)); have hE7 := (hEr.out.grown hg7 hR).grown (grown_below (Below.drew (Below.refl w7.heap.size w7)) _) hR; have hS0 := Lib.hid (prg_keep hRlt.out hS7 (grown_below (Below.drew (Below.refl w7.heap.size w7)) _) hr7d); have p4 := (prg_cells hS7 (grown_below (Below.refl _ w7) (some R)) hRlt.out).1; have hS7 := Lib.hid hS7))
                        go_region_law (first
                      | (refine step_append_lies _ (by rfl) (.tmp 31) (.tmp 36) 37 (by rfl) (W.heap.size + 2) 9 i0 (.string ⟨#[]⟩) 1 16 Tryd.underlying37 hi0 hz0 hz1 hz2 (by rfl) (by decide) (.slice Av vars.length cv) vars.length (vars.map Value.string) (by first | rfl | simp [Act.eval, Act.put]) (prg_vrow hS0.out hg4 hRlt.out _) ⟨w4.heap.size, 0, none⟩ 1 1 [.string x] (by first | rfl | simp [Act.eval, Act.put]) (by rfl) (World.news_of_block (cs := #[.string x]) (World.alloc_heap_new w4 _)) (own_one (u := .string x) rfl) (by decide) (k63 _ hpl.out) (k64b _ hpl.out) (prg_base hS0.out hg4 _) (w4.heap.size + 1) (by simp) ?_; intro g cap w5 hown hgrow hat hlt; obtain ⟨c5, d5, f5, e5⟩ := prg_after hS0.out hg4 hRlt.out (.inl rfl) hgrow)
                      | (go_simp; go_at_call 51; refine (X.out _ hr7d hE7).mono ?_; rintro e w4 ⟨rfl, hg4, hr4⟩; obtain ⟨c4, d4, f4, e4, n4⟩ := prg_cells hS0.out hg4 hRlt.out; obtain ⟨c4a, d4a, f4a, e4a, n4a⟩ := prg_cells hS0.out (hg4.trans (grown_alloc w4 (Obj.cells #[Value.string x] 9) (some R))) hRlt.out))
                        all_goals
                          have h2 := Lib.hid (prg_var hRlt.out hS0.out hg4 hr4 hown hgrow hat)
                          clear hS0 hS7 hg4 hr4 hown hgrow hat hlt c5 d5 f5 e5 c4 d4 f4 e4 n4 c4a d4a f4a e4a n4a hr7d hE7 p4 hr7 hg7
                          go_wp2
                          go_roundg k2
                          case measure => omega
                          case rel => exact ⟨_, _, _, _, _, h2.out, hcont'.out, by have := hja.out; simp; omega⟩
end Go.Proofs.YtifmalbdolpocaaDoor
