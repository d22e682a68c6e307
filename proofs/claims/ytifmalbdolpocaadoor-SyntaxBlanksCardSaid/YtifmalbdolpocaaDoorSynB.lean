/-
  The walks of package syntax, second part: the tokens that are left: is, next, fail, must, name.
-/
import Derived.Test.YtifmalbdolpocaaDoorSynA
import Derived.Test.YtifmalbdolpocaaDoorWalkG
import Derived.RegionDies
namespace Go.Proofs.YtifmalbdolpocaaDoor
open Go.RowKit Go.Shelf

/-- Tokens' kinds and texts. -/
def bare (l : List ITok) : List Sx.PT := l.map fun t => (t.kind, t.text)
theorem bare_at (l : List ITok) (i : Nat) : (bare l)[i]? = (l[i]?).map fun t => (t.kind, t.text) := by simp [bare]
/-- A reader in a block of its own, at a place of its tokens. -/
structure RD (W : World) (R : Nat) (all : List ITok) (i : Nat) (line col : Int) : Prop where
  le : i ≤ all.length
  cell : ∃ A cp, W.heap[R]? = some (.cells #[.slice A (all.length - i) cp, .int .i64 line, .int .i64 col] 74 (0, 0)) ∧ all.length - i ≤ cp ∧ (∀ ad, A = some ad → ad.block < R) ∧ Toks W A (all.drop i)
theorem RD.lt {W : World} {R i : Nat} {all : List ITok} {line col : Int} (h : RD W R all i line col) : R < W.heap.size := by
  obtain ⟨A, cp, hc, _⟩ := h.cell
  exact (Array.getElem?_eq_some_iff.1 hc).1
theorem RD.below {W W' : World} {R i : Nat} {all : List ITok} {line col : Int} (h : RD W R all i line col) (hb : Below W.heap.size W W') : RD W' R all i line col := by
  obtain ⟨A, cp, hc, h1, h2, h3⟩ := h.cell
  exact ⟨h.le, A, cp, (hb.block R h.lt).trans hc, h1, h2, h3.below hb⟩
theorem RD.keep {W W' : World} {R i : Nat} {all : List ITok} {line col : Int} (h : RD W R all i line col) (hb : ∀ g, g ≤ R → W'.heap[g]? = W.heap[g]?) : RD W' R all i line col := by
  obtain ⟨A, cp, hc, h1, h2, h3⟩ := h.cell
  have hlt' : R < W'.heap.size := (Array.getElem?_eq_some_iff.1 ((hb R (Nat.le_refl _)).trans hc)).1
  refine ⟨h.le, A, cp, (hb R (Nat.le_refl _)).trans hc, h1, h2, ?_⟩
  intro k t hk
  obtain ⟨ad, e, hlt, q0, q1, q2, q3⟩ := h3 k t hk
  have hR := h2 ad e
  have cb : ∀ p : Addr, p.block = ad.block → W'.cell? p = W.cell? p := fun p hp => World.cell?_of_block (by rw [hp]; exact hb _ (Nat.le_of_lt hR))
  have hbk : (ad.add (k * 4)).block = ad.block := by unfold Addr.add; split <;> rfl
  exact ⟨ad, e, Nat.lt_trans hR hlt', (cb (ad.add (k * 4)) hbk).trans q0, (cb ⟨(ad.add (k * 4)).block, (ad.add (k * 4)).off + 1, none⟩ hbk).trans q1, (cb ⟨(ad.add (k * 4)).block, (ad.add (k * 4)).off + 2, none⟩ hbk).trans q2, (cb ⟨(ad.add (k * 4)).block, (ad.add (k * 4)).off + 3, none⟩ hbk).trans q3⟩
theorem toks_head {W : World} {A : Option Addr} {l : List ITok} {t : ITok} (h : Toks W A (t :: l)) : ∃ ad, A = some ad ∧ ad.block < W.heap.size ∧ W.cell? ad = some (.int .i64 t.kind) ∧
    W.cell? ⟨ad.block, ad.off + 1, none⟩ = some (.string t.text) ∧ W.cell? ⟨ad.block, ad.off + 2, none⟩ = some (.int .i64 t.line) ∧ W.cell? ⟨ad.block, ad.off + 3, none⟩ = some (.int .i64 t.col) := by
  obtain ⟨ad, e, hlt, h0, h1, h2, h3⟩ := h 0 t rfl
  have e0 : ad.add (0 * 4) = ad := by simp [Addr.add]
  rw [e0] at h0 h1 h2 h3
  exact ⟨ad, e, hlt, h0, h1, h2, h3⟩
theorem add_add4 (ad : Addr) (k : Nat) : (ad.add 4).add (k * 4) = ad.add ((k + 1) * 4) := by
  unfold Addr.add
  by_cases hk : k * 4 = 0
  · have : k = 0 := by omega
    subst this; simp
  · have h2 : (k + 1) * 4 ≠ 0 := by omega
    simp [hk, h2]; omega
theorem toks_tail {W : World} {ad : Addr} {l : List ITok} {t : ITok} (h : Toks W (some ad) (t :: l)) : Toks W (some (ad.add 4)) l := by
  intro k u hk
  obtain ⟨ae, e, hlt, h0, h1, h2, h3⟩ := h (k + 1) u (by simpa using hk)
  cases e
  have hb : (ad.add 4).block = ad.block := by unfold Addr.add; split <;> rfl
  refine ⟨ad.add 4, rfl, by rw [hb]; exact hlt, ?_, ?_, ?_, ?_⟩
  all_goals rw [add_add4]
  · exact h0
  · exact h1
  · exact h2
  · exact h3
theorem drop_head {all : List ITok} {i : Nat} (h : i < all.length) : all.drop i = all[i] :: all.drop (i + 1) := List.drop_eq_getElem_cons h
/-- Where a fault is told. -/
def placeAt (all : List ITok) (i : Nat) (line col : Int) : Int × Int := match all[i]? with | some t => (t.line, t.col) | none => (line, col)
def faultS (p : Int × Int) : PanicEntry := { v := .iface 68 (.agg #[.int .i64 p.1, .int .i64 p.2]), recovered := false }

set_option maxHeartbeats 1000000 in
theorem is_calls (s : ByteArray) (R : Nat) (all : List ITok) (i : Nat) (line col : Int) (W : World) (h : RD W R all i line col) (hm : all.length ≤ 9223372036854775807) :
    Calls Tryd.prog 49 #[.pointer (some ⟨R, 0, none⟩), .string s] W fun e W' => e = .returned (.bool (Sx.isP s.data.toList (bare all) i)) ∧ W = W' := by
  obtain ⟨A, cp, hc, _, _, hT⟩ := h.cell
  have c0 : W.cell? ⟨R, 0, none⟩ = some (.slice A (all.length - i) cp) := by rw [Lib.cell_of_heap hc]; rfl
  by_cases hi : i < all.length
  · have hd : all.drop i = all[i] :: all.drop (i + 1) := drop_head hi
    rw [hd] at hT
    obtain ⟨ad, rfl, _, d0, d1, e2, e3⟩ := toks_head hT
    have hP : Sx.isP s.data.toList (bare all) i = ((all[i].text.data.toList == s.data.toList) && (all[i].kind != 2)) := by
      simp [Sx.isP, bare_at, List.getElem?_eq_getElem hi]
    generalize all[i] = t at d0 d1 hP
    have hn : 0 < all.length - i := by omega
    have hn2 : all.length - i ≤ 9223372036854775807 := by omega
    generalize all.length - i = n at c0 hn hn2
    have hq : (t.text.toList == s.toList) = (t.text.data.toList == s.data.toList) := by rw [ByteArray.toList_eq, ByteArray.toList_eq]
    cases h1 : (t.text.data.toList == s.data.toList) <;> cases h2 : (t.kind != 2)
    all_goals
      rw [h1] at hq
      rw [h1, h2] at hP
      rw [hP]
      clear hT hc h hd hP h1 e2 e3 hi hm
      go_enter Tryd.func49, Tryd.ntmps49
      go_wp2
      go_ret
      exact ⟨rfl, rfl⟩
  · have hP : Sx.isP s.data.toList (bare all) i = false := by
      simp [Sx.isP, bare_at, List.getElem?_eq_none (Nat.le_of_not_lt hi)]
    rw [hP]
    have hn : all.length - i = 0 := by omega
    rw [hn] at c0
    clear hT hc h hP hi hm hn
    go_enter Tryd.func49, Tryd.ntmps49
    go_wp2
    go_ret
    exact ⟨rfl, rfl⟩

set_option maxHeartbeats 1000000 in
theorem next_calls (R : Nat) (all : List ITok) (i : Nat) (line col : Int) (W : World) (h : RD W R all i line col) (hm : all.length ≤ 9223372036854775807) (t : ITok) (ht : all[i]? = some t) :
    Calls Tryd.prog 50 #[.pointer (some ⟨R, 0, none⟩)] W fun e W' => e = .returned (.string t.text) ∧ W.grownBy W' (some R) ∧ RD W' R all (i + 1) line col := by
  obtain ⟨A, cp, hc, hcp, hne, hT⟩ := h.cell
  have hi : i < all.length := (List.getElem?_eq_some_iff.1 ht).1
  have hti : all[i] = t := by rw [List.getElem?_eq_getElem hi] at ht; exact Option.some.inj ht
  have c0 : W.cell? ⟨R, 0, none⟩ = some (.slice A (all.length - i) cp) := by rw [Lib.cell_of_heap hc]; rfl
  have hd : all.drop i = t :: all.drop (i + 1) := by rw [drop_head hi, hti]
  rw [hd] at hT
  obtain ⟨ad, rfl, _, d0, d1, _, _⟩ := toks_head hT
  have hf : W.frozen? ⟨R, 0, none⟩ = false := Lib.frozen_of_heap hc 0
  have hn : 1 ≤ all.length - i := by omega
  have hn1 : all.length - i - 1 = all.length - (i + 1) := by omega
  have hn2 : all.length - i ≤ 9223372036854775807 := by omega
  have hb : (ad.add 4).block = ad.block := by unfold Addr.add; split <;> rfl
  have hadR0 := hne ad rfl
  have hadR : ad.block ≠ R := Nat.ne_of_lt hadR0
  have hfin := Lib.hid (show ∀ cp', all.length - (i + 1) ≤ cp' → RD (W.setCell ⟨R, 0, none⟩ (.slice (some (ad.add 4)) (all.length - (i + 1)) cp')) R all (i + 1) line col from fun cp' hcp' => by
    refine ⟨hi, some (ad.add 4), cp', ?_, hcp', ?_, ?_⟩
    · simp [World.setCell, Array.getElem?_modify, hc]
    · intro ae e; cases e; rw [hb]; exact hadR0
    · have hk := toks_tail hT
      intro k u hu
      obtain ⟨ae, e, hlt, q0, q1, q2, q3⟩ := hk k u hu
      cases e
      have hbl : ∀ m, ((ad.add 4).add m).block = ad.block := fun m => by rw [show ((ad.add 4).add m).block = (ad.add 4).block by unfold Addr.add; split <;> rfl, hb]
      have cb : ∀ p : Addr, p.block = ad.block → (W.setCell ⟨R, 0, none⟩ (.slice (some (ad.add 4)) (all.length - (i + 1)) cp')).cell? p = W.cell? p := fun p hp => World.cell?_of_block (Below.heap_setCell _ _ _ _ (by rw [hp]; exact hadR))
      refine ⟨ad.add 4, rfl, by simpa [World.setCell] using hlt, (cb _ (hbl _)).trans q0, (cb ⟨((ad.add 4).add (k * 4)).block, ((ad.add 4).add (k * 4)).off + 1, none⟩ (hbl _)).trans q1, (cb ⟨((ad.add 4).add (k * 4)).block, ((ad.add 4).add (k * 4)).off + 2, none⟩ (hbl _)).trans q2,
        (cb ⟨((ad.add 4).add (k * 4)).block, ((ad.add 4).add (k * 4)).off + 3, none⟩ (hbl _)).trans q3⟩)
  have h4 : ad.add 4 = ⟨ad.block, ad.off + 4, none⟩ := by simp [Addr.add]
  rw [h4] at hfin
  have hfin1 := Lib.hid (show cp = 1 → RD (W.setCell ⟨R, 0, none⟩ (.slice (some ad) (all.length - (i + 1)) 0)) R all (i + 1) line col from fun hcp1 => by
    have he : all.length - (i + 1) = 0 := by omega
    refine ⟨hi, some ad, 0, ?_, by omega, ?_, ?_⟩
    · simp [World.setCell, Array.getElem?_modify, hc]
    · intro ae e; cases e; exact hadR0
    · rw [List.drop_of_length_le (by omega)]
      intro k u hu
      simp at hu)
  have hgr := Lib.hid (show ∀ v, W.grownBy (W.setCell ⟨R, 0, none⟩ v) (some R) from fun v => grownBy_setCell' _ _ _)
  rw [← hn1] at hfin hfin1
  generalize hnn : all.length - i = n at c0 hn hn2 hcp hfin hfin1
  have hnn' := Lib.hid hnn
  have hcp' := Lib.hid hcp
  clear hT hc h hd hi ht hti hn1 hm hnn hne h4 hb hadR hadR0
  go_enter Tryd.func50, Tryd.ntmps50
  go_wp2
  · go_ret
    exact ⟨rfl, hgr.out _, hfin1.out (by assumption)⟩
  · go_ret
    exact ⟨rfl, hgr.out _, hfin.out _ (by have := hcp'.out; omega)⟩

set_option maxHeartbeats 2000000 in
theorem fail_calls (R : Nat) (all : List ITok) (i : Nat) (line col : Int) (W : World) (h : RD W R all i line col) (hm : all.length ≤ 9223372036854775807) :
    Calls Tryd.prog 70 #[.pointer (some ⟨R, 0, none⟩)] W fun e W' => e = .panicked [faultS (placeAt all i line col)] ∧ Below W.heap.size W W' := by
  obtain ⟨A, cp, hc, _, _, hT⟩ := h.cell
  have c0 : W.drew.cell? ⟨R, 0, none⟩ = some (.slice A (all.length - i) cp) := by
    show W.cell? ⟨R, 0, none⟩ = _
    rw [Lib.cell_of_heap hc]; rfl
  have c1 : W.drew.cell? ⟨R, 1, none⟩ = some (.int .i64 line) := by
    show W.cell? ⟨R, 1, none⟩ = _
    rw [Lib.cell_of_heap hc]; rfl
  have c2 : W.drew.cell? ⟨R, 2, none⟩ = some (.int .i64 col) := by
    show W.cell? ⟨R, 2, none⟩ = _
    rw [Lib.cell_of_heap hc]; rfl
  have hB : Below W.heap.size W W.drew := Below.drew (Below.refl _ W)
  have b0 : W.cell? ⟨R, 0, none⟩ = some (.slice A (all.length - i) cp) := c0
  by_cases hi : i < all.length
  · have hd : all.drop i = all[i] :: all.drop (i + 1) := drop_head hi
    rw [hd] at hT
    obtain ⟨ad, rfl, _, d0, d1, d2, d3⟩ := toks_head hT
    have hP : placeAt all i line col = (all[i].line, all[i].col) := by simp [placeAt, List.getElem?_eq_getElem hi]
    rw [hP]
    generalize all[i] = t at d0 d1 d2 d3
    have hn : 0 < all.length - i := by omega
    have hn2 : all.length - i ≤ 9223372036854775807 := by omega
    generalize all.length - i = n at c0 b0 hn hn2
    have d2' : W.drew.cell? ⟨ad.block, ad.off + 2, none⟩ = some (.int .i64 t.line) := d2
    have d3' : W.drew.cell? ⟨ad.block, ad.off + 3, none⟩ = some (.int .i64 t.col) := d3
    clear hT hc h hd hi hm d0 d1 d2 d3 c1 c2 hP
    go_enter Tryd.func70, Tryd.ntmps70
    go_wp2
    go_region_dies
    all_goals exact ⟨rfl, rfl, hB⟩
  · have hP : placeAt all i line col = (line, col) := by simp [placeAt, List.getElem?_eq_none (Nat.le_of_not_lt hi)]
    rw [hP]
    have hn : all.length - i = 0 := by omega
    rw [hn] at c0 b0
    clear hT hc h hi hm hn hP
    go_enter Tryd.func70, Tryd.ntmps70
    go_wp2
    go_region_dies
    all_goals exact ⟨rfl, rfl, hB⟩

set_option maxHeartbeats 1000000 in
theorem must_ok (s : ByteArray) (R : Nat) (all : List ITok) (i : Nat) (line col : Int) (W : World) (h : RD W R all i line col) (hm : all.length ≤ 9223372036854775807) (his : Sx.isP s.data.toList (bare all) i = true) :
    Calls Tryd.prog 52 #[.pointer (some ⟨R, 0, none⟩), .string s] W fun e W' => e = .returned (.tuple #[]) ∧ W.grownBy W' (some R) ∧ RD W' R all (i + 1) line col := by
  have I := is_calls s R all i line col W h hm
  rw [his] at I
  have I := Lib.hid I
  obtain ⟨t, ht⟩ : ∃ t, all[i]? = some t := by
    cases ht : all[i]? with
    | none => simp [Sx.isP, bare_at, ht] at his
    | some t => exact ⟨t, rfl⟩
  have N := Lib.hid (next_calls R all i line col W h hm t ht)
  clear h his ht
  go_enter Tryd.func52, Tryd.ntmps52
  go_wp2_with (first | (go_at_call 49; refine I.out.mono ?_; rintro e w1 ⟨rfl, rfl⟩) | (go_at_call 50; refine N.out.mono ?_; rintro e w1 ⟨rfl, hg, hr⟩))
  go_end0
  exact ⟨rfl, hg, hr⟩
set_option maxHeartbeats 1000000 in
theorem must_bad (s : ByteArray) (R : Nat) (all : List ITok) (i : Nat) (line col : Int) (W : World) (h : RD W R all i line col) (hm : all.length ≤ 9223372036854775807) (his : Sx.isP s.data.toList (bare all) i = false) :
    Calls Tryd.prog 52 #[.pointer (some ⟨R, 0, none⟩), .string s] W fun e W' => e = .panicked [faultS (placeAt all i line col)] ∧ Below W.heap.size W W' := by
  have I := is_calls s R all i line col W h hm
  rw [his] at I
  have I := Lib.hid I
  have N := Lib.hid (fail_calls R all i line col W h hm)
  clear h his
  go_enter Tryd.func52, Tryd.ntmps52
  go_wp2_with (first | (go_at_call 49; refine I.out.mono ?_; rintro e w1 ⟨rfl, rfl⟩) | (go_at_call 70; refine N.out.mono ?_; rintro e w1 ⟨rfl, hb⟩))
  exact ⟨rfl, rfl, hb⟩

/-- Tokens' texts are not too long. -/
def Short (all : List ITok) : Prop := ∀ t ∈ all, t.text.size ≤ 281474976710656
set_option maxHeartbeats 1000000 in
theorem rname_ok (R : Nat) (all : List ITok) (i : Nat) (line col : Int) (W : World) (h : RD W R all i line col) (hE : Env W) (hm : all.length ≤ 9223372036854775807) (hsh : Short all) (t : ITok) (ht : all[i]? = some t) (hn : Sx.nameB t.text.data.toList = true) :
    Calls Tryd.prog 51 #[.pointer (some ⟨R, 0, none⟩)] W fun e W' => e = .returned (.string t.text) ∧ W.grownBy W' (some R) ∧ RD W' R all (i + 1) line col := by
  have N := name_calls t.text (hsh t (List.mem_of_getElem? ht)) W hE
  rw [hn] at N
  have N := Lib.hid N
  have X := Lib.hid (fun w1 (hb : Below W.heap.size W w1) => next_calls R all i line col w1 (h.below hb) hm t ht)
  obtain ⟨A, cp, hc, _, _, hT⟩ := h.cell
  have hi : i < all.length := (List.getElem?_eq_some_iff.1 ht).1
  have hti : all[i] = t := by rw [List.getElem?_eq_getElem hi] at ht; exact Option.some.inj ht
  have c0 : W.cell? ⟨R, 0, none⟩ = some (.slice A (all.length - i) cp) := by rw [Lib.cell_of_heap hc]; rfl
  have hd : all.drop i = t :: all.drop (i + 1) := by rw [drop_head hi, hti]
  rw [hd] at hT
  obtain ⟨ad, rfl, _, d0, d1, e2, e3⟩ := toks_head hT
  have hn1 : 0 < all.length - i := by omega
  have hn2 : all.length - i ≤ 9223372036854775807 := by omega
  have hn3 : ((all.length - i : Nat) == 0) = false := by simp; omega
  generalize all.length - i = n at c0 hn1 hn2 hn3
  clear hT hc h hd hi ht hti hm hE hn e2 e3
  go_enter Tryd.func51, Tryd.ntmps51
  go_wp2_with (first | (go_at_call 54; refine N.out.mono ?_; rintro e w1 ⟨rfl, hb⟩) | (go_at_call 50; refine (X.out _ hb).mono ?_; rintro e w2 ⟨rfl, hg, hr⟩))
  go_ret
  exact ⟨rfl, (grown_below hb _).trans hg, hr⟩
set_option maxHeartbeats 1000000 in
theorem rname_bad (R : Nat) (all : List ITok) (i : Nat) (line col : Int) (W : World) (h : RD W R all i line col) (hE : Env W) (hm : all.length ≤ 9223372036854775807) (hsh : Short all) (hn : ∀ t, all[i]? = some t → Sx.nameB t.text.data.toList = false) :
    Calls Tryd.prog 51 #[.pointer (some ⟨R, 0, none⟩)] W fun e W' => e = .panicked [faultS (placeAt all i line col)] ∧ Below W.heap.size W W' := by
  obtain ⟨A, cp, hc, _, _, hT⟩ := h.cell
  have c0 : W.cell? ⟨R, 0, none⟩ = some (.slice A (all.length - i) cp) := by rw [Lib.cell_of_heap hc]; rfl
  by_cases hi : i < all.length
  · have hd : all.drop i = all[i] :: all.drop (i + 1) := drop_head hi
    rw [hd] at hT
    obtain ⟨ad, rfl, _, d0, d1, e2, e3⟩ := toks_head hT
    have N := name_calls all[i].text (hsh _ (List.getElem_mem hi)) W hE
    rw [hn all[i] (List.getElem?_eq_getElem hi)] at N
    have N' := Lib.hid N
    clear N
    have F := Lib.hid (fun w1 (hb : Below W.heap.size W w1) => fail_calls R all i line col w1 (h.below hb) hm)
    generalize all[i] = t at d0 d1 N' e2 e3
    have hn1 : 0 < all.length - i := by omega
    have hn2 : all.length - i ≤ 9223372036854775807 := by omega
    have hn3 : ((all.length - i : Nat) == 0) = false := by simp; omega
    generalize all.length - i = n at c0 hn1 hn2 hn3
    clear hT hc h hd hi hm hE hn e2 e3
    go_enter Tryd.func51, Tryd.ntmps51
    go_wp2_with (first | (go_at_call 54; refine N'.out.mono ?_; rintro e w1 ⟨rfl, hb⟩) | (go_at_call 70; refine (F.out _ hb).mono ?_; rintro e w2 ⟨rfl, hb2⟩))
    exact ⟨rfl, rfl, below_chain hb hb2⟩
  · have F := Lib.hid (fail_calls R all i line col W h hm)
    have hn0 : all.length - i = 0 := by omega
    rw [hn0] at c0
    clear hT hc h hi hm hn hn0 hE
    go_enter Tryd.func51, Tryd.ntmps51
    go_wp2_with (go_at_call 70; refine F.out.mono ?_; rintro e w2 ⟨rfl, hb2⟩)
    exact ⟨rfl, rfl, hb2⟩
end Go.Proofs.YtifmalbdolpocaaDoor
