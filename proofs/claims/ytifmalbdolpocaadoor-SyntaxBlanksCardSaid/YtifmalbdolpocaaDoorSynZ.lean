/-
  The walks of package syntax, twenty-first part: Parse, behind Split.
-/
import Derived.Test.YtifmalbdolpocaaDoorSynY
import Derived.Test.YtifmalbdolpocaaDoorWalkM
import Derived.OwnWalk
namespace Go.Proofs.YtifmalbdolpocaaDoor
open Go.RowKit Go.Shelf

theorem row_short {s : List Wd.B} : ∀ {l : List Wd.Tok} {a : Nat}, Wd.Row s a l → ∀ t ∈ l, t.text.length ≤ s.length
  | [], _, _, t, h => by simp at h
  | u :: r, a, ⟨o, _, h, hr⟩, t, ht => by
    rcases List.mem_cons.1 ht with rfl | ht
    · have := h.fits; omega
    · exact row_short hr t ht
theorem toks_short (s : ByteArray) (hs : s.size ≤ 1048576) : Short ((Wd.toks (s.size + 1) s.data.toList 1 1).1.map itok) := by
  intro t ht
  obtain ⟨u, hu, rfl⟩ := List.mem_map.1 ht
  have h := row_short (Wd.toks_row s.data.toList (s.size + 1) 0 1 1 (Nat.zero_le _) (by simp) (by simp [Wd.cl_nil])) u hu
  show u.text.toArray.size ≤ _
  simp at h ⊢
  omega
theorem split_ok {s : ByteArray} (hz : (splitR s).2.2.2 = 0) : s.size ≤ 1048576 ∧ splitR s = ((Wd.toks (s.size + 1) s.data.toList 1 1).1, 0, 0, 0) ∧ (Wd.toks (s.size + 1) s.data.toList 1 1).2 = none := by
  unfold splitR at hz ⊢
  by_cases hb : 1048576 < s.size
  · rw [if_pos hb] at hz; simp at hz
  · rw [if_neg hb] at hz ⊢
    split at hz
    · simp at hz
    · rename_i h
      rw [h]
      exact ⟨by omega, rfl, rfl⟩
/-- Tokens that Split has laid, in blocks from base on. -/
structure TokV (base : Nat) (w : World) (A : Option Addr) (cp : Nat) (all : List ITok) : Prop where
  toks : Toks w A all
  cap : all.length ≤ cp
  far : ∀ ad, A = some ad → base ≤ ad.block ∧ ad.block < w.heap.size
theorem TokV.set {base b k : Nat} {w : World} {A : Option Addr} {cp : Nat} {all : List ITok} (h : TokV base w A cp all) (hb : b < base) (v : Value) : TokV base (w.setCell ⟨b, k, none⟩ v) A cp all := by
  have hs : (w.setCell ⟨b, k, none⟩ v).heap.size = w.heap.size := by simp [World.setCell]
  refine ⟨?_, h.cap, fun ad e => by rw [hs]; exact h.far ad e⟩
  intro i t hi
  obtain ⟨ad, e, hlt, h0, h1, h2, h3⟩ := h.toks i t hi
  have hf := (h.far ad e).1
  have hbk : (ad.add (i * 4)).block = ad.block := by unfold Addr.add; split <;> rfl
  have cb : ∀ p : Addr, p.block = ad.block → (w.setCell ⟨b, k, none⟩ v).cell? p = w.cell? p := fun p hp => World.cell?_of_block (Below.heap_setCell _ _ _ _ (by simp [hp]; omega))
  refine ⟨ad, e, by rw [hs]; exact hlt, (cb _ hbk).trans h0, (cb ⟨(ad.add (i * 4)).block, (ad.add (i * 4)).off + 1, none⟩ hbk).trans h1, (cb ⟨(ad.add (i * 4)).block, (ad.add (i * 4)).off + 2, none⟩ hbk).trans h2, (cb ⟨(ad.add (i * 4)).block, (ad.add (i * 4)).off + 3, none⟩ hbk).trans h3⟩
theorem tokV_of_row {w : World} {base : Nat} {v : Value} {l : List Wd.Tok} (h : w.ownsRow base 29 4 v l.length (rowCells l)) : ∃ A cp, v = .slice A (l.map itok).length cp ∧ TokV base w A cp (l.map itok) := by
  obtain ⟨A, cp, rfl, hT⟩ := toks_of_row h
  refine ⟨A, cp, by rw [List.length_map], hT, ?_, ?_⟩
  · rw [List.length_map]
    rcases h.2 with ⟨e, h0⟩ | ⟨g, cap, cur, e, _, hg, hc, _⟩
    · omega
    · cases e; exact hc
  · intro ad e
    rcases h.2 with ⟨e2, h0⟩ | ⟨g, cap, cur, e2, hbs, hg, hc, _⟩
    · injection e2 with e3 _ _; rw [e] at e3; cases e3
    · injection e2 with e3 _ _; rw [e] at e3; cases e3; exact ⟨hbs, (Array.getElem?_eq_some_iff.1 hg).1⟩
theorem rd_start {base R : Nat} {w : World} {A : Option Addr} {cp : Nat} {all : List ITok} (h : TokV base w A cp all) (line col : Int) (hR : R = w.heap.size) :
    RD (w.alloc (Obj.cells #[.slice A all.length cp, .int .i64 line, .int .i64 col] 74)) R all 0 line col := by
  subst hR
  exact ⟨Nat.zero_le _, A, cp, World.alloc_heap_new w _, by simpa using h.cap, fun ad e => (h.far ad e).2, h.toks.below ((Below.refl _ w).alloc (Nat.le_refl _) _)⟩
theorem parse_results_c {B : Nat} {W : World} {a0 a1 l c e : Value} (c0 : W.cell? ⟨B, 0, none⟩ = some a0) (c4 : W.cell? ⟨B, 1, none⟩ = some a1) (c1 : W.cell? ⟨B + 1, 0, none⟩ = some l) (c2 : W.cell? ⟨B + 1 + 1, 0, none⟩ = some c) (c3 : W.cell? ⟨B + 1 + 1 + 1, 0, none⟩ = some e)
    (tmps : Array Value) (h2 : tmps[2]? = some (.pointer (some ⟨B, 0, none⟩))) (h3 : tmps[3]? = some (.pointer (some ⟨B + 1, 0, none⟩)))
    (h4 : tmps[4]? = some (.pointer (some ⟨B + 1 + 1, 0, none⟩))) (h5 : tmps[5]? = some (.pointer (some ⟨B + 1 + 1 + 1, 0, none⟩))) : (results Tryd.f13 tmps).run Tryd.prog W = .ok (.tuple #[.agg #[a0, a1], l, c, e]) W := by
  generalize B + 1 + 1 + 1 = B3 at *
  generalize B + 1 + 1 = B2 at *
  generalize B + 1 = B1 at *
  simp [results, Tryd.results13, go_sem, h2, h3, h4, h5, c0, c1, c2, c3, c4]
/-- The world in which the reader stands. -/
def rdW (B : Nat) (w1 : World) (A : Option Addr) (n cp : Nat) (line col : Int) : World :=
  (((w1.setCell ⟨B + 1, 0, none⟩ (.int .i64 0)).setCell ⟨B + 1 + 1, 0, none⟩ (.int .i64 0)).setCell ⟨B + 1 + 1 + 1, 0, none⟩ (.int .i64 0)).alloc (Obj.cells #[.slice A n cp, .int .i64 line, .int .i64 col] 74)
theorem rdW_all {w w1 : World} {A : Option Addr} {cp : Nat} {all : List ITok} {line col : Int} (hT : TokV (W4 w).heap.size w1 A cp all) (hb : Below (W4 w).heap.size (W4 w) w1) (hP : PBox w.heap.size w1 (.slice none 0 0) (.slice none 0 0) (.int .i64 0) (.int .i64 0) (.int .i64 0)) :
    RD (rdW w.heap.size w1 A all.length cp line col) w1.heap.size all 0 line col ∧ Below w.heap.size w (rdW w.heap.size w1 A all.length cp line col) ∧ PBox w.heap.size (rdW w.heap.size w1 A all.length cp line col) (.slice none 0 0) (.slice none 0 0) (.int .i64 0) (.int .i64 0) (.int .i64 0) ∧ w.heap.size + 4 ≤ w1.heap.size := by
  have hz := W4_size w
  have hs : (((w1.setCell ⟨w.heap.size + 1, 0, none⟩ (.int .i64 0)).setCell ⟨w.heap.size + 1 + 1, 0, none⟩ (.int .i64 0)).setCell ⟨w.heap.size + 1 + 1 + 1, 0, none⟩ (.int .i64 0)).heap.size = w1.heap.size := by simp [World.setCell]
  have h4 : w.heap.size + 4 ≤ w1.heap.size := by rw [← hz]; exact hb.size
  unfold rdW
  refine ⟨rd_start (((hT.set (by omega) _).set (by omega) _).set (by omega) _) line col hs.symm, ?_, ?_, h4⟩
  · have hp := fun (W : World) (h : Below w.heap.size w W) (j k : Nat) (v : Value) => h.setCell (p := ⟨w.heap.size + j, k, none⟩) (Nat.le_add_right _ _) v
    exact (hp _ (hp _ (hp _ (below_chain (W4_below w) hb) 1 0 _) 2 0 _) 3 0 _).alloc (by rw [hs]; omega) _
  · exact (((hP.putL _).putC _).putE _).keep fun q h1 h2 => Lib.alloc_old _ _ _ (by rw [hs]; omega)
set_option maxRecDepth 100000 in
set_option maxHeartbeats 4000000 in
theorem parse_syn (s : ByteArray) (w : World) (hE : Env w) (hw : 4 ≤ w.heap.size) (hmany : ¬ 1048576 < s.size → (Wd.toks (s.size + 1) s.data.toList 1 1).1.length ≤ 65536) (hz : (splitR s).2.2.2 = 0) (all : List ITok) (hall : all = (splitR s).1.map itok) (j : Nat)
    (hp : Sx.programP (Sx.fuelOf (bare all)) (bare all) 0 = some (.error j)) (line col : Int) (hline : line = ((1 + s.data.toList.count 10 : Nat) : Int)) (hcol : col = ((Wd.cl s.data.toList + 1 : Nat) : Int)) :
    Calls Tryd.prog 13 #[.string s] w (ParsePost w (⟨[], []⟩, (placeAt all j line col).1, (placeAt all j line col).2, 200)) := by
  obtain ⟨hss, hsp, hnone⟩ := split_ok hz
  have hm0 : all.length ≤ 65536 := by rw [hall, hsp, List.length_map]; exact hmany (by omega)
  have hsh : Short all := by rw [hall, hsp]; exact toks_short s hss
  have S0 := split_calls s (W4 w) (hE.below (W4_below w)) (by omega) hmany
  have S := Lib.hid (S0.mono fun e w' ⟨v, he, hrow, hb⟩ => show ∃ A cp, e = Ending.returned (.tuple #[.slice A all.length cp, .int .i64 0, .int .i64 0, .int .i64 0]) ∧ TokV (W4 w).heap.size w' A cp all ∧ Below (W4 w).heap.size (W4 w) w' from by
    rw [hsp] at he hrow
    obtain ⟨A, cp, rfl, hT⟩ := tokV_of_row hrow
    rw [hall, hsp]
    exact ⟨A, cp, he, hT, hb⟩)
  have hpl := place_calls s (by omega) s.size (Nat.le_refl _)
  rw [show s.data.toList.take s.size = s.data.toList from List.take_of_length_le (by simp), ← hline, ← hcol] at hpl
  have hpl := Lib.hid hpl
  have P := Lib.hid (fun R W (h : RD W R all 0 line col) (hE : Env W) (hR : 4 ≤ R) => program_calls (Sx.fuelOf (bare all)) R all line col _ hp W h hE hR (by omega) hsh (by unfold Sx.fuelOf; rw [bare_length]; omega))
  have hB := Lib.hid (W4_below w)
  have hbx := Lib.hid (W4_box w)
  have hsz := Lib.hid (W4_size w)
  have hEh := Lib.hid hE
  have hall3 := Lib.hid (fun w1 A cp (hT : TokV (W4 w).heap.size w1 A cp all) (hb : Below (W4 w).heap.size (W4 w) w1) hP => rdW_all (line := line) (col := col) hT hb hP)
  unfold W4 at S hB hbx hsz hall3
  have hmf : ∀ (fn : Fn) (first cap : Array Value) (w : World), (Instr.makeFunc fn first cap).run Tryd.prog w = .ok (.func fn first cap) w := fun _ _ _ _ => rfl
  have hsI : (s.size : Int) ≤ 1048576 := by omega
  clear hE hz hp hline hcol hmany hsp hnone hall S0 hsh
  go_enter_defers Tryd.func13, Tryd.ntmps13
  go_wp2_with (first | (go_at_call 7; refine S.out.mono ?_; rintro e w1 ⟨A, cp, rfl, hT, hb1⟩; have hbxw := hbx.out.keep fun q h1 h2 => hb1.block q (by rw [hsz.out]; omega); obtain ⟨⟨c0, c4, c1, c2, c3⟩, f0, f4, f1, f2, f3⟩ := hbxw.cells; have hA := Lib.hid (hall3.out w1 A cp hT hb1 hbxw); clear hbxw hT hb1) | (go_at_call 9; refine (hpl.out _).mono ?_; rintro e w2 ⟨rfl, rfl⟩) | (go_at_call 27; refine (P.out _ _ hA.out.1 (hEh.out.below hA.out.2.1) (Nat.le_trans hw (Nat.le_of_add_right_le hA.out.2.2.2))).mono ?_; rintro e w3 ⟨hg3, rfl⟩))
  obtain ⟨hrd, hbR, hPR, h4⟩ := hA.out
  have hP3 := hPR.keep fun q h1 h2 => hg3.block q (by have := hrd.lt; omega) (by simp; omega)
  obtain ⟨⟨p0, p4, p1, p2, p3⟩, q0, q4, q1, q2, q3⟩ := hP3.cells
  have hlt3 : w.heap.size + 3 < w3.heap.size := by have := hg3.size; have := hrd.lt; omega
  have hbw3 : Below w.heap.size w w3 := hbR.grown hg3 hbR.size (fun k e => by cases e; omega)
  refine leaves_cons (f := 26) (args := #[.pointer (some ⟨w.heap.size, 0, none⟩), .pointer (some ⟨w.heap.size + 1, 0, none⟩), .pointer (some ⟨w.heap.size + 1 + 1, 0, none⟩), .pointer (some ⟨w.heap.size + 1 + 1 + 1, 0, none⟩)]) (by simp) (by simp [go_sem]) ?_
  refine (parse_catch w.heap.size (placeAt all j line col) [] w3 _ _ _ _ _ p0 p4 p1 p2 p3 q0 q4 q1 q2 q3 hlt3).mono ?_
  rintro e u' w4 ⟨rfl, rfl, r0, r4, r1, r2, r3, hb4⟩
  exact ⟨_, parse_results_c r0 r4 r1 r2 r3 _ rfl rfl rfl rfl, _, fun _ => False, rfl, hprg_none _, fun g h => h.elim, hbw3.trans hb4⟩
end Go.Proofs.YtifmalbdolpocaaDoor

namespace Go.Proofs.YtifmalbdolpocaaDoor
open Go.RowKit Go.Shelf

/-- Behind the reader: what it read is laid into the result's box. -/
theorem parse_mid {w w1 w3 : World} {A : Option Addr} {cp : Nat} {all : List ITok} {line col : Int} {p : Sx.Prg} {v0 v1 : Value} {F : Nat → Prop}
    (hA : RD (rdW w.heap.size w1 A all.length cp line col) w1.heap.size all 0 line col ∧ Below w.heap.size w (rdW w.heap.size w1 A all.length cp line col) ∧ PBox w.heap.size (rdW w.heap.size w1 A all.length cp line col) (.slice none 0 0) (.slice none 0 0) (.int .i64 0) (.int .i64 0) (.int .i64 0) ∧ w.heap.size + 4 ≤ w1.heap.size)
    (hg : (rdW w.heap.size w1 A all.length cp line col).grownBy w3 (some w1.heap.size)) (hF : ∀ g, F g → (rdW w.heap.size w1 A all.length cp line col).heap.size ≤ g ∧ g < w3.heap.size) (hv : HPrg w3 F (.agg #[v0, v1]) p) :
    PBox w.heap.size w3 (.slice none 0 0) (.slice none 0 0) (.int .i64 0) (.int .i64 0) (.int .i64 0) ∧
    (HPrg ((w3.setCell ⟨w.heap.size, 0, none⟩ v0).setCell ⟨w.heap.size, 1, none⟩ v1) F (.agg #[v0, v1]) p ∧ (∀ g, F g → g < ((w3.setCell ⟨w.heap.size, 0, none⟩ v0).setCell ⟨w.heap.size, 1, none⟩ v1).heap.size) ∧
      Below w.heap.size w ((w3.setCell ⟨w.heap.size, 0, none⟩ v0).setCell ⟨w.heap.size, 1, none⟩ v1) ∧ PBox w.heap.size ((w3.setCell ⟨w.heap.size, 0, none⟩ v0).setCell ⟨w.heap.size, 1, none⟩ v1) v0 v1 (.int .i64 0) (.int .i64 0) (.int .i64 0)) ∧
    w.heap.size + 3 < ((w3.setCell ⟨w.heap.size, 0, none⟩ v0).setCell ⟨w.heap.size, 1, none⟩ v1).heap.size ∧ (∀ g, F g → w.heap.size + 4 ≤ g) := by
  obtain ⟨hrd, hbR, hPR, h4⟩ := hA
  have hlt := hrd.lt
  have hs := hg.size
  have hP3 := hPR.keep fun q h1 h2 => hg.block q (by omega) (by simp; omega)
  have hsz : ((w3.setCell ⟨w.heap.size, 0, none⟩ v0).setCell ⟨w.heap.size, 1, none⟩ v1).heap.size = w3.heap.size := by simp [World.setCell]
  have hbw3 : Below w.heap.size w w3 := hbR.grown hg hbR.size (fun k e => by cases e; omega)
  refine ⟨hP3, ⟨hv.keep fun q hq => ⟨hq, ?_⟩, fun g hg => by rw [hsz]; exact (hF g hg).2, (hbw3.setCell (Nat.le_refl _) _).setCell (Nat.le_refl _) _, (hP3.put0 _).put1 _⟩, by omega, fun g hg => by have := (hF g hg).1; omega⟩
  have := (hF q hq).1
  exact (Below.heap_setCell _ _ _ q (by simp; omega)).trans (Below.heap_setCell _ _ _ q (by simp; omega))
set_option maxRecDepth 100000 in
set_option maxHeartbeats 4000000 in
theorem parse_ok (s : ByteArray) (w : World) (hE : Env w) (hw : 4 ≤ w.heap.size) (hmany : ¬ 1048576 < s.size → (Wd.toks (s.size + 1) s.data.toList 1 1).1.length ≤ 65536) (hz : (splitR s).2.2.2 = 0) (all : List ITok) (hall : all = (splitR s).1.map itok) (p : Sx.Prg) (kk : Nat)
    (hp : Sx.programP (Sx.fuelOf (bare all)) (bare all) 0 = some (.ok (p, kk))) (line col : Int) (hline : line = ((1 + s.data.toList.count 10 : Nat) : Int)) (hcol : col = ((Wd.cl s.data.toList + 1 : Nat) : Int)) :
    Calls Tryd.prog 13 #[.string s] w (ParsePost w (if Sx.chk p = 0 then (p, 0, 0, 0) else (⟨[], []⟩, 0, 0, 3))) := by
  obtain ⟨hss, hsp, hnone⟩ := split_ok hz
  have hm0 : all.length ≤ 65536 := by rw [hall, hsp, List.length_map]; exact hmany (by omega)
  have hsh : Short all := by rw [hall, hsp]; exact toks_short s hss
  have S0 := split_calls s (W4 w) (hE.below (W4_below w)) (by omega) hmany
  have S := Lib.hid (S0.mono fun e w' ⟨v, he, hrow, hb⟩ => show ∃ A cp, e = Ending.returned (.tuple #[.slice A all.length cp, .int .i64 0, .int .i64 0, .int .i64 0]) ∧ TokV (W4 w).heap.size w' A cp all ∧ Below (W4 w).heap.size (W4 w) w' from by
    rw [hsp] at he hrow
    obtain ⟨A, cp, rfl, hT⟩ := tokV_of_row hrow
    rw [hall, hsp]
    exact ⟨A, cp, he, hT, hb⟩)
  have hsP : Sx.shortP p := Sx.programP_short (fun t ht => by obtain ⟨u, hu, rfl⟩ := List.mem_map.1 ht; exact hsh u hu) (by rw [bare_length]; omega) hp
  have K := Lib.hid (fun v W F (hv : HPrg W F v p) hF hE => check_calls p v W F hv hF hE hsP)
  have hpl := place_calls s (by omega) s.size (Nat.le_refl _)
  rw [show s.data.toList.take s.size = s.data.toList from List.take_of_length_le (by simp), ← hline, ← hcol] at hpl
  have hpl := Lib.hid hpl
  have P := Lib.hid (fun R W (h : RD W R all 0 line col) (hE : Env W) (hR : 4 ≤ R) => program_calls (Sx.fuelOf (bare all)) R all line col _ hp W h hE hR (by omega) hsh (by unfold Sx.fuelOf; rw [bare_length]; omega))
  have hB := Lib.hid (W4_below w)
  have hbx := Lib.hid (W4_box w)
  have hsz := Lib.hid (W4_size w)
  have hEh := Lib.hid hE
  have hall3 := Lib.hid (fun w1 A cp (hT : TokV (W4 w).heap.size w1 A cp all) (hb : Below (W4 w).heap.size (W4 w) w1) hP => rdW_all (line := line) (col := col) hT hb hP)
  unfold W4 at S hB hbx hsz hall3
  have hmf : ∀ (fn : Fn) (first cap : Array Value) (w : World), (Instr.makeFunc fn first cap).run Tryd.prog w = .ok (.func fn first cap) w := fun _ _ _ _ => rfl
  have hsI : (s.size : Int) ≤ 1048576 := by omega
  clear hE hz hp hline hcol hmany hsp hnone hall S0 hsh
  cases hc : decide (Sx.chk p = 0)
  · have hc' : Sx.chk p ≠ 0 := by simpa using hc
    have hcI : ((Sx.chk p : Int) != 0) = true := by rw [bne_iff_ne]; omega
    rw [if_neg hc']
    generalize (Sx.chk p : Int) = ck at K hcI
    clear hc hc' hsP
    go_enter_defers Tryd.func13, Tryd.ntmps13
    go_wp2_with (first | (go_at_call 7; refine S.out.mono ?_; rintro e w1 ⟨A, cp, rfl, hT, hb1⟩; have hbxw := hbx.out.keep fun q h1 h2 => hb1.block q (by rw [hsz.out]; omega); obtain ⟨⟨c0, c4, c1, c2, c3⟩, f0, f4, f1, f2, f3⟩ := hbxw.cells; have hA := Lib.hid (hall3.out w1 A cp hT hb1 hbxw); clear hbxw hT hb1) | (go_at_call 9; refine (hpl.out _).mono ?_; rintro e w2 ⟨rfl, rfl⟩) | (go_at_call 27; refine (P.out _ _ hA.out.1 (hEh.out.below hA.out.2.1) (Nat.le_trans hw (Nat.le_of_add_right_le hA.out.2.2.2))).mono ?_; rintro e w3 ⟨hg3, _, v, F, rfl, hF, Av, cv, Ap, cq, rfl, hvv, hpp⟩; obtain ⟨hP3, hk3, hl3⟩ := parse_mid hA.out hg3 hF ⟨Av, cv, Ap, cq, rfl, hvv, hpp⟩; obtain ⟨⟨p0, p4, p1, p2, p3⟩, q0, q4, q1, q2, q3⟩ := hP3.cells; have hP3 := Lib.hid hP3; have hk3 := Lib.hid hk3; have hl3 := Lib.hid hl3; clear c0 c1 c2 c3 c4 f0 f1 f2 f3 f4 hg3 hF hvv hpp) | (go_at_call 28; refine (K.out _ _ F hk3.out.1 hk3.out.2.1 (hEh.out.below hk3.out.2.2.1)).mono ?_; rintro e w5 ⟨rfl, hb5⟩; have hP5 := hk3.out.2.2.2.keep fun q h1 h2 => hb5.block q (Nat.lt_of_le_of_lt h2 hl3.out.1); obtain ⟨⟨r0, r4, r1, r2, r3⟩, s0, s4, s1, s2, s3⟩ := hP5.cells; have hP5 := Lib.hid hP5; have hb5 := Lib.hid hb5))
    refine leaves_cons (f := 26) (args := #[.pointer (some ⟨w.heap.size, 0, none⟩), .pointer (some ⟨w.heap.size + 1, 0, none⟩), .pointer (some ⟨w.heap.size + 1 + 1, 0, none⟩), .pointer (some ⟨w.heap.size + 1 + 1 + 1, 0, none⟩)]) (by simp) (by simp [go_sem]) ?_
    refine (parse_idle _ _ _ _ _).mono ?_
    rintro e u' w4 ⟨rfl, rfl, rfl⟩
    have hb := below_chain (hk3.out.2.2.1) (hb5.out)
    have hp := fun (W : World) (h : Below w.heap.size w W) (j k : Nat) (v : Value) => h.setCell (p := ⟨w.heap.size + j, k, none⟩) (Nat.le_add_right _ _) v
    exact ⟨_, parse_results (((((hP5.out.put0 (.slice none 0 0)).put1 (.slice none 0 0)).putL (.int .i64 0)).putC (.int .i64 0)).putE (.int .i64 3)) _ rfl rfl rfl rfl, _, fun _ => False, rfl, hprg_none _, fun g h => h.elim, hp _ (hp _ (hp _ (hp _ (hp _ hb 0 0 _) 0 1 _) 1 0 _) 2 0 _) 3 0 _⟩
  · have hc' : Sx.chk p = 0 := by simpa using hc
    rw [if_pos hc']
    rw [hc'] at K
    clear hc hc' hsP
    go_enter_defers Tryd.func13, Tryd.ntmps13
    go_wp2_with (first | (go_at_call 7; refine S.out.mono ?_; rintro e w1 ⟨A, cp, rfl, hT, hb1⟩; have hbxw := hbx.out.keep fun q h1 h2 => hb1.block q (by rw [hsz.out]; omega); obtain ⟨⟨c0, c4, c1, c2, c3⟩, f0, f4, f1, f2, f3⟩ := hbxw.cells; have hA := Lib.hid (hall3.out w1 A cp hT hb1 hbxw); clear hbxw hT hb1) | (go_at_call 9; refine (hpl.out _).mono ?_; rintro e w2 ⟨rfl, rfl⟩) | (go_at_call 27; refine (P.out _ _ hA.out.1 (hEh.out.below hA.out.2.1) (Nat.le_trans hw (Nat.le_of_add_right_le hA.out.2.2.2))).mono ?_; rintro e w3 ⟨hg3, _, v, F, rfl, hF, Av, cv, Ap, cq, rfl, hvv, hpp⟩; obtain ⟨hP3, hk3, hl3⟩ := parse_mid hA.out hg3 hF ⟨Av, cv, Ap, cq, rfl, hvv, hpp⟩; obtain ⟨⟨p0, p4, p1, p2, p3⟩, q0, q4, q1, q2, q3⟩ := hP3.cells; have hP3 := Lib.hid hP3; have hk3 := Lib.hid hk3; have hl3 := Lib.hid hl3; clear c0 c1 c2 c3 c4 f0 f1 f2 f3 f4 hg3 hF hvv hpp) | (go_at_call 28; refine (K.out _ _ F hk3.out.1 hk3.out.2.1 (hEh.out.below hk3.out.2.2.1)).mono ?_; rintro e w5 ⟨rfl, hb5⟩; have hP5 := hk3.out.2.2.2.keep fun q h1 h2 => hb5.block q (Nat.lt_of_le_of_lt h2 hl3.out.1); obtain ⟨⟨r0, r4, r1, r2, r3⟩, s0, s4, s1, s2, s3⟩ := hP5.cells; have hP5 := Lib.hid hP5; have hb5 := Lib.hid hb5))
    refine leaves_cons (f := 26) (args := #[.pointer (some ⟨w.heap.size, 0, none⟩), .pointer (some ⟨w.heap.size + 1, 0, none⟩), .pointer (some ⟨w.heap.size + 1 + 1, 0, none⟩), .pointer (some ⟨w.heap.size + 1 + 1 + 1, 0, none⟩)]) (by simp) (by simp [go_sem]) ?_
    refine (parse_idle _ _ _ _ _).mono ?_
    rintro e u' w4 ⟨rfl, rfl, rfl⟩
    have hb := below_chain (hk3.out.2.2.1) (hb5.out)
    have hp := fun (W : World) (h : Below w.heap.size w W) (j k : Nat) (v : Value) => h.setCell (p := ⟨w.heap.size + j, k, none⟩) (Nat.le_add_right _ _) v
    refine ⟨_, parse_results (((((hP5.out.put0 _).put1 _).putL (.int .i64 0)).putC (.int .i64 0)).putE (.int .i64 0)) _ rfl rfl rfl rfl, _, F, rfl, ?_, ?_, hp _ (hp _ (hp _ (hp _ (hp _ hb 0 0 _) 0 1 _) 1 0 _) 2 0 _) 3 0 _⟩
    · refine hk3.out.1.keep fun q hq => ⟨hq, ?_⟩
      have h1 := hl3.out.2 q hq
      have h2 := hk3.out.2.1 q hq
      refine (Below.heap_setCell _ _ _ q (by simp; omega)).trans ((Below.heap_setCell _ _ _ q (by simp; omega)).trans ((Below.heap_setCell _ _ _ q (by simp; omega)).trans ((Below.heap_setCell _ _ _ q (by simp; omega)).trans ((Below.heap_setCell _ _ _ q (by simp; omega)).trans (hb5.out.block q h2)))))
    · intro g hg
      have h1 := hl3.out.2 g hg
      have h2 := hk3.out.2.1 g hg
      have h3 := hb5.out.size
      refine ⟨by omega, Nat.lt_of_lt_of_le h2 (Nat.le_trans h3 (by simp [World.setCell]))⟩
end Go.Proofs.YtifmalbdolpocaaDoor

namespace Go.Proofs.YtifmalbdolpocaaDoor
open Go.RowKit Go.Shelf

theorem env_low {w : World} (h : Env w) : 4 ≤ w.heap.size := by
  obtain ⟨tp, p, e⟩ := h.rng
  have ht := h.tab
  unfold Lib.TabIs at ht
  unfold World.var? at ht
  rw [nPT] at ht
  simp only [Option.bind_some] at ht
  rcases Nat.lt_or_ge 3 w.heap.size with h1 | h1
  · omega
  · rw [Array.getElem?_eq_none h1] at ht; simp at ht
theorem parse_calls (s : ByteArray) (w : World) (hE : Env w) (hs : s.size ≤ 9223372036854775807) (hmany : ¬ 1048576 < s.size → (Wd.toks (s.size + 1) s.data.toList 1 1).1.length ≤ 65536) : Calls Tryd.prog 13 #[.string s] w (ParsePost w (parseR s)) := by
  unfold parseR
  by_cases hz : (splitR s).2.2.2 ≠ 0
  · rw [if_pos hz]
    exact parse_split s w hE hs hmany hz
  · rw [if_neg hz]
    have hz : (splitR s).2.2.2 = 0 := by omega
    cases hp : Sx.programP (Sx.fuelOf (bare ((splitR s).1.map itok))) (bare ((splitR s).1.map itok)) 0 with
    | none => exact absurd hp (Sx.programP_ne _)
    | some r =>
      cases r with
      | error j => exact parse_syn s w hE (env_low hE) hmany hz _ rfl j hp _ _ rfl rfl
      | ok q =>
        obtain ⟨p, kk⟩ := q
        exact parse_ok s w hE (env_low hE) hmany hz _ rfl p kk hp _ _ rfl rfl
set_option maxRecDepth 100000 in
set_option maxHeartbeats 1000000 in
theorem count_calls (p : Sx.Prg) (v : Value) (W : World) (F : Nat → Prop) (hv : HPrg W F v p) (hF : ∀ g, F g → g < W.heap.size) (hE : Env W) (hs : Sx.shortP p) (hc : Sx.chk p = 0) :
    Calls Tryd.prog 25 #[v] W fun e W' => e = .returned (.tuple #[.int .i64 ((Sx.mProcs p.procs (0, 0)).1 : Int), .int .i64 ((Sx.mProcs p.procs (0, 0)).2 : Int), .int .i64 0]) ∧ Below W.heap.size W W' := by
  have hvh := Lib.hid hv
  obtain ⟨A, c, A2, c2, rfl, _, _⟩ := hv
  have hFh := Lib.hid hF
  have hEh := Lib.hid hE
  have hB0 := Lib.hid (fun o => (Below.refl W.heap.size W).alloc (Nat.le_refl _) o)
  have hkeep := Lib.hid (fun w1 (hb : Below W.heap.size W w1) => And.intro (hvh.out.keep (F' := F) fun q hq => ⟨hq, hb.block q (hFh.out q hq)⟩) (fun q (hq : F q) => Nat.lt_of_lt_of_le (hFh.out q hq) hb.size))
  have K := Lib.hid (fun w1 (hb : Below W.heap.size W w1) => check_calls p _ w1 F (hkeep.out w1 hb).1 (hkeep.out w1 hb).2 (hEh.out.below hb) hs)
  have M := Lib.hid (fun w1 (hb : Below W.heap.size W w1) => measured_calls p _ w1 F (hkeep.out w1 hb).1 (hkeep.out w1 hb).2 hs)
  rw [hc] at K
  generalize ((Sx.mProcs p.procs (0, 0)).1 : Int) = a at M ⊢
  generalize ((Sx.mProcs p.procs (0, 0)).2 : Int) = b at M ⊢
  clear hF hE hs hc
  go_enter Tryd.func25, Tryd.ntmps25
  go_wp2_with (first | (go_at_call 28; refine (K.out _ (hB0.out _)).mono ?_; rintro e w1 ⟨rfl, hb1⟩; obtain ⟨p0, p1, _, _⟩ := box2 ((hb1.block W.heap.size (by simp)).trans (World.alloc_heap_new W _))) | (go_at_call 48; refine (M.out _ (below_chain (hB0.out _) hb1)).mono ?_; rintro e w2 ⟨rfl, hb2⟩))
  go_quiet (fail)
  go_wp2
  go_ret3
  exact ⟨rfl, below_drewN (below_chain (below_chain (below_chain (hB0.out _) hb1) hb2) ((Below.refl _ w2).alloc (Nat.le_refl _) _)) _⟩
def awakeT : ByteArray := ⟨([118, 97, 114, 32, 120, 59, 32, 112, 114, 111, 99, 32, 109, 97, 105, 110, 32, 123, 32, 120, 32, 61, 32, 51, 59, 32, 101, 105, 116, 104, 101, 114, 32, 123].append [32, 99, 97, 108, 108, 32, 102, 32, 102, 114, 111, 109, 32, 97, 59, 32, 125, 32, 111, 114, 32, 123, 32, 125, 32, 115, 105, 110, 107, 32, 120, 59, 32, 125]).toArray⟩
theorem awake_facts : (Wd.toks (awakeT.size + 1) awakeT.data.toList 1 1).1.length ≤ 65536 ∧ (parseR awakeT).2.2.2 = 0 ∧ (parseR awakeT).1.vars.length = 1 ∧ (parseR awakeT).1.procs.length = 1 ∧ Sx.mProcs (parseR awakeT).1.procs (0, 0) = (4, 1) ∧ Sx.chk (parseR awakeT).1 = 0 := by decide +kernel
theorem short_none : Sx.shortP ⟨[], []⟩ := by
  refine ⟨by simp, by simp, ?_, ?_⟩ <;> intro q h <;> simp at h
theorem parse_short (s : ByteArray) (hl : ¬ 1048576 < s.size → (Wd.toks (s.size + 1) s.data.toList 1 1).1.length ≤ 65536) : Sx.shortP (parseR s).1 := by
  unfold parseR
  by_cases hz : (splitR s).2.2.2 ≠ 0
  · rw [if_pos hz]; exact short_none
  · rw [if_neg hz]
    obtain ⟨h1, h2, _⟩ := split_ok (s := s) (by omega)
    split
    · rename_i p k hp
      split
      · refine Sx.programP_short ?_ ?_ hp
        · intro t ht
          obtain ⟨u, hu, rfl⟩ := List.mem_map.1 ht
          rw [h2] at hu
          exact toks_short s h1 u hu
        · rw [bare_length, List.length_map, h2]
          have := hl (by omega)
          show (Wd.toks (s.size + 1) s.data.toList 1 1).1.length ≤ _
          omega
      · exact short_none
    · exact short_none
    · exact short_none
theorem parse_chk (s : ByteArray) : Sx.chk (parseR s).1 = 0 := by
  unfold parseR
  by_cases hz : (splitR s).2.2.2 ≠ 0
  · rw [if_pos hz]; rfl
  · rw [if_neg hz]
    split
    · split
      · assumption
      · rfl
    · rfl
    · rfl
set_option maxRecDepth 100000 in
set_option maxHeartbeats 1000000 in
theorem synAwake_calls (w : World) (hE : Env w) : Calls Tryd.prog 12 #[] w fun e w' => e = .returned (.bool true) ∧ Below w.heap.size w w' := by
  obtain ⟨hl, h0, h1, h2, h3, h4⟩ := awake_facts
  have P0 := parse_calls awakeT w hE (by decide) (fun _ => hl)
  have hsh := Lib.hid (parse_short awakeT fun _ => hl)
  have P := Lib.hid (P0.mono fun e w' ⟨v, F, he, hv, hF, hb⟩ => show ∃ v F, e = Ending.returned (.tuple #[v, .int .i64 (parseR awakeT).2.1, .int .i64 (parseR awakeT).2.2.1, .int .i64 0]) ∧ HPrg w' F v (parseR awakeT).1 ∧ (∀ g, F g → w.heap.size ≤ g ∧ g < w'.heap.size) ∧ Below w.heap.size w w' from ⟨v, F, by rw [he, h0], hv, hF, hb⟩)
  have C := Lib.hid (fun (v : Value) (W : World) (F : Nat → Prop) (hv : HPrg W F v (parseR awakeT).1) (hF : ∀ g, F g → g < W.heap.size) (hE : Env W) => (count_calls (parseR awakeT).1 v W F hv hF hE hsh.out h4).mono fun e w' ⟨he, hb⟩ => show e = Ending.returned (.tuple #[.int .i64 4, .int .i64 1, .int .i64 0]) ∧ Below W.heap.size W w' from ⟨by rw [he, h3]; rfl, hb⟩)
  have hEh := Lib.hid hE
  have h1' := Lib.hid h1
  have h2' := Lib.hid h2
  generalize (parseR awakeT).1 = p at P C h1' h2'
  generalize (parseR awakeT).2.1 = ln at P
  generalize (parseR awakeT).2.2.1 = cl at P
  unfold awakeT at P
  clear hE hl h0 h1 h2 h3 h4 P0 hsh
  go_enter Tryd.func12, Tryd.ntmps12
  go_wp2_with (first | (go_at_call 13; refine P.out.mono ?_; rintro e w1 ⟨v, F, rfl, ⟨A, c, A2, c2, rfl, hv, hpp⟩, hF, hb1⟩; have hC := Lib.hid (fun o => C.out _ (w1.alloc o) F (show HPrg (w1.alloc o) F _ p from HPrg.keep (fun q hq => ⟨hq, Lib.alloc_old _ _ _ (hF q hq).2⟩) ⟨A, c, A2, c2, rfl, hv, hpp⟩) (fun q hq => by have := (hF q hq).2; rw [World.size_alloc]; omega) (hEh.out.below (below_chain hb1 ((Below.refl _ w1).alloc (Nat.le_refl _) o)))); rw [h1'.out, h2'.out] at hC ⊢; clear hv hpp hF) | (go_at_call 25; refine (hC.out _).mono ?_; rintro e w2 ⟨rfl, hb2⟩; obtain ⟨p0, p1, _, _⟩ := box2 ((hb2.block w1.heap.size (by simp)).trans (World.alloc_heap_new w1 _))))
  go_ret
  exact ⟨rfl, below_chain (below_chain hb1 ((Below.refl _ w1).alloc (Nat.le_refl _) _)) hb2⟩
end Go.Proofs.YtifmalbdolpocaaDoor
