/-
  The reader's plain functions: there is always fuel enough.
-/
import Derived.Test.YtifmalbdolpocaaDoorSynFn
namespace Go.Proofs.YtifmalbdolpocaaDoor.Sx
open Wd

theorem andR_ne {α β : Type} {r : Res α} {f : α → Nat → Res β} (h : r ≠ none) (hf : ∀ a j, r = some (.ok (a, j)) → f a j ≠ none) : andR r f ≠ none := by
  unfold andR
  match r, h, hf with
  | none, h, _ => exact absurd rfl h
  | some (.error e), _, _ => simp
  | some (.ok (a, j)), _, hf => exact hf a j rfl
theorem andR_ok {α β : Type} {r : Res α} {f : α → Nat → Res β} {b : β} {k : Nat} (h : andR r f = some (.ok (b, k))) : ∃ a j, r = some (.ok (a, j)) ∧ f a j = some (.ok (b, k)) := by
  unfold andR at h
  match r, h with
  | none, h => simp at h
  | some (.error e), h => simp at h
  | some (.ok (a, j)), h => exact ⟨a, j, rfl, h⟩
theorem isP_lt {s : List B} {P : List PT} {i : Nat} (h : isP s P i = true) : i < P.length := by
  unfold isP at h
  split at h
  · rename_i t ht; exact (List.getElem?_eq_some_iff.1 ht).1
  · simp at h
theorem mustP_ne (s : List B) (P : List PT) (i : Nat) : mustP s P i ≠ none := by unfold mustP; split <;> simp
theorem mustP_ok {s : List B} {P : List PT} {i j : Nat} {u : Unit} (h : mustP s P i = some (.ok (u, j))) : j = i + 1 ∧ i < P.length := by
  unfold mustP at h
  split at h
  · rename_i h1; simp at h; exact ⟨h.symm, isP_lt h1⟩
  · simp at h
theorem nameP_ne (P : List PT) (i : Nat) : nameP P i ≠ none := by
  unfold nameP; split
  · split <;> simp
  · simp
theorem nameP_ok {P : List PT} {i j : Nat} {x : ByteArray} (h : nameP P i = some (.ok (x, j))) : j = i + 1 ∧ i < P.length := by
  unfold nameP at h
  split at h
  · rename_i t ht
    split at h
    · simp at h; exact ⟨h.2.symm, (List.getElem?_eq_some_iff.1 ht).1⟩
    · simp at h
  · simp at h
theorem endedP_ne (s : St) (P : List PT) (i : Nat) : endedP s P i ≠ none := andR_ne (mustP_ne _ _ _) (fun _ _ _ => by simp)
theorem endedP_ok {s t : St} {P : List PT} {i j : Nat} (h : endedP s P i = some (.ok (t, j))) : j = i + 1 ∧ i < P.length := by
  obtain ⟨_, k, h1, h2⟩ := andR_ok h
  have := mustP_ok h1
  simp at h2
  omega
theorem plainP_ne (k : Int) (P : List PT) (i : Nat) : plainP k P i ≠ none := andR_ne (nameP_ne _ _) (fun _ _ _ => endedP_ne _ _ _)
theorem plainP_ok {k : Int} {P : List PT} {i j : Nat} {t : St} (h : plainP k P i = some (.ok (t, j))) : i < j := by
  obtain ⟨_, k, h1, h2⟩ := andR_ok h
  have := nameP_ok h1
  have := endedP_ok h2
  omega
theorem callP_ne (P : List PT) (i : Nat) : callP P i ≠ none := by
  refine andR_ne (nameP_ne _ _) (fun _ _ _ => ?_)
  split
  · exact andR_ne (nameP_ne _ _) (fun _ _ _ => endedP_ne _ _ _)
  · exact endedP_ne _ _ _
theorem callP_ok {P : List PT} {i j : Nat} {t : St} (h : callP P i = some (.ok (t, j))) : i < j := by
  obtain ⟨_, k, h1, h2⟩ := andR_ok h
  have := nameP_ok h1
  split at h2
  · obtain ⟨_, m, h3, h4⟩ := andR_ok h2
    have := nameP_ok h3
    have := endedP_ok h4
    omega
  · have := endedP_ok h2
    omega
theorem becomesP_ne (P : List PT) (i : Nat) : becomesP P i ≠ none := by
  refine andR_ne (nameP_ne _ _) (fun _ _ _ => andR_ne (mustP_ne _ _ _) (fun _ _ _ => ?_))
  split
  · simp
  · split
    · exact endedP_ne _ _ _
    · split
      · exact endedP_ne _ _ _
      · exact andR_ne (nameP_ne _ _) (fun _ _ _ => endedP_ne _ _ _)
theorem becomesP_ok {P : List PT} {i j : Nat} {t : St} (h : becomesP P i = some (.ok (t, j))) : i < j := by
  obtain ⟨_, k, h1, h2⟩ := andR_ok h
  obtain ⟨_, m, h3, h4⟩ := andR_ok h2
  have := nameP_ok h1
  have := mustP_ok h3
  split at h4
  · simp at h4
  · split at h4
    · have := endedP_ok h4; omega
    · split at h4
      · have := endedP_ok h4; omega
      · obtain ⟨_, q, h5, h6⟩ := andR_ok h4
        have := nameP_ok h5
        have := endedP_ok h6
        omega
/-- What is read is not empty. -/
theorem steps_ok (n : Nat) (P : List PT) :
    (∀ i l j, blockP n P i = some (.ok (l, j)) → i < j) ∧ (∀ i l j, rowP n P i = some (.ok (l, j)) → i < j) ∧ (∀ i l j, altsP n P i = some (.ok (l, j)) → i ≤ j) ∧
    (∀ i s j, eitherP n P i = some (.ok (s, j)) → i < j) ∧ (∀ i s j, stmtP n P i = some (.ok (s, j)) → i < j) := by
  induction n with
  | zero => refine ⟨?_, ?_, ?_, ?_, ?_⟩ <;> intro i l j h <;> simp [blockP, rowP, altsP, eitherP, stmtP] at h
  | succ n ih =>
    obtain ⟨hb, hr, ha, he, hs⟩ := ih
    refine ⟨?_, ?_, ?_, ?_, ?_⟩
    · intro i l j h
      rw [blockP] at h
      obtain ⟨_, k, h1, h2⟩ := andR_ok h
      have := mustP_ok h1
      have := hr _ _ _ h2
      omega
    · intro i l j h
      rw [rowP] at h
      split at h
      · simp at h; omega
      · obtain ⟨_, k, h1, h2⟩ := andR_ok h
        obtain ⟨_, m, h3, h4⟩ := andR_ok h2
        have := hs _ _ _ h1
        have := hr _ _ _ h3
        simp at h4
        omega
    · intro i l j h
      rw [altsP] at h
      split at h
      · obtain ⟨_, k, h1, h2⟩ := andR_ok h
        obtain ⟨_, m, h3, h4⟩ := andR_ok h2
        have := hb _ _ _ h1
        have := ha _ _ _ h3
        simp at h4
        omega
      · simp at h; omega
    · intro i l j h
      rw [eitherP] at h
      obtain ⟨_, k, h1, h2⟩ := andR_ok h
      obtain ⟨_, k2, h3, h4⟩ := andR_ok h2
      obtain ⟨_, k3, h5, h6⟩ := andR_ok h4
      obtain ⟨_, k4, h7, h8⟩ := andR_ok h6
      have := hb _ _ _ h1
      have := mustP_ok h3
      have := hb _ _ _ h5
      have := ha _ _ _ h7
      simp at h8
      omega
    · intro i l j h
      rw [stmtP] at h
      split at h
      · simp at h
      · simp only at h
        iterate 2 (split at h; · (have := endedP_ok h; omega))
        iterate 4 (split at h; · (have := plainP_ok h; omega))
        split at h
        · have := callP_ok h; omega
        split at h
        · have := he _ _ _ h; omega
        split at h
        · obtain ⟨_, k, h1, h2⟩ := andR_ok h
          have := hb _ _ _ h1
          simp at h2
          omega
        · exact becomesP_ok h
/-- Fuel of four times what is left, and some, is enough. -/
theorem fuel_ok (n : Nat) (P : List PT) :
    (∀ i, 4 * (P.length - i) + 1 ≤ n → blockP n P i ≠ none) ∧ (∀ i, 4 * (P.length - i) + 3 ≤ n → rowP n P i ≠ none) ∧ (∀ i, 4 * (P.length - i) + 1 ≤ n → altsP n P i ≠ none) ∧
    (∀ i, 4 * (P.length - i) + 2 ≤ n → eitherP n P i ≠ none) ∧ (∀ i, 4 * (P.length - i) + 2 ≤ n → stmtP n P i ≠ none) := by
  induction n with
  | zero => refine ⟨?_, ?_, ?_, ?_, ?_⟩ <;> intro i h <;> omega
  | succ n ih =>
    obtain ⟨hb, hr, ha, he, hs⟩ := ih
    obtain ⟨gb, gr, ga, ge, gs⟩ := steps_ok n P
    refine ⟨?_, ?_, ?_, ?_, ?_⟩
    · intro i h
      rw [blockP]
      refine andR_ne (mustP_ne _ _ _) (fun _ j h1 => hr j ?_)
      have := mustP_ok h1
      omega
    · intro i h
      rw [rowP]
      split
      · simp
      · refine andR_ne (hs i (by omega)) (fun _ j h1 => andR_ne (hr j ?_) (fun _ _ _ => by simp))
        have h2 := gs _ _ _ h1
        rcases Nat.lt_or_ge i P.length with h3 | h3
        · omega
        · exfalso
          cases n with
          | zero => simp [stmtP] at h1
          | succ n => rw [stmtP, List.getElem?_eq_none h3] at h1; simp at h1
    · intro i h
      rw [altsP]
      split
      · rename_i h0
        have := isP_lt h0
        refine andR_ne (hb _ (by omega)) (fun _ j h1 => andR_ne (ha j ?_) (fun _ _ _ => by simp))
        have := gb _ _ _ h1
        omega
      · simp
    · intro i h
      rw [eitherP]
      refine andR_ne (hb i (by omega)) (fun _ j h1 => andR_ne (mustP_ne _ _ _) (fun _ k h2 => andR_ne (hb k ?_) (fun _ m h3 => andR_ne (ha m ?_) (fun _ _ _ => by simp))))
      · have := gb _ _ _ h1; have := mustP_ok h2; omega
      · have := gb _ _ _ h1; have := mustP_ok h2; have := gb _ _ _ h3; omega
    · intro i h
      rw [stmtP]
      split
      · simp
      · rename_i t ht
        have hlt := (List.getElem?_eq_some_iff.1 ht).1
        simp only
        iterate 2 (split; · exact endedP_ne _ _ _)
        iterate 4 (split; · exact plainP_ne _ _ _)
        split
        · exact callP_ne _ _
        split
        · exact he _ (by omega)
        split
        · exact andR_ne (hb _ (by omega)) (fun _ _ _ => by simp)
        · exact becomesP_ne _ _
theorem moreP_ok (n : Nat) (P : List PT) : ∀ i l j, moreP n P i = some (.ok (l, j)) → i ≤ j := by
  induction n with
  | zero => intro i l j h; simp [moreP] at h
  | succ n ih =>
    intro i l j h
    rw [moreP] at h
    split at h
    · obtain ⟨_, k, h1, h2⟩ := andR_ok h
      obtain ⟨_, m, h3, h4⟩ := andR_ok h2
      have := nameP_ok h1
      have := ih _ _ _ h3
      simp at h4
      omega
    · simp at h; omega
theorem moreP_ne (n : Nat) (P : List PT) : ∀ i, (P.length - i) + 1 ≤ n → moreP n P i ≠ none := by
  induction n with
  | zero => intro i h; omega
  | succ n ih =>
    intro i h
    rw [moreP]
    split
    · rename_i h0
      have := isP_lt h0
      refine andR_ne (nameP_ne _ _) (fun _ j h1 => andR_ne (ih j ?_) (fun _ _ _ => by simp))
      have := nameP_ok h1
      omega
    · simp
theorem varsP_ok (n : Nat) (P : List PT) : ∀ i l j, varsP n P i = some (.ok (l, j)) → i ≤ j := by
  induction n with
  | zero => intro i l j h; simp [varsP] at h
  | succ n ih =>
    intro i l j h
    rw [varsP] at h
    split at h
    · obtain ⟨_, k, h1, h2⟩ := andR_ok h
      obtain ⟨_, m, h3, h4⟩ := andR_ok h2
      obtain ⟨_, q, h5, h6⟩ := andR_ok h4
      obtain ⟨_, z, h7, h8⟩ := andR_ok h6
      have := nameP_ok h1
      have := moreP_ok _ _ _ _ _ h3
      have := mustP_ok h5
      have := ih _ _ _ h7
      simp at h8
      omega
    · simp at h; omega
theorem varsP_ne (n : Nat) (P : List PT) : ∀ i, (P.length - i) + 1 ≤ n → varsP n P i ≠ none := by
  induction n with
  | zero => intro i h; omega
  | succ n ih =>
    intro i h
    rw [varsP]
    split
    · rename_i h0
      have := isP_lt h0
      refine andR_ne (nameP_ne _ _) (fun _ j h1 => andR_ne (moreP_ne n P j ?_) (fun _ k h2 => andR_ne (mustP_ne _ _ _) (fun _ m h3 => andR_ne (ih m ?_) (fun _ _ _ => by simp))))
      · have := nameP_ok h1; omega
      · have := nameP_ok h1; have := moreP_ok _ _ _ _ _ h2; have := mustP_ok h3; omega
    · simp
theorem procsP_ne (n : Nat) (P : List PT) : ∀ i, 4 * (P.length - i) + 2 ≤ n → procsP n P i ≠ none := by
  induction n with
  | zero => intro i h; omega
  | succ n ih =>
    intro i h
    rw [procsP]
    split
    · refine andR_ne (mustP_ne _ _ _) (fun _ j h1 => andR_ne (nameP_ne _ _) (fun _ k h2 => andR_ne ((fuel_ok n P).1 k ?_) (fun _ m h3 => andR_ne (ih m ?_) (fun _ _ _ => by simp))))
      · have := mustP_ok h1; have := nameP_ok h2; omega
      · have := mustP_ok h1; have := nameP_ok h2; have := (steps_ok n P).1 _ _ _ h3; omega
    · simp
/-- Fuel enough for a whole text. -/
def fuelOf (P : List PT) : Nat := 4 * P.length + 4
theorem programP_ne (P : List PT) : programP (fuelOf P) P 0 ≠ none := by
  unfold programP fuelOf
  refine andR_ne (varsP_ne _ _ _ (by omega)) (fun _ j h1 => andR_ne (procsP_ne _ _ _ ?_) (fun _ _ _ => by simp))
  omega
end Go.Proofs.YtifmalbdolpocaaDoor.Sx

namespace Go.Proofs.YtifmalbdolpocaaDoor.Sx
open Wd

def overM (m : Nat × Nat) : Bool := decide (4096 < m.1) || decide (50 < m.2)
mutual
def mStmts : List St → Nat × Nat → Nat → Nat × Nat
  | [], m, _ => m
  | .mk _ _ _ _ kids :: r, m, d =>
    if 4096 < m.1 + 1 then (m.1 + 1, m.2)
    else if overM (mKids kids (m.1 + 1, m.2) d) then mKids kids (m.1 + 1, m.2) d else mStmts r (mKids kids (m.1 + 1, m.2) d) d
def mKids : List (List St) → Nat × Nat → Nat → Nat × Nat
  | [], m, _ => m
  | l :: r, m, d =>
    if overM (if 50 < d + 1 then (m.1, max m.2 (d + 1)) else mStmts l (m.1, max m.2 (d + 1)) (d + 1)) then (if 50 < d + 1 then (m.1, max m.2 (d + 1)) else mStmts l (m.1, max m.2 (d + 1)) (d + 1))
    else mKids r (if 50 < d + 1 then (m.1, max m.2 (d + 1)) else mStmts l (m.1, max m.2 (d + 1)) (d + 1)) d
end
/-- A block that lies in d others. -/
def mRow (l : List St) (m : Nat × Nat) (d : Nat) : Nat × Nat := if 50 < d then (m.1, max m.2 d) else mStmts l (m.1, max m.2 d) d
theorem mKids_cons (l : List St) (r : List (List St)) (m : Nat × Nat) (d : Nat) : mKids (l :: r) m d = if overM (mRow l m (d + 1)) then mRow l m (d + 1) else mKids r (mRow l m (d + 1)) d := by
  simp only [mKids, mRow]
  rfl
def mProcs : List Prc → Nat × Nat → Nat × Nat
  | [], m => m
  | p :: r, m => if overM (mRow p.body m 0) then mRow p.body m 0 else mProcs r (mRow p.body m 0)
def noText (s : ByteArray) : Bool := s.data.toList.isEmpty
def rightB : St → Bool
  | .mk kind x y k kids =>
    if kind = 1 ∨ kind = 11 then noText x && noText y && k == 0 && kids.length == 0
    else if kind = 2 then nameB x.data.toList && noText y && kids.length == 0
    else if kind = 3 then nameB x.data.toList && nameB y.data.toList && k == 0 && kids.length == 0
    else if kind = 8 then nameB x.data.toList && (noText y || nameB y.data.toList) && k == 0 && kids.length == 0
    else if kind = 4 ∨ kind = 5 ∨ kind = 6 ∨ kind = 7 ∨ kind = 12 then nameB x.data.toList && noText y && k == 0 && kids.length == 0
    else if kind = 9 then noText x && noText y && k == 0 && decide (2 ≤ kids.length)
    else if kind = 10 then noText x && noText y && k == 0 && kids.length == 1
    else false
mutual
def rightsL : List St → Bool
  | [] => true
  | .mk kind x y k kids :: r => rightB (.mk kind x y k kids) && rightsK kids && rightsL r
def rightsK : List (List St) → Bool
  | [] => true
  | l :: r => rightsL l && rightsK r
end
/-- The code of Check. -/
def chk (p : Prg) : Nat :=
  if overM (mProcs p.procs (0, 0)) then 3
  else if !(p.vars.all fun v => nameB v.data.toList) then 201
  else if !(p.procs.all fun q => nameB q.name.data.toList && rightsL q.body) then 201
  else 0
/-! ### texts that are not too long -/
def shortT (s : ByteArray) : Prop := s.size ≤ 281474976710656
mutual
def shortL : List St → Prop
  | [] => True
  | .mk _ x y _ kids :: r => shortT x ∧ shortT y ∧ (kids.length ≤ 281474976710656 ∧ shortK kids) ∧ shortL r
def shortK : List (List St) → Prop
  | [] => True
  | l :: r => (l.length ≤ 281474976710656 ∧ shortL l) ∧ shortK r
end
def shortS : St → Prop
  | .mk _ x y _ kids => shortT x ∧ shortT y ∧ kids.length ≤ 281474976710656 ∧ shortK kids
def shortP (p : Prg) : Prop := p.vars.length ≤ 281474976710656 ∧ p.procs.length ≤ 281474976710656 ∧ (∀ v ∈ p.vars, shortT v) ∧ ∀ q ∈ p.procs, shortT q.name ∧ q.body.length ≤ 281474976710656 ∧ shortL q.body
theorem short_e0 : shortT e0 := by unfold shortT; show (0 : Nat) ≤ _; omega
theorem nameP_short {P : List PT} (hP : ∀ t ∈ P, shortT t.2) {i j : Nat} {x : ByteArray} (h : nameP P i = some (.ok (x, j))) : shortT x := by
  unfold nameP at h
  split at h
  · rename_i t ht
    split at h
    · simp at h; rw [← h.1]; exact hP t (List.mem_of_getElem? ht)
    · simp at h
  · simp at h
theorem endedP_short {kind n : Int} {x y : ByteArray} {t : St} {P : List PT} {i j : Nat} (hs : shortT x ∧ shortT y) (h : endedP (.mk kind x y n []) P i = some (.ok (t, j))) : shortS t ∧ j ≤ P.length := by
  have h0 := endedP_ok h
  obtain ⟨_, k, h1, h2⟩ := andR_ok h
  simp at h2
  rw [← h2.1]
  refine ⟨⟨hs.1, hs.2, by simp, by simp only [shortK]⟩, by omega⟩
theorem shortL_cons {kind k : Int} {x y : ByteArray} {kids : List (List St)} {r : List St} : shortL (.mk kind x y k kids :: r) ↔ shortT x ∧ shortT y ∧ (kids.length ≤ 281474976710656 ∧ shortK kids) ∧ shortL r := by simp only [shortL]
theorem shortK_cons {l : List St} {r : List (List St)} : shortK (l :: r) ↔ (l.length ≤ 281474976710656 ∧ shortL l) ∧ shortK r := by simp only [shortK]
theorem shortL_nil : shortL [] := by simp only [shortL]
theorem shortK_nil : shortK [] := by simp only [shortK]
theorem shortL_at : ∀ {l : List St} {i : Nat} {kind k : Int} {x y : ByteArray} {kids : List (List St)}, shortL l → l[i]? = some (.mk kind x y k kids) → shortT x ∧ shortT y ∧ kids.length ≤ 281474976710656 ∧ shortK kids
  | [], _, _, _, _, _, _, _, h => by simp at h
  | .mk _ _ _ _ _ :: _, 0, _, _, _, _, _, hs, h => by
    simp only [List.getElem?_cons_zero, Option.some.injEq, St.mk.injEq] at h
    obtain ⟨rfl, rfl, rfl, rfl, rfl⟩ := h
    have := shortL_cons.1 hs
    exact ⟨this.1, this.2.1, this.2.2.1⟩
  | .mk _ _ _ _ _ :: r, i + 1, _, _, _, _, _, hs, h => by
    simp only [List.getElem?_cons_succ] at h
    exact shortL_at (shortL_cons.1 hs).2.2.2 h
theorem shortK_at : ∀ {l : List (List St)} {i : Nat} {b : List St}, shortK l → l[i]? = some b → b.length ≤ 281474976710656 ∧ shortL b
  | [], _, _, _, h => by simp at h
  | _ :: _, 0, _, hs, h => by
    simp only [List.getElem?_cons_zero, Option.some.injEq] at h
    obtain rfl := h
    exact (shortK_cons.1 hs).1
  | _ :: r, i + 1, _, hs, h => by
    simp only [List.getElem?_cons_succ] at h
    exact shortK_at (shortK_cons.1 hs).2 h
theorem plainP_short {k : Int} {P : List PT} (hP : ∀ t ∈ P, shortT t.2) {i j : Nat} {t : St} (h : plainP k P i = some (.ok (t, j))) : shortS t ∧ j ≤ P.length := by
  obtain ⟨_, k, h1, h2⟩ := andR_ok h
  exact endedP_short ⟨nameP_short hP h1, short_e0⟩ h2
theorem callP_short {P : List PT} (hP : ∀ t ∈ P, shortT t.2) {i j : Nat} {t : St} (h : callP P i = some (.ok (t, j))) : shortS t ∧ j ≤ P.length := by
  obtain ⟨_, k, h1, h2⟩ := andR_ok h
  split at h2
  · obtain ⟨_, m, h3, h4⟩ := andR_ok h2
    exact endedP_short ⟨nameP_short hP h1, nameP_short hP h3⟩ h4
  · exact endedP_short ⟨nameP_short hP h1, short_e0⟩ h2
theorem becomesP_short {P : List PT} (hP : ∀ t ∈ P, shortT t.2) {i j : Nat} {t : St} (h : becomesP P i = some (.ok (t, j))) : shortS t ∧ j ≤ P.length := by
  obtain ⟨_, k, h1, h2⟩ := andR_ok h
  obtain ⟨_, m, h3, h4⟩ := andR_ok h2
  split at h4
  · simp at h4
  · split at h4
    · exact endedP_short ⟨nameP_short hP h1, short_e0⟩ h4
    · split at h4
      · exact endedP_short ⟨nameP_short hP h1, short_e0⟩ h4
      · obtain ⟨_, q, h5, h6⟩ := andR_ok h4
        exact endedP_short ⟨nameP_short hP h1, nameP_short hP h5⟩ h6
theorem tree_short (n : Nat) (P : List PT) (hP : ∀ t ∈ P, shortT t.2) (hl : P.length ≤ 281474976710656) :
    (∀ i l j, blockP n P i = some (.ok (l, j)) → shortL l ∧ i + l.length ≤ j ∧ j ≤ P.length) ∧ (∀ i l j, rowP n P i = some (.ok (l, j)) → shortL l ∧ i + l.length ≤ j ∧ j ≤ P.length) ∧
    (∀ i l j, i ≤ P.length → altsP n P i = some (.ok (l, j)) → shortK l ∧ i + l.length ≤ j ∧ j ≤ P.length) ∧
    (∀ i s j, eitherP n P i = some (.ok (s, j)) → shortS s ∧ j ≤ P.length) ∧ (∀ i s j, stmtP n P i = some (.ok (s, j)) → shortS s ∧ j ≤ P.length) := by
  induction n with
  | zero => refine ⟨?_, ?_, ?_, ?_, ?_⟩ <;> intros <;> rename_i h <;> simp [blockP, rowP, altsP, eitherP, stmtP] at h
  | succ n ih =>
    obtain ⟨hb, hr, ha, he, hs⟩ := ih
    obtain ⟨gb, gr, ga, ge, gs⟩ := steps_ok n P
    refine ⟨?_, ?_, ?_, ?_, ?_⟩
    · intro i l j h
      rw [blockP] at h
      obtain ⟨_, k, h1, h2⟩ := andR_ok h
      have h3 := hr _ _ _ h2
      have := mustP_ok h1
      exact ⟨h3.1, by omega, h3.2.2⟩
    · intro i l j h
      rw [rowP] at h
      split at h
      · rename_i h0
        have := isP_lt h0
        simp at h; rw [h.1]; exact ⟨shortL_nil, by simp; omega, by omega⟩
      · obtain ⟨s, k, h1, h2⟩ := andR_ok h
        obtain ⟨_, m, h3, h4⟩ := andR_ok h2
        have g1 := hs _ _ _ h1
        have g2 := hr _ _ _ h3
        have g3 := gs _ _ _ h1
        simp at h4
        rw [← h4.1]
        obtain ⟨kind, x, y, k, kids⟩ := s
        exact ⟨shortL_cons.2 ⟨g1.1.1, g1.1.2.1, g1.1.2.2, g2.1⟩, by simp; omega, by omega⟩
    · intro i l j hi h
      rw [altsP] at h
      split at h
      · obtain ⟨_, k, h1, h2⟩ := andR_ok h
        obtain ⟨_, m, h3, h4⟩ := andR_ok h2
        have g1 := hb _ _ _ h1
        have g2 := ha _ _ _ g1.2.2 h3
        have g3 := gb _ _ _ h1
        simp at h4
        rw [← h4.1]
        exact ⟨shortK_cons.2 ⟨⟨by omega, g1.1⟩, g2.1⟩, by simp; omega, by omega⟩
      · simp at h; rw [h.1]; exact ⟨shortK_nil, by simp; omega, by omega⟩
    · intro i l j h
      rw [eitherP] at h
      obtain ⟨_, k, h1, h2⟩ := andR_ok h
      obtain ⟨_, k2, h3, h4⟩ := andR_ok h2
      obtain ⟨_, k3, h5, h6⟩ := andR_ok h4
      obtain ⟨_, k4, h7, h8⟩ := andR_ok h6
      have q1 := hb _ _ _ h1
      have q2 := mustP_ok h3
      have q3 := hb _ _ _ h5
      have q4 := ha _ _ _ q3.2.2 h7
      have q5 := gb _ _ _ h1
      have q6 := gb _ _ _ h5
      simp at h8
      rw [← h8.1]
      exact ⟨⟨short_e0, short_e0, by simp; omega, shortK_cons.2 ⟨⟨by omega, q1.1⟩, shortK_cons.2 ⟨⟨by omega, q3.1⟩, q4.1⟩⟩⟩, by omega⟩
    · intro i l j h
      rw [stmtP] at h
      split at h
      · simp at h
      · simp only at h
        iterate 2 (split at h; · exact endedP_short ⟨short_e0, short_e0⟩ h)
        iterate 4 (split at h; · exact plainP_short hP h)
        split at h
        · exact callP_short hP h
        split at h
        · exact he _ _ _ h
        split at h
        · obtain ⟨_, k, h1, h2⟩ := andR_ok h
          have q1 := hb _ _ _ h1
          simp at h2
          rw [← h2.1]
          exact ⟨⟨short_e0, short_e0, by simp, shortK_cons.2 ⟨⟨by omega, q1.1⟩, shortK_nil⟩⟩, by omega⟩
        · exact becomesP_short hP h
theorem moreP_short (n : Nat) (P : List PT) (hP : ∀ t ∈ P, shortT t.2) : ∀ i l j, i ≤ P.length → moreP n P i = some (.ok (l, j)) → (∀ v ∈ l, shortT v) ∧ i + l.length ≤ j ∧ j ≤ P.length := by
  induction n with
  | zero => intro i l j _ h; simp [moreP] at h
  | succ n ih =>
    intro i l j hi h
    rw [moreP] at h
    split at h
    · obtain ⟨_, k, h1, h2⟩ := andR_ok h
      obtain ⟨_, m, h3, h4⟩ := andR_ok h2
      have q1 := nameP_ok h1
      have q2 := ih _ _ _ (by omega) h3
      simp at h4
      rw [← h4.1]
      refine ⟨?_, by simp; omega, by omega⟩
      intro v hv
      rcases List.mem_cons.1 hv with rfl | hv
      · exact nameP_short hP h1
      · exact q2.1 v hv
    · simp at h; rw [h.1]; exact ⟨by simp, by simp; omega, by omega⟩
theorem varsP_short (n : Nat) (P : List PT) (hP : ∀ t ∈ P, shortT t.2) : ∀ i l j, i ≤ P.length → varsP n P i = some (.ok (l, j)) → (∀ v ∈ l, shortT v) ∧ i + l.length ≤ j ∧ j ≤ P.length := by
  induction n with
  | zero => intro i l j _ h; simp [varsP] at h
  | succ n ih =>
    intro i l j hi h
    rw [varsP] at h
    split at h
    · obtain ⟨_, k, h1, h2⟩ := andR_ok h
      obtain ⟨_, m, h3, h4⟩ := andR_ok h2
      obtain ⟨_, q, h5, h6⟩ := andR_ok h4
      obtain ⟨_, z, h7, h8⟩ := andR_ok h6
      have q1 := nameP_ok h1
      have q2 := moreP_short _ _ hP _ _ _ (by omega) h3
      have q3 := mustP_ok h5
      have q4 := ih _ _ _ (by omega) h7
      simp at h8
      rw [← h8.1]
      refine ⟨?_, by simp; omega, by omega⟩
      intro v hv
      rcases List.mem_cons.1 hv with rfl | hv
      · exact nameP_short hP h1
      · rcases List.mem_append.1 hv with hv | hv
        · exact q2.1 v hv
        · exact q4.1 v hv
    · simp at h; rw [h.1]; exact ⟨by simp, by simp; omega, by omega⟩
theorem procsP_short (n : Nat) (P : List PT) (hP : ∀ t ∈ P, shortT t.2) (hl : P.length ≤ 281474976710656) : ∀ i l j, i ≤ P.length → procsP n P i = some (.ok (l, j)) → (∀ q ∈ l, shortT q.name ∧ q.body.length ≤ 281474976710656 ∧ shortL q.body) ∧ i + l.length ≤ j ∧ j ≤ P.length := by
  induction n with
  | zero => intro i l j _ h; simp [procsP] at h
  | succ n ih =>
    intro i l j hi h
    rw [procsP] at h
    split at h
    · obtain ⟨_, k, h1, h2⟩ := andR_ok h
      obtain ⟨_, m, h3, h4⟩ := andR_ok h2
      obtain ⟨bd, q, h5, h6⟩ := andR_ok h4
      obtain ⟨_, z, h7, h8⟩ := andR_ok h6
      have q1 := mustP_ok h1
      have q2 := nameP_ok h3
      have q3 := (tree_short n P hP hl).1 _ _ _ h5
      have q5 := (steps_ok n P).1 _ _ _ h5
      have q4 := ih _ _ _ (by omega) h7
      have q6 : bd.length ≤ 281474976710656 := by omega
      simp at h8
      rw [← h8.1]
      refine ⟨?_, by simp; omega, by omega⟩
      intro v hv
      rcases List.mem_cons.1 hv with rfl | hv
      · exact ⟨nameP_short hP h3, q6, q3.1⟩
      · exact q4.1 v hv
    · simp at h; rw [h.1]; exact ⟨by simp, by simp; omega, by omega⟩
theorem programP_short {n : Nat} {P : List PT} (hP : ∀ t ∈ P, shortT t.2) (hl : P.length ≤ 281474976710656) {p : Prg} {j : Nat} (h : programP n P 0 = some (.ok (p, j))) : shortP p := by
  obtain ⟨vs, k, h1, h2⟩ := andR_ok h
  obtain ⟨ps, m, h3, h4⟩ := andR_ok h2
  simp at h4
  rw [← h4.1]
  have q1 := varsP_short _ _ hP _ _ _ (Nat.zero_le _) h1
  have q2 := procsP_short _ _ hP hl _ _ _ (by omega) h3
  have q3 : vs.length ≤ 281474976710656 := by omega
  have q4 : ps.length ≤ 281474976710656 := by omega
  exact ⟨q3, q4, q1.1, q2.1⟩
end Go.Proofs.YtifmalbdolpocaaDoor.Sx
