/-
  The walks of package words, fourteenth part: WordsBetween.
-/
import Derived.Test.YtifmalbdolpocaaDoorWalkM
import Derived.Test.YtifmalbdolpocaaDoorWalkJ
namespace Go.Proofs.YtifmalbdolpocaaDoor
open Go.RowKit Go.Shelf

def itok (t : Wd.Tok) : ITok := ⟨t.kind, ⟨t.text.toArray⟩, t.line, t.col⟩
theorem toks_of_row {w : World} {base : Nat} {v : Value} {l : List Wd.Tok} (h : w.ownsRow base 29 4 v l.length (rowCells l)) :
    ∃ A cp, v = .slice A l.length cp ∧ Toks w A (l.map itok) := by
  by_cases h0 : l = []
  · subst h0
    rcases h.2 with ⟨rfl, _⟩ | ⟨g, cap, cur, rfl, _⟩
    · exact ⟨none, 0, rfl, fun k t hk => by simp at hk⟩
    · exact ⟨_, cap, rfl, fun k t hk => by simp at hk⟩
  · obtain ⟨g, cap, rfl, _, hg, _, hc⟩ := row_reads h h0
    refine ⟨_, cap, rfl, ?_⟩
    intro k t hk
    rw [List.getElem?_map] at hk
    obtain ⟨u, hu, rfl⟩ := Option.map_eq_some_iff.1 hk
    have e : ((⟨g, 0, none⟩ : Addr).add (k * 4)) = ⟨g, k * 4, none⟩ := by simp [Addr.add]; omega
    refine ⟨⟨g, 0, none⟩, rfl, hg, ?_⟩
    rw [e]
    exact ⟨hc k 0 u _ hu rfl, hc k 1 u _ hu rfl, hc k 2 u _ hu rfl, hc k 3 u _ hu rfl⟩

abbrev Piece := List Wd.B × Nat × List Wd.B
theorem body_snoc (x : List Piece) (y : Piece) : Wd.body (x ++ [y]) = Wd.body x ++ (y.1 ++ y.2.2) := by
  induction x with
  | nil => obtain ⟨a, b, c⟩ := y; simp [Wd.body]
  | cons z x ih => obtain ⟨a, b, c⟩ := z; simp only [List.cons_append, Wd.body, ih]; simp
theorem append_data (a b : ByteArray) : (a ++ b).data.toList = a.data.toList ++ b.data.toList := by simp
/-- Split of what WordsBetween has made. -/
theorem split_between (S : ByteArray) (hS : S.size ≤ 65536) (line : List Wd.B) (x : List Piece) (l : List ITok) (hd : S.data.toList = Wd.body x ++ 32 :: 35 :: line) (hline : ∀ c ∈ line, c ≠ 10)
    (hx : ∀ y ∈ x, Wd.IsGap line y.1 ∧ Wd.right y.2.2 y.2.1 = true) (hl : x.map (fun y => ((y.2.1 : Int), (⟨y.2.2.toArray⟩ : ByteArray))) = l.map (fun t => (t.kind, t.text))) (w : World) (hE : Env w) :
    Calls Tryd.prog 7 #[.string S] w fun e W => ∃ A cp, ∃ m : List ITok, e = .returned (.tuple #[.slice A m.length cp, .int .i64 0, .int .i64 0, .int .i64 0]) ∧ Toks W A m ∧ l.length = m.length ∧
      (∀ (k : Nat) (t u : ITok), l[k]? = some t → m[k]? = some u → t.kind = u.kind ∧ t.text = u.text) ∧ Below w.heap.size w W := by
  have hsz : S.data.toList.length = S.size := by simp
  have hlen := Wd.toks_len (S.size + 1) S.data.toList 1 1
  refine (split_calls S w hE (by omega) (fun _ => by omega)).mono ?_
  rintro e W ⟨v, he, hrow, hb⟩
  obtain ⟨hk, hf⟩ := Wd.toks_body line hline x (S.size + 1) 1 1 hx (by rw [← hd, hsz]; omega)
  rw [← hd] at hk hf
  have hR : splitR S = ((Wd.toks (S.size + 1) S.data.toList 1 1).1, 0, 0, 0) := by simp [splitR, hf]; omega
  rw [hR] at he hrow
  obtain ⟨A, cp, rfl, hT⟩ := toks_of_row hrow
  have hml : l.map (fun t => (t.kind, t.text)) = ((Wd.toks (S.size + 1) S.data.toList 1 1).1.map itok).map (fun t => (t.kind, t.text)) := by
    rw [← hl, List.map_map]
    have := congrArg (List.map (fun y : Nat × List Wd.B => ((y.1 : Int), (⟨y.2.toArray⟩ : ByteArray)))) hk
    unfold Wd.kt at this
    rw [List.map_map, List.map_map] at this
    exact this.symm
  refine ⟨A, cp, (Wd.toks (S.size + 1) S.data.toList 1 1).1.map itok, by rw [he, List.length_map]; rfl, hT, by simpa using congrArg List.length hml, ?_, hb⟩
  intro k t u ht hu
  have h1 := congrArg (·[k]?) hml
  simp only [List.getElem?_map] at h1
  rw [ht, show ((Wd.toks (S.size + 1) S.data.toList 1 1).1[k]?).map itok = some u by rw [← List.getElem?_map]; exact hu] at h1
  simpa using h1
end Go.Proofs.YtifmalbdolpocaaDoor
