/-
  SyntaxBlanks, the plain part: what is made of gaps and tokens is parsed to the same tree.
-/
import Derived.Test.YtifmalbdolpocaaDoorSynBf
import Derived.Test.YtifmalbdolpocaaDoorSynBg
import Derived.Test.YtifmalbdolpocaaDoorSynBc
import Derived.Test.YtifmalbdolpocaaDoorSynZ
import Derived.Test.YtifmalbdolpocaaDoorWalkO
import Derived.Deep.QuietTactic
namespace Go.Proofs.YtifmalbdolpocaaDoor
open Go.RowKit Go.Shelf

def pt (y : Nat × List Wd.B) : Sx.PT := ((y.1 : Int), ⟨y.2.toArray⟩)
theorem bare_kt (l : List Wd.Tok) : bare (l.map itok) = (Wd.kt l).map pt := by
  unfold bare Wd.kt
  rw [List.map_map, List.map_map]
  rfl
theorem split_none {t : ByteArray} (ht : t.size ≤ 1048576) (hf : (Wd.toks (t.size + 1) t.data.toList 1 1).2 = none) : splitR t = ((Wd.toks (t.size + 1) t.data.toList 1 1).1, 0, 0, 0) := by
  simp [splitR, hf]; omega
theorem parse_split0 {s : ByteArray} (h0 : (parseR s).2.2.2 = 0) : (splitR s).2.2.2 = 0 := by
  unfold parseR at h0
  by_cases hz : (splitR s).2.2.2 ≠ 0
  · rw [if_pos hz] at h0
    have h1 : ((splitR s).2.2.2 : Int) = 0 := h0
    omega
  · omega
theorem parse_same {s t : ByteArray} (h0 : (parseR s).2.2.2 = 0) (ht : t.size ≤ 1048576) (hf : (Wd.toks (t.size + 1) t.data.toList 1 1).2 = none)
    (hk : Wd.kt (Wd.toks (t.size + 1) t.data.toList 1 1).1 = Wd.kt (Wd.toks (s.size + 1) s.data.toList 1 1).1) : parseR t = ((parseR s).1, 0, 0, 0) := by
  have hz := parse_split0 h0
  obtain ⟨_, hs, _⟩ := split_ok hz
  have hb : bare ((splitR t).1.map itok) = bare ((splitR s).1.map itok) := by
    rw [split_none ht hf, hs, bare_kt, bare_kt]
    exact congrArg _ hk
  have hz2 : (splitR t).2.2.2 = 0 := by rw [split_none ht hf]
  unfold parseR at h0 ⊢
  rw [if_neg (by omega)] at h0 ⊢
  rw [if_neg (by omega), hb]
  cases hp : Sx.programP (Sx.fuelOf (bare ((splitR s).1.map itok))) (bare ((splitR s).1.map itok)) 0 with
  | none => exact absurd hp (Sx.programP_ne _)
  | some r =>
    rw [hp] at h0
    cases r with
    | error j => exact absurd h0 (by simp)
    | ok q =>
      obtain ⟨p, kk⟩ := q
      simp only at h0 ⊢
      by_cases hc : Sx.chk p = 0
      · simp only [if_pos hc]
      · rw [if_neg hc] at h0; exact absurd h0 (by simp)
/-- What SyntaxBlanks has made of the first tokens. -/
structure BlkI (K : List (Nat × List Wd.B)) (i : Nat) (sb : ByteArray) : Prop where
  made : ∃ x : List Piece, sb.data.toList = Wd.body x ∧ (∀ y ∈ x, Wd.Gap2 y.1 ∧ Wd.right y.2.2 y.2.1 = true) ∧ x.map (·.2) = K.take i
  size : sb.size ≤ 70 * i
theorem BlkI.step {K : List (Nat × List Wd.B)} {i : Nat} {sb : ByteArray} (h : BlkI K i sb) (hr : ∀ y ∈ K, Wd.right y.2 y.1 = true) {y : Nat × List Wd.B} (hy : K[i]? = some y) {gap : ByteArray} (hg : Wd.Gap2 gap.data.toList) (hgs : gap.size ≤ 6) :
    BlkI K (i + 1) ((sb ++ gap) ++ ⟨y.2.toArray⟩) := by
  obtain ⟨x, hd, hx, hm⟩ := h.made
  have hlt : i < K.length := (List.getElem?_eq_some_iff.1 hy).1
  have hKi : K[i] = y := (List.getElem?_eq_some_iff.1 hy).2
  have hyr := hr y (List.mem_of_getElem? hy)
  obtain ⟨k, b⟩ := y
  refine ⟨⟨x ++ [(gap.data.toList, k, b)], ?_, ?_, ?_⟩, ?_⟩
  · rw [append_data, append_data, hd, body_snoc]; simp
  · intro z hz
    rcases List.mem_append.1 hz with h1 | h1
    · exact hx z h1
    · rw [List.mem_singleton.1 h1]
      exact ⟨hg, hyr⟩
  · rw [List.map_append, hm, List.take_succ_eq_append_getElem hlt, hKi]
    rfl
  · have h1 := (Wd.right_len hyr).2
    have h2 := h.size
    rw [ByteArray.size_append, ByteArray.size_append]
    have h3 : (ByteArray.mk b.toArray).size = b.length := by simp [ByteArray.size]
    simp only at h1 ⊢
    rw [h3]
    omega
theorem kt_right (s : ByteArray) : ∀ y ∈ Wd.kt (Wd.toks (s.size + 1) s.data.toList 1 1).1, Wd.right y.2 y.1 = true := by
  intro y hy
  obtain ⟨t, ht, rfl⟩ := List.mem_map.1 hy
  exact Wd.toks_right _ _ _ _ t ht
theorem blanks_same {s sb : ByteArray} (h0 : (parseR s).2.2.2 = 0) {K : List (Nat × List Wd.B)} (hK : K = Wd.kt (Wd.toks (s.size + 1) s.data.toList 1 1).1) (hl : K.length ≤ 2000) (h : BlkI K K.length sb) :
    sb.size ≤ 140000 ∧ parseR sb = ((parseR s).1, 0, 0, 0) := by
  have hsz := h.size
  obtain ⟨x, hd, hx, hm⟩ := h.made
  have hlen : sb.data.toList.length = sb.size := by simp
  obtain ⟨h1, h2⟩ := Wd.toks_body2 x (sb.size + 1) 1 1 hx (by rw [← hd, hlen]; omega)
  rw [← hd] at h1 h2
  rw [hm, List.take_length, hK] at h1
  exact ⟨by omega, parse_same h0 (by omega) h2 h1⟩
/-- Parse of what has been made. -/
theorem parse_blanks (s sb : ByteArray) (h0 : (parseR s).2.2.2 = 0) (K : List (Nat × List Wd.B)) (hK : K = Wd.kt (Wd.toks (s.size + 1) s.data.toList 1 1).1) (hl : K.length ≤ 2000) (h : BlkI K K.length sb) (w : World) (hE : Env w) :
    Calls Tryd.prog 13 #[.string sb] w fun e w' => ∃ v F, e = .returned (.tuple #[v, .int .i64 0, .int .i64 0, .int .i64 0]) ∧ HPrg w' F v (parseR s).1 ∧ (∀ g, F g → w.heap.size ≤ g ∧ g < w'.heap.size) ∧ Below w.heap.size w w' := by
  obtain ⟨h1, h2⟩ := blanks_same h0 hK hl h
  obtain ⟨x, hd, hx, hm⟩ := h.made
  have hlen : sb.data.toList.length = sb.size := by simp
  obtain ⟨h3, _⟩ := Wd.toks_body2 x (sb.size + 1) 1 1 hx (by rw [← hd, hlen]; omega)
  rw [← hd, hm, List.take_length] at h3
  have h4 := congrArg List.length h3
  rw [show (Wd.kt (Wd.toks (sb.size + 1) sb.data.toList 1 1).1).length = (Wd.toks (sb.size + 1) sb.data.toList 1 1).1.length by simp [Wd.kt]] at h4
  refine (parse_calls sb w hE (by omega) (fun _ => by omega)).mono ?_
  rintro e w' ⟨v, F, he, hv, hF, hb⟩
  rw [h2] at he hv
  exact ⟨v, F, he, hv, hF, hb⟩
theorem texts_at {l : List ITok} {K : List (Nat × List Wd.B)} {L : List Wd.Tok} (hK : K = Wd.kt L) (hl : l.map (·.text) = L.map txt) {i : Nat} {t : ITok} (h : l[i]? = some t) : ∃ y, K[i]? = some y ∧ t.text = ⟨y.2.toArray⟩ := by
  have h1 := congrArg (·[i]?) hl
  simp only [List.getElem?_map, h] at h1
  cases h2 : L[i]? with
  | none => rw [h2] at h1; simp at h1
  | some u =>
    rw [h2] at h1
    refine ⟨(u.kind, u.text), by rw [hK]; unfold Wd.kt; rw [List.getElem?_map, h2]; rfl, ?_⟩
    simp only [Option.map_some, Option.some.injEq] at h1
    rw [h1]; rfl
theorem texts_len {l : List ITok} {K : List (Nat × List Wd.B)} {L : List Wd.Tok} (hK : K = Wd.kt L) (hl : l.map (·.text) = L.map txt) : l.length = K.length := by
  have h1 := congrArg List.length hl
  rw [hK]; unfold Wd.kt
  simpa using h1
end Go.Proofs.YtifmalbdolpocaaDoor

namespace Go.Proofs.YtifmalbdolpocaaDoor
open Go.RowKit Go.Shelf

theorem blanks_box {w w1 w2 : World} {b : Nat} {x y : Value} {t : TypeId} (h : w.heap[b]? = some (.cells #[x, y] t (0, 0))) (hb : Below w.heap.size w w1) (hb2 : Below w1.heap.size w1 w2) (o : Obj) : (w2.alloc o).heap[b]? = some (.cells #[x, y] t (0, 0)) := by
  have h1 := (Array.getElem?_eq_some_iff.1 h).1
  have h2 := hb.size
  have h3 := hb2.size
  rw [Lib.alloc_old _ _ _ (by omega), hb2.block _ (by omega), hb.block _ h1, h]

theorem blanks_call15 {w w1 w2 : World} {p : Sx.Prg} {v v5 : Value} {F F5 : Nat → Prop} (hV : HPrg w F v p) (hF : ∀ q, F q → q < w.heap.size) (hb : Below w.heap.size w w1) (hb2 : Below w1.heap.size w1 w2) (hV5 : HPrg w2 F5 v5 p) (hF5 : ∀ g, F5 g → w1.heap.size ≤ g ∧ g < w2.heap.size)
    (hs : Sx.shortP p) (o : Obj) : Calls Tryd.prog 15 #[v, v5] (w2.alloc o) fun e W' => e = .returned (.bool true) ∧ Below (w2.alloc o).heap.size (w2.alloc o) W' := by
  have h1 := hb.size
  have h2 := hb2.size
  refine samePrg_calls p v v5 (w2.alloc o) F F5 (HPrg.keep (fun q hq => ⟨hq, ?_⟩) hV) (HPrg.keep (fun q hq => ⟨hq, Lib.alloc_old _ _ _ (hF5 q hq).2⟩) hV5) (fun q hq => ?_) (fun q hq => ?_) hs
  · have := hF q hq
    rw [Lib.alloc_old _ _ _ (by omega), hb2.block _ (by omega), hb.block _ this]
  · have := hF q hq
    rw [World.size_alloc]; omega
  · have := (hF5 q hq).2
    rw [World.size_alloc]; omega

set_option maxRecDepth 100000 in
set_option maxHeartbeats 4000000 in
theorem blanks_calls (s : ByteArray) (G : Option Addr) (gc : Nat) (gs : List Int) (w : World) (hE : Env w) (hG : Gaps w G gs) (hgm : gs.length ≤ 9223372036854775806) (hs : s.size ≤ 9223372036854775806) :
    Calls Tryd.prog 5 #[.string s, .slice G gs.length gc] w fun e w' => e = .returned (.bool true) ∧ Below w.heap.size w w' := by
  have AW := Lib.hid (synAwake_calls w hE)
  obtain ⟨s', hs', hz'⟩ : ∃ s' : ByteArray, ((20000 < s.size ∧ s' = s.extract 0 20000) ∨ (¬ 20000 < s.size ∧ s' = s)) ∧ s'.size ≤ 20000 := by
    by_cases h : 20000 < s.size
    · exact ⟨_, .inl ⟨h, rfl⟩, by simp; omega⟩
    · exact ⟨_, .inr ⟨h, rfl⟩, by omega⟩
  have hlen := Wd.toks_len (s'.size + 1) s'.data.toList 1 1
  have P := Lib.hid (fun w1 (hb : Below w.heap.size w w1) => parse_calls s' w1 (hE.below hb) (by omega) (fun _ => by simp at hlen; omega))
  have RS := Lib.hid (fun w1 => refsplit_calls s' (by omega) w1)
  obtain ⟨K, hK⟩ : ∃ K, K = Wd.kt (Wd.toks (s'.size + 1) s'.data.toList 1 1).1 := ⟨_, rfl⟩
  have hKr := Lib.hid (fun y hy => kt_right s' y (hK ▸ hy))
  obtain ⟨p, hp⟩ : ∃ p, (parseR s').1 = p := ⟨_, rfl⟩
  obtain ⟨er, her⟩ : ∃ er, (parseR s').2.2.2 = er := ⟨_, rfl⟩
  obtain ⟨ln, hln⟩ : ∃ ln, (parseR s').2.1 = ln := ⟨_, rfl⟩
  obtain ⟨cl, hcl⟩ : ∃ cl, (parseR s').2.2.1 = cl := ⟨_, rfl⟩
  have PB := Lib.hid (fun sb (h0 : er = 0) (hl : K.length ≤ 2000) (h : BlkI K K.length sb) w (hE : Env w) => parse_blanks s' sb (her.trans h0) K hK hl h w hE)
  have hsp := Lib.hid (fun (h0 : er = 0) => (split_ok (parse_split0 (her.trans h0))).2.2)
  have hsh := Lib.hid (parse_short s' (fun _ => by simp at hlen; omega))
  unfold ParsePost at P
  rw [hp, her, hln, hcl] at P
  rw [hp] at PB hsh
  have hKh := Lib.hid hK
  generalize (Wd.toks (s'.size + 1) s'.data.toList 1 1) = L at RS hsp hKh
  have hG2 := Lib.hid hG
  have hE2 := Lib.hid hE
  have hB0 := Lib.hid (Below.refl w.heap.size w)
  clear hlen hK hp her hln hcl hG hE
  rcases hs' with ⟨hbig, rfl⟩ | ⟨hbig, hcut⟩
  · have hbigI : 20000 < (s.size : Int) := by omega
    clear hbig
    by_cases h0 : er = 0
    · have h0b : (er != 0) = false := by simpa using h0
      have hsp1 := Lib.hid (hsp.out h0)
      have PB1 := Lib.hid (fun sb => PB.out sb h0)
      clear PB hsp
      subst h0
      go_enter Tryd.func5, Tryd.ntmps5
      go_wp2_with (first | (go_at_call 12; refine AW.out.mono ?_; rintro e w1 ⟨rfl, hb1⟩) | (go_at_call 13; refine (P.out _ hb1).mono ?_; rintro e w2 ⟨v, F, rfl, ⟨A, c, A2, c2, rfl, hv, hpp⟩, hF, hb2⟩) | (go_at_call 14; refine (RS.out _).mono ?_; rintro e w3 ⟨A3, cp3, l, ln3, cl3, er3, rfl, hl3, hT3, hb3⟩))
      · go_ret
        exact ⟨rfl, below_chain (below_chain (below_chain hb1 hb2) ((Below.refl _ w2).alloc (Nat.le_refl _) _)) hb3⟩
      · have her3 : er3 = 0 := by assumption
        have hmany : (l.length : Int) ≤ 2000 := by assumption
        have hll : l.length ≤ 2000 := by omega
        have htx0 := hl3 her3 hsp1.out
        have hlK0 := texts_len hKh.out htx0
        have hKl := Lib.hid (show K.length ≤ 2000 by omega)
        have hlK := Lib.hid hlK0
        have htx := Lib.hid (fun i t (h : l[i]? = some t) => texts_at hKh.out htx0 h)
        have hT4 := Lib.hid hT3
        have hb12 := Lib.hid (below_chain (below_chain hb1 hb2) ((Below.refl _ w2).alloc (Nat.le_refl _) (Obj.cells #[Value.slice A p.vars.length c, Value.slice A2 p.procs.length c2] 42)))
        have hb3' := Lib.hid hb3
        have hbw := Lib.hid (below_chain hb12.out hb3)
        have hV := Lib.hid (show HPrg w3 F (.agg #[.slice A p.vars.length c, .slice A2 p.procs.length c2]) p from HPrg.keep (fun q hq => ⟨hq, (hb3.block q (by have := (hF q hq).2; rw [World.size_alloc]; omega)).trans (Lib.alloc_old _ _ _ (hF q hq).2)⟩) ⟨A, c, A2, c2, rfl, hv, hpp⟩)
        have hF4 := Lib.hid (show ∀ q, F q → q < w3.heap.size from fun q hq => by have h1 := (hF q hq).2; have h2 := hb3.size; rw [World.size_alloc] at h2; omega)
        have hbox := Lib.hid (show w3.heap[w2.heap.size]? = some (.cells #[.slice A p.vars.length c, .slice A2 p.procs.length c2] 42 (0, 0)) from (hb3.block _ (by simp)).trans (World.alloc_heap_new w2 _))
        subst her3
        clear hl3 hv hpp hb1 hb2 hb3 hll hmany htx0 hlK0 hT3 hF AW P RS
        go_loopw [13, 14] (fun x y wr => ∃ (i : Nat) (sb : ByteArray), x = .string sb ∧ y = .int .i64 i ∧ i ≤ l.length ∧ BlkI K i sb ∧ Below w3.heap.size w3 wr)
          (fun _ y _ => l.length - (intOf y).toNat)
        case atStart => exact ⟨0, ⟨#[]⟩, rfl, rfl, Nat.zero_le _, ⟨⟨[], rfl, by simp, by simp⟩, Nat.le_refl _⟩, Below.refl _ _⟩
        case round =>
          obtain ⟨j, sb, rfl, rfl, hj, hI, hb4⟩ := hrel
          have hsb := hI.size
          have hKl2 := hKl.out
          have hlK2 := hlK.out
          by_cases hjl : j < l.length
          · obtain ⟨t, ht⟩ : ∃ t, l[j]? = some t := ⟨_, List.getElem?_eq_getElem hjl⟩
            obtain ⟨ad, rfl, _, c0, c1, c2', c3⟩ := (hT4.out.below hb4) j t ht
            obtain ⟨y, hy, hty⟩ := htx.out j t ht
            have htl : t.text.size ≤ 64 := by
              have := (Wd.right_len (hKr.out y (List.mem_of_getElem? hy))).2
              rw [hty]; simpa [ByteArray.size] using this
            have hst := Lib.hid (fun gap => hI.step hKr.out (gap := gap) hy)
            rw [← hty] at hst
            have hb4' := Lib.hid hb4
            have hwo := Lib.hid (hb4.alloc hb4.size (Obj.cells #[Value.string { data := #[32] }, Value.string { data := #[10] }, Value.string { data := #[32, 35, 32, 120, 59, 10] }, Value.string { data := #[9, 9] }] 9))
            have hco := Lib.hid (show (wr.alloc (Obj.cells #[Value.string { data := #[32] }, Value.string { data := #[10] }, Value.string { data := #[32, 35, 32, 120, 59, 10] }, Value.string { data := #[9, 9] }] 9)).cell? ⟨(ad.add (j * 4)).block, (ad.add (j * 4)).off + 1, none⟩ = some (.string t.text) by
              obtain ⟨ae, hae, _, _, e1, _⟩ := (hT4.out.below hwo.out) j t ht
              cases hae
              exact e1)
            clear hI hb4 ht hy hty
            by_cases hgs : gs.length = 0
            · have hg0 : ¬ (0 : Int) < (gs.length : Int) := by omega
              clear hgs
              go_wp2
              go_roundw
              case rel => exact ⟨j + 1, _, rfl, by go_num, hjl, hst.out ⟨#[32]⟩ (.inl rfl) (by decide), hb4'.out⟩
              case measure => simp [intOf]; omega
            · obtain ⟨z, hz⟩ : ∃ z, gs[j % gs.length]? = some z := ⟨_, List.getElem?_eq_getElem (Nat.mod_lt _ (by omega))⟩
              obtain ⟨ga, hga, _, d0, d1, d2⟩ := ((hG2.out.below hbw.out).below hwo.out) _ z hz
              have hjg : j % gs.length < gs.length := Nat.mod_lt _ (by omega)
              have e1 : (wr.alloc (Obj.cells #[Value.string { data := #[32] }, Value.string { data := #[10] }, Value.string { data := #[32, 35, 32, 120, 59, 10] }, Value.string { data := #[9, 9] }] 9)).cell? ⟨(ad.add (j * 4)).block, (ad.add (j * 4)).off + 1, none⟩ = some (.string t.text) := hco.out
              subst hga
              obtain ⟨zn, rfl⟩ : ∃ zn : Nat, z = zn := ⟨z.toNat, by omega⟩
              have hg0 : (0 : Int) < (gs.length : Int) := by omega
              have hgn : ¬ ((gs.length : Int) = 0) := by omega
              have hm : zn % 4 = 0 ∨ zn % 4 = 1 ∨ zn % 4 = 2 ∨ zn % 4 = 3 := by omega
              clear hgs hz
              rcases hm with hm | hm | hm | hm
              · go_wp2
                go_roundw
                case rel => exact ⟨j + 1, _, rfl, by go_num, hjl, hst.out ⟨#[32]⟩ (.inl rfl) (by decide), hwo.out⟩
                case measure => simp [intOf]; omega
              · go_wp2
                go_roundw
                case rel => exact ⟨j + 1, _, rfl, by go_num, hjl, hst.out ⟨#[10]⟩ (.inr (.inl rfl)) (by decide), hwo.out⟩
                case measure => simp [intOf]; omega
              · go_wp2
                go_roundw
                case rel => exact ⟨j + 1, _, rfl, by go_num, hjl, hst.out ⟨#[32, 35, 32, 120, 59, 10]⟩ (.inr (.inr (.inl rfl))) (by decide), hwo.out⟩
                case measure => simp [intOf]; omega
              · go_wp2
                go_roundw
                case rel => exact ⟨j + 1, _, rfl, by go_num, hjl, hst.out ⟨#[9, 9]⟩ (.inr (.inr (.inr rfl))) (by decide), hwo.out⟩
                case measure => simp [intOf]; omega
          · have hjl' : ¬ (j : Int) < (l.length : Int) := by omega
            have hjN : j = K.length := by omega
            subst hjN
            have PQ := Lib.hid (PB1.out sb hKl2 hI wr (hE2.out.below (below_chain hbw.out hb4)))
            have hb4' := Lib.hid hb4
            clear hI hb4 hsb
            go_wp2_with (first | (go_at_call 13; refine PQ.out.mono ?_; rintro e w5 ⟨v5, F5, rfl, ⟨A5, c5, A6, c6, rfl, hv5, hpp5⟩, hF5, hb5⟩; obtain ⟨p0, p1, _, _⟩ := box2 (blanks_box hbox.out hb4'.out hb5 (Obj.cells #[.slice A5 p.vars.length c5, .slice A6 p.procs.length c6] 42)); obtain ⟨q0, q1, _, _⟩ := box2 (World.alloc_heap_new w5 (Obj.cells #[.slice A5 p.vars.length c5, .slice A6 p.procs.length c6] 42)); have hSm := Lib.hid (blanks_call15 hV.out hF4.out hb4'.out hb5 ⟨A5, c5, A6, c6, rfl, hv5, hpp5⟩ hF5 hsh.out (Obj.cells #[.slice A5 p.vars.length c5, .slice A6 p.procs.length c6] 42)); have hb5 := Lib.hid hb5; clear hv5 hpp5 hF5) | (go_at_call 15; refine hSm.out.mono ?_; rintro e w6 ⟨rfl, hb6⟩))
            go_ret
            exact ⟨rfl, below_chain (below_chain (below_chain (below_chain hbw.out hb4'.out) hb5.out) ((Below.refl _ w5).alloc (Nat.le_refl _) _)) hb6⟩
      · go_ret
        exact ⟨rfl, below_chain (below_chain (below_chain hb1 hb2) ((Below.refl _ w2).alloc (Nat.le_refl _) _)) hb3⟩
    · have h0b : (er != 0) = true := by simpa using h0
      go_enter Tryd.func5, Tryd.ntmps5
      go_wp2_with (first | (go_at_call 12; refine AW.out.mono ?_; rintro e w1 ⟨rfl, hb1⟩) | (go_at_call 13; refine (P.out _ hb1).mono ?_; rintro e w2 ⟨v, F, rfl, ⟨A, c, A2, c2, rfl, hv, hpp⟩, hF, hb2⟩) | (go_at_call 14; refine (RS.out _).mono ?_; rintro e w3 ⟨A3, cp3, l, ln3, cl3, er3, rfl, hl3, hT3, hb3⟩))
      go_ret
      exact ⟨rfl, below_chain (below_chain (below_chain hb1 hb2) ((Below.refl _ w2).alloc (Nat.le_refl _) _)) hb3⟩
  · subst hcut
    have hbigI : ¬ 20000 < (s'.size : Int) := by omega
    clear hbig
    by_cases h0 : er = 0
    · have h0b : (er != 0) = false := by simpa using h0
      have hsp1 := Lib.hid (hsp.out h0)
      have PB1 := Lib.hid (fun sb => PB.out sb h0)
      clear PB hsp
      subst h0
      go_enter Tryd.func5, Tryd.ntmps5
      go_wp2_with (first | (go_at_call 12; refine AW.out.mono ?_; rintro e w1 ⟨rfl, hb1⟩) | (go_at_call 13; refine (P.out _ hb1).mono ?_; rintro e w2 ⟨v, F, rfl, ⟨A, c, A2, c2, rfl, hv, hpp⟩, hF, hb2⟩) | (go_at_call 14; refine (RS.out _).mono ?_; rintro e w3 ⟨A3, cp3, l, ln3, cl3, er3, rfl, hl3, hT3, hb3⟩))
      · go_ret
        exact ⟨rfl, below_chain (below_chain (below_chain hb1 hb2) ((Below.refl _ w2).alloc (Nat.le_refl _) _)) hb3⟩
      · have her3 : er3 = 0 := by assumption
        have hmany : (l.length : Int) ≤ 2000 := by assumption
        have hll : l.length ≤ 2000 := by omega
        have htx0 := hl3 her3 hsp1.out
        have hlK0 := texts_len hKh.out htx0
        have hKl := Lib.hid (show K.length ≤ 2000 by omega)
        have hlK := Lib.hid hlK0
        have htx := Lib.hid (fun i t (h : l[i]? = some t) => texts_at hKh.out htx0 h)
        have hT4 := Lib.hid hT3
        have hb12 := Lib.hid (below_chain (below_chain hb1 hb2) ((Below.refl _ w2).alloc (Nat.le_refl _) (Obj.cells #[Value.slice A p.vars.length c, Value.slice A2 p.procs.length c2] 42)))
        have hb3' := Lib.hid hb3
        have hbw := Lib.hid (below_chain hb12.out hb3)
        have hV := Lib.hid (show HPrg w3 F (.agg #[.slice A p.vars.length c, .slice A2 p.procs.length c2]) p from HPrg.keep (fun q hq => ⟨hq, (hb3.block q (by have := (hF q hq).2; rw [World.size_alloc]; omega)).trans (Lib.alloc_old _ _ _ (hF q hq).2)⟩) ⟨A, c, A2, c2, rfl, hv, hpp⟩)
        have hF4 := Lib.hid (show ∀ q, F q → q < w3.heap.size from fun q hq => by have h1 := (hF q hq).2; have h2 := hb3.size; rw [World.size_alloc] at h2; omega)
        have hbox := Lib.hid (show w3.heap[w2.heap.size]? = some (.cells #[.slice A p.vars.length c, .slice A2 p.procs.length c2] 42 (0, 0)) from (hb3.block _ (by simp)).trans (World.alloc_heap_new w2 _))
        subst her3
        clear hl3 hv hpp hb1 hb2 hb3 hll hmany htx0 hlK0 hT3 hF AW P RS
        go_loopw [13, 14] (fun x y wr => ∃ (i : Nat) (sb : ByteArray), x = .string sb ∧ y = .int .i64 i ∧ i ≤ l.length ∧ BlkI K i sb ∧ Below w3.heap.size w3 wr)
          (fun _ y _ => l.length - (intOf y).toNat)
        case atStart => exact ⟨0, ⟨#[]⟩, rfl, rfl, Nat.zero_le _, ⟨⟨[], rfl, by simp, by simp⟩, Nat.le_refl _⟩, Below.refl _ _⟩
        case round =>
          obtain ⟨j, sb, rfl, rfl, hj, hI, hb4⟩ := hrel
          have hsb := hI.size
          have hKl2 := hKl.out
          have hlK2 := hlK.out
          by_cases hjl : j < l.length
          · obtain ⟨t, ht⟩ : ∃ t, l[j]? = some t := ⟨_, List.getElem?_eq_getElem hjl⟩
            obtain ⟨ad, rfl, _, c0, c1, c2', c3⟩ := (hT4.out.below hb4) j t ht
            obtain ⟨y, hy, hty⟩ := htx.out j t ht
            have htl : t.text.size ≤ 64 := by
              have := (Wd.right_len (hKr.out y (List.mem_of_getElem? hy))).2
              rw [hty]; simpa [ByteArray.size] using this
            have hst := Lib.hid (fun gap => hI.step hKr.out (gap := gap) hy)
            rw [← hty] at hst
            have hb4' := Lib.hid hb4
            have hwo := Lib.hid (hb4.alloc hb4.size (Obj.cells #[Value.string { data := #[32] }, Value.string { data := #[10] }, Value.string { data := #[32, 35, 32, 120, 59, 10] }, Value.string { data := #[9, 9] }] 9))
            have hco := Lib.hid (show (wr.alloc (Obj.cells #[Value.string { data := #[32] }, Value.string { data := #[10] }, Value.string { data := #[32, 35, 32, 120, 59, 10] }, Value.string { data := #[9, 9] }] 9)).cell? ⟨(ad.add (j * 4)).block, (ad.add (j * 4)).off + 1, none⟩ = some (.string t.text) by
              obtain ⟨ae, hae, _, _, e1, _⟩ := (hT4.out.below hwo.out) j t ht
              cases hae
              exact e1)
            clear hI hb4 ht hy hty
            by_cases hgs : gs.length = 0
            · have hg0 : ¬ (0 : Int) < (gs.length : Int) := by omega
              clear hgs
              go_wp2
              go_roundw
              case rel => exact ⟨j + 1, _, rfl, by go_num, hjl, hst.out ⟨#[32]⟩ (.inl rfl) (by decide), hb4'.out⟩
              case measure => simp [intOf]; omega
            · obtain ⟨z, hz⟩ : ∃ z, gs[j % gs.length]? = some z := ⟨_, List.getElem?_eq_getElem (Nat.mod_lt _ (by omega))⟩
              obtain ⟨ga, hga, _, d0, d1, d2⟩ := ((hG2.out.below hbw.out).below hwo.out) _ z hz
              have hjg : j % gs.length < gs.length := Nat.mod_lt _ (by omega)
              have e1 : (wr.alloc (Obj.cells #[Value.string { data := #[32] }, Value.string { data := #[10] }, Value.string { data := #[32, 35, 32, 120, 59, 10] }, Value.string { data := #[9, 9] }] 9)).cell? ⟨(ad.add (j * 4)).block, (ad.add (j * 4)).off + 1, none⟩ = some (.string t.text) := hco.out
              subst hga
              obtain ⟨zn, rfl⟩ : ∃ zn : Nat, z = zn := ⟨z.toNat, by omega⟩
              have hg0 : (0 : Int) < (gs.length : Int) := by omega
              have hgn : ¬ ((gs.length : Int) = 0) := by omega
              have hm : zn % 4 = 0 ∨ zn % 4 = 1 ∨ zn % 4 = 2 ∨ zn % 4 = 3 := by omega
              clear hgs hz
              rcases hm with hm | hm | hm | hm
              · go_wp2
                go_roundw
                case rel => exact ⟨j + 1, _, rfl, by go_num, hjl, hst.out ⟨#[32]⟩ (.inl rfl) (by decide), hwo.out⟩
                case measure => simp [intOf]; omega
              · go_wp2
                go_roundw
                case rel => exact ⟨j + 1, _, rfl, by go_num, hjl, hst.out ⟨#[10]⟩ (.inr (.inl rfl)) (by decide), hwo.out⟩
                case measure => simp [intOf]; omega
              · go_wp2
                go_roundw
                case rel => exact ⟨j + 1, _, rfl, by go_num, hjl, hst.out ⟨#[32, 35, 32, 120, 59, 10]⟩ (.inr (.inr (.inl rfl))) (by decide), hwo.out⟩
                case measure => simp [intOf]; omega
              · go_wp2
                go_roundw
                case rel => exact ⟨j + 1, _, rfl, by go_num, hjl, hst.out ⟨#[9, 9]⟩ (.inr (.inr (.inr rfl))) (by decide), hwo.out⟩
                case measure => simp [intOf]; omega
          · have hjl' : ¬ (j : Int) < (l.length : Int) := by omega
            have hjN : j = K.length := by omega
            subst hjN
            have PQ := Lib.hid (PB1.out sb hKl2 hI wr (hE2.out.below (below_chain hbw.out hb4)))
            have hb4' := Lib.hid hb4
            clear hI hb4 hsb
            go_wp2_with (first | (go_at_call 13; refine PQ.out.mono ?_; rintro e w5 ⟨v5, F5, rfl, ⟨A5, c5, A6, c6, rfl, hv5, hpp5⟩, hF5, hb5⟩; obtain ⟨p0, p1, _, _⟩ := box2 (blanks_box hbox.out hb4'.out hb5 (Obj.cells #[.slice A5 p.vars.length c5, .slice A6 p.procs.length c6] 42)); obtain ⟨q0, q1, _, _⟩ := box2 (World.alloc_heap_new w5 (Obj.cells #[.slice A5 p.vars.length c5, .slice A6 p.procs.length c6] 42)); have hSm := Lib.hid (blanks_call15 hV.out hF4.out hb4'.out hb5 ⟨A5, c5, A6, c6, rfl, hv5, hpp5⟩ hF5 hsh.out (Obj.cells #[.slice A5 p.vars.length c5, .slice A6 p.procs.length c6] 42)); have hb5 := Lib.hid hb5; clear hv5 hpp5 hF5) | (go_at_call 15; refine hSm.out.mono ?_; rintro e w6 ⟨rfl, hb6⟩))
            go_ret
            exact ⟨rfl, below_chain (below_chain (below_chain (below_chain hbw.out hb4'.out) hb5.out) ((Below.refl _ w5).alloc (Nat.le_refl _) _)) hb6⟩
      · go_ret
        exact ⟨rfl, below_chain (below_chain (below_chain hb1 hb2) ((Below.refl _ w2).alloc (Nat.le_refl _) _)) hb3⟩
    · have h0b : (er != 0) = true := by simpa using h0
      go_enter Tryd.func5, Tryd.ntmps5
      go_wp2_with (first | (go_at_call 12; refine AW.out.mono ?_; rintro e w1 ⟨rfl, hb1⟩) | (go_at_call 13; refine (P.out _ hb1).mono ?_; rintro e w2 ⟨v, F, rfl, ⟨A, c, A2, c2, rfl, hv, hpp⟩, hF, hb2⟩) | (go_at_call 14; refine (RS.out _).mono ?_; rintro e w3 ⟨A3, cp3, l, ln3, cl3, er3, rfl, hl3, hT3, hb3⟩))
      go_ret
      exact ⟨rfl, below_chain (below_chain (below_chain hb1 hb2) ((Below.refl _ w2).alloc (Nat.le_refl _) _)) hb3⟩
end Go.Proofs.YtifmalbdolpocaaDoor
