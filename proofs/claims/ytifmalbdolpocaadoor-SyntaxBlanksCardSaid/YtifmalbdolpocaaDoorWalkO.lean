/-
  The walks of package words, fifteenth part: WordsBetween.
-/
import Derived.Test.YtifmalbdolpocaaDoorWalkN
namespace Go.Proofs.YtifmalbdolpocaaDoor
open Go.RowKit Go.Shelf

/-- The gaps that came in. -/
def Gaps (w : World) (G : Option Addr) (gs : List Int) : Prop :=
  ∀ (k : Nat) (z : Int), gs[k]? = some z → ∃ ad, G = some ad ∧ ad.block < w.heap.size ∧ w.cell? (ad.add k) = some (.int .u8 z) ∧ 0 ≤ z ∧ z < 256
theorem Gaps.below {w w' : World} {A : Option Addr} {l : List Int} (h : Gaps w A l) (hb : Below w.heap.size w w') : Gaps w' A l := by
  intro k t hk
  obtain ⟨ad, e, hlt, h0, h1, h2⟩ := h k t hk
  have cb : ∀ p : Addr, p.block = ad.block → w'.cell? p = w.cell? p := fun p hp => World.cell?_of_block (by rw [hp]; exact hb.block _ hlt)
  have hbk : (ad.add k).block = ad.block := by unfold Addr.add; split <;> rfl
  exact ⟨ad, e, Nat.lt_of_lt_of_le hlt hb.size, (cb (ad.add k) hbk).trans h0, h1, h2⟩

/-- What WordsBetween has made of the first tokens. -/
structure BtwI (ln : ByteArray) (l : List ITok) (i : Nat) (sb : ByteArray) : Prop where
  made : ∃ x : List Piece, sb.data.toList = Wd.body x ∧ (∀ y ∈ x, Wd.IsGap ln.data.toList y.1 ∧ Wd.right y.2.2 y.2.1 = true) ∧
    x.map (fun y => ((y.2.1 : Int), (⟨y.2.2.toArray⟩ : ByteArray))) = (l.take i).map (fun t => (t.kind, t.text))
  size : sb.size ≤ 167 * i
theorem BtwI.step {ln : ByteArray} {l : List ITok} {i : Nat} {sb : ByteArray} (h : BtwI ln l i sb) {t : ITok} (ht : l[i]? = some t) (hr : rightZ t = true) {gap : ByteArray} (hg : Wd.IsGap ln.data.toList gap.data.toList) (hgs : gap.size ≤ 103) :
    BtwI ln l (i + 1) ((sb ++ gap) ++ t.text) := by
  obtain ⟨x, hd, hx, hm⟩ := h.made
  have hlt : i < l.length := (List.getElem?_eq_some_iff.1 ht).1
  have hti : l[i] = t := by rw [List.getElem?_eq_getElem hlt] at ht; exact Option.some.inj ht
  have hr2 := hr
  unfold rightZ at hr2
  rw [Bool.and_eq_true, decide_eq_true_eq] at hr2
  refine ⟨⟨x ++ [(gap.data.toList, t.kind.toNat, t.text.data.toList)], ?_, ?_, ?_⟩, ?_⟩
  · rw [append_data, append_data, hd, body_snoc]; simp
  · intro y hy
    rcases List.mem_append.1 hy with h1 | h1
    · exact hx y h1
    · rw [List.mem_singleton] at h1
      rw [h1]
      exact ⟨hg, hr2.2⟩
  · rw [List.map_append, hm, List.take_succ_eq_append_getElem hlt, List.map_append, hti]
    have : ((t.kind.toNat : Nat) : Int) = t.kind := Int.toNat_of_nonneg hr2.1
    simp [this]
  · have := rightZ_len hr
    have := h.size
    rw [ByteArray.size_append, ByteArray.size_append]
    omega

set_option maxRecDepth 100000 in
set_option maxHeartbeats 4000000 in
theorem between_calls (A G : Option Addr) (cp gc : Nat) (l : List ITok) (gs : List Int) (rem : ByteArray) (w : World) (hE : Env w) (hT : Toks w A l) (hcp : l.length ≤ cp) (hG : Gaps w G gs)
    (hz : ∀ t ∈ l, t.text.size ≤ 281474976710656) (hlm : l.length ≤ 9223372036854775806) (hcm : cp ≤ 9223372036854775807) (hgm : gs.length ≤ 9223372036854775806) (hrm : rem.size ≤ 9223372036854775806) :
    Calls Tryd.prog 4 #[.slice A l.length cp, .slice G gs.length gc, .string rem] w fun e w' => e = .returned (.bool true) ∧ Below w.heap.size w w' := by
  have AW := Lib.hid (awake_calls w hE)
  obtain ⟨l', hl', hz'⟩ : ∃ l' : List ITok, ((300 < l.length ∧ l' = l.take 300) ∨ (¬ 300 < l.length ∧ l' = l)) ∧ l'.length ≤ 300 := by
    by_cases h : 300 < l.length
    · exact ⟨_, .inl ⟨h, rfl⟩, by simp; omega⟩
    · exact ⟨_, .inr ⟨h, rfl⟩, by omega⟩
  have hmem : ∀ t ∈ l', t ∈ l := by
    rcases hl' with ⟨_, rfl⟩ | ⟨_, rfl⟩
    · exact fun t ht => List.mem_of_mem_take ht
    · exact fun t ht => ht
  have hT' : Toks w A l' := by
    rcases hl' with ⟨_, rfl⟩ | ⟨_, rfl⟩
    · exact hT.take 300
    · exact hT
  obtain ⟨N, hN⟩ : ∃ N, l'.length = N := ⟨_, rfl⟩
  have S := Lib.hid (fun w1 (hb : Below w.heap.size w w1) => say_calls A cp l' w1 (hE.below hb) (hT'.below hb) hz' (fun t ht => hz t (hmem t ht)))
  rw [hN] at S hz'
  have hT2 := Lib.hid hT'
  have hG2 := Lib.hid hG
  have hE2 := Lib.hid hE
  have hN2 := Lib.hid hN
  clear hT' hG hE hN hz hT hmem
  rcases hl' with ⟨hbig, hcut⟩ | ⟨hbig, hcut⟩
  · have hN3 : 300 = N := by rw [← hN2.out, hcut]; simp; omega
    have hbig' : 300 < (l.length : Int) := by omega
    obtain ⟨ad, rfl⟩ : ∃ ad, A = some ad := by
      obtain ⟨t, ht⟩ : ∃ t, l'[0]? = some t := ⟨_, List.getElem?_eq_getElem (by rw [hN2.out]; omega)⟩
      obtain ⟨ad, e, _⟩ := hT2.out 0 t ht
      exact ⟨ad, e⟩
    subst hN3
    have hcp' : 300 ≤ (cp : Int) := by omega
    clear hbig hcut
    go_enter Tryd.func4, Tryd.ntmps4
    go_wp2_with (first | (go_at_call 6; refine AW.out.mono ?_; rintro e w1 ⟨rfl, hb⟩) | (go_at_call 10; refine (S.out _ hb).mono ?_; rintro e w2 ⟨str, er, rfl, hl, hb2⟩))
    · go_ret
      exact ⟨rfl, below_chain hb hb2⟩
    · have her : er = 0 := by assumption
      have hrs : (rem.size : Int) ≤ 100 := by assumption
      have hR := Lib.hid (hl her)
      have hbw2 := Lib.hid (below_chain hb hb2)
      obtain ⟨N, hN⟩ : ∃ N, N = 300 := ⟨_, rfl⟩
      have hN4 := Lib.hid (show N ≤ 300 by omega)
      rw [← hN] at hN2 ⊢
      subst her
      clear hl hb hb2 AW S hcp' hz' hbig' hN hcp
      go_loopw [9, 10] (fun x y wr => ∃ (i : Nat) (ln : ByteArray), x = .string ln ∧ y = .int .i64 i ∧ i ≤ rem.size ∧ ln.size ≤ i ∧ (∀ c ∈ ln.data.toList, c ≠ 10) ∧ w2 = wr)
        (fun _ y _ => rem.size - (intOf y).toNat)
      case atStart => exact ⟨0, ⟨#[]⟩, rfl, rfl, Nat.zero_le _, Nat.le_refl _, by simp, rfl⟩
      case round =>
        obtain ⟨i, ln, rfl, rfl, hi, hln, hno, rfl⟩ := hrel
        by_cases hlt : i < rem.size
        · have hln' := Lib.hid hln
          have hno' := Lib.hid hno
          clear hln hno
          by_cases h3 : rem[i] = 10
          · have hq3 : ((rem[i].toNat : Int) != 10) = false := by rw [h3]; rfl
            clear h3
            go_wp2
            go_roundw
            case rel => exact ⟨i + 1, ln, rfl, by go_num, hlt, by have := hln'.out; omega, hno'.out, trivial⟩
            case measure => simp [intOf]; omega
          · have hq3 : ((rem[i].toNat : Int) != 10) = true := by
              have := Wd.u8_all (fun c => ((c.toNat : Int) != 10) == decide (c ≠ 10)) (by decide +kernel) rem[i]
              simpa [h3] using this
            have h3' := Lib.hid h3
            have hcat : ¬ 9223372036854775807 < ln.size + (min (i + 1) rem.size - i) := by have := hln'.out; omega
            clear h3
            go_wp2
            go_roundw
            case rel =>
              refine ⟨i + 1, ln ++ rem.extract i (i + 1), rfl, by go_num, hlt, ?_, ?_, trivial⟩
              · rw [ByteArray.size_append, ByteArray.size_extract]; have := hln'.out; omega
              · rw [append_data, cut_data]
                intro c hc
                rcases List.mem_append.1 hc with h | h
                · exact hno'.out c h
                · rw [show i + 1 - i = 1 by omega, List.drop_eq_getElem_cons (by simpa using hlt), List.take_succ_cons, List.take_zero, List.mem_singleton] at h
                  rw [h]; exact h3'.out
            case measure => simp [intOf]; omega
        · have hlt' : ¬ (i : Int) < (rem.size : Int) := by omega
          have hln2 := Lib.hid (show ln.size ≤ 100 by omega)
          have hno' := Lib.hid hno
          clear hln hno hlt
          go_wp2
          go_loopw [11, 12] (fun x y wr => ∃ (i : Nat) (sb : ByteArray), x = .string sb ∧ y = .int .i64 i ∧ i ≤ N ∧ BtwI ln l' i sb ∧ Below w2.heap.size w2 wr)
            (fun _ y _ => N - (intOf y).toNat)
          case atStart => exact ⟨0, ⟨#[]⟩, rfl, rfl, Nat.zero_le _, ⟨⟨[], rfl, by simp, by simp⟩, Nat.le_refl _⟩, Below.refl _ _⟩
          case round =>
            obtain ⟨j, sb, rfl, rfl, hj, hI, hbw⟩ := hrel
            have hsb := hI.size
            have hN5 := hN4.out
            by_cases hjl : j < N
            · obtain ⟨t, ht⟩ : ∃ t, l'[j]? = some t := ⟨_, List.getElem?_eq_getElem (by rw [hN2.out]; omega)⟩
              obtain ⟨ae, hae, _, c0, c1, c2, c3⟩ := ((hT2.out.below hbw2.out).below hbw) j t ht
              cases hae
              have hrt : rightZ t = true := hR.out t (List.mem_of_getElem? ht)
              have htl := rightZ_len hrt
              have hst := Lib.hid (fun gap => hI.step (gap := gap) ht hrt)
              have hco := Lib.hid (show (wr.alloc (Obj.cells #[Value.string { data := #[32] }, Value.string { data := #[10] }, Value.string { data := #[9, 32, 13] }, Value.string ({ data := #[32, 35] } ++ ln ++ { data := #[10] })] 9)).cell? ⟨(ad.add (j * 4)).block, (ad.add (j * 4)).off + 1, none⟩ = some (.string t.text) by
                obtain ⟨ae, hae, _, _, c1, _⟩ := ((hT2.out.below hbw2.out).below (hbw.alloc hbw.size _)) j t ht
                cases hae
                exact c1)
              have hbw' := Lib.hid hbw
              clear hI hbw ht hrt
              by_cases hgs : gs.length = 0
              · have hg0 : ¬ (0 : Int) < (gs.length : Int) := by omega
                clear hgs
                go_wp2
                go_roundw
                case rel => exact ⟨j + 1, _, rfl, by go_num, hjl, hst.out ⟨#[32]⟩ (.inl rfl) (by decide), hbw'.out⟩
                case measure => simp [intOf]; omega
              · obtain ⟨z, hz⟩ : ∃ z, gs[j % gs.length]? = some z := ⟨_, List.getElem?_eq_getElem (Nat.mod_lt _ (by omega))⟩
                have hwo := Lib.hid (hbw'.out.alloc hbw'.out.size (Obj.cells #[Value.string { data := #[32] }, Value.string { data := #[10] }, Value.string { data := #[9, 32, 13] }, Value.string ({ data := #[32, 35] } ++ ln ++ { data := #[10] })] 9))
                obtain ⟨ga, hga, _, d0, d1, d2⟩ := ((hG2.out.below hbw2.out).below hwo.out) _ z hz
                have hjg : j % gs.length < gs.length := Nat.mod_lt _ (by omega)
                have e1 : (wr.alloc (Obj.cells #[Value.string { data := #[32] }, Value.string { data := #[10] }, Value.string { data := #[9, 32, 13] }, Value.string ({ data := #[32, 35] } ++ ln ++ { data := #[10] })] 9)).cell? ⟨(ad.add (j * 4)).block, (ad.add (j * 4)).off + 1, none⟩ = some (.string t.text) := hco.out
                subst hga
                obtain ⟨zn, rfl⟩ : ∃ zn : Nat, z = zn := ⟨z.toNat, by omega⟩
                have hg0 : (0 : Int) < (gs.length : Int) := by omega
                have hgn : ¬ ((gs.length : Int) = 0) := by omega
                have hln3 := hln2.out
                have hm : zn % 4 = 0 ∨ zn % 4 = 1 ∨ zn % 4 = 2 ∨ zn % 4 = 3 := by omega
                clear hgs hz
                rcases hm with hm | hm | hm | hm
                · go_wp2
                  go_roundw
                  case rel => exact ⟨j + 1, _, rfl, by go_num, hjl, hst.out ⟨#[32]⟩ (.inl rfl) (by decide), hwo.out⟩
                  case measure => simp [intOf]; omega
                · go_wp2
                  go_roundw
                  case rel => exact ⟨j + 1, _, rfl, by go_num, hjl, hst.out ⟨#[10]⟩ (.inr (.inl rfl)) (by decide), hwo.out⟩
                  case measure => simp [intOf]; omega
                · go_wp2
                  go_roundw
                  case rel => exact ⟨j + 1, _, rfl, by go_num, hjl, hst.out ⟨#[9, 32, 13]⟩ (.inr (.inr (.inl rfl))) (by decide), hwo.out⟩
                  case measure => simp [intOf]; omega
                · go_wp2
                  go_roundw
                  case rel => exact ⟨j + 1, _, rfl, by go_num, hjl, hst.out (({ data := #[32, 35] } ++ ln) ++ { data := #[10] }) (by right; right; right; rw [append_data, append_data]; simp) (by rw [ByteArray.size_append, ByteArray.size_append]; have := hln2.out; show 2 + ln.size + 1 ≤ 103; omega), hwo.out⟩
                  case measure => simp [intOf]; omega
            · have hjl' : ¬ (j : Int) < (N : Int) := by omega
              have hjN : j = N := by omega
              obtain ⟨x, hd, hx, hm⟩ := hI.made
              have hln3 := hln2.out
              have hsz : ((sb ++ { data := #[32, 35] }) ++ ln).size ≤ 65536 := by
                rw [ByteArray.size_append, ByteArray.size_append]; show sb.size + 2 + ln.size ≤ 65536; omega
              have hm2 : x.map (fun y => ((y.2.1 : Int), (⟨y.2.2.toArray⟩ : ByteArray))) = l'.map (fun t => (t.kind, t.text)) := by
                rw [hm, hjN, ← hN2.out, List.take_length]
              have hSp := Lib.hid (split_between ((sb ++ { data := #[32, 35] }) ++ ln) hsz ln.data.toList x l' (by rw [append_data, append_data, hd]; simp) hno'.out hx hm2 wr ((hE2.out.below hbw2.out).below hbw))
              have hTw := Lib.hid ((hT2.out.below hbw2.out).below hbw)
              have hbw' := Lib.hid (below_chain hbw2.out hbw)
              have hAl := Lib.hid (fun (W : World) (A' : Option Addr) (cp' : Nat) (m : List ITok) (hT : Toks W (some ad) l') (hM : Toks W A' m) (he : l'.length = m.length) (hs : ∀ (k : Nat) (t u : ITok), l'[k]? = some t → m[k]? = some u → t.kind = u.kind ∧ t.text = u.text) =>
                alike_calls (some ad) A' cp cp' l' m W (by rw [hN2.out]; omega) hT hM he hs)
              rw [hN2.out] at hAl
              clear hI hd hx hm hm2 hsz hbw hjN
              go_wp2_with (first | (go_at_call 7; refine hSp.out.mono ?_; rintro e W ⟨A', cp', m, rfl, hM, hlm2, hsm, hbW⟩; have hM := Lib.hid hM; have hsm := Lib.hid hsm; have hlm2 := Lib.hid hlm2) | (go_at_call 11; refine (hAl.out W A' cp' m (hTw.out.below hbW) hM.out (by have := hlm2.out; have := hN2.out; omega) hsm.out).mono ?_; rintro e W3 ⟨rfl, hb3⟩))
              go_ret
              exact ⟨rfl, below_chain (below_chain hbw'.out hbW) hb3⟩
    · go_ret
      exact ⟨rfl, below_chain hb hb2⟩
  · subst hcut
    have hNl : l'.length = N := hN2.out
    have hbig' : ¬ 300 < (N : Int) := by omega
    rw [hNl]
    clear hbig hNl
    go_enter Tryd.func4, Tryd.ntmps4
    go_wp2_with (first | (go_at_call 6; refine AW.out.mono ?_; rintro e w1 ⟨rfl, hb⟩) | (go_at_call 10; refine (S.out _ hb).mono ?_; rintro e w2 ⟨str, er, rfl, hl, hb2⟩))
    · go_ret
      exact ⟨rfl, below_chain hb hb2⟩
    · have her : er = 0 := by assumption
      have hrs : (rem.size : Int) ≤ 100 := by assumption
      have hR := Lib.hid (hl her)
      have hbw2 := Lib.hid (below_chain hb hb2)
      have hN4 := Lib.hid hz'
      subst her
      clear hl hb hb2 AW S hz' hbig' hcp
      go_loopw [9, 10] (fun x y wr => ∃ (i : Nat) (ln : ByteArray), x = .string ln ∧ y = .int .i64 i ∧ i ≤ rem.size ∧ ln.size ≤ i ∧ (∀ c ∈ ln.data.toList, c ≠ 10) ∧ w2 = wr)
        (fun _ y _ => rem.size - (intOf y).toNat)
      case atStart => exact ⟨0, ⟨#[]⟩, rfl, rfl, Nat.zero_le _, Nat.le_refl _, by simp, rfl⟩
      case round =>
        obtain ⟨i, ln, rfl, rfl, hi, hln, hno, rfl⟩ := hrel
        by_cases hlt : i < rem.size
        · have hln' := Lib.hid hln
          have hno' := Lib.hid hno
          clear hln hno
          by_cases h3 : rem[i] = 10
          · have hq3 : ((rem[i].toNat : Int) != 10) = false := by rw [h3]; rfl
            clear h3
            go_wp2
            go_roundw
            case rel => exact ⟨i + 1, ln, rfl, by go_num, hlt, by have := hln'.out; omega, hno'.out, trivial⟩
            case measure => simp [intOf]; omega
          · have hq3 : ((rem[i].toNat : Int) != 10) = true := by
              have := Wd.u8_all (fun c => ((c.toNat : Int) != 10) == decide (c ≠ 10)) (by decide +kernel) rem[i]
              simpa [h3] using this
            have h3' := Lib.hid h3
            have hcat : ¬ 9223372036854775807 < ln.size + (min (i + 1) rem.size - i) := by have := hln'.out; omega
            clear h3
            go_wp2
            go_roundw
            case rel =>
              refine ⟨i + 1, ln ++ rem.extract i (i + 1), rfl, by go_num, hlt, ?_, ?_, trivial⟩
              · rw [ByteArray.size_append, ByteArray.size_extract]; have := hln'.out; omega
              · rw [append_data, cut_data]
                intro c hc
                rcases List.mem_append.1 hc with h | h
                · exact hno'.out c h
                · rw [show i + 1 - i = 1 by omega, List.drop_eq_getElem_cons (by simpa using hlt), List.take_succ_cons, List.take_zero, List.mem_singleton] at h
                  rw [h]; exact h3'.out
            case measure => simp [intOf]; omega
        · have hlt' : ¬ (i : Int) < (rem.size : Int) := by omega
          have hln2 := Lib.hid (show ln.size ≤ 100 by omega)
          have hno' := Lib.hid hno
          clear hln hno hlt
          go_wp2
          go_loopw [11, 12] (fun x y wr => ∃ (i : Nat) (sb : ByteArray), x = .string sb ∧ y = .int .i64 i ∧ i ≤ N ∧ BtwI ln l' i sb ∧ Below w2.heap.size w2 wr)
            (fun _ y _ => N - (intOf y).toNat)
          case atStart => exact ⟨0, ⟨#[]⟩, rfl, rfl, Nat.zero_le _, ⟨⟨[], rfl, by simp, by simp⟩, Nat.le_refl _⟩, Below.refl _ _⟩
          case round =>
            obtain ⟨j, sb, rfl, rfl, hj, hI, hbw⟩ := hrel
            have hsb := hI.size
            have hN5 := hN4.out
            by_cases hjl : j < N
            · obtain ⟨t, ht⟩ : ∃ t, l'[j]? = some t := ⟨_, List.getElem?_eq_getElem (by rw [hN2.out]; omega)⟩
              obtain ⟨ad, rfl⟩ : ∃ ad, A = some ad := by
                obtain ⟨ae, e, _⟩ := hT2.out j t ht
                exact ⟨ae, e⟩
              obtain ⟨ae, hae, _, c0, c1, c2, c3⟩ := ((hT2.out.below hbw2.out).below hbw) j t ht
              cases hae
              have hrt : rightZ t = true := hR.out t (List.mem_of_getElem? ht)
              have htl := rightZ_len hrt
              have hst := Lib.hid (fun gap => hI.step (gap := gap) ht hrt)
              have hco := Lib.hid (show (wr.alloc (Obj.cells #[Value.string { data := #[32] }, Value.string { data := #[10] }, Value.string { data := #[9, 32, 13] }, Value.string ({ data := #[32, 35] } ++ ln ++ { data := #[10] })] 9)).cell? ⟨(ad.add (j * 4)).block, (ad.add (j * 4)).off + 1, none⟩ = some (.string t.text) by
                obtain ⟨ae, hae, _, _, c1, _⟩ := ((hT2.out.below hbw2.out).below (hbw.alloc hbw.size _)) j t ht
                cases hae
                exact c1)
              have hbw' := Lib.hid hbw
              clear hI hbw ht hrt
              by_cases hgs : gs.length = 0
              · have hg0 : ¬ (0 : Int) < (gs.length : Int) := by omega
                clear hgs
                go_wp2
                go_roundw
                case rel => exact ⟨j + 1, _, rfl, by go_num, hjl, hst.out ⟨#[32]⟩ (.inl rfl) (by decide), hbw'.out⟩
                case measure => simp [intOf]; omega
              · obtain ⟨z, hz⟩ : ∃ z, gs[j % gs.length]? = some z := ⟨_, List.getElem?_eq_getElem (Nat.mod_lt _ (by omega))⟩
                have hwo := Lib.hid (hbw'.out.alloc hbw'.out.size (Obj.cells #[Value.string { data := #[32] }, Value.string { data := #[10] }, Value.string { data := #[9, 32, 13] }, Value.string ({ data := #[32, 35] } ++ ln ++ { data := #[10] })] 9))
                obtain ⟨ga, hga, _, d0, d1, d2⟩ := ((hG2.out.below hbw2.out).below hwo.out) _ z hz
                have hjg : j % gs.length < gs.length := Nat.mod_lt _ (by omega)
                have e1 : (wr.alloc (Obj.cells #[Value.string { data := #[32] }, Value.string { data := #[10] }, Value.string { data := #[9, 32, 13] }, Value.string ({ data := #[32, 35] } ++ ln ++ { data := #[10] })] 9)).cell? ⟨(ad.add (j * 4)).block, (ad.add (j * 4)).off + 1, none⟩ = some (.string t.text) := hco.out
                subst hga
                obtain ⟨zn, rfl⟩ : ∃ zn : Nat, z = zn := ⟨z.toNat, by omega⟩
                have hg0 : (0 : Int) < (gs.length : Int) := by omega
                have hgn : ¬ ((gs.length : Int) = 0) := by omega
                have hln3 := hln2.out
                have hm : zn % 4 = 0 ∨ zn % 4 = 1 ∨ zn % 4 = 2 ∨ zn % 4 = 3 := by omega
                clear hgs hz
                rcases hm with hm | hm | hm | hm
                · go_wp2
                  go_roundw
                  case rel => exact ⟨j + 1, _, rfl, by go_num, hjl, hst.out ⟨#[32]⟩ (.inl rfl) (by decide), hwo.out⟩
                  case measure => simp [intOf]; omega
                · go_wp2
                  go_roundw
                  case rel => exact ⟨j + 1, _, rfl, by go_num, hjl, hst.out ⟨#[10]⟩ (.inr (.inl rfl)) (by decide), hwo.out⟩
                  case measure => simp [intOf]; omega
                · go_wp2
                  go_roundw
                  case rel => exact ⟨j + 1, _, rfl, by go_num, hjl, hst.out ⟨#[9, 32, 13]⟩ (.inr (.inr (.inl rfl))) (by decide), hwo.out⟩
                  case measure => simp [intOf]; omega
                · go_wp2
                  go_roundw
                  case rel => exact ⟨j + 1, _, rfl, by go_num, hjl, hst.out (({ data := #[32, 35] } ++ ln) ++ { data := #[10] }) (by right; right; right; rw [append_data, append_data]; simp) (by rw [ByteArray.size_append, ByteArray.size_append]; have := hln2.out; show 2 + ln.size + 1 ≤ 103; omega), hwo.out⟩
                  case measure => simp [intOf]; omega
            · have hjl' : ¬ (j : Int) < (N : Int) := by omega
              have hjN : j = N := by omega
              obtain ⟨x, hd, hx, hm⟩ := hI.made
              have hln3 := hln2.out
              have hsz : ((sb ++ { data := #[32, 35] }) ++ ln).size ≤ 65536 := by
                rw [ByteArray.size_append, ByteArray.size_append]; show sb.size + 2 + ln.size ≤ 65536; omega
              have hm2 : x.map (fun y => ((y.2.1 : Int), (⟨y.2.2.toArray⟩ : ByteArray))) = l'.map (fun t => (t.kind, t.text)) := by
                rw [hm, hjN, ← hN2.out, List.take_length]
              have hSp := Lib.hid (split_between ((sb ++ { data := #[32, 35] }) ++ ln) hsz ln.data.toList x l' (by rw [append_data, append_data, hd]; simp) hno'.out hx hm2 wr ((hE2.out.below hbw2.out).below hbw))
              have hTw := Lib.hid ((hT2.out.below hbw2.out).below hbw)
              have hbw' := Lib.hid (below_chain hbw2.out hbw)
              have hAl := Lib.hid (fun (W : World) (A' : Option Addr) (cp' : Nat) (m : List ITok) (hT : Toks W A l') (hM : Toks W A' m) (he : l'.length = m.length) (hs : ∀ (k : Nat) (t u : ITok), l'[k]? = some t → m[k]? = some u → t.kind = u.kind ∧ t.text = u.text) =>
                alike_calls A A' cp cp' l' m W (by rw [hN2.out]; omega) hT hM he hs)
              rw [hN2.out] at hAl
              clear hI hd hx hm hm2 hsz hbw hjN
              go_wp2_with (first | (go_at_call 7; refine hSp.out.mono ?_; rintro e W ⟨A', cp', m, rfl, hM, hlm2, hsm, hbW⟩; have hM := Lib.hid hM; have hsm := Lib.hid hsm; have hlm2 := Lib.hid hlm2) | (go_at_call 11; refine (hAl.out W A' cp' m (hTw.out.below hbW) hM.out (by have := hlm2.out; have := hN2.out; omega) hsm.out).mono ?_; rintro e W3 ⟨rfl, hb3⟩))
              go_ret
              exact ⟨rfl, below_chain (below_chain hbw'.out hbW) hb3⟩
    · go_ret
      exact ⟨rfl, below_chain hb hb2⟩
end Go.Proofs.YtifmalbdolpocaaDoor
