/-
  The walks of package words, twelfth part: Say.
-/
import Derived.Test.YtifmalbdolpocaaDoorWalkK
import Derived.RangeFuncBox
import Derived.RangeFuncLeaves
import Derived.Test.YtifmalbdolpocaaDoorWordsBetweenP
namespace Go.Proofs.YtifmalbdolpocaaDoor
open Go.RowKit Go.Shelf

/-- A token that came in. -/
structure ITok where
  kind : Int
  text : ByteArray
  line : Int
  col : Int
def rightZ (t : ITok) : Bool := decide (0 ≤ t.kind) && Wd.right t.text.data.toList t.kind.toNat
/-- A slice of tokens, read. -/
def Toks (w : World) (A : Option Addr) (l : List ITok) : Prop :=
  ∀ (k : Nat) (t : ITok), l[k]? = some t → ∃ ad, A = some ad ∧ ad.block < w.heap.size ∧ w.cell? (ad.add (k * 4)) = some (.int .i64 t.kind) ∧
    w.cell? ⟨(ad.add (k * 4)).block, (ad.add (k * 4)).off + 1, none⟩ = some (.string t.text) ∧ w.cell? ⟨(ad.add (k * 4)).block, (ad.add (k * 4)).off + 2, none⟩ = some (.int .i64 t.line) ∧
    w.cell? ⟨(ad.add (k * 4)).block, (ad.add (k * 4)).off + 3, none⟩ = some (.int .i64 t.col)
theorem Toks.below {w w' : World} {A : Option Addr} {l : List ITok} (h : Toks w A l) (hb : Below w.heap.size w w') : Toks w' A l := by
  intro k t hk
  obtain ⟨ad, e, hlt, h0, h1, h2, h3⟩ := h k t hk
  have cb : ∀ p : Addr, p.block = ad.block → w'.cell? p = w.cell? p := fun p hp => World.cell?_of_block (by rw [hp]; exact hb.block _ hlt)
  have hbk : (ad.add (k * 4)).block = ad.block := by unfold Addr.add; split <;> rfl
  exact ⟨ad, e, Nat.lt_of_lt_of_le hlt hb.size, (cb (ad.add (k * 4)) hbk).trans h0, (cb ⟨(ad.add (k * 4)).block, (ad.add (k * 4)).off + 1, none⟩ hbk).trans h1, (cb ⟨(ad.add (k * 4)).block, (ad.add (k * 4)).off + 2, none⟩ hbk).trans h2, (cb ⟨(ad.add (k * 4)).block, (ad.add (k * 4)).off + 3, none⟩ hbk).trans h3⟩
theorem Toks.take {w : World} {A : Option Addr} {l : List ITok} (h : Toks w A l) (n : Nat) : Toks w A (l.take n) := by
  intro k t hk
  rw [List.getElem?_take] at hk
  split at hk
  · exact h k t hk
  · cases hk
/-- 'right' at any kind. -/
theorem right_any (t : ITok) (hs : t.text.size ≤ 281474976710656) (w : World) (hE : Env w) :
    Calls Tryd.prog 20 #[.string t.text, .int .i64 t.kind] w fun e w' => e = .returned (.bool (rightZ t)) ∧ Below w.heap.size w w' := by
  by_cases h : 0 ≤ t.kind
  · obtain ⟨k, hk⟩ := Int.eq_ofNat_of_zero_le h
    have := right_calls t.text hs k w hE
    rw [show rightZ t = Wd.right t.text.data.toList k by rw [rightZ, decide_eq_true h, hk]; rfl, hk]
    exact this
  · rw [show rightZ t = false by rw [rightZ, decide_eq_false h]; rfl]
    exact right_other t.text t.kind (beq_eq_false_iff_ne.2 (by omega)) (beq_eq_false_iff_ne.2 (by omega)) (beq_eq_false_iff_ne.2 (by omega)) w
theorem rightZ_len {t : ITok} (h : rightZ t = true) : t.text.size ≤ 64 := by
  unfold rightZ at h
  rw [Bool.and_eq_true] at h
  have := (Wd.right_len h.2).2
  simpa using this

/-- Say's second loop writes no more than this. -/
structure SayI (b : Nat) (w : World) (i : Nat) (W : World) : Prop where
  held : ∃ bs : List UInt8, Lib.IsBuilderF 58 5 b b (Lib.byteCells bs) W ∧ bs.length ≤ 65 * i
  below : Below w.heap.size w W
  le : b ≤ W.heap.size

set_option maxRecDepth 100000 in
set_option maxHeartbeats 2000000 in
theorem say_calls (A : Option Addr) (cp : Nat) (l : List ITok) (w : World) (hE : Env w) (hT : Toks w A l) (hl : l.length ≤ 300) (hz : ∀ t ∈ l, t.text.size ≤ 281474976710656) :
    Calls Tryd.prog 10 #[.slice A l.length cp] w fun e w' => ∃ str er, e = .returned (.tuple #[.string str, .int .i64 ((er : Nat) : Int)]) ∧ (er = 0 → ∀ t ∈ l, rightZ t = true) ∧ Below w.heap.size w w' := by
  have hE' := Lib.hid hE
  have hT' := Lib.hid hT
  have hz' := Lib.hid hz
  clear hE hT hz
  go_enter Tryd.func10, Tryd.ntmps10
  go_wp2
  go_loopw [11] (fun x wr => ∃ i : Nat, x = .int .i64 i ∧ i ≤ l.length ∧ (∀ t ∈ l.take i, rightZ t = true) ∧ Below w.heap.size w wr)
    (fun x _ => l.length - (intOf x).toNat)
  case atStart => exact ⟨0, rfl, Nat.zero_le _, by simp, Below.refl _ _⟩
  case round =>
    obtain ⟨i, rfl, hi, hall, hbw⟩ := hrel
    by_cases hlt : i < l.length
    · obtain ⟨t, ht⟩ : ∃ t, l[i]? = some t := ⟨_, List.getElem?_eq_getElem hlt⟩
      obtain ⟨ad, rfl, _, c0, c1, c2, c3⟩ := (hT'.out.below hbw) i t ht
      have hmem : t ∈ l := List.mem_of_getElem? ht
      have R := Lib.hid (fun w1 (hb : Below w.heap.size w w1) => right_any t (hz'.out t hmem) w1 (hE'.out.below hb))
      have hsn : rightZ t = true → ∀ t' ∈ l.take (i + 1), rightZ t' = true := fun hr t' ht' => by
        rw [List.take_succ_eq_append_getElem hlt] at ht'
        rcases List.mem_append.1 ht' with h | h
        · exact hall t' h
        · rw [List.mem_singleton] at h
          rw [List.getElem?_eq_getElem hlt] at ht
          rw [h, Option.some.inj ht, hr]
      have hbw' := Lib.hid hbw
      have hmem' := Lib.hid hmem
      have hwb := Lib.hid (hbw.alloc hbw.size (Obj.cells #[Value.int IntKind.i64 t.kind, Value.string t.text, Value.int IntKind.i64 t.line, Value.int IntKind.i64 t.col] 29))
      clear hall hbw ht hmem
      cases hr : rightZ t
      · rw [hr] at R
        clear hr hsn
        go_wp2_with (go_at_call 20; refine (R.out _ hwb.out).mono ?_; rintro e w3 ⟨rfl, hb3⟩)
        go_ret2
        exact ⟨⟨#[]⟩, 60, rfl, fun h => absurd h (by decide), below_chain hwb.out hb3⟩
      · rw [hr] at R
        have hsn1 := Lib.hid (hsn hr)
        clear hr hsn
        go_wp2_with (go_at_call 20; refine (R.out _ hwb.out).mono ?_; rintro e w3 ⟨rfl, hb3⟩)
        go_roundw
        case rel => exact ⟨i + 1, by go_num, hlt, hsn1.out, below_chain hwb.out hb3⟩
        case measure => simp [intOf]; omega
    · have hlt' : ¬ (i : Int) < (l.length : Int) := by omega
      have hR := Lib.hid (show ∀ t ∈ l, rightZ t = true by rw [show i = l.length by omega, List.take_length] at hall; exact hall)
      clear hall
      go_wp2
      obtain ⟨b, hbd⟩ : ∃ b, wr.heap.size = b := ⟨_, rfl⟩
      obtain ⟨W0, hW0⟩ : ∃ W0, wr.alloc (Obj.cells #[Value.pointer none, Value.slice none 0 0] 58) = W0 := ⟨_, rfl⟩
      have hI0 : SayI b w 0 W0 := by
        rw [← hW0]
        refine ⟨⟨[], .inl ⟨Nat.le_refl _, .slice none 0 0, ?_, World.ownsRowF_nil _ _ _ _, by simp [Value.ownBlock]⟩, by simp⟩, hbw.alloc hbw.size _, by simp; omega⟩
        rw [← hbd]
        exact World.alloc_heap_new wr _
      have hI0' := Lib.hid hI0
      have hwb := Lib.hid hbw.size
      rw [hW0, hbd]
      clear hI0 hbw hW0 hlt
      go_loopw [24] (fun x wr => ∃ i : Nat, x = .int .i64 i ∧ i ≤ l.length ∧ SayI b w i wr)
        (fun x _ => l.length - (intOf x).toNat)
      case atStart => exact ⟨0, rfl, Nat.zero_le _, hI0'.out⟩
      case round =>
        obtain ⟨i2, rfl, hi2, hS⟩ := hrel
        by_cases hlt : i2 < l.length
        · obtain ⟨bs, hbs, hbl⟩ := hS.held
          obtain ⟨t, ht⟩ : ∃ t, l[i2]? = some t := ⟨_, List.getElem?_eq_getElem hlt⟩
          obtain ⟨ad, rfl, _, c0, c1, c2, c3⟩ := (hT'.out.below hS.below) i2 t ht
          have hmem : t ∈ l := List.mem_of_getElem? ht
          have htx : t.text.size ≤ 64 := rightZ_len (hR.out t hmem)
          have hbox : (wr.alloc (Obj.cells #[Value.int IntKind.i64 t.kind, Value.string t.text, Value.int IntKind.i64 t.line, Value.int IntKind.i64 t.col] 29)).heap[wr.heap.size]? = some (.cells #[Value.int IntKind.i64 t.kind, Value.string t.text, Value.int IntKind.i64 t.line, Value.int IntKind.i64 t.col] 29 (0, 0)) := World.alloc_heap_new wr _
          have hbs1 := hbs.alloc (Obj.cells #[Value.int IntKind.i64 t.kind, Value.string t.text, Value.int IntKind.i64 t.line, Value.int IntKind.i64 t.col] 29)
          have hbw1 := hS.below.alloc hS.below.size (Obj.cells #[Value.int IntKind.i64 t.kind, Value.string t.text, Value.int IntKind.i64 t.line, Value.int IntKind.i64 t.col] 29)
          have hle1 : b ≤ (wr.alloc (Obj.cells #[Value.int IntKind.i64 t.kind, Value.string t.text, Value.int IntKind.i64 t.line, Value.int IntKind.i64 t.col] 29)).heap.size := by have := hS.le; simp; omega
          have hbne : wr.heap.size ≠ b := by
            have := hbs.elim (fun h => h.lt) (fun h => h.lt)
            omega
          have hB := Lib.hid hbs1
          have hK := Lib.hid (And.intro hbw1 (And.intro hle1 (And.intro hbne hbox)))
          have hbl' := Lib.hid hbl
          clear hbs hbs1 hbw1 hle1 hbne hbox hS ht hmem
          by_cases h0 : i2 = 0
          · have hg0 : ¬ (0 : Int) < (i2 : Int) := by omega
            have hWS := Lib.hid (Builder_WriteString_k b b (Lib.byteCells bs) t.text _ hB.out (by rw [Lib.byteCells_length]; have := hbl'.out; omega) hK.out.2.1)
            have hsz : (Lib.byteCells bs ++ Lib.strCells t.text).length < 1048576 := by
              rw [List.length_append, Lib.byteCells_length, Lib.strCells_length]; omega
            have hsz2 := Lib.hid (show (bs ++ t.text.data.toList).length ≤ 65 * (i2 + 1) by
              have : t.text.data.toList.length = t.text.size := by simp
              rw [List.length_append]; omega)
            have hsz' : ¬ (1048576 : Int) < ((Lib.byteCells bs ++ Lib.strCells t.text).length : Int) := by omega
            have hLen := Lib.hid (fun w1 (h : Lib.BuilderAtF 58 5 b b (.pointer (some ⟨b, 0, none⟩)) (Lib.byteCells bs ++ Lib.strCells t.text) w1) => Tryd.Builder_Len_f b b _ w1 (.inr h))
            generalize hnn : (Lib.byteCells bs ++ Lib.strCells t.text).length = nn at hLen hsz' hsz
            have hnn' := Lib.hid hnn
            clear h0 hbl hnn
            go_wp2_with (first | (go_at_call 22; refine hWS.out.mono ?_; rintro e w3 ⟨rfl, h31, h32, h33⟩) | (go_at_call 23; refine (hLen.out _ h31).mono ?_; rintro e w4 ⟨rfl, rfl⟩))
            go_roundw
            case rel => exact ⟨i2 + 1, by go_num, hlt, ⟨bs ++ t.text.data.toList, .inr (by rw [Lib.byteCells_append]; exact h31), hsz2.out⟩, hK.out.1.trans (h32.mono (by have := hwb.out; omega)), Nat.le_trans hK.out.2.1 h32.size⟩
            case measure => simp [intOf]; omega
          · have hg0 : (0 : Int) < (i2 : Int) := by omega
            have hWB := Lib.hid (Builder_WriteByte_k b b (Lib.byteCells bs) 32 _ hB.out (by rw [Lib.byteCells_length]; have := hbl'.out; omega) hK.out.2.1)
            have hWS := Lib.hid (fun w1 (h : Lib.BuilderAtF 58 5 b b (.pointer (some ⟨b, 0, none⟩)) (Lib.byteCells bs ++ [Value.int .u8 32]) w1) (hl : b ≤ w1.heap.size) => Builder_WriteString_k b b (Lib.byteCells bs ++ [Value.int .u8 32]) t.text w1 (.inr h) (by rw [List.length_append, Lib.byteCells_length]; have := hbl'.out; simp; omega) hl)
            have hsz : (Lib.byteCells bs ++ [Value.int .u8 32] ++ Lib.strCells t.text).length < 1048576 := by
              rw [List.length_append, List.length_append, Lib.byteCells_length, Lib.strCells_length]; simp; omega
            have hsz2 := Lib.hid (show (bs ++ [32] ++ t.text.data.toList).length ≤ 65 * (i2 + 1) by
              have : t.text.data.toList.length = t.text.size := by simp
              rw [List.length_append, List.length_append]; simp; omega)
            have hsz' : ¬ (1048576 : Int) < ((Lib.byteCells bs ++ [Value.int .u8 32] ++ Lib.strCells t.text).length : Int) := by omega
            have hLen := Lib.hid (fun w1 (h : Lib.BuilderAtF 58 5 b b (.pointer (some ⟨b, 0, none⟩)) (Lib.byteCells bs ++ [Value.int .u8 32] ++ Lib.strCells t.text) w1) => Tryd.Builder_Len_f b b _ w1 (.inr h))
            generalize hnn : (Lib.byteCells bs ++ [Value.int .u8 32] ++ Lib.strCells t.text).length = nn at hLen hsz' hsz
            have hbk := Lib.hid (fun w1 (h : Lib.OthersKept 5 (some b) (wr.alloc (Obj.cells #[Value.int IntKind.i64 t.kind, Value.string t.text, Value.int IntKind.i64 t.line, Value.int IntKind.i64 t.col] 29)) w1) => show w1.cell? ⟨wr.heap.size, 1, none⟩ = some (.string t.text) from by
              simp [World.cell?, h wr.heap.size _ hK.out.2.2.2 (fun e => hK.out.2.2.1 (Option.some.inj e)) (fun c fz e => by cases e)])
            clear h0 hbl hnn
            go_wp2_with (first | (go_at_call 21; refine hWB.out.mono ?_; rintro e w2 ⟨rfl, h21, h22, h23⟩; have hc21 := hbk.out _ h23) | (go_at_call 22; refine (hWS.out _ h21 (Nat.le_trans hK.out.2.1 h22.size)).mono ?_; rintro e w3 ⟨rfl, h31, h32, h33⟩) | (go_at_call 23; refine (hLen.out _ h31).mono ?_; rintro e w4 ⟨rfl, rfl⟩))
            go_roundw
            case rel => exact ⟨i2 + 1, by go_num, hlt, ⟨bs ++ [32] ++ t.text.data.toList, .inr (by rw [Lib.byteCells_append, Lib.byteCells_append]; exact h31), hsz2.out⟩, (hK.out.1.trans (h22.mono (by have := hwb.out; omega))).trans (h32.mono (by have := hwb.out; omega)), Nat.le_trans (Nat.le_trans hK.out.2.1 h22.size) h32.size⟩
            case measure => simp [intOf]; omega
        · have hlt' : ¬ (i2 : Int) < (l.length : Int) := by omega
          obtain ⟨bs, hbs, hbl⟩ := hS.held
          have hS' := Lib.hid hS
          have hbs' := Lib.hid hbs
          clear hS hbs
          go_wp2_with (go_at_call 24; refine (Tryd.Builder_String_any_k b b bs _ hbs'.out hS'.out.le).mono ?_; rintro e w3 ⟨rfl, hb3, hb4, hb5⟩)
          go_ret2
          exact ⟨⟨bs.toArray⟩, 0, rfl, fun _ => hR.out, hS'.out.below.trans (hb4.mono (by have := hwb.out; omega))⟩
end Go.Proofs.YtifmalbdolpocaaDoor
