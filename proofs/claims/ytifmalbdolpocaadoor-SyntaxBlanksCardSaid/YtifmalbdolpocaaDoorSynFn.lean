/-
  The plain functions of package syntax's reader, over tokens and places; no program in sight.
-/
import Derived.Test.YtifmalbdolpocaaDoorWordsFn
namespace Go.Proofs.YtifmalbdolpocaaDoor.Sx
open Wd

/-- A token's kind and text. -/
abbrev PT := Int × ByteArray
/-- A statement. -/
inductive St where
  | mk (kind : Int) (x y : ByteArray) (k : Int) (kids : List (List St))
structure Prc where
  name : ByteArray
  body : List St
structure Prg where
  vars : List ByteArray
  procs : List Prc
/-- None: no fuel; a fault at a place; or what is read, and the place behind. -/
abbrev Res (α : Type) := Option (Except Nat (α × Nat))
def andR {α β : Type} (r : Res α) (f : α → Nat → Res β) : Res β :=
  match r with
  | none => none
  | some (.error e) => some (.error e)
  | some (.ok (a, j)) => f a j
def isP (s : List B) (P : List PT) (i : Nat) : Bool :=
  match P[i]? with
  | some t => (t.2.data.toList == s) && (t.1 != 2)
  | none => false
def mustP (s : List B) (P : List PT) (i : Nat) : Res Unit := if isP s P i then some (.ok ((), i + 1)) else some (.error i)
def owns : List (List B) := [[118, 97, 114], [112, 114, 111, 99], [115, 107, 105, 112], [109, 97, 114, 107], [99, 108, 101, 97, 110], [115, 105, 110, 107], [99, 97, 108, 108], [102, 114, 111, 109], [101, 105, 116, 104, 101, 114], [111, 114], [108, 111, 111, 112], [114, 101, 116, 117, 114, 110], [97, 116]]
def nameB (s : List B) : Bool := right s 1 && !owns.contains s
def nameP (P : List PT) (i : Nat) : Res ByteArray :=
  match P[i]? with
  | some t => if nameB t.2.data.toList then some (.ok (t.2, i + 1)) else some (.error i)
  | none => some (.error i)
def numB (s : List B) : Int := if right s 2 then (match Lib.parseIntB 64 s with | .ok v => v | _ => 0) else 0
def e0 : ByteArray := ⟨#[]⟩
def endedP (s : St) (P : List PT) (i : Nat) : Res St := andR (mustP [59] P i) fun _ j => some (.ok (s, j))
/-- A word, a name. -/
def plainP (kind : Int) (P : List PT) (i : Nat) : Res St := andR (nameP P i) fun x j => endedP (.mk kind x e0 0 []) P j
def callP (P : List PT) (i : Nat) : Res St :=
  andR (nameP P i) fun x j =>
    if isP [102, 114, 111, 109] P j then andR (nameP P (j + 1)) fun y k => endedP (.mk 8 x y 0 []) P k
    else endedP (.mk 8 x e0 0 []) P j
def becomesP (P : List PT) (i : Nat) : Res St :=
  andR (nameP P i) fun x j => andR (mustP [61] P j) fun _ k =>
    match P[k]? with
    | none => some (.error k)
    | some t =>
      if t.1 = 2 then endedP (.mk 2 x e0 (numB t.2.data.toList) []) P (k + 1)
      else if isP [42] P k then endedP (.mk 4 x e0 0 []) P (k + 1)
      else andR (nameP P k) fun y m => endedP (.mk 3 x y 0 []) P m
mutual
def blockP : Nat → List PT → Nat → Res (List St)
  | 0, _, _ => none
  | n + 1, P, i => andR (mustP [123] P i) fun _ j => rowP n P j
def rowP : Nat → List PT → Nat → Res (List St)
  | 0, _, _ => none
  | n + 1, P, i =>
    if isP [125] P i then some (.ok ([], i + 1))
    else andR (stmtP n P i) fun s j => andR (rowP n P j) fun r k => some (.ok (s :: r, k))
def altsP : Nat → List PT → Nat → Res (List (List St))
  | 0, _, _ => none
  | n + 1, P, i =>
    if isP [111, 114] P i then andR (blockP n P (i + 1)) fun b j => andR (altsP n P j) fun r k => some (.ok (b :: r, k))
    else some (.ok ([], i))
def eitherP : Nat → List PT → Nat → Res St
  | 0, _, _ => none
  | n + 1, P, i => andR (blockP n P i) fun a j => andR (mustP [111, 114] P j) fun _ k => andR (blockP n P k) fun b m => andR (altsP n P m) fun r z => some (.ok (.mk 9 e0 e0 0 (a :: b :: r), z))
def stmtP : Nat → List PT → Nat → Res St
  | 0, _, _ => none
  | n + 1, P, i =>
    match P[i]? with
    | none => some (.error i)
    | some t =>
      let s := t.2.data.toList
      if s == [115, 107, 105, 112] then endedP (.mk 1 e0 e0 0 []) P (i + 1)
      else if s == [114, 101, 116, 117, 114, 110] then endedP (.mk 11 e0 e0 0 []) P (i + 1)
      else if s == [109, 97, 114, 107] then plainP 5 P (i + 1)
      else if s == [99, 108, 101, 97, 110] then plainP 6 P (i + 1)
      else if s == [115, 105, 110, 107] then plainP 7 P (i + 1)
      else if s == [97, 116] then plainP 12 P (i + 1)
      else if s == [99, 97, 108, 108] then callP P (i + 1)
      else if s == [101, 105, 116, 104, 101, 114] then eitherP n P (i + 1)
      else if s == [108, 111, 111, 112] then andR (blockP n P (i + 1)) fun b j => some (.ok (.mk 10 e0 e0 0 [b], j))
      else becomesP P i
end
def moreP : Nat → List PT → Nat → Res (List ByteArray)
  | 0, _, _ => none
  | n + 1, P, i => if isP [44] P i then andR (nameP P (i + 1)) fun x j => andR (moreP n P j) fun r k => some (.ok (x :: r, k)) else some (.ok ([], i))
def varsP : Nat → List PT → Nat → Res (List ByteArray)
  | 0, _, _ => none
  | n + 1, P, i =>
    if isP [118, 97, 114] P i then
      andR (nameP P (i + 1)) fun x j => andR (moreP n P j) fun l k => andR (mustP [59] P k) fun _ m => andR (varsP n P m) fun r z => some (.ok (x :: (l ++ r), z))
    else some (.ok ([], i))
def procsP : Nat → List PT → Nat → Res (List Prc)
  | 0, _, _ => none
  | n + 1, P, i =>
    if i < P.length then
      andR (mustP [112, 114, 111, 99] P i) fun _ j => andR (nameP P j) fun x k => andR (blockP n P k) fun b m => andR (procsP n P m) fun r z => some (.ok (⟨x, b⟩ :: r, z))
    else some (.ok ([], i))
def programP (n : Nat) (P : List PT) (i : Nat) : Res Prg := andR (varsP n P i) fun v j => andR (procsP n P j) fun l k => some (.ok (⟨v, l⟩, k))
end Go.Proofs.YtifmalbdolpocaaDoor.Sx
