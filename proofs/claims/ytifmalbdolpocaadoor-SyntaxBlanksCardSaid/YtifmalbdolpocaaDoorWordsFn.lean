/-
  The plain functions of package words, over lists of bytes; no program in sight.
-/
import Derived.Lib.ParseIntB
import Derived.Lib.Itoa
import Derived.Lib.ItoaLen
namespace Go.Proofs.YtifmalbdolpocaaDoor.Wd

abbrev B := UInt8
def letter (c : B) : Bool := (97 ≤ c && c ≤ 122) || (65 ≤ c && c ≤ 90) || c == 95
def digit (c : B) : Bool := 48 ≤ c && c ≤ 57
def word (c : B) : Bool := letter c || digit c
/-- How many bytes at the head meet p. -/
def row (p : B → Bool) (l : List B) : Nat := (l.takeWhile p).length
def piece : List B → Nat × Nat
  | [] => (1, 3)
  | c :: r =>
    if letter c then (row word (c :: r), 1)
    else if digit c then (row digit (c :: r), 2)
    else if c = 45 ∧ (r.headD 0 |> digit) = true then (1 + row digit r, 2)
    else if c = 45 ∧ r.headD 0 = 62 then (2, 3)
    else (1, 3)
/-- The one-byte signs. -/
def signs : List B := [123, 125, 40, 41, 59, 44, 58, 61, 42, 43, 63, 124, 46, 33, 38]
def right (l : List B) (k : Nat) : Bool :=
  if k = 1 then !l.isEmpty && decide (l.length ≤ 64) && letter (l.headD 0) && row word l == l.length
  else if k = 2 then (match Lib.parseIntB 64 l with | .ok n => Lib.itoa n == l | _ => false)
  else if k = 3 then l == [45, 62] || (l.length == 1 && signs.contains (l.headD 0))
  else false
structure Tok where
  kind : Nat
  text : List B
  line : Nat
  col : Nat
  deriving DecidableEq
/-- The tokens, and the place of the first fault; fuel: no less than the bytes that are left. -/
def toks : Nat → List B → Nat → Nat → List Tok × Option (Nat × Nat)
  | 0, _, _, _ => ([], none)
  | _ + 1, [], _, _ => ([], none)
  | n + 1, c :: r, line, col =>
    if c = 10 then toks n r (line + 1) 1
    else if c = 9 ∨ c = 13 ∨ c = 32 then toks n r line (col + 1)
    else if c = 35 then
      (if row (· != 10) (c :: r) = (c :: r).length then ([], none)
       else toks n ((c :: r).drop (row (· != 10) (c :: r))) line (col + row (· != 10) (c :: r)))
    else
      let m := (piece (c :: r)).1
      if right ((c :: r).take m) (piece (c :: r)).2 then
        let x := toks n ((c :: r).drop m) line (col + m)
        (⟨(piece (c :: r)).2, (c :: r).take m, line, col⟩ :: x.1, x.2)
      else ([], some (line, col))
end Go.Proofs.YtifmalbdolpocaaDoor.Wd
