/-
  What the rows' lists give: the errors and the table; a world for the witnesses.
-/
import Derived.Test.YtifmalbdolpocaaDoorWalkJ
import Derived.Test.YtifmalbdolpocaaDoorCards
import Derived.Test.YtifmalbdolpocaaDoorTie
import Derived.WalkKit
import Derived.ProofKit
import Derived.OpenShut
import Derived.Deep.DeepHandedRow
import Derived.Deep.DeepWitnessRowRef
import Derived.Stop.LaidErr
import Derived.RowKitTokens
namespace Go.Proofs.YtifmalbdolpocaaDoor
open Go.ChangeShapes Go.WideShapes Go.ChangeAt Go.RowKit

theorem own : ownKnob Tryd.prog.godebug = none := by kernel_rfl
theorem gES : Tryd.prog.globalNamed "strconv.ErrSyntax" = some 1 := by kernel_rfl
theorem gER : Tryd.prog.globalNamed "strconv.ErrRange" = some 2 := by kernel_rfl
theorem gPT : Tryd.prog.globalNamed "internal/strconv.uint64pow10" = some 3 := by kernel_rfl
theorem gESType : (Tryd.prog.globals[1]?).map (·.type) = some 60 := by kernel_rfl
theorem gERType : (Tryd.prog.globals[2]?).map (·.type) = some 60 := by kernel_rfl
theorem gPTType : (Tryd.prog.globals[3]?).map (·.type) = some 143 := by kernel_rfl
theorem und60 : Tryd.prog.underlying 60 = some (.interface #[("Error", 65)]) := by kernel_rfl
theorem und148 : Tryd.prog.underlying 148 = some (.pointer 150) := by kernel_rfl
theorem und143 : Tryd.prog.underlying 143 = some (.array 20 115) := by kernel_rfl
theorem und115 : Tryd.prog.underlying 115 = some (.int .u64) := by kernel_rfl
theorem und9 : Tryd.prog.underlying 9 = some .string := by kernel_rfl
theorem cells150 : Tryd.prog.cellsOf 150 = 1 := by kernel_rfl
theorem cells9 : Tryd.prog.cellsOf 9 = 1 := by kernel_rfl
theorem cells115 : Tryd.prog.cellsOf 115 = 1 := by kernel_rfl
theorem cells143 : Tryd.prog.cellsOf 143 = 20 := by kernel_rfl
theorem star : "*" ++ "errors.errorString" = "*errors.errorString" := by decide
theorem row148 (u : TypeId) (h : Tryd.prog.typeName? 3 u = some "*errors.errorString") : u = 148 :=
  typeName_ptr_named (nm := "errors.errorString") (by rw [star]; kernel_rfl) (by kernel_rfl) (by decide) u (by rw [star]; exact h)

abbrev laid5 : List (String × DataW Unit) := [("math/bits.deBruijn32tab", Rows.laid_math_bits_deBruijn32tab), ("math/bits.deBruijn64tab", Rows.laid_math_bits_deBruijn64tab), ("internal/strconv.uint64pow10", Rows.laid_internal_strconv_uint64pow10), ("strconv.ErrRange", Rows.laid_strconv_ErrRange), ("strconv.ErrSyntax", Rows.laid_strconv_ErrSyntax)]
theorem pow10_laid : (Rows.laid_internal_strconv_uint64pow10 : DataW Unit) = Lib.tabData .u64 Lib.pow10Tab := by rfl

/-- WHAT THE ROW's LIST GIVES. -/
theorem env_of_laid {W : World} (h : laidMet Tryd.prog laid5 W) : Env W := by
  have h2 := h.tail.tail
  rw [pow10_laid] at h2
  have ht := Lib.tabIs_of_head gPT gPTType und143 und115 cells115 cells143 h2
  obtain ⟨a0, s0, hv0, -, -, -⟩ := laid_sentinel h2.tail gER gERType und60 row148 und148 Tryd.underlying150 rfl rfl und9 cells150 cells9
  obtain ⟨a1, s1, hv1, -, -, -⟩ := laid_sentinel h2.tail.tail gES gESType und60 row148 und148 Tryd.underlying150 rfl rfl und9 cells150 cells9
  exact ⟨⟨_, _, hv1⟩, ⟨_, _, hv0⟩, ht⟩

/-! ### One start that fits -/
abbrev synS : ByteArray := { data := #[105, 110, 118, 97, 108, 105, 100, 32, 115, 121, 110, 116, 97, 120] }
abbrev rngS : ByteArray := { data := #[118, 97, 108, 117, 101, 32, 111, 117, 116, 32, 111, 102, 32, 114, 97, 110, 103, 101] }
noncomputable def low : Nat := (World.holding Tryd.prog default ⟨#[], #[], []⟩).heap.size
def tab32 : List Int := [0, 1, 28, 2, 29, 14, 24, 3, 30, 22, 20, 15, 25, 17, 4, 8, 31, 27, 13, 23, 21, 19, 16, 7, 26, 12, 18, 6, 11, 5, 10, 9]
def tab64 : List Int := [0, 1, 56, 2, 57, 49, 28, 3, 61, 58, 42, 50, 38, 29, 17, 4, 62, 47, 59, 36, 45, 43, 51, 22, 53, 39, 33, 30, 24, 18, 12, 5, 63, 55, 48, 27, 60, 41, 37, 16, 46, 35, 44, 21, 52, 32, 23, 11, 54, 26, 40, 15, 34, 20, 31, 10, 25, 14, 19, 9, 13, 8, 7, 6]
def fill (vs : List Value) : Obj → Obj
  | .cells _ t frozen => .cells vs.toArray t frozen
  | o => o
/-- The settled world with two blocks more, the errors; the variables hold what their initialisers lay. -/
noncomputable def laidWorld (os : Os) : World :=
  let w0 := World.holding Tryd.prog os ⟨#[.cells #[.string synS] 150, .cells #[.string rngS] 150], #[], []⟩
  { w0 with heap := ((((w0.heap.modify 1 (fill [.iface 148 (.pointer (some ⟨low, 0, none⟩))])).modify 2 (fill [.iface 148 (.pointer (some ⟨low + 1, 0, none⟩))])).modify 3 (fill (Lib.pow10Tab.map (Value.int .u64)))).modify 4 (fill (tab32.map (Value.int .u8)))).modify 5 (fill (tab64.map (Value.int .u8))) }
theorem laidWorld_met (os : Os) (args : Array Value) : laidMet Tryd.prog laid5 ((laidWorld os).forCall (fun _ _ => 0) ⟨#[], args, []⟩).memory :=
  laidMet_of_run' 8 (by kernel_rfl) (by kernel_rfl)
end Go.Proofs.YtifmalbdolpocaaDoor
