/- The table by which the library counts a number's trailing zeros, as a package-level variable's cells. -/
import Derived.Test.YtakgeblhdckccaaDoorFvWords
namespace Go.Proofs.YtakgeblhdckccaaDoorW.PrintMore
open Go.RowKit Go.Proofs.YtakgeblhdckccaaDoorW.PrintWords Go.Proofs.YtakgeblhdckccaaDoorW.PrintLast
/-- The table's numbers. -/
def tz64 : List Int := [0, 1, 56, 2, 57, 49, 28, 3, 61, 58, 42, 50, 38, 29, 17, 4, 62, 47, 59, 36, 45, 43, 51, 22, 53, 39, 33, 30, 24, 18, 12, 5, 63, 55, 48, 27, 60, 41, 37, 16, 46, 35, 44, 21, 52, 32, 23, 11, 54, 26, 40, 15, 34, 20, 31, 10, 25, 14, 19, 9, 13, 8, 7, 6]
/-- The table lies in the variable's cells. -/
def Tb (g : Nat) (w : World) : Prop := ∀ i, i < 64 → w.cell? ⟨g, i, none⟩ = some (.int .u8 (tz64.getD i 0))
theorem Tb.later {g : Nat} {w W : World} (h : Tb g w) (hb : Below w.heap.size w W) : Tb g W := fun i hi => pw_cell_below hb (h i hi)
/-- The place in the table. -/
def tzAt (x : Int) : Int := IntKind.u64.wrap (Go.bits .and .u64 x (IntKind.u64.wrap (-x)) * 285870213051353865) / 288230376151711744
/-- The number of zeros at a small number's end. -/
def tzOf (x : Int) : Int := tz64.getD (tzAt x).toNat 0
theorem tzAt_all : ∀ n, n < 256 → 0 < n → 0 ≤ tzAt ((n : Nat) : Int) ∧ tzAt ((n : Nat) : Int) < 64 ∧ (IntKind.i64.wrap (tzOf ((n : Nat) : Int)) = tzOf ((n : Nat) : Int)) := by decide +kernel
end Go.Proofs.YtakgeblhdckccaaDoorW.PrintMore
