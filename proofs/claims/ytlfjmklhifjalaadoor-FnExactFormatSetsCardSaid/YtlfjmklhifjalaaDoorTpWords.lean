/- The library's table of powers of ten, as a package-level variable's cells (in place of TbWords: the claims that write numbers). -/
import Derived.Test.YtlfjmklhifjalaaDoorFvWords
import Derived.Test.YtlfjmklhifjalaaDoorProg
import Derived.Lib.LaidTab
import Derived.Lib.ItoaNum
namespace Go.Proofs.YtlfjmklhifjalaaDoorW.PrintMore
open Go.RowKit Go.Proofs.YtlfjmklhifjalaaDoorW.PrintWords Go.Proofs.YtlfjmklhifjalaaDoorW.PrintLast
/-- The table lies in the variable's cells (g: its number). -/
def Tb (g : Nat) (w : World) : Prop := Lib.TabIs Go.Proofs.Tryd.prog w "internal/strconv.uint64pow10" .u64 Lib.pow10Tab
theorem Tb.later {g : Nat} {w W : World} (h : Tb g w) (hb : Below w.heap.size w W) : Tb g W := by
  unfold Tb Lib.TabIs World.var? at *
  cases hg : Program.globalNamed Go.Proofs.Tryd.prog "internal/strconv.uint64pow10" with
  | none => rw [hg] at h; cases h
  | some q =>
    rw [hg, Option.bind_some] at h
    rw [Option.bind_some]
    cases hh : w.heap[q]? with
    | none => rw [hh] at h; cases h
    | some o =>
      rw [hb.block q (Array.getElem?_eq_some_iff.1 hh).1, hh]
      rw [hh] at h
      exact h
end Go.Proofs.YtlfjmklhifjalaaDoorW.PrintMore
