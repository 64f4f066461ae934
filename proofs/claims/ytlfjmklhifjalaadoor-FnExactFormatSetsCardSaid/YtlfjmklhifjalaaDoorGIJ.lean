/- The members of a set, as a list. -/
import Derived.Test.YtlfjmklhifjalaaDoorG1J
namespace Go.Proofs.YtlfjmklhifjalaaDoor.P
open Go.RowKit Go.Proofs.YtlfjmklhifjalaaDoorW.PrintWords Go.Proofs.YtlfjmklhifjalaaDoorW.PrintLast Go.Proofs.YtlfjmklhifjalaaDoorW.PrintMore Go.Proofs.YtlfjmklhifjalaaDoor.Q
set_option linter.unusedVariables false

/-! ### the members of a set, in order -/
def bl (S : Nat) : List Nat := (List.range 8).filter S.testBit
def ints (l : List Nat) : List Int := l.map fun (v : Nat) => (v : Int)
theorem bl_mem {S v : Nat} (h : v ∈ bl S) : v < 8 ∧ S.testBit v = true := by simpa [bl] using h
theorem mem_bl {S v : Nat} (h8 : v < 8) (h : S.testBit v = true) : v ∈ bl S := by simpa [bl] using ⟨h8, h⟩
theorem range_filter_succ (p : Nat → Bool) (i : Nat) : (List.range (i + 1)).filter p = (List.range i).filter p ++ (if p i then [i] else []) := by
  rw [List.range_succ, List.filter_append]
  congr 1
  by_cases h : p i = true
  · simp [h]
  · simp [show p i = false by simpa using h]
theorem bl_upto_len (S i : Nat) : ((List.range i).filter S.testBit).length ≤ i := by
  have := List.length_filter_le S.testBit (List.range i)
  simpa using this
theorem bl_len (S : Nat) : (bl S).length ≤ 8 := bl_upto_len S 8
theorem ints_len (l : List Nat) : (ints l).length = l.length := by simp [ints]
theorem ints_app (l m : List Nat) : ints (l ++ m) = ints l ++ ints m := by simp [ints]
theorem lt62 {n a : Nat} (hn : n ≤ 8) (ha : a < 2 ^ n) : a < 2 ^ 62 := by have := lt_256 hn ha; omega
theorem lt8 {n a : Nat} (hn : n ≤ 8) (ha : a < 2 ^ n) : a < 2 ^ 8 := Nat.lt_of_lt_of_le ha (Nat.pow_le_pow_right (by decide) hn)
end Go.Proofs.YtlfjmklhifjalaaDoor.P
