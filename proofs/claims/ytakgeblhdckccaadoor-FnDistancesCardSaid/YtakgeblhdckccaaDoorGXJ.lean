/- Whether a list has an element of a kind: what the library's search comes to. -/
import Derived.Test.YtakgeblhdckccaaDoorG1J
import Derived.Test.YtakgeblhdckccaaDoorQj1
namespace Go.Proofs.YtakgeblhdckccaaDoor.P
open Go.RowKit Go.Proofs.YtakgeblhdckccaaDoorW.PrintWords Go.Proofs.YtakgeblhdckccaaDoorW.PrintLast Go.Proofs.YtakgeblhdckccaaDoorW.PrintMore Go.Proofs.YtakgeblhdckccaaDoor.Q
set_option linter.unusedVariables false

theorem index_k {l : List Int} {P : Int → Option Bool} {q : Int → Bool} (hl : l.length ≤ 4000000) (h : ∀ x ∈ l, P x = some (q x)) :
    ∀ d k i, l.length = i + d → d < k → ∃ r, slices_IndexFunc_int_int.l0 k l P (l.length : Int) (i : Int) = some r ∧ decide (r ≥ 0) = (l.drop i).any q := by
  intro d
  induction d with
  | zero =>
    intro k i hd hk
    obtain ⟨k, rfl⟩ : ∃ m, k = m + 1 := ⟨k - 1, by omega⟩
    refine ⟨-1, ?_, ?_⟩
    · simp only [slices_IndexFunc_int_int.l0]; rw [if_neg (by omega)]
    · rw [List.drop_eq_nil_of_le (by omega)]; rfl
  | succ d ih =>
    intro k i hd hk
    obtain ⟨k, rfl⟩ : ∃ m, k = m + 1 := ⟨k - 1, by omega⟩
    have hi : i < l.length := by omega
    have e : rd l (i : Int) = l[i] := by rw [rd_nat]; simp [List.getD_eq_getElem?_getD, hi]
    have e2 : P (rd l (i : Int)) = some (q l[i]) := by rw [e]; exact h _ (List.getElem_mem hi)
    by_cases hq : q l[i] = true
    · refine ⟨(i : Int), ?_, ?_⟩
      · simp only [slices_IndexFunc_int_int.l0]
        rw [if_pos (by omega), if_pos (by omega), if_pos (by omega), e2, Option.bind_some, if_pos hq]
      · rw [List.drop_eq_getElem_cons hi, List.any_cons, hq, decide_eq_true (by omega)]; rfl
    · obtain ⟨r, h1, h2⟩ := ih k (i + 1) (by omega) (by omega)
      refine ⟨r, ?_, ?_⟩
      · simp only [slices_IndexFunc_int_int.l0]
        rw [if_pos (by omega), if_pos (by omega), if_pos (by omega), e2, Option.bind_some, if_neg hq, wrap_succ (by omega), h1]
      · rw [List.drop_eq_getElem_cons hi, List.any_cons, h2, show q l[i] = false by simpa using hq]; rfl
theorem contains_k {l : List Int} {P : Int → Option Bool} {q : Int → Bool} (hl : l.length ≤ 4000000) (h : ∀ x ∈ l, P x = some (q x)) {k : Nat} (hk : l.length < k) :
    slices_ContainsFunc_int_int.f k l P = some (l.any q) := by
  obtain ⟨r, h1, h2⟩ := index_k hl h l.length k 0 (by omega) hk
  unfold slices_ContainsFunc_int_int.f slices_IndexFunc_int_int.f
  rw [show (0 : Int) = ((0 : Nat) : Int) from rfl, h1, Option.bind_some]
  rw [List.drop_zero] at h2
  simpa using h2
end Go.Proofs.YtakgeblhdckccaaDoor.P
