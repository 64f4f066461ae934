/- Texts joined by a byte. -/
import Derived.Test.YtlfjmklhifjalaaDoorGFJ
namespace Go.Proofs.YtlfjmklhifjalaaDoor.P
open Go.RowKit Go.Proofs.YtlfjmklhifjalaaDoorW.PrintWords Go.Proofs.YtlfjmklhifjalaaDoorW.PrintLast Go.Proofs.YtlfjmklhifjalaaDoorW.PrintMore Go.Proofs.YtlfjmklhifjalaaDoor.Q
set_option linter.unusedVariables false
theorem join_len2 (xs : List (List UInt8)) (h : ∀ x ∈ xs, x.length ≤ 50) (sep : List UInt8) (hs : sep.length ≤ 1) : (Lib.join xs sep).length ≤ 51 * xs.length := by
  have hlens : ∀ r : List (List UInt8), (∀ x ∈ r, x.length ≤ 50) → Lib.lens r ≤ 50 * r.length := by
    intro r
    induction r with
    | nil => intro _; simp [Lib.lens]
    | cons y r ih =>
      intro h
      have h1 := h y (by simp)
      have h2 := ih (fun x hx => h x (by simp [hx]))
      simp only [Lib.lens, List.map_cons, List.sum_cons, List.length_cons] at h2 ⊢
      omega
  cases xs with
  | nil => simp [Lib.join_nil]
  | cons x r =>
    rw [Lib.join_cons, List.length_append, Lib.joinTail_length]
    have h1 := h x (by simp)
    have h2 := hlens r (fun y hy => h y (by simp [hy]))
    have h3 : sep.length * r.length ≤ 1 * r.length := Nat.mul_le_mul_right _ hs
    rw [List.length_cons]
    omega
theorem specJoin2_ev (c : UInt8) (xs : List (List UInt8)) (hx : ∀ x ∈ xs, x.length ≤ 50) (hl : xs.length ≤ 1000000) : Ev (fun k => spec_Join.f k (xs.map B) (B [c])) (B (Lib.join xs [c])) := by
  have hL : Ev (fun k => spec_Join.l0 k (B [c]) (B (Lib.join (xs.take 0) [c])) (xs.map B) (((xs.map B).length : Nat) : Int) ((0 : Nat) : Int)) (B (Lib.join xs [c])) := by
    refine upto_ev (fun k i => spec_Join.l0 k (B [c]) (B (Lib.join (xs.take i) [c])) (xs.map B) (((xs.map B).length : Nat) : Int) (i : Int)) xs.length (fun _ => True) _ ?_ ?_ 0 (Nat.zero_le _) trivial
    · intro i hi _ ih
      refine Ev.late_step 0 (fun k _ => ?_) (ih trivial)
      have hj := join_len2 (xs.take i) (fun x h => hx x (List.mem_of_mem_take h)) [c] (by simp)
      rw [List.length_take] at hj
      have hxi := hx xs[i] (List.getElem_mem hi)
      have e0 : xs.take (i + 1) = xs.take i ++ [xs[i]] := by simp
      simp only [spec_Join.l0]
      rw [List.length_map, if_pos (by omega), if_pos (by omega), if_pos (by omega), rdB xs i hi]
      by_cases h0 : i = 0
      · subst h0
        rw [if_neg (by omega), B_size, B_size, if_pos (by omega), B_app, wrap_succ (by omega), e0]
        simp [Lib.join_nil, Lib.join_one]
      · have hne : xs.take i ≠ [] := by
          intro h
          have := congrArg List.length h
          rw [List.length_take, List.length_nil] at this
          omega
        rw [if_pos (by omega), B_size, B_size, if_pos (by simp; omega), B_app, B_size, B_size, if_pos (by simp; omega), B_app, wrap_succ (by omega), e0, join_snoc _ _ _ hne]
    · intro _
      refine Ev.one fun k => ?_
      simp only [spec_Join.l0]
      rw [List.length_map, if_neg (by omega), List.take_length]
  exact hL
theorem implJoin2_f (c : UInt8) (xs : List (List UInt8)) (hx : ∀ x ∈ xs, x.length ≤ 50) (hl : xs.length ≤ 1000000) : strings_Join.f (xs.map B) (B [c]) = some (B (Lib.join xs [c])) := by
  have e : strings_Join.l (xs.map B) (B [c]) = Lib.join xs [c] := by
    unfold strings_Join.l
    rw [B_data, List.map_map]
    congr 1
    conv => rhs; rw [← List.map_id xs]
    apply List.map_congr_left
    intro x _
    exact B_data x
  have hj := join_len2 xs hx [c] (by simp)
  unfold strings_Join.f
  rw [e, if_pos ⟨by rw [List.length_map]; omega, by omega⟩]
  rfl
end Go.Proofs.YtlfjmklhifjalaaDoor.P
