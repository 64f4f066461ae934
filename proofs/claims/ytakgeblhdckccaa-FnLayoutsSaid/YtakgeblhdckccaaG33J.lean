/- The best order is an order, its price is the least, and no order is cheaper. -/
import Derived.Test.YtakgeblhdckccaaGKJ
namespace Go.Proofs.Ytakgeblhdckccaa.P
open Go.RowKit Go.Proofs.YtakgeblhdckccaaW.PrintWords Go.Proofs.YtakgeblhdckccaaW.PrintLast Go.Proofs.YtakgeblhdckccaaW.PrintMore Go.Proofs.Ytakgeblhdckccaa.Q
set_option linter.unusedVariables false

theorem mcost_max (c : Nat → Nat → Nat) : ∀ (t : List Nat) (S m : Nat), mcost c S t m = max m (mcost c S t 0)
  | [], S, m => by simp [mcost]
  | v :: t, S, m => by
    simp only [mcost]
    rw [mcost_max c t _ (max m (c S v)), mcost_max c t _ (max 0 (c S v))]
    omega
theorem mcost_cons (c : Nat → Nat → Nat) (S v : Nat) (t : List Nat) : mcost c S (v :: t) 0 = max (c S v) (mcost c (S ||| 2 ^ v) t 0) := by
  simp only [mcost]
  rw [mcost_max]
  omega
section
variable {n : Nat} {c : Nat → Nat → Nat}
theorem W_le_mcost : ∀ (t : List Nat) (S : Nat), S < 2 ^ n → (∀ v ∈ t, v < n) → fresh S t = true → orr S t = 2 ^ n - 1 → W n c S ≤ mcost c S t 0
  | [], S, hS, _, _, ho => by
    rw [W_eq, if_neg (by simp only [orr] at ho; omega)]
    exact Nat.zero_le _
  | v :: t, S, hS, ht, hf, ho => by
    have hv := ht v (by simp)
    simp only [fresh, Bool.and_eq_true, Bool.not_eq_true'] at hf
    have hlt : S < 2 ^ n - 1 := by
      apply Classical.byContradiction
      intro hc
      have e : S = 2 ^ n - 1 := by omega
      have := hf.1
      rw [e, all_bit, decide_eq_true hv] at this
      cases this
    have h1 := W_le_mcost t (S ||| 2 ^ v) (or_bit_lt hS hv) (fun w hw => ht w (by simp [hw])) hf.2 ho
    have h2 := row_le n c (W n c) S n 1000 hv hf.1
    rw [W_eq, if_pos hlt, mcost_cons]
    omega
theorem mcost_le {B : Nat} (hc : ∀ S v, S < 2 ^ n → v < n → S.testBit v = false → c S v ≤ B) : ∀ (t : List Nat) (S : Nat), S < 2 ^ n → (∀ v ∈ t, v < n) → fresh S t = true → mcost c S t 0 ≤ B
  | [], S, _, _, _ => Nat.zero_le _
  | v :: t, S, hS, ht, hf => by
    have hv := ht v (by simp)
    simp only [fresh, Bool.and_eq_true, Bool.not_eq_true'] at hf
    have h1 := mcost_le hc t (S ||| 2 ^ v) (or_bit_lt hS hv) (fun w hw => ht w (by simp [hw])) hf.2
    have h2 := hc S v hS hv hf.1
    rw [mcost_cons]
    omega
theorem ordr_good (hc : Low n c) : ∀ d S, 2 ^ n - 1 - S ≤ d → S < 2 ^ n → W n c S ≤ W n c 0 → (∀ v ∈ ordr n c S, v < n) ∧ fresh S (ordr n c S) = true ∧ orr S (ordr n c S) = 2 ^ n - 1 ∧ mcost c S (ordr n c S) 0 ≤ W n c 0 := by
  have done : ∀ S, S < 2 ^ n → ¬ S < 2 ^ n - 1 → (∀ v ∈ ordr n c S, v < n) ∧ fresh S (ordr n c S) = true ∧ orr S (ordr n c S) = 2 ^ n - 1 ∧ mcost c S (ordr n c S) 0 ≤ W n c 0 := by
    intro S hS h
    rw [ordr_end h]
    exact ⟨fun v hv => by simp at hv, rfl, by simp only [orr]; omega, Nat.zero_le _⟩
  intro d
  induction d with
  | zero => exact fun S hd hS _ => done S hS (by omega)
  | succ d ih =>
    intro S hd hS hW
    by_cases h : S < 2 ^ n - 1
    · obtain ⟨v, hv, hp, hm⟩ := step_ex hc h hW
      have hp2 := hp
      unfold stepAt at hp2
      simp only [Bool.and_eq_true, Bool.not_eq_true', decide_eq_true_eq] at hp2
      obtain ⟨hb, hcv, hWv⟩ := hp2
      have hg := grows hb
      obtain ⟨h1, h2, h3, h4⟩ := ih (S ||| 2 ^ v) (by omega) (or_bit_lt hS hv) hWv
      rw [ordr_step h hv hp hm]
      refine ⟨fun w hw => ?_, ?_, h3, ?_⟩
      · rcases List.mem_cons.1 hw with rfl | hw
        · exact hv
        · exact h1 w hw
      · simp only [fresh, hb, h2]; rfl
      · rw [mcost_cons]; omega
    · exact done S hS h
theorem ordr_order (hc : Low n c) (hn : n ≤ 8) : (ordr n c 0).length = n ∧ (∀ v ∈ ordr n c 0, v < n) ∧ fresh 0 (ordr n c 0) = true ∧ mcost c 0 (ordr n c 0) 0 = W n c 0 := by
  have h0 := Nat.two_pow_pos n
  obtain ⟨h1, h2, h3, h4⟩ := ordr_good hc _ 0 (Nat.le_refl _) h0 (Nat.le_refl _)
  have h5 := (orr_cnt hn (ordr n c 0) 0 h0 h1).2.2 h2
  rw [h3, cnt_full_all n (by omega), show cnt 0 = 0 by decide, Nat.zero_add] at h5
  exact ⟨h5.symm, h1, h2, Nat.le_antisymm h4 (W_le_mcost _ 0 h0 h1 h2 h3)⟩
end
end Go.Proofs.Ytakgeblhdckccaa.P
