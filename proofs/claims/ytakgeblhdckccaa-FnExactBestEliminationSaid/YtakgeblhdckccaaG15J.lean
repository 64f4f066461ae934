/- The best order of elimination: the program and the reference answer alike. -/
import Derived.Test.YtakgeblhdckccaaGTJ
import Derived.Test.YtakgeblhdckccaaG10J
import Derived.Test.YtakgeblhdckccaaQj3
import Derived.Test.YtakgeblhdckccaaQj1
namespace Go.Proofs.Ytakgeblhdckccaa.P
open Go.RowKit Go.Proofs.YtakgeblhdckccaaW.PrintWords Go.Proofs.YtakgeblhdckccaaW.PrintLast Go.Proofs.YtakgeblhdckccaaW.PrintMore Go.Proofs.Ytakgeblhdckccaa.Q
set_option linter.unusedVariables false

section
variable {n : Nat} {R : Nat → Nat}
theorem best_walk (hV : V n R) : ∀ s : Nat × List Nat, (s.1 < 2 ^ n ∧ s.2.length = cnt s.1 ∧ W n (cost n R) s.1 ≤ W n (cost n R) 0 ∧ s.2 ++ ordr n (cost n R) s.1 = ordr n (cost n R) 0) →
    Ev (fun k => spec_BestElimination.l0 k (tabW n (cost n R)) (ints s.2) (s.1 : Int) (n : Int) (rows n R)) (ints (ordr n (cost n R) 0), true) := by
  have h8 := hV.le
  have h256 := pow_le_256 h8
  have hpos := Nat.two_pow_pos n
  have hc := cost_low hV
  generalize hcc : cost n R = c at hc
  refine meas_ev' (τ := Nat × List Nat) (fun k s => spec_BestElimination.l0 k (tabW n c) (ints s.2) (s.1 : Int) (n : Int) (rows n R)) (fun s => 2 ^ n - 1 - s.1) (fun s => s.1 < 2 ^ n ∧ s.2.length = cnt s.1 ∧ W n c s.1 ≤ W n c 0 ∧ s.2 ++ ordr n c s.1 = ordr n c 0) _ ?_
  rintro ⟨S, xs⟩ ⟨hS, hlen, hW, hord⟩ ih
  simp only at hS hlen hW hord ih ⊢
  have ht0 : rd (tabW n c) 0 = ((W n c 0 : Nat) : Int) := tabW_rd (n := n) (c := c) hpos
  have hcl := cnt_le hS
  have hcf := cnt_full h8 hS
  by_cases hall : S < 2 ^ n - 1
  · have hcn : cnt S < n := by
      rcases Nat.lt_or_ge (cnt S) n with h | h
      · exact h
      · have := hcf.1 (by omega); omega
    obtain ⟨v, hv, hp, hm⟩ := step_ex hc hall hW
    have hp2 := hp
    unfold stepAt at hp2
    simp only [Bool.and_eq_true, Bool.not_eq_true', decide_eq_true_eq] at hp2
    obtain ⟨hb, hcv, hWv⟩ := hp2
    have hg := grows hb
    have hl := or_bit_lt hS hv
    have hnext := ih (S ||| 2 ^ v, xs ++ [v]) ⟨hl, by simp only [List.length_append, List.length_singleton]; rw [cnt_or h8 hS hv, hb, if_neg (by decide)]; omega, hWv, by simp only [List.append_assoc, List.singleton_append]; rw [← ordr_step hall hv hp hm]; exact hord⟩ (by simp only; omega)
    simp only at hnext
    have one : ∀ m : Nat, m < n → S.testBit m = false → Ev (fun k => (spec_l10Around.f k (n : Int) (rows n R) (S : Int) (m : Int)).bind fun t => spec_l02Count.f k t) ((c S m : Nat) : Int) := by
      intro m hm hbm
      obtain ⟨K, h⟩ := around_spec_ev hV hS hm hbm
      obtain ⟨K2, h2⟩ := count_spec_ev (lt62 h8 (beh_lt hV hS hm))
      refine ⟨K + K2, fun k hk => ?_⟩
      have e := h k (by omega)
      have e2 := h2 k (by omega)
      simp only at e e2 ⊢
      rw [e, Option.bind_some, e2, ← hcc]
      rfl
    have hL : Ev (fun k => spec_BestElimination.l1 k (tabW n c) (ints xs) (S : Int) ((0 : Nat) : Int) (n : Int) (rows n R)) (ints (ordr n c 0), true) := by
      refine upto_ev (fun k m => spec_BestElimination.l1 k (tabW n c) (ints xs) (S : Int) (m : Int) (n : Int) (rows n R)) v (fun _ => True) _ ?_ ?_ 0 (Nat.zero_le _) trivial
      · intro m hmv _ ih2
        have hs := hm m hmv
        by_cases hbm : S.testBit m = true
        · refine Ev.late_step 0 (fun k _ => ?_) (ih2 trivial)
          simp only [spec_BestElimination.l1]
          rw [if_pos (by omega), spec_has_f (lt62 h8 hS) (by omega), Option.bind_some, if_pos hbm, wrap_succ (by omega)]
        · have hbm' : S.testBit m = false := by simpa using hbm
          have hlm := or_bit_lt (n := n) (S := S) (v := m) hS (by omega)
          obtain ⟨K, h⟩ := one m (by omega) hbm'
          refine Ev.late_step K (fun k hk => ?_) (ih2 trivial)
          have e := h k hk
          simp only at e
          obtain ⟨t, e1, e2⟩ := Option.bind_eq_some_iff.1 e
          simp only [spec_BestElimination.l1]
          rw [if_pos (by omega), spec_has_f (lt62 h8 hS) (by omega), Option.bind_some, if_neg hbm, e1, Option.bind_some, e2, Option.bind_some, if_pos (by rw [tabW_len]; omega), ht0]
          by_cases h1 : c S m ≤ W n c 0
          · have h2 : ¬ W n c (S ||| 2 ^ m) ≤ W n c 0 := by
              intro h2
              unfold stepAt at hs
              rw [hbm', decide_eq_true h1, decide_eq_true h2] at hs
              cases hs
            rw [if_pos (by omega), if_pos (by omega), shl1 (by omega), or_nat (lt62 h8 hS) (lt62 h8 (bit_lt (show m < n by omega))), if_pos (by omega), if_pos (by rw [tabW_len]; omega), tabW_rd hlm, if_neg (by omega), wrap_succ (by omega)]
          · rw [if_neg (by omega), wrap_succ (by omega)]
      · intro _
        obtain ⟨K, h⟩ := one v hv hb
        refine Ev.late_step K (fun k hk => ?_) hnext
        have e := h k hk
        simp only at e
        obtain ⟨t, e1, e2⟩ := Option.bind_eq_some_iff.1 e
        simp only [spec_BestElimination.l1]
        rw [if_pos (by omega), spec_has_f (lt62 h8 hS) (by omega), Option.bind_some, if_neg (by rw [hb]; decide), e1, Option.bind_some, e2, Option.bind_some, if_pos (by rw [tabW_len]; omega), ht0, if_pos (by omega), if_pos (by omega), shl1 (by omega), or_nat (lt62 h8 hS) (lt62 h8 (bit_lt hv)), if_pos (by omega), if_pos (by rw [tabW_len]; omega), tabW_rd hl, if_pos (by omega), if_pos (by rw [ints_len]; omega), ints_app]
        rfl
    refine Ev.late_step 0 (fun k _ => ?_) hL
    simp only [spec_BestElimination.l0]
    rw [if_pos (by rw [ints_len]; omega)]
    rfl
  · have : cnt S = n := hcf.2 (by omega)
    rw [ordr_end hall, List.append_nil] at hord
    refine Ev.one fun k => ?_
    simp only [spec_BestElimination.l0]
    rw [if_neg (by rw [ints_len]; omega), hord]
theorem ordr_len (hV : V n R) : ∀ d S, 2 ^ n - 1 - S ≤ d → S < 2 ^ n → W n (cost n R) S ≤ W n (cost n R) 0 → (ordr n (cost n R) S).length ≤ 256 := by
  have key : ∀ d S, 2 ^ n - 1 - S ≤ d → S < 2 ^ n → (ordr n (cost n R) S).length ≤ d := by
    intro d
    induction d with
    | zero => intro S hd hS; rw [ordr_end (by omega)]; simp
    | succ d ih =>
      intro S hd hS
      rw [ordr]
      split
      · split
        · rename_i v hf
          split
          · rename_i h1 h2
            have hv : v < n := by
              have := List.mem_of_find?_eq_some hf
              simpa using this
            have := ih (S ||| 2 ^ v) (by omega) (or_bit_lt hS hv)
            simp only [List.length_cons]
            omega
          · simp
        · simp
      · simp
  intro d S hd hS hW
  have := key _ S (Nat.le_refl _) hS
  have h256 := pow_le_256 hV.le
  omega
end
theorem best_both (s : Int) (l : List Int) : ∃ r : List Int × Bool, r.1.length ≤ 256 ∧ Ev (fun k => impl_BestElimination.f k s l) r ∧ Ev (fun k => spec_BestElimination.f k s l) r := by
  obtain ⟨K, h⟩ := impl_GraphOk_ev s l
  obtain ⟨K1, h1⟩ := spec_GraphOk_ev s l
  rcases gB_cases s l with ⟨hb, _⟩ | ⟨n, R, hV, rfl, rfl, hb⟩
  · rw [hb] at h h1
    refine ⟨([], false), by simp, ⟨K, fun k hk => ?_⟩, ⟨K1, fun k hk => ?_⟩⟩
    · have e := h k hk
      simp only at e ⊢
      unfold impl_BestElimination.f
      rw [e, Option.bind_some, if_neg (by decide)]
    · have e := h1 k hk
      simp only at e ⊢
      unfold spec_BestElimination.f
      rw [e, Option.bind_some, if_neg (by decide)]
  · rw [hb] at h h1
    obtain ⟨K2, h2⟩ := bestOrder_ev (l := rows n R) (cost_low hV) hV.pos hV.le
    obtain ⟨K3, h3⟩ := behind_ev hV (n : Int)
    obtain ⟨K4, h4⟩ := table_spec_ev hV
    have hpos := Nat.two_pow_pos n
    obtain ⟨K5, h5⟩ := best_walk hV (0, []) ⟨hpos, rfl, Nat.le_refl _, rfl⟩
    refine ⟨(ints (ordr n (cost n R) 0), true), by simp only; rw [ints_len]; exact ordr_len hV _ 0 (Nat.le_refl _) hpos (Nat.le_refl _), ⟨K + K2 + K3, fun k hk => ?_⟩, ⟨K1 + K4 + K5, fun k hk => ?_⟩⟩
    · have e := h k (by omega)
      have e2 := h2 k (by omega) _ (h3 k (by omega))
      simp only at e ⊢
      unfold impl_BestElimination.f
      rw [e, Option.bind_some, if_pos rfl, e2, Option.bind_some]
    · have e := h1 k (by omega)
      have e2 := h4 k (by omega)
      have e5 := h5 k (by omega)
      simp only at e e2 e5 ⊢
      unfold spec_BestElimination.f
      rw [e, Option.bind_some, if_pos rfl, e2, Option.bind_some]
      exact e5
end Go.Proofs.Ytakgeblhdckccaa.P
