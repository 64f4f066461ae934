/- The greatest price of an order, as the program finds it. -/
import Derived.Test.YtakgeblhdckccaaG5J
import Derived.Test.YtakgeblhdckccaaG10J
import Derived.Test.YtakgeblhdckccaaQj1
namespace Go.Proofs.Ytakgeblhdckccaa.P
open Go.RowKit Go.Proofs.YtakgeblhdckccaaW.PrintWords Go.Proofs.YtakgeblhdckccaaW.PrintLast Go.Proofs.YtakgeblhdckccaaW.PrintMore Go.Proofs.Ytakgeblhdckccaa.Q
set_option linter.unusedVariables false

/-- The greatest price of an order, S gone before, m paid before. -/
def mcost (c : Nat → Nat → Nat) (S : Nat) : List Nat → Nat → Nat
  | [], m => m
  | v :: t, m => mcost c (S ||| 2 ^ v) t (max m (c S v))
theorem mcost_snoc (c : Nat → Nat → Nat) : ∀ (t : List Nat) (S v m : Nat), mcost c S (t ++ [v]) m = max (mcost c S t m) (c (orr S t) v)
  | [], S, v, m => rfl
  | w :: t, S, v, m => by simp only [List.cons_append, mcost, mcost_snoc c t, orr]
section
variable {n : Nat} {R : Nat → Nat} {t : List Nat}
theorem greatest_ev (hn : n ≤ 8) {c : Nat → Nat → Nat} (ht : ∀ v ∈ t, v < n) (hl : t.length = n) (hf : fresh 0 t = true) : EvP (fun k => ∀ P, Pays n c P → impl_greatest.f k (ints t) P = some ((mcost c 0 t 0 : Nat) : Int)) := by
  have go : ∀ d k i, t.length = i + d → d < k → ∀ P, Pays n c P → impl_greatest.l0 k P ((mcost c 0 (t.take i) 0 : Nat) : Int) ((orr 0 (t.take i) : Nat) : Int) (ints t) (t.length : Int) (i : Int) = some ((mcost c 0 t 0 : Nat) : Int) := by
    intro d
    induction d with
    | zero =>
      intro k i hd hk P hP
      obtain ⟨k, rfl⟩ : ∃ m, k = m + 1 := ⟨k - 1, by omega⟩
      simp only [impl_greatest.l0]
      rw [if_neg (by omega), List.take_of_length_le (by omega)]
    | succ d ih =>
      intro k i hd hk P hP
      obtain ⟨k, rfl⟩ : ∃ m, k = m + 1 := ⟨k - 1, by omega⟩
      have hi : i < t.length := by omega
      have hv := ht _ (getD_mem hi)
      have hS : orr 0 (t.take i) < 2 ^ n := orr_lt _ 0 (Nat.two_pow_pos n) (fun v h => ht v (List.mem_of_mem_take h))
      have e := ih k (i + 1) (by omega) (by omega) P hP
      rw [take_snoc t hi, orr_snoc, mcost_snoc] at e
      simp only [impl_greatest.l0]
      rw [if_pos (by omega), if_pos (by omega), if_pos (by rw [ints_len]; omega), rd_ints, hP _ _ hS hv (fresh_at hf hi), Option.bind_some, impl_bit_f (by omega), Option.bind_some, mx_nat, or_nat (lt62 hn hS) (lt62 hn (bit_lt hv)), wrap_succ (by omega), e]
  refine ⟨t.length + 1, fun k hk P hP => ?_⟩
  unfold impl_greatest.f
  rw [ints_len]
  exact go t.length k 0 (by omega) (by omega) P hP
end
end Go.Proofs.Ytakgeblhdckccaa.P
