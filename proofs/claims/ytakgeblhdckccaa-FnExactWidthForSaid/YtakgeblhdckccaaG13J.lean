/- The width of an order of elimination: the program and the reference answer alike. -/
import Derived.Test.YtakgeblhdckccaaG12J
import Derived.Test.YtakgeblhdckccaaQj2
import Derived.Test.YtakgeblhdckccaaQj1
namespace Go.Proofs.Ytakgeblhdckccaa.P
open Go.RowKit Go.Proofs.YtakgeblhdckccaaW.PrintWords Go.Proofs.YtakgeblhdckccaaW.PrintLast Go.Proofs.YtakgeblhdckccaaW.PrintMore Go.Proofs.Ytakgeblhdckccaa.Q
set_option linter.unusedVariables false

/-- The greatest price of an order, S gone before, m paid before. -/
def mcost (c : Nat → Nat → Nat) (S : Nat) : List Nat → Nat → Nat
  | [], m => m
  | v :: t, m => mcost c (S ||| 2 ^ v) t (max m (c S v))
theorem mcost_snoc (c : Nat → Nat → Nat) : ∀ (t : List Nat) (S v m : Nat), mcost c S (t ++ [v]) m = max (mcost c S t m) (c (orr S t) v)
  | [], S, v, m => rfl
  | w :: t, S, v, m => by simp only [List.cons_append, mcost, mcost_snoc c t, orr]
/-- What the reference has met so far: nothing yet is -1. -/
def wst (i m : Nat) : Int := if i = 0 then -1 else (m : Int)
theorem wst_succ (i m : Nat) : wst (i + 1) m = (m : Int) := if_neg (by omega)
theorem wst_step {i m c : Nat} (h : i = 0 → m = 0) : mx (wst i m) (c : Int) = ((max m c : Nat) : Int) := by
  unfold wst mx
  by_cases h0 : i = 0
  · have := h h0
    rw [if_pos h0]
    split <;> omega
  · rw [if_neg h0]
    split <;> omega
section
variable {n : Nat} {R : Nat → Nat} {t : List Nat}
theorem greatest_ev (hn : n ≤ 8) {c : Nat → Nat → Nat} (ht : ∀ v ∈ t, v < n) (hl : t.length = n) (hf : fresh 0 t = true) : EvP (fun k => ∀ P, Pays n c P → impl_greatest.f k (ints t) P = some ((mcost c 0 t 0 : Nat) : Int)) := by
  have go : ∀ d k i, t.length = i + d → d < k → ∀ P, Pays n c P → impl_greatest.l0 k P ((mcost c 0 (t.take i) 0 : Nat) : Int) ((orr 0 (t.take i) : Nat) : Int) (ints t) (t.length : Int) (i : Int) = some ((mcost c 0 t 0 : Nat) : Int) := by
    intro d
    induction d with
    | zero =>
      intro k i hd hk P hP
      obtain ⟨k, rfl⟩ : ∃ m, k = m + 1 := ⟨k - 1, by omega⟩
      simp only [impl_greatest.l0]
      rw [if_neg (by omega), List.take_of_length_le (by omega)]
    | succ d ih =>
      intro k i hd hk P hP
      obtain ⟨k, rfl⟩ : ∃ m, k = m + 1 := ⟨k - 1, by omega⟩
      have hi : i < t.length := by omega
      have hv := ht _ (getD_mem hi)
      have hS : orr 0 (t.take i) < 2 ^ n := orr_lt _ 0 (Nat.two_pow_pos n) (fun v h => ht v (List.mem_of_mem_take h))
      have e := ih k (i + 1) (by omega) (by omega) P hP
      rw [take_snoc t hi, orr_snoc, mcost_snoc] at e
      simp only [impl_greatest.l0]
      rw [if_pos (by omega), if_pos (by omega), if_pos (by rw [ints_len]; omega), rd_ints, hP _ _ hS hv (fresh_at hf hi), Option.bind_some, impl_bit_f (by omega), Option.bind_some, mx_nat, or_nat (lt62 hn hS) (lt62 hn (bit_lt hv)), wrap_succ (by omega), e]
  refine ⟨t.length + 1, fun k hk P hP => ?_⟩
  unfold impl_greatest.f
  rw [ints_len]
  exact go t.length k 0 (by omega) (by omega) P hP
theorem beh_self {S v : Nat} : (beh n R S v).testBit v = false := by
  unfold beh
  rw [sd_bit, bit_self, Bool.not_true, Bool.and_false]
theorem bag_cnt (hV : V n R) {S v : Nat} (hS : S < 2 ^ n) (hv : v < n) : cnt (beh n R S v ||| 2 ^ v) = cost n R S v + 1 := by
  rw [cnt_or hV.le (beh_lt hV hS hv) hv, beh_self, if_neg (by decide)]
  rfl
theorem width_loop (hV : V n R) (ht : ∀ v ∈ t, v < n) (hl : t.length = n) : Ev (fun k => spec_WidthFor.l0 k (-1) (ints (bagL n R 0 t)) (t.length : Int) 0) ((mcost (cost n R) 0 t 0 : Nat) : Int) := by
  have hn := hV.le
  refine upto_ev (fun k i => spec_WidthFor.l0 k (wst i (mcost (cost n R) 0 (t.take i) 0)) (ints (bagL n R 0 t)) (t.length : Int) (i : Int)) t.length (fun _ => True) _ ?_ ?_ 0 (Nat.zero_le _) trivial
  · intro i hi _ ih
    have hv := ht _ (getD_mem hi)
    have hS : orr 0 (t.take i) < 2 ^ n := orr_lt _ 0 (Nat.two_pow_pos n) (fun v h => ht v (List.mem_of_mem_take h))
    have hbl := or_lt (beh_lt hV hS hv) (bit_lt hv)
    obtain ⟨K, h⟩ := count_spec_ev (lt62 hn hbl)
    refine Ev.late_step K (fun k hk => ?_) (ih trivial)
    have e := h k hk
    simp only at e
    simp only [spec_WidthFor.l0]
    rw [if_pos (by omega), if_pos (by omega), if_pos (by rw [ints_len, bagL_len]; omega), rd_ints, bagL_at n R t 0 i hi, e, Option.bind_some, bag_cnt hV hS hv, wrap_succ (by omega), wst_succ, take_snoc t hi, mcost_snoc]
    have hc : cost n R (orr 0 (t.take i)) (t.getD i 0) ≤ 8 := bl_len _
    rw [wrap_small (by omega) (by omega), show (((cost n R (orr 0 (t.take i)) (t.getD i 0) + 1 : Nat) : Int) - 1) = ((cost n R (orr 0 (t.take i)) (t.getD i 0) : Nat) : Int) by omega, wst_step (fun h0 => by subst h0; rfl)]
  · intro _
    have := hV.pos
    refine Ev.one fun k => ?_
    simp only [spec_WidthFor.l0]
    rw [if_neg (by omega), List.take_length]
    unfold wst
    rw [if_neg (by omega)]
end
theorem widthFor_both (s : Int) (l o : List Int) (ho : o.length ≤ 4000000) : ∃ r, Ev (fun k => impl_WidthFor.f k s l o) r ∧ Ev (fun k => spec_WidthFor.f k s l o) r := by
  obtain ⟨K, h⟩ := layout_impl s l o ho
  cases hb : layB s l o with
  | false =>
    rw [hb] at h
    obtain ⟨K1, h1⟩ := bags_spec_none ho hb
    refine ⟨-1, ⟨K, fun k hk => ?_⟩, ⟨K1 + 1, fun k hk => ?_⟩⟩
    · have e := h k hk
      simp only at e ⊢
      unfold impl_WidthFor.f
      rw [e, Option.bind_some, if_neg (by decide)]
    · obtain ⟨k, rfl⟩ : ∃ m, k = m + 1 := ⟨k - 1, by omega⟩
      have e := h1 (k + 1) (by omega)
      simp only at e ⊢
      unfold spec_WidthFor.f
      rw [e, Option.bind_some]
      simp only [spec_WidthFor.l0]
      rw [if_neg (by simp)]
  | true =>
    obtain ⟨n, R, t, hV, rfl, rfl, hg, rfl, hl, ht, hf⟩ := layB_cases hb
    rw [hb] at h
    obtain ⟨K1, h1⟩ := bags_spec hV ht hl hf hb
    obtain ⟨K2, h2⟩ := greatest_ev (c := cost n R) hV.le ht hl hf
    obtain ⟨K3, h3⟩ := behind_ev hV (n : Int)
    obtain ⟨K4, h4⟩ := width_loop hV ht hl
    refine ⟨((mcost (cost n R) 0 t 0 : Nat) : Int), ⟨K + K2 + K3, fun k hk => ?_⟩, ⟨K1 + K4, fun k hk => ?_⟩⟩
    · have e := h k (by omega)
      have e2 := h2 k (by omega) _ (h3 k (by omega))
      simp only at e ⊢
      unfold impl_WidthFor.f
      rw [e, Option.bind_some, if_pos rfl, e2, Option.bind_some]
    · have e := h1 k (by omega)
      have e2 := h4 k (by omega)
      simp only at e e2 ⊢
      unfold spec_WidthFor.f
      rw [e, Option.bind_some, ints_len, bagL_len, e2]
end Go.Proofs.Ytakgeblhdckccaa.P
