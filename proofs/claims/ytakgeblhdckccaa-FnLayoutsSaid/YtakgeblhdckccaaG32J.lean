/- The front of a set and its searchers, as the program counts them. -/
import Derived.Test.YtakgeblhdckccaaG5J
import Derived.Test.YtakgeblhdckccaaGCJ
import Derived.Test.YtakgeblhdckccaaGLJ
import Derived.Test.YtakgeblhdckccaaG10J
import Derived.Test.YtakgeblhdckccaaQj1
namespace Go.Proofs.Ytakgeblhdckccaa.P
open Go.RowKit Go.Proofs.YtakgeblhdckccaaW.PrintWords Go.Proofs.YtakgeblhdckccaaW.PrintLast Go.Proofs.YtakgeblhdckccaaW.PrintMore Go.Proofs.Ytakgeblhdckccaa.Q
set_option linter.unusedVariables false

/-- Has v a neighbor outside S? -/
def outer (R : Nat → Nat) (S a v : Nat) : Nat := if sd (R v) S = 0 then a else a ||| 2 ^ v
/-- The members of S that have a neighbor outside. -/
def front (R : Nat → Nat) (S : Nat) : Nat := (bl S).foldl (outer R S) 0
theorem outer_bit (R : Nat → Nat) (S : Nat) : ∀ (l : List Nat) (a i : Nat), (l.foldl (outer R S) a).testBit i = (a.testBit i || (decide (i ∈ l) && decide (sd (R i) S ≠ 0)))
  | [], a, i => by simp
  | v :: l, a, i => by
    rw [List.foldl_cons, outer_bit R S l]
    unfold outer
    by_cases h : sd (R v) S = 0
    · rw [if_pos h]
      by_cases e : i = v
      · subst e
        rw [decide_eq_false (fun h' : sd (R i) S ≠ 0 => h' h), Bool.and_false, Bool.and_false]
      · simp [e]
    · rw [if_neg h, Nat.testBit_or, bit_eq]
      by_cases e : i = v
      · subst e
        simp [h]
      · simp [e, show ¬ v = i from fun h => e h.symm]
section
variable {n : Nat} {R : Nat → Nat} {S : Nat}
theorem front_bit (hn : n ≤ 8) (hS : S < 2 ^ n) (i : Nat) : (front R S).testBit i = (S.testBit i && decide (sd (R i) S ≠ 0)) := by
  unfold front
  rw [outer_bit, Nat.zero_testBit, Bool.false_or]
  congr 1
  rw [Bool.eq_iff_iff, decide_eq_true_eq]
  constructor
  · exact fun h => (bl_mem h).2
  · intro h
    refine mem_bl ?_ h
    apply Classical.byContradiction
    intro hc
    rw [lt_iff_bits.1 hS i (by omega)] at h
    cases h
theorem front_sub (hn : n ≤ 8) (hS : S < 2 ^ n) {i : Nat} (h : (front R S).testBit i = true) : S.testBit i = true := by
  rw [front_bit hn hS, Bool.and_eq_true] at h
  exact h.1
theorem front_lt (hn : n ≤ 8) (hS : S < 2 ^ n) : front R S < 2 ^ n := by
  rw [lt_iff_bits]
  intro i hi
  rw [front_bit hn hS, lt_iff_bits.1 hS i hi, Bool.false_and]
theorem cnt_sub {A B : Nat} (hB : B < 2 ^ 8) (h : ∀ i, A.testBit i = true → B.testBit i = true) : cnt A ≤ cnt B := by
  by_cases e : A = B
  · rw [e]; exact Nat.le_refl _
  · exact Nat.le_of_lt (cnt_lt hB h e)
theorem bl_lt' (hS : S < 2 ^ n) {v : Nat} (h : v ∈ bl S) : v < n := by
  have h := (bl_mem h).2
  apply Classical.byContradiction
  intro hc
  rw [lt_iff_bits.1 hS v (by omega)] at h
  cases h
theorem front_ev (hV : V n R) (s : Int) (hS : S < 2 ^ n) : Ev (fun k => impl_Graph_front.f k s (rows n R) (S : Int)) ((front R S : Nat) : Int) := by
  have hn := hV.le
  have hlen := bl_len S
  have hL : Ev (fun k => impl_Graph_front.l0 k (S : Int) 0 (ints (bl S)) ((bl S).length : Int) 0 s (rows n R)) ((front R S : Nat) : Int) := by
    refine up_ev' (fun k i x => impl_Graph_front.l0 k (S : Int) x (ints (bl S)) ((bl S).length : Int) (i : Int) s (rows n R)) (bl S).length (fun i x => ∃ a : Nat, x = (a : Int) ∧ a < 2 ^ n ∧ ((bl S).drop i).foldl (outer R S) a = front R S) _ ?_ ?_ 0 0 (Nat.zero_le _) ⟨0, rfl, Nat.two_pow_pos n, rfl⟩
    · rintro i _ hi ⟨a, rfl, ha, hf⟩ ih
      rw [List.drop_eq_getElem_cons hi, List.foldl_cons] at hf
      have hv := bl_lt' hS (List.getElem_mem hi)
      have hr : rd (ints (bl S)) (i : Int) = (((bl S)[i] : Nat) : Int) := by rw [rd_ints]; simp [List.getD_eq_getElem?_getD, hi]
      by_cases h : sd (R (bl S)[i]) S = 0
      · rw [outer, if_pos h] at hf
        refine Ev.late_step 0 (fun k _ => ?_) (ih _ ⟨a, rfl, ha, hf⟩)
        simp only [impl_Graph_front.l0]
        rw [if_pos (by omega), if_pos (by omega), if_pos (by rw [ints_len]; omega), hr, if_pos (by omega), if_pos (by rw [rows_len]; omega), rd_rows hV, andNot_nat (lt62 hn (hV.lt' _)) (lt62 hn hS), if_pos (by omega), wrap_succ (by omega)]
      · rw [outer, if_neg h] at hf
        refine Ev.late_step 0 (fun k _ => ?_) (ih _ ⟨a ||| 2 ^ (bl S)[i], rfl, or_lt ha (bit_lt hv), hf⟩)
        simp only [impl_Graph_front.l0]
        rw [if_pos (by omega), if_pos (by omega), if_pos (by rw [ints_len]; omega), hr, if_pos (by omega), if_pos (by rw [rows_len]; omega), rd_rows hV, andNot_nat (lt62 hn (hV.lt' _)) (lt62 hn hS), if_neg (by omega), impl_bit_f (by omega), Option.bind_some, or_nat (lt62 hn ha) (lt62 hn (bit_lt hv)), wrap_succ (by omega)]
    · rintro _ ⟨a, rfl, ha, hf⟩
      rw [List.drop_length] at hf
      refine Ev.one fun k => ?_
      simp only [impl_Graph_front.l0]
      rw [if_neg (by omega), ← hf]
      rfl
  obtain ⟨K, h⟩ := listSet_imp (lt_256 hn hS)
  obtain ⟨K2, h2⟩ := hL
  refine ⟨K + K2, fun k hk => ?_⟩
  have e := h k (by omega)
  have e2 := h2 k (by omega)
  simp only at e e2 ⊢
  unfold impl_Graph_front.f
  rw [e, Option.bind_some, ints_len, e2]
/-- How many searchers are at a vertex that follows S. -/
def sc (R : Nat → Nat) (S _v : Nat) : Nat := cnt (front R S) + 1
theorem sc_le (hV : V n R) {v : Nat} (hS : S < 2 ^ n) (hv : v < n) (hb : S.testBit v = false) : sc R S v ≤ n := by
  have hn := hV.le
  have h1 := cnt_sub (A := front R S) (lt8 hn hS) (fun i => front_sub hn hS)
  have h2 := cnt_or hn hS hv
  rw [hb, if_neg (by decide)] at h2
  have h3 := cnt_sub (A := S ||| 2 ^ v) (B := 2 ^ n - 1) (lt8 hn (all_lt n)) (fun i hi => by
    rw [all_bit]
    apply decide_eq_true
    apply Classical.byContradiction
    intro hc
    rw [lt_iff_bits.1 (or_bit_lt hS hv) i (by omega)] at hi
    cases hi)
  rw [cnt_full_all n (by omega)] at h3
  unfold sc
  omega
theorem sc_low (hV : V n R) : Low n (sc R) := fun S v hS hv hb => Nat.le_trans (sc_le hV hS hv hb) hV.le
theorem ev_all {p : Nat → Nat → Prop} : ∀ N : Nat, (∀ S, S < N → ∃ K, ∀ k, K ≤ k → p k S) → ∃ K, ∀ k, K ≤ k → ∀ S, S < N → p k S
  | 0, _ => ⟨0, fun k _ S hS => by omega⟩
  | N + 1, h => by
    obtain ⟨K, hK⟩ := ev_all N (fun S hS => h S (by omega))
    obtain ⟨K2, hK2⟩ := h N (by omega)
    refine ⟨K + K2, fun k hk S hS => ?_⟩
    by_cases e : S = N
    · rw [e]; exact hK2 k (by omega)
    · exact hK k (by omega) S (by omega)
theorem searchers_ev (hV : V n R) (s : Int) : EvP (fun k => Pays n (sc R) (impl_Graph_searchers.f k s (rows n R))) := by
  have hn := hV.le
  obtain ⟨K, hK⟩ := ev_all (p := fun k S => ∀ v : Int, impl_Graph_searchers.f k s (rows n R) (S : Int) v = some ((sc R S 0 : Nat) : Int)) (2 ^ n) (fun S hS => by
    obtain ⟨K, h⟩ := front_ev hV s hS
    refine ⟨K, fun k hk v => ?_⟩
    have e := h k hk
    have hc : cnt (front R S) ≤ 8 := bl_len _
    simp only at e ⊢
    unfold impl_Graph_searchers.f
    rw [e, Option.bind_some, count_impl (lt_256 hn (front_lt hn hS)), Option.bind_some, wrap_small (by omega) (by omega)]
    unfold sc
    congr 1
    omega)
  exact ⟨K, fun k hk S v hS hv _ => hK k hk S hS v⟩
end
end Go.Proofs.Ytakgeblhdckccaa.P
