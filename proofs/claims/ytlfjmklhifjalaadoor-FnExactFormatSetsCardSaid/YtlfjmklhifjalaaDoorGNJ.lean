/- The members of a set, its neighbors, and how many it has; the program and the reference answer alike. -/
import Derived.Test.YtlfjmklhifjalaaDoorGIJ
import Derived.Test.YtlfjmklhifjalaaDoorQj1
namespace Go.Proofs.YtlfjmklhifjalaaDoor.P
open Go.RowKit Go.Proofs.YtlfjmklhifjalaaDoorW.PrintWords Go.Proofs.YtlfjmklhifjalaaDoorW.PrintLast Go.Proofs.YtlfjmklhifjalaaDoorW.PrintMore Go.Proofs.YtlfjmklhifjalaaDoor.Q
set_option linter.unusedVariables false

theorem list_spec_ev {S : Nat} (hS : S < 2 ^ 62) : Ev (fun k => spec_l02List.f k (S : Int)) (ints (bl S)) := by
  refine up_ev' (σ := List Int) (fun k i x => spec_l02List.l0 k (S : Int) x (i : Int)) 8 (fun i x => x = ints ((List.range i).filter S.testBit)) _ ?_ ?_ 0 [] (by omega) (by simp [ints])
  · intro i x hi hx ih
    subst hx
    have hlen : (ints ((List.range i).filter S.testBit)).length < 17592186044416 := by
      have := bl_upto_len S i
      rw [ints_len]; omega
    by_cases hb : S.testBit i = true
    · refine Ev.late_step 0 (fun k _ => ?_) (ih (ints ((List.range i).filter S.testBit) ++ [(i : Int)]) (by rw [range_filter_succ, if_pos hb, ints_app]; rfl))
      simp only [spec_l02List.l0]
      rw [if_pos (by omega), spec_has_f hS (by omega), Option.bind_some, if_pos hb, if_pos hlen, wrap_succ (by omega)]
    · refine Ev.late_step 0 (fun k _ => ?_) (ih (ints ((List.range i).filter S.testBit)) (by rw [range_filter_succ, if_neg hb, List.append_nil]))
      simp only [spec_l02List.l0]
      rw [if_pos (by omega), spec_has_f hS (by omega), Option.bind_some, if_neg hb, wrap_succ (by omega)]
  · intro x hx
    subst hx
    exact Ev.one fun k => by simp only [spec_l02List.l0]; rw [if_neg (by omega)]; rfl
/-! ### the neighbors of a set -/
/-- The set with all of its neighbors. -/
def near (R : Nat → Nat) (S : Nat) : Nat := (List.range 8).foldl (fun a j => if S.testBit j then a ||| R j else a) S
theorem near_bit_aux (R : Nat → Nat) (S : Nat) (l : List Nat) (a i : Nat) : (l.foldl (fun a j => if S.testBit j then a ||| R j else a) a).testBit i = (a.testBit i || l.any (fun j => S.testBit j && (R j).testBit i)) := by
  induction l generalizing a with
  | nil => simp
  | cons x l ih =>
    rw [List.foldl_cons, ih, List.any_cons]
    by_cases h : S.testBit x = true
    · rw [if_pos h, Nat.testBit_or, h, Bool.true_and, Bool.or_assoc]
    · rw [if_neg h, show S.testBit x = false by simpa using h, Bool.false_and, Bool.false_or]
theorem near_bit (R : Nat → Nat) (S i : Nat) : (near R S).testBit i = (S.testBit i || (List.range 8).any (fun j => S.testBit j && (R j).testBit i)) := near_bit_aux R S _ S i
theorem near_self (R : Nat → Nat) {S i : Nat} (h : S.testBit i = true) : (near R S).testBit i = true := by rw [near_bit, h, Bool.true_or]
theorem near_lt {n : Nat} {R : Nat → Nat} (hV : V n R) {S : Nat} (hS : S < 2 ^ n) : near R S < 2 ^ n := by
  rw [lt_iff_bits]
  intro i hi
  rw [near_bit, lt_iff_bits.1 hS i hi, Bool.false_or, List.any_eq_false]
  intro j _
  rw [lt_iff_bits.1 (hV.lt' j) i hi]
  simp
/-- A part of the fold: what the first i rows give. -/
def nearTo (R : Nat → Nat) (S i : Nat) : Nat := (List.range i).foldl (fun a j => if S.testBit j then a ||| R j else a) S
theorem nearTo_succ (R : Nat → Nat) (S i : Nat) : nearTo R S (i + 1) = if S.testBit i then nearTo R S i ||| R i else nearTo R S i := by
  unfold nearTo
  rw [List.range_succ, List.foldl_append]
  rfl
theorem nearTo_eight {n : Nat} (R : Nat → Nat) {S : Nat} (hn : n ≤ 8) (hS : S < 2 ^ n) : nearTo R S n = near R S := by
  have go : ∀ d, n + d ≤ 8 → nearTo R S (n + d) = nearTo R S n := by
    intro d
    induction d with
    | zero => intro _; rfl
    | succ d ih =>
      intro h
      rw [show n + (d + 1) = n + d + 1 by omega, nearTo_succ, lt_iff_bits.1 hS _ (by omega), if_neg (by decide)]
      exact ih (by omega)
  have := go (8 - n) (by omega)
  rw [show n + (8 - n) = 8 by omega] at this
  rw [← this]
  rfl
theorem nearTo_lt {n : Nat} {R : Nat → Nat} (hV : V n R) {S : Nat} (hS : S < 2 ^ n) (i : Nat) : nearTo R S i < 2 ^ n := by
  induction i with
  | zero => exact hS
  | succ i ih =>
    rw [nearTo_succ]
    split
    · exact or_lt ih (hV.lt' i)
    · exact ih
theorem around_ev {n : Nat} {R : Nat → Nat} (hV : V n R) (s : Int) {S : Nat} (hS : S < 2 ^ n) : Ev (fun k => impl_Graph_around.f k s (rows n R) (S : Int)) ((near R S : Nat) : Int) := by
  have hn := hV.le
  refine up_ev' (σ := Nat) (fun k i x => impl_Graph_around.l0 k (S : Int) (x : Int) (rows n R) ((rows n R).length : Int) (i : Int)) n (fun i x => x = nearTo R S i) _ ?_ ?_ 0 S (Nat.zero_le _) rfl
  · intro i x hi hx ih
    subst hx
    by_cases hb : S.testBit i = true
    · refine Ev.late_step 0 (fun k _ => ?_) (ih (nearTo R S (i + 1)) rfl)
      simp only [impl_Graph_around.l0]
      rw [rows_len, if_pos (by omega), if_pos (by omega), if_pos (by omega), impl_has_f (lt62 hn hS) (by omega), Option.bind_some, if_pos hb, rd_rows hV, or_nat (lt62 hn (nearTo_lt hV hS i)) (lt62 hn (hV.lt' i)), wrap_succ (by omega), nearTo_succ, if_pos hb]
    · refine Ev.late_step 0 (fun k _ => ?_) (ih (nearTo R S (i + 1)) rfl)
      simp only [impl_Graph_around.l0]
      rw [rows_len, if_pos (by omega), if_pos (by omega), if_pos (by omega), impl_has_f (lt62 hn hS) (by omega), Option.bind_some, if_neg hb, wrap_succ (by omega), nearTo_succ, if_neg hb]
  · intro x hx
    subst hx
    rw [nearTo_eight R hn hS]
    exact Ev.one fun k => by simp only [impl_Graph_around.l0]; rw [rows_len, if_neg (by omega)]
theorem fold_filter (R : Nat → Nat) (S : Nat) (l : List Nat) (a : Nat) : (l.filter S.testBit).foldl (fun a j => a ||| R j) a = l.foldl (fun a j => if S.testBit j then a ||| R j else a) a := by
  rw [List.foldl_filter]
theorem near_spec_ev {n : Nat} {R : Nat → Nat} (hV : V n R) (s : Int) {S : Nat} (hS : S < 2 ^ n) : Ev (fun k => spec_l02Near.f k s (rows n R) (S : Int)) ((near R S : Nat) : Int) := by
  have hn := hV.le
  have hlen := bl_len S
  have hL : Ev (fun k => spec_l02Near.l0 k (S : Int) (ints (bl S)) ((ints (bl S)).length : Int) 0 s (rows n R)) ((near R S : Nat) : Int) := by
    refine up_ev' (σ := Nat) (fun k i x => spec_l02Near.l0 k (x : Int) (ints (bl S)) ((ints (bl S)).length : Int) (i : Int) s (rows n R)) (bl S).length (fun i x => x < 2 ^ n ∧ near R S = ((bl S).drop i).foldl (fun a j => a ||| R j) x) _ ?_ ?_ 0 S (Nat.zero_le _) ⟨hS, by rw [List.drop_zero]; unfold bl near; rw [fold_filter]⟩
    · intro i x hi ⟨hx, hx2⟩ ih
      rw [List.drop_eq_getElem_cons hi, List.foldl_cons] at hx2
      have hv := bl_mem (List.getElem_mem hi)
      generalize hve : (bl S)[i] = v at hv hx2
      have e : rd (ints (bl S)) (i : Int) = (v : Int) := by rw [rd_nat]; simp [ints, List.getD_eq_getElem?_getD, hi, hve]
      have hvn : v < n := by
        by_cases h : v < n
        · exact h
        · have := lt_iff_bits.1 hS v (by omega); rw [hv.2] at this; cases this
      refine Ev.late_step 0 (fun k _ => ?_) (ih (x ||| R v) ⟨or_lt hx (hV.lt' v), hx2⟩)
      simp only [spec_l02Near.l0]
      rw [ints_len, e, rows_len, if_pos (by omega), if_pos (by omega), if_pos (by omega), if_pos (by omega), if_pos (by omega), rd_rows hV, or_nat (lt62 hn hx) (lt62 hn (hV.lt' v)), wrap_succ (by omega)]
    · intro x ⟨hx, hx2⟩
      rw [List.drop_length] at hx2
      rw [hx2]
      exact Ev.one fun k => by simp only [spec_l02Near.l0]; rw [ints_len, if_neg (by omega)]; rfl
  obtain ⟨K, h⟩ := hL
  obtain ⟨K2, h2⟩ := list_spec_ev (lt62 hn hS)
  refine ⟨K + K2, fun k hk => ?_⟩
  have e := h k (by omega)
  have e2 := h2 k (by omega)
  simp only at e e2 ⊢
  unfold spec_l02Near.f
  rw [e2, Option.bind_some, e]

/-- How many members a set has. -/
def cnt (S : Nat) : Nat := (bl S).length
theorem cnt_lt {A B : Nat} (hB : B < 2 ^ 8) (hs : ∀ i, A.testBit i = true → B.testBit i = true) (hne : A ≠ B) : cnt A < cnt B := by
  have hA : A < 2 ^ 8 := by
    rw [lt_iff_bits]
    intro i hi
    cases h : A.testBit i with
    | false => rfl
    | true => rw [← hs i h, lt_iff_bits.1 hB i hi]
  obtain ⟨i, hi⟩ : ∃ i, A.testBit i ≠ B.testBit i := by
    apply Classical.byContradiction
    intro hc
    exact hne (set_ext fun i => Classical.byContradiction fun h => hc ⟨i, h⟩)
  have hBi : B.testBit i = true := by
    cases h : B.testBit i with
    | true => rfl
    | false =>
      cases h2 : A.testBit i with
      | false => rw [h, h2] at hi; exact absurd rfl hi
      | true => rw [← hs i h2, h]
  have hAi : A.testBit i = false := by rw [hBi] at hi; simpa using hi
  have hi8 : i < 8 := by
    apply Classical.byContradiction
    intro hc
    rw [lt_iff_bits.1 hB i (by omega)] at hBi
    cases hBi
  have go : ∀ l : List Nat, (l.filter A.testBit).length ≤ (l.filter B.testBit).length ∧ (i ∈ l → (l.filter A.testBit).length < (l.filter B.testBit).length) := by
    intro l
    induction l with
    | nil => simp
    | cons x l ih =>
      by_cases hx : i = x
      · subst hx
        rw [List.filter_cons_of_neg (by simp [hAi]), List.filter_cons_of_pos hBi, List.length_cons]
        exact ⟨by omega, fun _ => by omega⟩
      · by_cases h1 : A.testBit x = true
        · rw [List.filter_cons_of_pos h1, List.filter_cons_of_pos (hs x h1), List.length_cons, List.length_cons]
          refine ⟨by omega, fun h => ?_⟩
          rcases List.mem_cons.1 h with h | h
          · exact absurd h hx
          · have := ih.2 h; omega
        · rw [List.filter_cons_of_neg h1]
          by_cases h2 : B.testBit x = true
          · rw [List.filter_cons_of_pos h2, List.length_cons]
            refine ⟨by omega, fun h => by omega⟩
          · rw [List.filter_cons_of_neg h2]
            refine ⟨ih.1, fun h => ?_⟩
            rcases List.mem_cons.1 h with h | h
            · exact absurd h hx
            · exact ih.2 h
  exact (go (List.range 8)).2 (List.mem_range.2 hi8)
end Go.Proofs.YtlfjmklhifjalaaDoor.P
