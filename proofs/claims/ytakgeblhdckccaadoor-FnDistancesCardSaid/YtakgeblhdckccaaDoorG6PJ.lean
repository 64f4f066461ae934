/- How a set grows inside another; the program's part of a set. -/
import Derived.Test.YtakgeblhdckccaaDoorGNJ
import Derived.Test.YtakgeblhdckccaaDoorQj1
namespace Go.Proofs.YtakgeblhdckccaaDoor.P
open Go.RowKit Go.Proofs.YtakgeblhdckccaaDoorW.PrintWords Go.Proofs.YtakgeblhdckccaaDoorW.PrintLast Go.Proofs.YtakgeblhdckccaaDoorW.PrintMore Go.Proofs.YtakgeblhdckccaaDoor.Q
set_option linter.unusedVariables false

/-! ### how many -/
theorem cnt_le {n S : Nat} (hS : S < 2 ^ n) : cnt S ≤ n := by
  have go : ∀ m, ((List.range m).filter S.testBit).length ≤ n := by
    intro m
    by_cases hm : m ≤ n
    · have := bl_upto_len S m
      omega
    · obtain ⟨d, rfl⟩ : ∃ d, m = n + d := ⟨m - n, by omega⟩
      clear hm
      induction d with
      | zero => exact bl_upto_len S n
      | succ d ih =>
        rw [show n + (d + 1) = n + d + 1 by omega, range_filter_succ, lt_iff_bits.1 hS _ (by omega), if_neg (by decide), List.append_nil]
        exact ih
  exact go 8
theorem cnt_pos {S v : Nat} (h8 : v < 8) (h : S.testBit v = true) : 1 ≤ cnt S := List.length_pos_of_mem (mem_bl h8 h)
/-! ### growing inside a set -/
/-- From v on, i steps of growing inside D. -/
def grow (R : Nat → Nat) (D v : Nat) : Nat → Nat
  | 0 => 2 ^ v
  | i + 1 => near R (grow R D v i) &&& D
theorem near_mono (R : Nat → Nat) {A B : Nat} (h : ∀ i, A.testBit i = true → B.testBit i = true) {i : Nat} (hi : (near R A).testBit i = true) : (near R B).testBit i = true := by
  rw [near_bit] at hi ⊢
  rw [Bool.or_eq_true, List.any_eq_true] at hi ⊢
  rcases hi with hi | ⟨j, hj, hji⟩
  · exact .inl (h i hi)
  · rw [Bool.and_eq_true] at hji
    exact .inr ⟨j, hj, by rw [h j hji.1, hji.2]; rfl⟩
section
variable {n : Nat} {R : Nat → Nat} {D v : Nat}
theorem grow_bits (hD : D.testBit v = true) (i : Nat) : (grow R D v i).testBit v = true ∧ ∀ j, (grow R D v i).testBit j = true → D.testBit j = true := by
  induction i with
  | zero =>
    refine ⟨bit_self v, fun j hj => ?_⟩
    rw [grow, bit_eq] at hj
    have : v = j := by simpa using hj
    rw [← this]; exact hD
  | succ i ih =>
    constructor
    · rw [grow, Nat.testBit_and, near_self R ih.1, hD]; rfl
    · intro j hj
      rw [grow, Nat.testBit_and, Bool.and_eq_true] at hj
      exact hj.2
theorem grow_lt (hD : D < 2 ^ n) (hv : v < n) (i : Nat) : grow R D v i < 2 ^ n := by
  cases i with
  | zero => exact bit_lt hv
  | succ i => rw [grow, Nat.and_comm]; exact and_lt _ hD
theorem grow_up (hD : D.testBit v = true) (i j : Nat) (h : (grow R D v i).testBit j = true) : (grow R D v (i + 1)).testBit j = true := by
  rw [grow, Nat.testBit_and, near_self R h, (grow_bits hD i).2 j h]; rfl
theorem grow_stays {m : Nat} (h : grow R D v (m + 1) = grow R D v m) (d : Nat) : grow R D v (m + d) = grow R D v m := by
  induction d with
  | zero => rfl
  | succ d ih =>
    rw [show m + (d + 1) = m + d + 1 by omega, grow, ih]
    exact h
theorem grow_ends (hn : n ≤ 8) (hDn : D < 2 ^ n) (hv : v < n) (hD : D.testBit v = true) : ∃ m, m < n ∧ grow R D v (m + 1) = grow R D v m ∧ ∀ i, i < m → grow R D v (i + 1) ≠ grow R D v i := by
  have go : ∀ d, (∃ m, m < d ∧ grow R D v (m + 1) = grow R D v m ∧ ∀ i, i < m → grow R D v (i + 1) ≠ grow R D v i) ∨ ((∀ i, i < d → grow R D v (i + 1) ≠ grow R D v i) ∧ d + 1 ≤ cnt (grow R D v d)) := by
    intro d
    induction d with
    | zero => exact .inr ⟨fun i hi => by omega, cnt_pos (show v < 8 by omega) (grow_bits hD 0).1⟩
    | succ d ih =>
      rcases ih with ⟨m, h1, h2, h3⟩ | ⟨h1, h2⟩
      · exact .inl ⟨m, by omega, h2, h3⟩
      · by_cases h : grow R D v (d + 1) = grow R D v d
        · exact .inl ⟨d, by omega, h, h1⟩
        · refine .inr ⟨fun i hi => ?_, ?_⟩
          · by_cases e : i = d
            · subst e; exact h
            · exact h1 i (by omega)
          · have := cnt_lt (A := grow R D v d) (B := grow R D v (d + 1)) (lt8 hn (grow_lt hDn hv _)) (fun i hi => grow_up hD d i hi) (fun e => h e.symm)
            omega
  rcases go n with ⟨m, h1, h2, h3⟩ | ⟨_, h⟩
  · exact ⟨m, h1, h2, h3⟩
  · have := cnt_le (grow_lt (R := R) hDn hv n)
    omega
/-- The part of D that v reaches. -/
def part (n : Nat) (R : Nat → Nat) (D v : Nat) : Nat := grow R D v n
theorem part_fix (hn : n ≤ 8) (hDn : D < 2 ^ n) (hv : v < n) (hD : D.testBit v = true) : near R (part n R D v) &&& D = part n R D v := by
  obtain ⟨m, hm, h, _⟩ := grow_ends (R := R) hn hDn hv hD
  have h1 := grow_stays h (n - m)
  rw [show m + (n - m) = n by omega] at h1
  unfold part
  rw [h1]
  exact h
end

/-! ### the program's part -/
theorem part_ev {n : Nat} {R : Nat → Nat} (hV : V n R) (s : Int) {D v : Nat} (hDn : D < 2 ^ n) (hv : v < n) (hD : D.testBit v = true) : Ev (fun k => impl_Graph_part.f k s (rows n R) (D : Int) (v : Int)) ((part n R D v : Nat) : Int) := by
  have hn := hV.le
  obtain ⟨m, hm, hme, hmin⟩ := grow_ends (R := R) hn hDn hv hD
  have e0 : part n R D v = grow R D v m := by
    have h1 := grow_stays hme (n - m)
    rwa [show m + (n - m) = n by omega] at h1
  have hstep : ∀ i, Ev (fun k => (impl_Graph_around.f k s (rows n R) ((grow R D v i : Nat) : Int)).bind fun t => some (Go.bits .and .i64 t (D : Int))) ((grow R D v (i + 1) : Nat) : Int) := by
    intro i
    obtain ⟨K, h⟩ := around_ev hV s (grow_lt (R := R) hDn hv i)
    refine ⟨K, fun k hk => ?_⟩
    have e := h k hk
    simp only at e ⊢
    rw [e, Option.bind_some, and_nat (lt62 hn (near_lt hV (grow_lt hDn hv i))) (lt62 hn hDn)]
    rfl
  have hL : Ev (fun k => impl_Graph_part.l0 k (D : Int) ((grow R D v 0 : Nat) : Int) s (rows n R)) ((part n R D v : Nat) : Int) := by
    refine upto_ev (fun k i => impl_Graph_part.l0 k (D : Int) ((grow R D v i : Nat) : Int) s (rows n R)) m (fun _ => True) _ ?_ ?_ 0 (Nat.zero_le _) trivial
    · intro i hi _ ih
      obtain ⟨K, h⟩ := around_ev hV s (grow_lt (R := R) hDn hv i)
      refine Ev.late_step K (fun k hk => ?_) (ih trivial)
      have e := h k hk
      simp only at e
      simp only [impl_Graph_part.l0]
      rw [e, Option.bind_some, and_nat (lt62 hn (near_lt hV (grow_lt hDn hv i))) (lt62 hn hDn)]
      change (if ((grow R D v (i + 1) : Nat) : Int) = _ then _ else _) = _
      rw [if_neg (fun hc => hmin i hi (by exact_mod_cast hc))]
      rfl
    · intro _
      obtain ⟨K, h⟩ := around_ev hV s (grow_lt (R := R) hDn hv m)
      refine Ev.late K (fun k hk => ?_)
      have e := h k hk
      simp only at e
      simp only [impl_Graph_part.l0]
      rw [e, Option.bind_some, and_nat (lt62 hn (near_lt hV (grow_lt hDn hv m))) (lt62 hn hDn)]
      change (if ((grow R D v (m + 1) : Nat) : Int) = _ then _ else _) = _
      rw [if_pos (by rw [hme]), e0]
  refine Ev.late_eq 0 (fun k _ => ?_) hL
  unfold impl_Graph_part.f
  rw [impl_bit_f (by omega), Option.bind_some]
  rfl
end Go.Proofs.YtakgeblhdckccaaDoor.P
